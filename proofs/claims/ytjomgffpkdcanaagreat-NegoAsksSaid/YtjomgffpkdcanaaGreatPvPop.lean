/- Part of the proof: the layer of pure values, or walks through functions (PvPop). -/
import Derived.Test.YtjomgffpkdcanaaGreatPvGrow
set_option linter.all false
namespace Pv
open Go Go.RowKit
variable {X : Ctx} {G : Ghost} {ph : PH} {w : World}

/-! ### All operations but calls -/
def placeP (P : Program) (t : TypeId) : Option (List (Nat × Nat) ⊕ Nat) :=
  match P.underlying t with
  | some (.struct _) => (placesP P t).map .inl
  | some (.array _ e) => (szP P e).map .inr
  | _ => none

def placeF : List (Nat × Nat) ⊕ Nat → Nat → Option (Nat × Nat)
  | .inl pl => (pl[·]?)
  | .inr sz => fun i => some (i * sz, sz)

def buildP (P : Program) (t : TypeId) (parts : List (Nat × PV)) : Option PV :=
  match zeroP P t, placeP P t with
  | some (.agg zs), some pl => if parts.all (fun x => x.2.cells.all cellOk) then (fillP (placeF pl) zs parts).map .agg else none
  | _, _ => none

def buildSliceP (P : Program) (t : TypeId) (len : Nat) (parts : List (Nat × PV)) (ph : PH) : Option (PV × PH) :=
  match kSl P t with
  | none => none
  | some e => match szP P e, zeroP P e with
    | some sz, some z => if z.cells.length = sz ∧ 0 < sz ∧ len * sz ≤ 2 ^ 24 ∧ parts.all (fun x => x.2.cells.all cellOk) = true then
        (fillP (fun i => some (i * sz, sz)) (reps len z.cells) parts).map fun cells => (.sl ph.n 0 sz len (some len), ph.push cells)
      else none
    | _, _ => none

def makeSliceP (P : Program) (t : TypeId) (l c : PV) (ph : PH) : Option (PV × PH) :=
  match kSl P t, l, c with
  | some e, .int _ l, .int _ c => match szP P e, byP P e, zeroP P e with
    | some sz, some b, some z => if z.cells.length = sz ∧ 0 < sz ∧ 0 ≤ l ∧ l ≤ c ∧ b * c.toNat ≤ 2 ^ 48 ∧ c < 2 ^ 62 then
        some (.sl ph.n 0 sz l.toNat (some c.toNat), ph.push (reps c.toNat z.cells)) else none
    | _, _, _ => none
  | _, _, _ => none

def loadOp (P : Program) (t : TypeId) (a : PV) (ph : PH) : Option PV :=
  match a with
  | .ptr p off => match ph.get p with
    | some cells => loadP P t cells off
    | none => none
  | .fptr cells => loadP P t cells 0
  | _ => none

def storeOp (P : Program) (t : TypeId) (a x : PV) (ph : PH) : Option PH :=
  match a with
  | .ptr p off => match ph.get p, szP P t with
    | some cells, some n => if x.cells.length = n ∧ x.cells.all cellOk = true ∧ off + n ≤ cells.length then some (ph.put p (setL cells off x.cells)) else none
    | _, _ => none
  | _ => none

def fieldAddrOp (P : Program) (t : TypeId) (a : PV) (f : Nat) : Option PV :=
  match fldP P t f, a with
  | some (o, _), .ptr p off => some (.ptr p (off + o))
  | some (o, _), .fptr cells => some (.fptr (cells.drop o))
  | _, _ => none

def fieldOp (P : Program) (t : TypeId) (a : PV) (f : Nat) : Option PV :=
  match fldP P t f, a with
  | some (o, ft), .agg cells => loadP P ft cells o
  | _, _ => none

def indexAddrOp (P : Program) (t : TypeId) (a i : PV) : Option PV :=
  match i with
  | .int _ i => match P.underlying t, a with
    | some (.slice e), .sl p off esz len _ => if szP P e = some esz ∧ 0 ≤ i ∧ i < len then some (.ptr p (off + i.toNat * esz)) else none
    | some (.slice e), .fsl esz len cells => if szP P e = some esz ∧ 0 ≤ i ∧ i < len then some (.fptr (cells.drop (i.toNat * esz))) else none
    | some (.array n e), .ptr p off => match szP P e with
      | some sz => if 0 ≤ i ∧ i < n then some (.ptr p (off + i.toNat * sz)) else none
      | none => none
    | some (.array n e), .fptr cells => match szP P e with
      | some sz => if 0 ≤ i ∧ i < n then some (.fptr (cells.drop (i.toNat * sz))) else none
      | none => none
    | _, _ => none
  | _ => none

def indexOp (P : Program) (t : TypeId) (a i : PV) : Option PV :=
  match i with
  | .int _ i => match P.underlying t, a with
    | some (.array n e), .agg cells => match szP P e with
      | some sz => if 0 ≤ i ∧ i < n then loadP P e cells (i.toNat * sz) else none
      | none => none
    | some .string, .str s => if 0 ≤ i then (s[i.toNat]?).map fun c => .int .u8 c.toNat else none
    | _, _ => none
  | _ => none

def isZero : Option PV → Bool
  | none => true
  | some (.int _ n) => n == 0
  | _ => false

def sliceOp (P : Program) (t : TypeId) (x : PV) (lo hi mx : Option PV) (ph : PH) : Option PV :=
  match P.underlying t, x with
  | some .string, .str s => match mx with
    | none => (bndsP s.length s.length lo hi none).map fun r => .str ((s.drop r.1).take (r.2.1 - r.1))
    | some _ => none
  | some (.slice e), .sl p off esz len cap => if szP P e = some esz then
      (bndsP len (capw len cap) lo hi mx).map fun r => .sl p (off + r.1 * esz) esz (r.2.1 - r.1) (capCut r.2.2 r.1 cap) else none
  | some (.slice e), .fsl esz len cells => if szP P e = some esz then
      match mx with
      | none => (bndsP len len lo hi none).map fun r => .fsl esz (r.2.1 - r.1) (seg cells (r.1 * esz) ((r.2.1 - r.1) * esz))
      | some (.int _ 0) => match hi with
        | some (.int _ 0) => if isZero lo then some .zsl else none
        | _ => none
      | some m => (bndsP len len lo hi (some m)).map fun r => .fsl esz (r.2.1 - r.1) (seg cells (r.1 * esz) ((r.2.1 - r.1) * esz))
    else none
  | some (.slice e), .nilsl => match szP P e with
    | some _ => (bndsP 0 0 lo hi mx).map fun _ => .nilsl
    | none => none
  | some (.array n e), .ptr p off => match szP P e, ph.get p with
    | some esz, some cells => if off + n * esz ≤ cells.length then (bndsP n n lo hi mx).map fun r => .sl p (off + r.1 * esz) esz (r.2.1 - r.1) (some (r.2.2.getD n - r.1)) else none
    | _, _ => none
  | some (.array n e), .fptr cells => match szP P e, mx with
    | some esz, none => if n * esz ≤ cells.length then (bndsP n n lo hi none).map fun r => .fsl esz (r.2.1 - r.1) (seg cells (r.1 * esz) ((r.2.1 - r.1) * esz)) else none
    | _, _ => none
  | _, _ => none

def arrayAtOp (P : Program) (t : TypeId) (x : PV) : Option PV :=
  match kArr P t, x with
  | some (n, _), .sl p off _ len _ => if n ≤ len ∧ 0 < n then some (.ptr p off) else none
  | some (n, _), .fsl _ len cells => if n ≤ len ∧ 0 < n then some (.fptr cells) else none
  | _, _ => none

/-- What an append or a copy takes over: how many, and their cells. -/
def srcP (ph : PH) (sz : Nat) : PV → Option (Nat × List PV)
  | .sl p off sz' len _ => match ph.get p with
    | some cells => if sz' = sz ∧ off + len * sz ≤ cells.length ∧ (seg cells off (len * sz)).all cellOk = true then some (len, seg cells off (len * sz)) else none
    | none => none
  | .fsl sz' len cells => if sz' = sz ∧ cells.length = len * sz ∧ cells.all cellOk = true then some (len, cells) else none
  | .str s => if sz = 1 then some (s.length, bytesPV s) else none
  | .nilsl => some (0, [])
  | .zsl => some (0, [])
  | _ => none

def appTy (P : Program) (t : TypeId) : Bool := match P.underlying t with | some (.slice _) => true | some .string => true | _ => false

def appendP (P : Program) (sT xT : TypeId) (s x : PV) (ph : PH) : Option (PV × PH) :=
  match kSl P sT with
  | none => none
  | some e => match szP P e, byP P e, zeroP P e with
    | some sz, some b, some z => if z.cells.length = sz ∧ b ≠ 0 ∧ appTy P xT = true then
        match srcP ph sz x with
        | none => none
        | some (n, new) =>
          match s with
          | .nilsl => if n = 0 then some (.nilsl, ph) else if n * b ≤ 2 ^ 47 then some (.sl ph.n 0 sz n none, ph.push new) else none
          | .zsl => if n = 0 then some (.zsl, ph) else if n * b ≤ 2 ^ 47 then some (.sl ph.n 0 sz n none, ph.push new) else none
          | .sl p off sz' len none => match ph.get p with
            | some cells => if sz' = sz ∧ off + len * sz = cells.length ∧ (len + n) * b ≤ 2 ^ 47 ∧ cells.all cellOk = true then some (.sl ph.n 0 sz (len + n) none, (ph.kill p).push (cells.drop off ++ new)) else none
            | none => none
          | .sl p off sz' len (some c) => match ph.get p with
            | some cells => if sz' = sz then
                if len + n ≤ c then (if 0 < c ∧ off + (len + n) * sz ≤ cells.length then some (.sl p off sz (len + n) (some c), ph.put p (setL cells (off + len * sz) new)) else none)
                else (if off + len * sz ≤ cells.length ∧ (len + n) * b ≤ 2 ^ 47 ∧ cells.all cellOk = true then some (.sl ph.n 0 sz (len + n) none, ph.push (seg cells off (len * sz) ++ new)) else none)
              else none
            | none => none
          | _ => none
      else none
    | _, _, _ => none

/-- Has it a pointer to itself for its first field? (strings.Builder has.) Such a variable's block is told with its type. -/
def selfTy (P : Program) (t : TypeId) : Bool :=
  match P.underlying t with
  | some (.struct fs) => match fs[0]? with
    | some f => match P.underlying f.type with
      | some (.pointer u) => u == t
      | _ => false
    | none => false
  | _ => false

/-- append of a string's bytes: a row of one's own stays told with its type. -/
def appendS (P : Program) (sT xT : TypeId) (s x : PV) (ph : PH) : Option (PV × PH) :=
  match kSl P sT, s with
  | some e, .nilsl => match appendP P sT xT .nilsl x ph with
    | some (.sl q o z n c, ph') => some (.sl q o z n c, ph'.setTy ph.n e)
    | r => r
  | some e, .sl p 0 z n none => if ph.ty p = some e then (appendP P sT xT (.sl p 0 z n none) x ph).map fun r => (r.1, r.2.setTy ph.n e) else appendP P sT xT (.sl p 0 z n none) x ph
  | _, s => appendP P sT xT s x ph

def appendT (P : Program) (sT xT : TypeId) (s x : PV) (ph : PH) : Option (PV × PH) :=
  match P.underlying xT with
  | some .string => appendS P sT xT s x ph
  | _ => appendP P sT xT s x ph

/-- append onto a row that grows. -/
def appendG (P : Program) (sT xT : TypeId) (s x : PV) (ph : PH) : Option (PV × PH) :=
  match s with
  | .gsl p sz len cells => match kSl P sT, ph.gro p with
    | some e, some (sz', len', e') => match byP P e, zeroP P e, srcP ph sz x with
      | some b, some z, some (n, new) => if e' = e ∧ sz' = sz ∧ len' = len ∧ szP P e = some sz ∧ z.cells.length = sz ∧ b ≠ 0 ∧ appTy P xT = true ∧ (len + n) * b ≤ 2 ^ 47 then some (.gsl p sz (len + n) (cells ++ new), ph.putG p sz (len + n) e) else none
      | _, _, _ => none
    | _, _ => none
  | s => appendT P sT xT s x ph

/-- The address of a row's first element. -/
def sliceDataP : PV → Option PV
  | .gsl p sz (n + 1) cells => some (.gptr p sz (n + 1) cells)
  | .gsl _ _ 0 _ => some .nilptr
  | .sl p off _ (_ + 1) _ => some (.ptr p off)
  | .nilsl => some .nilptr
  | _ => none

def bytesX : List PV → Option (List UInt8)
  | [] => some []
  | .int .u8 n :: r => if 0 ≤ n ∧ n < 256 then (bytesX r).map (UInt8.ofNat n.toNat :: ·) else none
  | _ :: _ => none

theorem bytesX_some : ∀ {cells : List PV} {s : List UInt8}, bytesX cells = some s → cells = bytesPV s
  | [], s, h => by cases h; rfl
  | c :: r, s, h => by
    unfold bytesX at h
    split at h
    · rename_i heq; cases heq
    · rename_i n r' heq
      cases heq
      split at h
      · rename_i hn
        simp only [Option.map_eq_some_iff] at h
        obtain ⟨t, ht, rfl⟩ := h
        have := bytesX_some ht
        subst this
        have e : (((UInt8.ofNat n.toNat).toNat : Nat) : Int) = n := by rw [UInt8.toNat_ofNat']; simp only [Nat.reducePow]; omega
        simp only [bytesPV, List.map_cons, e]
      · cases h
    · cases h

theorem bytesX_bytesPV (s : List UInt8) : bytesX (bytesPV s) = some s := by
  induction s with
  | nil => rfl
  | cons b s ih =>
    show bytesX (.int .u8 b.toNat :: bytesPV s) = _
    have : b.toNat < 256 := b.toNat_lt
    simp only [bytesX, ih]
    rw [if_pos (by omega)]; simp

/-- A text out of a row's bytes: they are frozen: the row is spoken of no more. -/
def unsafeStringP (P : Program) (pt : TypeId) (a n : PV) (ph : PH) : Option (PV × PH) :=
  match a, n with
  | .nilptr, .int .i64 n => if n = 0 then some (.str [], ph) else none
  | .ptr p 0, .int .i64 n => match P.underlying pt, ph.ty p, ph.get p with
    | some (.pointer e), some e', some cells => if e = e' ∧ szP P e = some 1 ∧ 0 < n ∧ n = cells.length ∧ n < 2 ^ 62 then (bytesX cells).map fun s => (.str s, ph.kill p) else none
    | _, _, _ => none
  | .gptr p 1 len cells, .int .i64 n => match P.underlying pt, ph.gro p with
    | some (.pointer e), some (sz', len', e') => if e = e' ∧ szP P e = some 1 ∧ n = len ∧ len' = len ∧ n < 2 ^ 62 ∧ sz' = 1 then (bytesX cells).map fun s => (.str s, ph) else none
    | _, _ => none
  | _, _ => none

def copyP (P : Program) (dT : TypeId) (s x : PV) (ph : PH) : Option (PV × PH) :=
  match kSl P dT, s with
  | some e, .sl p off sz len _ => match ph.get p with
    | some cells => if szP P e = some sz ∧ off + len * sz ≤ cells.length then
        match srcP ph sz x with
        | some (n, new) => some (.int .i64 (min n len : Nat), ph.put p (setL cells off (new.take (min n len * sz))))
        | none => none
      else none
    | none => none
  | _, _ => none

def builtinP (P : Program) (b : Builtin) (ts : List TypeId) (args : List PV) (ph : PH) : Option (PV × PH) :=
  match b, ts, args with
  | .len, t :: _, [x] => (lenP P t (deg x)).map (·, ph)
  | .append, [sT, xT], [s, x] => appendG P sT xT s (deg x) ph
  | .copy, [dT, _], [s, x] => copyP P dT s (deg x) ph
  | .max, _, x :: r => (mmsP true x r).map (·, ph)
  | .min, _, x :: r => (mmsP false x r).map (·, ph)
  | .unsafeSliceData, _, [x] => (sliceDataP x).map (·, ph)
  | .unsafeString, [pt, _], [a, n] => unsafeStringP P pt a n ph
  | _, _, _ => none

def popO (P : Program) (ev : Operand → PV) (ph : PH) : Op → Option (PV × PH)
  | .move x => some (ev x, ph)
  | .assign x => some (ev x, ph)
  | .pick c a b => match ev c with
    | .bool t => some (if t then ev a else ev b, ph)
    | _ => none
  | .alloc t => (zeroP P t).map fun z => (.ptr ph.n 0, if selfTy P t = true then (ph.push z.cells).setTy ph.n t else ph.push z.cells)
  | .box _ x => if (ev x).cells.all cellOk = true then some (.ptr ph.n 0, ph.push (ev x).cells) else none
  | .build t parts => (buildP P t (parts.toList.map fun x => (x.1, ev x.2))).map (·, ph)
  | .buildSlice t len parts => buildSliceP P t len (parts.toList.map fun x => (x.1, ev x.2)) ph
  | .load t a => (loadOp P t (ev a) ph).map (·, ph)
  | .store t a x => (storeOp P t (ev a) (ev x) ph).map (.undef, ·)
  | .nilCheck x => match ev x with
    | .ptr p o => some (.ptr p o, ph)
    | .fptr c => some (.fptr c, ph)
    | .func f a b => some (.func f a b, ph)
    | .yield l => some (.yield l, ph)
    | _ => none
  | .binOp op t x y _ => (binP P op t (ev x) (ev y)).map (·, ph)
  | .unOp op _ x => (unP op (ev x)).map (·, ph)
  | .convert s d x => convP P s d ph (deg (ev x))
  | .sliceToArrayPointer t x => (arrayAtOp P t (deg (ev x))).map (·, ph)
  | .makeFunc (.func f) first caps => some (.func f (first.toList.map ev) (caps.toList.map ev), ph)
  | .makeSlice t l c => makeSliceP P t (ev l) (ev c) ph
  | .slice t x lo hi mx => (sliceOp P t (deg (ev x)) (lo.map ev) (hi.map ev) (mx.map ev) ph).map (·, ph)
  | .fieldAddr t x f => (fieldAddrOp P t (ev x) f).map (·, ph)
  | .field t x f => (fieldOp P t (ev x) f).map (·, ph)
  | .indexAddr t x i => (indexAddrOp P t (deg (ev x)) (ev i)).map (·, ph)
  | .index t x i => (indexOp P t (ev x) (ev i)).map (·, ph)
  | .extract x i => match ev x with
    | .tuple vs => (vs[i]?).map (·, ph)
    | _ => none
  | .call { callee := .builtin b, args, argTypes } => builtinP P b argTypes.toList (args.toList.map ev) ph
  | _ => none

/-! ### It is what the machine does -/
theorem kArr_of {P : Program} {t e : TypeId} {n : Nat} (h : P.underlying t = some (.array n e)) : kArr P t = some (n, e) := by simp [kArr, h]

theorem RParts.of {ev : Operand → PV} {ρ : Operand → Value} (hρ : ∀ x, RV G (ev x) (ρ x)) : ∀ (parts : List (Nat × Operand)), RParts G (parts.map fun x => (x.1, ev x.2)) (parts.map fun x => (x.1, ρ x.2))
  | [] => .nil
  | (i, x) :: r => .cons i _ _ _ _ (hρ x) (RParts.of hρ r)

theorem RVs.of_map {ev : Operand → PV} {ρ : Operand → Value} (hρ : ∀ x, RV G (ev x) (ρ x)) : ∀ (l : List Operand), RVs G (l.map ev) (l.map ρ)
  | [] => .nil
  | x :: r => .cons _ _ _ _ (hρ x) (RVs.of_map hρ r)

theorem RVo.of_map {ev : Operand → PV} {ρ : Operand → Value} (hρ : ∀ x, RV G (ev x) (ρ x)) (o : Option Operand) : RVo G (o.map ev) (o.map ρ) := by
  cases o with
  | none => trivial
  | some x => exact hρ x

theorem gives_buildP (h : Rel X G ph w) {t : TypeId} {parts : List (Nat × PV)} {rparts : Array (Nat × Value)} {pv : PV} (hr : RParts G parts rparts.toList) (hb : buildP X.P t parts = some pv) : Gives X G ((Instr.build t rparts).run X.P w) pv ph := by
  unfold buildP at hb
  split at hb
  · rename_i zs pl hz hpl
    split at hb
    · rename_i hok
      simp only [Option.map_eq_some_iff] at hb
      obtain ⟨cells, hf, rfl⟩ := hb
      have hc : ∀ x ∈ parts, x.2.cells.all cellOk = true := fun x hx => List.all_eq_true.1 hok x hx
      unfold placeP at hpl
      split at hpl
      · simp only [Option.map_eq_some_iff] at hpl
        obtain ⟨l, hl, rfl⟩ := hpl
        exact gives_build_st h hz hl hr hc hf
      · rename_i n e hu
        simp only [Option.map_eq_some_iff] at hpl
        obtain ⟨sz, hs, rfl⟩ := hpl
        exact gives_build_arr h hz (kArr_of hu) hs hr hc hf
      · cases hpl
    · cases hb
  · cases hb

theorem gives_buildSliceP (h : Rel X G ph w) {t : TypeId} {len : Nat} {parts : List (Nat × PV)} {rparts : Array (Nat × Value)} {pv : PV} {ph' : PH} (hr : RParts G parts rparts.toList) (hb : buildSliceP X.P t len parts ph = some (pv, ph')) :
    Gives X G ((Instr.buildSlice t len rparts).run X.P w) pv ph' := by
  unfold buildSliceP at hb
  split at hb
  · cases hb
  · rename_i e he
    split at hb
    · rename_i sz z hs hz
      split at hb
      · rename_i hc
        simp only [Option.map_eq_some_iff] at hb
        obtain ⟨cells, hf, e⟩ := hb
        cases e
        exact gives_buildSlice h he hs hz hc.1 hc.2.1 hc.2.2.1 hr (fun x hx => List.all_eq_true.1 hc.2.2.2 x hx) hf
      · cases hb
    · cases hb

theorem gives_makeSliceP (h : Rel X G ph w) {t : TypeId} {l c pv : PV} {a b : Value} {ph' : PH} (ha : RV G l a) (hb : RV G c b) (hm : makeSliceP X.P t l c ph = some (pv, ph')) : Gives X G ((Instr.makeSlice t a b).run X.P w) pv ph' := by
  unfold makeSliceP at hm
  split at hm
  · rename_i e k l k' c he
    split at hm
    · rename_i sz by_ z hs hby hz
      split at hm
      · rename_i hc
        cases hm
        have el : ((l.toNat : Nat) : Int) = l := Int.toNat_of_nonneg hc.2.2.1
        have ec : ((c.toNat : Nat) : Int) = c := Int.toNat_of_nonneg (Int.le_trans hc.2.2.1 hc.2.2.2.1)
        exact gives_makeSlice (k := k) (k' := k') (len := l.toNat) (cap := c.toNat) h he hs hby hz hc.1 hc.2.1 (by rw [el]; exact ha) (by rw [ec]; exact hb) (by omega) hc.2.2.2.2.1 (by omega)
      · cases hm
    · cases hm
  · cases hm

theorem gives_loadOp (h : Rel X G ph w) {t : TypeId} {a pv : PV} {v : Value} (ha : RV G a v) (hl : loadOp X.P t a ph = some pv) : Gives X G ((Instr.loadAt t v).run X.P w) pv ph := by
  unfold loadOp at hl
  split at hl
  · split at hl
    · rename_i hp; exact gives_load h ha hp hl
    · cases hl
  · exact gives_load_f h ha hl
  · cases hl

theorem gives_indexAddrOp (h : Rel X G ph w) {t : TypeId} {a i pv : PV} {v x : Value} (ha : RV G a v) (hi : RV G i x) (hl : indexAddrOp X.P t a i = some pv) : Gives X G ((Instr.indexAt t v x).run X.P w) pv ph := by
  unfold indexAddrOp at hl
  split at hl
  · split at hl
    · rename_i hu
      split at hl
      · rename_i hc; cases hl; exact gives_indexAddr_sl h ha hi (kSl_of hu) hc.1 hc.2.1 hc.2.2
      · cases hl
    · rename_i hu
      split at hl
      · rename_i hc; cases hl; exact gives_indexAddr_fsl h ha hi (kSl_of hu) hc.1 hc.2.1 hc.2.2
      · cases hl
    · rename_i hu
      split at hl
      · rename_i hs
        split at hl
        · rename_i hc; cases hl; exact gives_indexAddr_arr h ha hi (kArr_of hu) hs hc.1 hc.2
        · cases hl
      · cases hl
    · rename_i hu
      split at hl
      · rename_i hs
        split at hl
        · rename_i hc; cases hl; exact gives_indexAddr_farr h ha hi (kArr_of hu) hs hc.1 hc.2
        · cases hl
      · cases hl
    · cases hl
  · cases hl

theorem gives_indexOp (h : Rel X G ph w) {t : TypeId} {a i pv : PV} {v x : Value} (ha : RV G a v) (hi : RV G i x) (hl : indexOp X.P t a i = some pv) : Gives X G ((Instr.index t v x).run X.P w) pv ph := by
  unfold indexOp at hl
  split at hl
  · split at hl
    · rename_i hu
      split at hl
      · rename_i hs
        split at hl
        · rename_i hc; exact gives_index_arr h ha hi (kArr_of hu) hs hc.1 hc.2 hl
        · cases hl
      · cases hl
    · rename_i hu
      split at hl
      · rename_i h0
        simp only [Option.map_eq_some_iff] at hl
        obtain ⟨c, hc, rfl⟩ := hl
        exact gives_index_str h ha hi (by simp [kP, hu, kOf]) h0 hc
      · cases hl
    · cases hl
  · cases hl

theorem gives_slice_nil (h : Rel X G ph w) {t e : TypeId} {v : Value} {lo hi mx : Option PV} {rl rh rm : Option Value} {r : Nat × Nat × Option Nat} (ha : RV G .nilsl v) (hl : RVo G lo rl) (hh : RVo G hi rh) (hm : RVo G mx rm) (hu : X.P.underlying t = some (.slice e))
    {sz : Nat} (hs : szP X.P e = some sz) (hb : bndsP 0 0 lo hi mx = some r) : Gives X G ((Instr.sliceAt t v rl rh rm).run X.P w) .nilsl ph := by
  cases ha
  obtain ⟨l, u, m⟩ := r
  obtain ⟨e1, b1, b2, b3⟩ := bndsP_run (P := X.P) (w := w) (s := true) (rcap := 0) hl hh hm (Nat.le_refl _) (Nat.le_refl _) hb
  have hm0 : m.getD 0 = 0 := by omega
  have hu0 : u = 0 := by omega
  have hl0 : l = 0 := by omega
  subst hu0; subst hl0
  refine .pure h (v := .slice none 0 0) ?_ .nilsl
  rw [not_arr_slice hu (by intros; simp)]
  rw [hm0] at e1
  simp [Instr.slice, run_underlying_k hu, e1, run_sizeOf_k hs]

theorem gives_sliceOp (h : Rel X G ph w) {t : TypeId} {x pv : PV} {v : Value} {lo hi mx : Option PV} {rl rh rm : Option Value} (hx : RV G x v) (hl : RVo G lo rl) (hh : RVo G hi rh) (hm : RVo G mx rm) (hs : sliceOp X.P t x lo hi mx ph = some pv) : Gives X G ((Instr.sliceAt t v rl rh rm).run X.P w) pv ph := by
  unfold sliceOp at hs
  split at hs
  · rename_i hu
    split at hs
    · simp only [Option.map_eq_some_iff] at hs
      obtain ⟨⟨l, u, m⟩, hb, rfl⟩ := hs
      cases rm with
      | some _ => exact hm.elim
      | none =>
        have hm0 : m = none := by
          unfold bndsP at hb
          simp only [Option.bind_eq_some_iff] at hb
          obtain ⟨_, _, _, _, e⟩ := hb; cases e; rfl
        subst hm0
        exact gives_slice_str h hx hl hh (by simp [kP, hu, kOf]) hb
    · cases hs
  · rename_i hu
    split at hs
    · rename_i hsz'
      simp only [Option.map_eq_some_iff] at hs
      obtain ⟨⟨l, u, m⟩, hb, rfl⟩ := hs
      exact gives_slice_sl h hx hl hh hm (kSl_of hu) hsz' hb
    · cases hs
  · rename_i hu
    split at hs
    · rename_i hsz'
      split at hs
      · simp only [Option.map_eq_some_iff] at hs
        obtain ⟨⟨l, u, m⟩, hb, rfl⟩ := hs
        cases rm with
        | some _ => exact hm.elim
        | none =>
          have hm0 : m = none := by
            unfold bndsP at hb
            simp only [Option.bind_eq_some_iff] at hb
            obtain ⟨_, _, _, _, e⟩ := hb; cases e; rfl
          subst hm0
          exact gives_slice_fsl h hx hl hh (kSl_of hu) hsz' hb
      · split at hs
        · split at hs
          · rename_i hz
            cases hs
            refine gives_slice_zero h hx ?_ hl hh hm (kSl_of hu) hsz'
            unfold isZero at hz
            split at hz
            · exact .inl rfl
            · rename_i k n; simp at hz; subst hz; exact .inr ⟨k, rfl⟩
            · cases hz
          · cases hs
        · cases hs
      · simp only [Option.map_eq_some_iff] at hs
        obtain ⟨⟨l, u, m⟩, hb, rfl⟩ := hs
        exact gives_slice_fslM h hx hl hh hm (kSl_of hu) hsz' hb
    · cases hs
  · rename_i hu
    split at hs
    · rename_i hsz'
      simp only [Option.map_eq_some_iff] at hs
      obtain ⟨r, hb, rfl⟩ := hs
      exact gives_slice_nil h hx hl hh hm hu hsz' hb
    · cases hs
  · rename_i hu
    split at hs
    · rename_i hsz' hp
      split at hs
      · rename_i hle
        simp only [Option.map_eq_some_iff] at hs
        obtain ⟨⟨l, u, m⟩, hb, rfl⟩ := hs
        exact gives_slice_arr h hx hl hh hm (kArr_of hu) hsz' hb hp hle
      · cases hs
    · cases hs
  · rename_i hu
    split at hs
    · rename_i hsz'
      split at hs
      · rename_i hle
        simp only [Option.map_eq_some_iff] at hs
        obtain ⟨⟨l, u, m⟩, hb, rfl⟩ := hs
        cases rm with
        | some _ => exact hm.elim
        | none =>
          have hm0 : m = none := by
            unfold bndsP at hb
            simp only [Option.bind_eq_some_iff] at hb
            obtain ⟨_, _, _, _, e⟩ := hb; cases e; rfl
          subst hm0
          exact gives_slice_farr h hx hl hh (kArr_of hu) hsz' hb hle
      · cases hs
    · cases hs
  · cases hs

theorem srcP_src (h : Rel X G ph w) {sz n : Nat} {x : PV} {v : Value} {new : List PV} (hx : RV G x v) (hs : srcP ph sz x = some (n, new)) : Src X G ph v sz n new ∧ new.length = n * sz ∧ new.all cellOk = true ∧ ((∃ s, v = .string s) → sz = 1) := by
  unfold srcP at hs
  split at hs
  · split at hs
    · rename_i cells hp
      split at hs
      · rename_i hc; cases hs
        obtain ⟨rfl, h2, h3⟩ := hc
        exact ⟨src_sl hx hp h2, by simp [seg]; omega, h3, by rintro ⟨s, rfl⟩; cases hx⟩
      · cases hs
    · cases hs
  · split at hs
    · rename_i hc; cases hs
      obtain ⟨rfl, h2, h3⟩ := hc
      exact ⟨src_fsl hx, h2, h3, fun ⟨s, e⟩ => by rw [e] at hx; cases hx⟩
    · cases hs
  · split at hs
    · rename_i hc; cases hs; subst hc
      exact ⟨src_str hx, by simp [bytesPV], by simp [bytesPV, cellOk], fun _ => rfl⟩
    · cases hs
  · cases hs; exact ⟨src_nil hx, by simp, rfl, by rintro ⟨s, rfl⟩; cases hx⟩
  · cases hs; exact ⟨src_zsl hx, by simp, rfl, by rintro ⟨s, rfl⟩; cases hx⟩
  · cases hs

theorem gives_append_zsl0 {sT xT e : TypeId} {sz by_ : Nat} {z : PV} {d2 : TypeDesc} {s x : Value} {new : List PV} (h : Rel X G ph w) (hs : RV G .zsl s) (A : AppX X G ph sT xT e sz by_ z d2 x 0 new) (t : TypeId) :
    Gives X G ((Builtin.append_ #[sT, xT] t #[s, x]).run X.P w) .zsl ph := by
  have hnew : new = [] := by have := A.len; simp at this; exact this
  cases hs with
  | zsl a =>
    cases a with
    | none => obtain ⟨v, w', G', e1, hle, hr, hv⟩ := gives_append_zero h .nilsl A t
              cases hv; exact ⟨_, w', G', e1, hle, hr, .zsl none⟩
    | some a =>
      obtain ⟨nv, rn, er⟩ := run_append_fit (a := a) h A (Nat.le_refl 0) t
      have : nv = [] := by have := rn.length; rw [hnew] at this; exact List.length_eq_zero_iff.1 this.symm
      subst this
      exact .pure h (by rw [er]; simp [storeCells]) (.zsl (some a))

theorem gives_appendP (h : Rel X G ph w) {sT xT t : TypeId} {s x pv : PV} {a b : Value} {ph' : PH} (ha : RV G s a) (hb : RV G x b) (hp : appendP X.P sT xT s x ph = some (pv, ph')) : Gives X G ((Builtin.append_ #[sT, xT] t #[a, b]).run X.P w) pv ph' := by
  unfold appendP at hp
  split at hp
  · cases hp
  · rename_i e he
    split at hp
    · rename_i sz by_ z hs hby hz
      split at hp
      · rename_i hc
        split at hp
        · cases hp
        · rename_i n new hsrc
          obtain ⟨src, hl, hok, -⟩ := srcP_src h hb hsrc
          obtain ⟨d2, hd2, hd2'⟩ : ∃ d2, X.P.underlying xT = some d2 ∧ ((∃ e2, d2 = .slice e2) ∨ d2 = .string) := by
            have := hc.2.2
            unfold appTy at this
            split at this
            · rename_i e2 hu; exact ⟨_, hu, .inl ⟨e2, rfl⟩⟩
            · rename_i hu; exact ⟨_, hu, .inr rfl⟩
            · cases this
          have A : AppX X G ph sT xT e sz by_ z d2 b n new := ⟨he, hd2, hd2', hs, hby, hz, hc.1, hc.2.1, hok, src, hl⟩
          split at hp
          · split at hp
            · rename_i hn; cases hp; subst hn; exact gives_append_zero h ha A t
            · split at hp
              · rename_i hn hlim; cases hp; exact gives_append_none h (.inr ha) A (by omega) hlim t
              · cases hp
          · split at hp
            · rename_i hn; cases hp; subst hn; exact gives_append_zsl0 h ha A t
            · split at hp
              · rename_i hn hlim; cases hp; exact gives_append_none h (.inl ha) A (by omega) hlim t
              · cases hp
          · split at hp
            · rename_i cells hg
              split at hp
              · rename_i hcc; cases hp
                obtain ⟨rfl, h2, h3, h4⟩ := hcc
                exact gives_append_own h ha A hg h2 h3 h4 t
              · cases hp
            · cases hp
          · split at hp
            · rename_i cells hg
              split at hp
              · rename_i hsz; subst hsz
                split at hp
                · rename_i hfit
                  split at hp
                  · rename_i hcc; cases hp; exact gives_append_room h ha A hg hfit hcc.1 hcc.2 t
                  · cases hp
                · rename_i hfit
                  split at hp
                  · rename_i hcc; cases hp; exact gives_append_full h ha A hg (by omega) hcc.1 hcc.2.1 hcc.2.2 t
                  · cases hp
              · cases hp
            · cases hp
          · cases hp
      · cases hp
    · cases hp

theorem gives_appendE (h : Rel X G ph w) {sT xT t e : TypeId} {s x pv : PV} {a b : Value} {ph' : PH} (ha : RV G s a) (hb : RV G x b) (he' : kSl X.P sT = some e) (hs' : (s = .nilsl ∧ pv ≠ .nilsl) ∨ ∃ p z n, s = .sl p 0 z n none ∧ ph.ty p = some e)
    (hp : appendP X.P sT xT s x ph = some (pv, ph')) : GivesE X G ((Builtin.append_ #[sT, xT] t #[a, b]).run X.P w) pv ph' ph.n e := by
  unfold appendP at hp
  rw [he'] at hp
  simp only at hp
  split at hp
  · rename_i sz by_ z hs hby hz
    split at hp
    · rename_i hc
      split at hp
      · cases hp
      · rename_i n new hsrc
        obtain ⟨src, hl, hok, -⟩ := srcP_src h hb hsrc
        obtain ⟨d2, hd2, hd2'⟩ : ∃ d2, X.P.underlying xT = some d2 ∧ ((∃ e2, d2 = .slice e2) ∨ d2 = .string) := by
          have := hc.2.2
          unfold appTy at this
          split at this
          · rename_i e2 hu; exact ⟨_, hu, .inl ⟨e2, rfl⟩⟩
          · rename_i hu; exact ⟨_, hu, .inr rfl⟩
          · cases this
        have A : AppX X G ph sT xT e sz by_ z d2 b n new := ⟨he', hd2, hd2', hs, hby, hz, hc.1, hc.2.1, hok, src, hl⟩
        rcases hs' with ⟨rfl, hne⟩ | ⟨p, z', m, rfl, hty⟩
        · simp only at hp
          split at hp
          · cases hp; exact absurd rfl hne
          · split at hp
            · rename_i hn hlim; cases hp; exact gives_append_noneE h (.inr ha) A (by omega) hlim t
            · cases hp
        · simp only at hp
          split at hp
          · rename_i cells hg
            split at hp
            · rename_i hcc; cases hp
              obtain ⟨rfl, h2, h3, h4⟩ := hcc
              exact gives_append_ownE h ha A hg h2 h3 h4 rfl hty t
            · cases hp
          · cases hp
    · cases hp
  · cases hp

theorem gives_appendT (h : Rel X G ph w) {sT xT t : TypeId} {s x pv : PV} {a b : Value} {ph' : PH} (ha : RV G s a) (hb : RV G x b) (hp : appendT X.P sT xT s x ph = some (pv, ph')) : Gives X G ((Builtin.append_ #[sT, xT] t #[a, b]).run X.P w) pv ph' := by
  unfold appendT at hp
  split at hp
  · unfold appendS at hp
    split at hp
    · rename_i e he
      split at hp
      · rename_i q o z n c ph1 hp1
        cases hp
        exact (gives_appendE h ha hb he (.inl ⟨rfl, by simp⟩) hp1).tell
      · exact gives_appendP h ha hb hp
    · rename_i e p z n he
      split at hp
      · rename_i hty
        simp only [Option.map_eq_some_iff] at hp
        obtain ⟨⟨pv1, ph1⟩, hp1, e1⟩ := hp
        cases e1
        exact (gives_appendE h ha hb he (.inr ⟨_, _, _, rfl, hty⟩) hp1).tell
      · exact gives_appendP h ha hb hp
    · exact gives_appendP h ha hb hp
  · exact gives_appendP h ha hb hp

theorem gives_appendGP (h : Rel X G ph w) {sT xT t : TypeId} {s x pv : PV} {a b : Value} {ph' : PH} (ha : RV G s a) (hb : RV G x b) (hp : appendG X.P sT xT s x ph = some (pv, ph')) : Gives X G ((Builtin.append_ #[sT, xT] t #[a, b]).run X.P w) pv ph' := by
  unfold appendG at hp
  split at hp
  · split at hp
    · rename_i he hg
      split at hp
      · rename_i by_ z n new hby hz hsrc
        split at hp
        · rename_i hc
          obtain ⟨rfl, rfl, rfl, hs, hzl, hb0, hty, hlim⟩ := hc
          cases hp
          obtain ⟨src, hl, hok, -⟩ := srcP_src h hb hsrc
          obtain ⟨d2, hd2, hd2'⟩ : ∃ d2, X.P.underlying xT = some d2 ∧ ((∃ e2, d2 = .slice e2) ∨ d2 = .string) := by
            unfold appTy at hty
            split at hty
            · rename_i e2 hu; exact ⟨_, hu, .inl ⟨e2, rfl⟩⟩
            · rename_i hu; exact ⟨_, hu, .inr rfl⟩
            · cases hty
          exact gives_appendG h ha hg ⟨he, hd2, hd2', hs, hby, hz, hzl, hb0, hok, src, hl⟩ hlim t
        · cases hp
      · cases hp
    · cases hp
  · exact gives_appendT h ha hb hp

theorem gives_sliceData (h : Rel X G ph w) {ts : Array TypeId} {ty : TypeId} {x pv : PV} {v : Value} (hx : RV G x v) (hp : sliceDataP x = some pv) : Gives X G ((Builtin.unsafeSliceData_ ts ty #[v]).run X.P w) pv ph := by
  unfold sliceDataP at hp
  split at hp
  · cases hp
    cases hx with
    | gsl p esz len cells vals a rcap L hL hg hv h1 h2 h3 h4 h5 hf =>
      exact .pure h (Go.Lib.run_unsafeSliceData_row w ts ty _ _ _ (by omega)) (.gptr _ _ _ _ vals a rcap L hL hg hv h1 h2 h3 h5 hf)
  · cases hp
    cases hx with
    | gsl p esz len cells vals a rcap L hL hg hv h1 h2 h3 h4 h5 hf => omega
    | gslnil p esz L hL hg => exact .pure h (Go.Lib.run_unsafeSliceData_nil w ts ty 0 0) .nilptr
  · cases hp
    cases hx with
    | sl p off esz len cap L a rcap hL h1 h2 h3 h4 =>
      obtain rfl := h4 (by omega)
      exact .pure h (Go.Lib.run_unsafeSliceData_row w ts ty _ _ _ (by omega)) (.ptr _ _ _ hL)
  · cases hp
    cases hx
    exact .pure h (Go.Lib.run_unsafeSliceData_nil w ts ty 0 0) .nilptr
  · cases hp

theorem freeze_other (w : World) (b n k : Nat) (hk : k ≠ b) : (w.freeze ⟨b, 0, none⟩ n).heap[k]? = w.heap[k]? := by
  unfold World.freeze
  split
  · rfl
  · simp only [Array.getElem?_modify]
    rw [if_neg (fun e => hk e.symm)]

theorem freeze_same (w : World) (b n : Nat) {cs : Array Value} {e : TypeId} {fz : Nat × Nat} (hb : w.heap[b]? = some (.cells cs e fz)) : ∃ fz', (w.freeze ⟨b, 0, none⟩ n).heap[b]? = some (.cells cs e fz') := by
  unfold World.freeze
  split
  · exact ⟨fz, hb⟩
  · simp only [Array.getElem?_modify]
    rw [if_pos trivial, hb]
    exact ⟨_, rfl⟩

theorem gives_unsafeString (h : Rel X G ph w) {pt it ty : TypeId} {a n pv : PV} {va vn : Value} {ph' : PH} (ha : RV G a va) (hn : RV G n vn) (hp : unsafeStringP X.P pt a n ph = some (pv, ph')) : Gives X G ((Builtin.unsafeString_ #[pt, it] ty #[va, vn]).run X.P w) pv ph' := by
  unfold unsafeStringP at hp
  split at hp
  · split at hp
    · rename_i h0; cases hp; subst h0
      cases ha; obtain rfl := hn.int_inv
      exact .pure h (Go.Lib.run_unsafeString_none w pt it ty none) (.str _ _ rfl)
    · cases hp
  · rename_i p n
    split at hp
    · rename_i e e' cells hu hty hg
      split at hp
      · rename_i hc
        obtain ⟨rfl, hs1, h0, hlen, hbd⟩ := hc
        simp only [Option.map_eq_some_iff] at hp
        obtain ⟨s, hs, e1⟩ := hp; cases e1
        have hcs := bytesX_some hs
        subst hcs
        obtain rfl := hn.int_inv
        have hlen' : n = s.length := by rw [hlen]; simp [bytesPV]
        subst hlen'
        obtain ⟨j, hj, hj1⟩ := szP_some hs1
        obtain ⟨L, vals, cs, el, fz, hL, ow⟩ := h.own p _ hg
        obtain ⟨L2, cs2, fz2, t1, t2, t3⟩ := h.ty p e hty
        rw [hL] at t1; cases t1
        rw [ow.hb] at t3; cases t3
        cases ha with
        | ptr _ _ M hM =>
          rw [hL] at hM; cases hM
          have hc1 : X.P.cellsOf e = 1 := by unfold Program.cellsOf; rw [hj, ← hj1]; rfl
          have hvl : vals.length = s.length := by rw [← ow.rv.length]; simp [bytesPV]
          have hne : s ≠ [] := by rintro rfl; simp at h0
          have hrun := Go.Lib.run_unsafeString_row (P := X.P) w pt it ty e hu hc1 L.b cs.size (by simp only [World.shape?, ow.hb]) s hne (by have := ow.sz; have := ow.lt; omega) (by omega) (by
            intro j x hx
            have hv : vals[j]? = some (.int .u8 x.toNat) := by
              obtain ⟨u, e1, r⟩ := ow.rv.get j (.int .u8 x.toNat) (by simp [bytesPV, hx])
              rw [r.int_inv] at e1; exact e1
            have := ow.cell hv
            rw [t2, Nat.zero_add] at this
            rw [add_plain, Nat.zero_add]; exact this)
          have hk := h.kill p
          have hno : ∀ q c M, (ph.kill p).get q = some c → G.l[q]? = some M → M.b ≠ L.b := by
            intro q c M hq hM
            rw [PH.get_kill] at hq
            split at hq
            · cases hq
            · rename_i hne; exact h.disj q p c _ M L hne hq hg hM hL
          have hff : ∀ a v, G.f a = some v → a.block ≠ L.b := fun a v ha => h.fdisj a v p _ L ha hg hL
          have hs0 : s.length ≠ 0 := by simpa using hne
          have hfz : w.freeze ⟨L.b, 0, none⟩ s.length = { w with heap := (w.freeze ⟨L.b, 0, none⟩ s.length).heap } := by unfold World.freeze; rw [if_neg hs0]
          have hw := hk.wrote (w' := w.freeze ⟨L.b, 0, none⟩ s.length) ow.ge ⟨_, _, _, ow.hb⟩ hno hff (fun k hk => freeze_other _ _ _ _ hk) (by unfold World.freeze; rw [if_neg hs0]; simp) (by rw [hfz]) (by rw [hfz]) (by rw [hfz])
            (fun cs1 e1 fz1 hb => let ⟨fz', h'⟩ := freeze_same w L.b s.length hb; ⟨cs1, fz', h'⟩) (fun hG => h.noGrow hg hL hG.kill)
          refine ⟨_, _, G, ?_, .refl _, hw, .str s ⟨s.toArray⟩ (by simp)⟩
          have : L.o + 0 = 0 := by omega
          rw [this]
          exact hrun
      · cases hp
    · cases hp
  · rename_i p len cells n
    split at hp
    · rename_i e sz' top' e' hu hg
      split at hp
      · rename_i hc
        obtain ⟨rfl, hs1, rfl, rfl, hbd, hsz1⟩ := hc
        simp only [Option.map_eq_some_iff] at hp
        obtain ⟨s, hs, e1⟩ := hp; cases e1
        have hcs := bytesX_some hs
        subst hcs
        obtain rfl := hn.int_inv
        obtain ⟨j, hj, hj1⟩ := szP_some hs1
        cases ha with
        | gptr _ _ _ _ vals a rcap L hL hgl hv h1 h2 h3 h5 hf =>
          have hlen : top' = s.length := by rw [Nat.mul_one] at h2; rw [← h2]; simp [bytesPV]
          subst hlen
          obtain ⟨x, g1, g2, g3, g4⟩ := h.grow.own p _ _ _ hg
          rw [g1] at hgl; cases hgl
          obtain ⟨q1, q2, q3, q4, ⟨cs, fz, q5, q6, q7⟩, q8, q9⟩ := g4 a rcap rfl
          have hvl := hv.length
          have hc1 : X.P.cellsOf e = 1 := by unfold Program.cellsOf; rw [hj, ← hj1]; rfl
          have hs0 : s.length ≠ 0 := by omega
          have hne : s ≠ [] := by rintro rfl; simp at hs0
          have ea : a = ⟨a.block, 0, none⟩ := by cases a; simp at q1 q4; subst q1; subst q4; rfl
          have hsz : s.length ≤ cs.size := by
            have hlast := hf (s.length - 1)
            obtain ⟨v, hv1⟩ : ∃ v, vals[s.length - 1]? = some v := ⟨_, List.getElem?_eq_getElem (by rw [← hvl]; simp [bytesPV]; omega)⟩
            have h6 := (h.fz _ _ (hlast v hv1)).2
            simp only [World.cell?, q5, q4, Nat.zero_add] at h6
            have := (Array.getElem?_eq_some_iff.1 (by simpa using h6)).1
            omega
          have hrun := Go.Lib.run_unsafeString_row (P := X.P) w pt it ty e hu hc1 a.block cs.size (by simp only [World.shape?, q5]) s hne hsz (by omega) (by
            intro j x hx
            have hv2 : vals[j]? = some (.int .u8 x.toNat) := by
              obtain ⟨u, e1, r⟩ := hv.get j (.int .u8 x.toNat) (by simp [bytesPV, hx])
              rw [r.int_inv] at e1; exact e1
            have h6 := (h.fz _ _ (hf j _ hv2)).2
            rw [add_plain, Nat.zero_add]
            rw [q4, Nat.zero_add] at h6; exact h6)
          have hfz : w.freeze ⟨a.block, 0, none⟩ s.length = { w with heap := (w.freeze ⟨a.block, 0, none⟩ s.length).heap } := by unfold World.freeze; rw [if_neg hs0]
          obtain ⟨fz', hb', hz'⟩ : ∃ fz', (w.freeze ⟨a.block, 0, none⟩ s.length).heap[a.block]? = some (.cells cs e fz') ∧ fz'.2 ≤ s.length * sz' := by
            have hsz' : s.length * sz' = s.length := by
              subst hsz1; omega
            unfold World.freeze
            rw [if_neg hs0]
            simp only [Array.getElem?_modify, if_true, q5, Option.map_some]
            refine ⟨_, rfl, ?_⟩
            split
            · simp only; omega
            · simp only; omega
          have hw := h.froze (w' := w.freeze ⟨a.block, 0, none⟩ s.length) hg g1 q5 hb' hz'
            (fun k hk => freeze_other _ _ _ _ hk) (by unfold World.freeze; rw [if_neg hs0]; simp) (by rw [hfz]) (by rw [hfz]) (by rw [hfz])
          refine ⟨_, _, G, ?_, .refl _, hw, .str s ⟨s.toArray⟩ (by simp)⟩
          rw [ea]
          exact hrun
      · cases hp
    · cases hp
  · cases hp

theorem gives_copyP (h : Rel X G ph w) {dT xT t : TypeId} {s x pv : PV} {a b : Value} {ph' : PH} (ha : RV G s a) (hb : RV G x b) (hp : copyP X.P dT s x ph = some (pv, ph')) : Gives X G ((Builtin.copy_ #[dT, xT] t #[a, b]).run X.P w) pv ph' := by
  unfold copyP at hp
  split at hp
  · rename_i he
    split at hp
    · rename_i cells hg
      split at hp
      · rename_i hc
        split at hp
        · rename_i n new hsrc
          cases hp
          obtain ⟨src, hl, hok, hstr⟩ := srcP_src h hb hsrc
          exact gives_copy h ha he hc.1 src hl hok hg hc.2 hstr t
        · cases hp
      · cases hp
    · cases hp
  · cases hp

/-- What an operation leaves: a value, or nothing. -/
def GivesN (X : Ctx) (G : Ghost) (r : Result Next) (pv : PV) (ph' : PH) : Prop :=
  ∃ nx w' G', r = .ok nx w' ∧ Le G G' ∧ Rel X G' ph' w' ∧ ((∃ v, nx = .value v ∧ RV G' pv v) ∨ (nx = .skip ∧ pv = .undef))

theorem Gives.next {s : Sem Value} {pv : PV} {ph' : PH} (h : Gives X G (s.run X.P w) pv ph') : GivesN X G ((do let v ← s; Pure.pure (Next.value v) : Sem Next).run X.P w) pv ph' := by
  obtain ⟨v, w', G', e, hle, hr, hv⟩ := h
  exact ⟨.value v, w', G', by simp [e], hle, hr, .inl ⟨v, rfl, hv⟩⟩

theorem GivesN.pure {r : Result Next} {pv : PV} {v : Value} (h : Rel X G ph w) (hr : r = .ok (.value v) w) (hv : RV G pv v) : GivesN X G r pv ph := ⟨.value v, w, G, hr, .refl _, h, .inl ⟨v, rfl, hv⟩⟩

theorem run_value {P : Program} {s : Sem Value} {v : Value} {w' : World} (h : s.run P w = .ok v w') : (do let v ← s; Pure.pure (Next.value v) : Sem Next).run P w = .ok (.value v) w' := by simp [h]

theorem pop_ok (h : Rel X G ph w) {ev : Operand → PV} {ρ : Operand → Value} (hρ : ∀ x, RV G (ev x) (ρ x)) {o : Oper} {pv : PV} {ph' : PH} (hp : popO X.P ev ph o.op = some (pv, ph')) :
    GivesN X G ((execOp ρ o).run X.P w) pv ph' := by
  obtain ⟨dst, op, type, pos, after, guard⟩ := o
  simp only at hp
  unfold popO at hp
  split at hp
  · cases hp; exact .pure h rfl (hρ _)
  · cases hp; exact .pure h rfl (hρ _)
  · rename_i c a b
    split at hp
    · rename_i t hc; cases hp
      have hc' := hρ c
      rw [hc] at hc'
      refine .pure h (v := if t then ρ a else ρ b) ?_ (by cases t <;> simp [hρ])
      simp only [execOp, Sem.run_bind, hc'.bool_inv, asBool, Sem.run_pure, Result.andThen_ok]
    · cases hp
  · simp only [Option.map_eq_some_iff] at hp
    obtain ⟨z, hz, e⟩ := hp; cases e
    split
    · exact (gives_allocE h hz).tell.next
    · exact (gives_alloc h hz).next
  · split at hp
    · rename_i hc; cases hp; exact (gives_box h (hρ _) hc).next
    · cases hp
  · simp only [Option.map_eq_some_iff] at hp
    obtain ⟨z, hz, e⟩ := hp; cases e
    refine (gives_buildP h ?_ hz).next
    rw [Array.toList_map]; exact RParts.of hρ _
  · refine (gives_buildSliceP h ?_ hp).next
    rw [Array.toList_map]; exact RParts.of hρ _
  · simp only [Option.map_eq_some_iff] at hp
    obtain ⟨z, hz, e⟩ := hp; cases e
    exact (gives_loadOp h (hρ _) hz).next
  · rename_i t a x
    simp only [Option.map_eq_some_iff] at hp
    obtain ⟨z, hz, e⟩ := hp; cases e
    unfold storeOp at hz
    split at hz
    · rename_i p off ha
      split at hz
      · rename_i cells n hg hn
        split at hz
        · rename_i hc; cases hz
          have hv := hρ a
          rw [ha] at hv
          obtain ⟨w', e, hr⟩ := gives_store h hv (hρ x) hg hn hc.1 hc.2.1 hc.2.2
          exact ⟨.skip, w', G, by simp only [execOp, Sem.run_bind, e, Result.andThen_ok, Sem.run_pure], .refl _, hr, .inr ⟨rfl, rfl⟩⟩
        · cases hz
      · cases hz
    · cases hz
  · rename_i x
    have hx := hρ x
    split at hp
    · rename_i e; rw [e] at hx; cases hp
      have hx' := hx
      generalize hv : ρ x = v at hx hx'
      cases hx; exact .pure h (by simp only [execOp, hv, Sem.run_pure]) hx'
    · rename_i e; rw [e] at hx; cases hp
      have hx' := hx
      generalize hv : ρ x = v at hx hx'
      cases hx; exact .pure h (by simp only [execOp, hv, Sem.run_pure]) hx'
    · rename_i e; rw [e] at hx; cases hp
      have hx' := hx
      generalize hv : ρ x = v at hx hx'
      cases hx; exact .pure h (by simp only [execOp, hv, Sem.run_pure]) hx'
    · rename_i e; rw [e] at hx; cases hp
      have hx' := hx
      generalize hv : ρ x = v at hx hx'
      cases hx; exact .pure h (by simp only [execOp, hv, Sem.run_pure]) hx'
    · cases hp
  · simp only [Option.map_eq_some_iff] at hp
    obtain ⟨z, hz, e⟩ := hp; cases e
    obtain ⟨v, e, hv⟩ := run_binP (w := w) (P := X.P) (hρ _) (hρ _) hz
    exact .pure h (run_value e) hv
  · simp only [Option.map_eq_some_iff] at hp
    obtain ⟨z, hz, e⟩ := hp; cases e
    obtain ⟨v, e, hv⟩ := run_unP (w := w) (P := X.P) (hρ _) hz
    exact .pure h (run_value e) hv
  · exact (gives_conv h (hρ _).deg hp).next
  · simp only [Option.map_eq_some_iff] at hp
    obtain ⟨z, hz, e⟩ := hp; cases e
    unfold arrayAtOp at hz
    rename_i t x
    have hx := (hρ x).deg
    split at hz
    · rename_i ht e
      split at hz
      · rename_i hc; cases hz; rw [e] at hx; exact (gives_arrayAt h hx ht hc.1 hc.2).next
      · cases hz
    · rename_i ht e
      split at hz
      · rename_i hc; cases hz; rw [e] at hx; exact (gives_arrayAt_f h hx ht hc.1 hc.2).next
      · cases hz
    · cases hz
  · rename_i f first caps
    cases hp
    refine .pure h (v := .func (.func f) (first.map ρ) (caps.map ρ)) rfl ?_
    have := RV.func (G := G) f _ _ _ _ (RVs.of_map hρ first.toList) (RVs.of_map hρ caps.toList)
    have e1 : (first.toList.map ρ).toArray = first.map ρ := by apply Array.toList_inj.1; simp
    have e2 : (caps.toList.map ρ).toArray = caps.map ρ := by apply Array.toList_inj.1; simp
    rw [e1, e2] at this
    exact this
  · exact (gives_makeSliceP h (hρ _) (hρ _) hp).next
  · simp only [Option.map_eq_some_iff] at hp
    obtain ⟨z, hz, e⟩ := hp; cases e
    exact (gives_sliceOp h (hρ _).deg (RVo.of_map hρ _) (RVo.of_map hρ _) (RVo.of_map hρ _) hz).next
  · simp only [Option.map_eq_some_iff] at hp
    obtain ⟨z, hz, e⟩ := hp; cases e
    unfold fieldAddrOp at hz
    rename_i t x f
    have hx := hρ x
    split at hz
    · rename_i hf e; cases hz; rw [e] at hx; exact (gives_fieldAddr h hx hf).next
    · rename_i hf e; cases hz; rw [e] at hx; exact (gives_fieldAddr_f h hx hf).next
    · cases hz
  · simp only [Option.map_eq_some_iff] at hp
    obtain ⟨z, hz, e⟩ := hp; cases e
    unfold fieldOp at hz
    rename_i t x f
    have hx := hρ x
    split at hz
    · rename_i hf e; rw [e] at hx; exact (gives_field h hx hf hz).next
    · cases hz
  · simp only [Option.map_eq_some_iff] at hp
    obtain ⟨z, hz, e⟩ := hp; cases e
    exact (gives_indexAddrOp h (hρ _).deg (hρ _) hz).next
  · simp only [Option.map_eq_some_iff] at hp
    obtain ⟨z, hz, e⟩ := hp; cases e
    exact (gives_indexOp h (hρ _) (hρ _) hz).next
  · rename_i x i
    have hx := hρ x
    split at hp
    · rename_i vs e; rw [e] at hx
      simp only [Option.map_eq_some_iff] at hp
      obtain ⟨z, hz, e⟩ := hp; cases e
      generalize hv : ρ x = v at hx
      cases hx with
      | tuple _ vals hr =>
        obtain ⟨u, hu, hru⟩ := hr.get i _ hz
        exact .pure h (v := u) (by simp [execOp, hv, Instr.extract, hu]) hru
    · cases hp
  · rename_i b args argTypes
    have hargs := RVs.of_map hρ args.toList
    have hex : (execOp ρ { dst, op := .call { callee := .builtin b, args, argTypes }, type, pos, after, guard }).run X.P w = (builtin b argTypes type (args.map fun | .const _ => true | _ => false) (args.map ρ)).run X.P w := by
      simp only [execOp, resolve, Sem.run_bind, Sem.run_pure, Result.andThen_ok, invoke]
      rfl
    rw [hex]
    have eargs : args.map ρ = (args.toList.map ρ).toArray := by rw [← Array.toList_map]
    have ets : argTypes = argTypes.toList.toArray := by simp
    rw [eargs, ets]
    generalize args.toList.map ρ = vs at hargs
    generalize args.toList.map ev = ps at hargs hp
    generalize argTypes.toList = ts at hp
    unfold builtinP at hp
    split at hp
    · rename_i t0 tl x0
      simp only [Option.map_eq_some_iff] at hp
      obtain ⟨z, hz, e⟩ := hp; cases e
      cases hargs with
      | cons _ v _ _ hx hs =>
        cases hs
        obtain ⟨u, e, hu⟩ := run_lenP (w := w) (P := X.P) (ts := (t0 :: tl).toArray) (ty := type) (by simp) hx.deg hz
        exact .pure h (run_value e) hu
    · cases hargs with
      | cons _ v _ _ hx hs => cases hs with
        | cons _ v2 _ _ hx2 hs2 => cases hs2; exact (gives_appendGP h hx hx2.deg hp).next
    · cases hargs with
      | cons _ v _ _ hx hs => cases hs with
        | cons _ v2 _ _ hx2 hs2 => cases hs2; exact (gives_copyP h hx hx2.deg hp).next
    · simp only [Option.map_eq_some_iff] at hp
      obtain ⟨z, hz, e⟩ := hp; cases e
      cases hargs with
      | cons _ v _ _ hx hs =>
        obtain ⟨u, e, hu⟩ := run_max (w := w) (P := X.P) hs hx hz
        exact .pure h (run_value (s := Builtin.max_ _ type (v :: _).toArray) (by simpa [Builtin.max_] using e)) hu
    · simp only [Option.map_eq_some_iff] at hp
      obtain ⟨z, hz, e⟩ := hp; cases e
      cases hargs with
      | cons _ v _ _ hx hs =>
        obtain ⟨u, e, hu⟩ := run_min (w := w) (P := X.P) hs hx hz
        exact .pure h (run_value (s := Builtin.min_ _ type (v :: _).toArray) (by simpa [Builtin.min_] using e)) hu
    · simp only [Option.map_eq_some_iff] at hp
      obtain ⟨z, hz, e⟩ := hp; cases e
      cases hargs with
      | cons _ v _ _ hx hs => cases hs; exact (gives_sliceData h hx hz).next
    · cases hargs with
      | cons _ v _ _ hx hs => cases hs with
        | cons _ v2 _ _ hx2 hs2 => cases hs2; exact (gives_unsafeString h hx hx2 hp).next
    · cases hp
  · cases hp

end Pv
