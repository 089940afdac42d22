/- Part of the proof: the layer of pure values, or a walk through a function (PvOpsF). -/
import Derived.Test.YthegpibaoikoeaaPvOpsE
set_option linter.all false
namespace Pv
open Go Go.RowKit
variable {X : Ctx} {G : Ghost} {ph : PH} {w : World}

/-! ### Conversions -/
def bytesOf : List PV → Option (List UInt8)
  | [] => some []
  | .int .u8 n :: r => (bytesOf r).map (UInt8.ofNat n.toNat :: ·)
  | _ :: _ => none

theorem bytesOf_ints : ∀ {cells : List PV} {s : List UInt8}, bytesOf cells = some s → ∃ ns : List Int, cells = ns.map (PV.int .u8) ∧ s = ns.map fun n => UInt8.ofNat n.toNat
  | [], s, h => ⟨[], rfl, by cases h; rfl⟩
  | c :: r, s, h => by
    unfold bytesOf at h
    split at h
    · cases h; exact ⟨[], by simp_all⟩
    · rename_i n r' heq
      cases heq
      simp only [Option.map_eq_some_iff] at h
      obtain ⟨t, ht, rfl⟩ := h
      obtain ⟨ns, rfl, rfl⟩ := bytesOf_ints ht
      exact ⟨n :: ns, rfl, rfl⟩
    · cases h

theorem bytesOf_bytesPV (s : List UInt8) : bytesOf (bytesPV s) = some s := by
  induction s with
  | nil => rfl
  | cons b s ih =>
    show bytesOf (.int .u8 b.toNat :: bytesPV s) = _
    simp [bytesOf, ih]

theorem RVs.ints : ∀ {ns : List Int} {vs : List Value}, RVs G (ns.map (PV.int .u8)) vs → vs = ns.map (Value.int .u8)
  | [], _, .nil => rfl
  | n :: ns, _, .cons _ _ _ _ h hs => by rw [h.int_inv, hs.ints]; rfl

theorem foldl_push (ns : List Int) : ∀ s : ByteArray, (ns.foldl (fun (r : ByteArray) (n : Int) => r.push (UInt8.ofNat n.toNat)) s).data.toList = s.data.toList ++ ns.map fun n => UInt8.ofNat n.toNat := by
  induction ns with
  | nil => intro s; simp
  | cons n ns ih => intro s; rw [List.foldl_cons, ih]; simp

theorem run_bytesStr {P : Program} {a : Addr} {len cap : Nat} {cells : List PV} {vals : List Value} {s : List UInt8} (hl : (loadCells a len).run P w = .ok vals.toArray w) (hr : RVs G cells vals) (hs : bytesOf cells = some s) :
    ∃ v, (Conv.bytesToString (.slice (some a) len cap)).run P w = .ok v w ∧ RV G (.str s) v := by
  obtain ⟨ns, rfl, rfl⟩ := bytesOf_ints hs
  have hv := hr.ints
  subst hv
  exact ⟨_, run_bytesToString w a len cap ns hl, .str _ _ (by rw [foldl_push]; simp)⟩

theorem bytesOf_len {cells : List PV} {s : List UInt8} (h : bytesOf cells = some s) : s.length = cells.length := by
  obtain ⟨ns, rfl, rfl⟩ := bytesOf_ints h; simp

theorem run_conv_bs {P : Program} {s d e : TypeId} (hs : kSl P s = some e) (he : P.underlying e = some (.int .u8)) (hd : P.underlying d = some .string) (a : Option Addr) (l c : Nat) :
    (convert s d (.slice a l c)).run P w = (Conv.bytesToString (.slice a l c)).run P w := by
  simp only [convert, Sem.run_bind, run_underlying_k (kSl_some hs), run_underlying_k hd, Result.andThen_ok, run_underlying_k he]

theorem gives_str_sl (h : Rel X G ph w) {s d e : TypeId} {p off len : Nat} {cap : Option Nat} {cells : List PV} {x : Value} {r : List UInt8} (hx : RV G (.sl p off 1 len cap) x) (hs : kSl X.P s = some e) (he : X.P.underlying e = some (.int .u8)) (hd : X.P.underlying d = some .string)
    (hp : ph.get p = some cells) (hle : off + len ≤ cells.length) (hr : bytesOf (seg cells off len) = some r) : Gives X G ((convert s d x).run X.P w) (.str r) ph := by
  have := src_sl (X := X) hx hp (by omega) w h
  obtain ⟨vals, -, e2, rv⟩ := this
  cases hx with
  | sl _ _ _ _ _ L a rcap hL h1 h2 h3 h4 =>
    simp only [Builtin.firstCells, Nat.mul_one] at e2 rv
    obtain ⟨v, e3, hv⟩ := run_bytesStr (cap := rcap) e2 rv hr
    exact .pure h (by rw [run_conv_bs hs he hd, e3]) hv

theorem gives_str_fsl (h : Rel X G ph w) {s d e : TypeId} {len : Nat} {cells : List PV} {x : Value} {r : List UInt8} (hx : RV G (.fsl 1 len cells) x) (hs : kSl X.P s = some e) (he : X.P.underlying e = some (.int .u8)) (hd : X.P.underlying d = some .string)
    (hr : bytesOf cells = some r) : Gives X G ((convert s d x).run X.P w) (.str r) ph := by
  obtain ⟨vals, -, e2, rv⟩ := src_fsl (X := X) (ph := ph) hx w h
  cases hx with
  | fsl _ _ _ vals' a rcap hr' h1 h2 h3 hf =>
    simp only [Builtin.firstCells, Nat.mul_one] at e2
    obtain ⟨v, e3, hv⟩ := run_bytesStr (cap := rcap) e2 rv hr
    exact .pure h (by rw [run_conv_bs hs he hd, e3]) hv
  | fslnil _ =>
    have : r = [] := by simpa [bytesOf] using hr.symm
    subst this
    exact .pure h (by rw [run_conv_bs hs he hd]; simp [Conv.bytesToString]; rfl) (.str _ _ rfl)

theorem gives_str_nil (h : Rel X G ph w) {s d e : TypeId} {x : Value} (hx : RV G .nilsl x) (hs : kSl X.P s = some e) (he : X.P.underlying e = some (.int .u8)) (hd : X.P.underlying d = some .string) : Gives X G ((convert s d x).run X.P w) (.str []) ph := by
  cases hx
  exact .pure h (by rw [run_conv_bs hs he hd]; simp [Conv.bytesToString]; rfl) (.str _ _ rfl)

theorem gives_bytes (h : Rel X G ph w) {s d e : TypeId} {r : List UInt8} {x : Value} (hx : RV G (.str r) x) (hs : X.P.underlying s = some .string) (hd : kSl X.P d = some e) (he : X.P.underlying e = some (.int .u8)) :
    Gives X G ((convert s d x).run X.P w) (.sl ph.n 0 1 r.length none) (ph.push (bytesPV r)) := by
  obtain ⟨t, rfl, ht⟩ := hx.str_inv
  have hsz : t.size = r.length := by rw [← ht]; rfl
  have hd' := h.drew
  let cap := t.size + w.tape w.drawn (.appendCap t.size 0 e) % (2 ^ 63 - t.size)
  let elems : Array Value := t.data.map fun b => .int .u8 b.toNat
  let cs : Array Value := elems ++ Array.replicate (cap - t.size) (.int .u8 0)
  have hrv : RVs G (bytesPV r) elems.toList := by
    refine .of_get (by simp [bytesPV, elems, ← ht]) fun j p v h1 h2 => ?_
    simp only [elems, bytesPV, Array.toList_map, List.getElem?_map, Option.map_eq_some_iff] at h1 h2
    obtain ⟨c, hc, rfl⟩ := h1
    obtain ⟨c', hc', rfl⟩ := h2
    rw [ht, hc] at hc'; cases hc'; exact .int _ _
  have hok : (bytesPV r).all cellOk = true := by simp [bytesPV, cellOk]
  have hpush := hd'.push (e := e) (cs := cs) (fz := (cs.size, cs.size + 1)) (extra := (Array.replicate (cap - t.size) (Value.int .u8 0)).toList) hrv (hrv.ones hok) (by simp [cs]) (.inl (Nat.le_refl _))
  have hcsz : cs.size = cap := by
    have : t.data.size = t.size := rfl
    simp only [cs, elems, Array.size_append, Array.size_map, Array.size_replicate, this]
    show t.size + (cap - t.size) = cap
    have : t.size ≤ cap := Nat.le_add_right _ _
    omega
  refine ⟨.slice (some ⟨w.heap.size, 0, none⟩) t.size cap, _, _, ?_, .push G _, hpush, ?_⟩
  · have hch : (choose (.appendCap t.size 0 e)).run X.P w = .ok cap { w with drawn := w.drawn + 1 } := by simp [Question.forced, Question.cut, cap]
    simp only [convert, Sem.run_bind, run_underlying_k hs, run_underlying_k (kSl_some hd), Result.andThen_ok, run_underlying_k he, Conv.stringToBytes, hch]
    have hnr : (newRow e (t.data.map (fun b => Value.int .u8 b.toNat) ++ Array.replicate (cap - t.size) (.int .u8 0))).run X.P { w with drawn := w.drawn + 1 } = .ok ⟨w.heap.size, 0, none⟩ { w with drawn := w.drawn + 1, heap := w.heap.push (.cells cs e (0, 0)) } := by simp [newRow]; rfl
    rw [hnr]
    simp only [Result.andThen_ok, markStringish, Sem.run_bind, run_shape]
    have hsh : ({ w with drawn := w.drawn + 1, heap := w.heap.push (.cells cs e (0, 0)) } : World).shape? w.heap.size = some (e, cs.size) := by simp [World.shape?]
    rw [hsh]
    simp only [run_freeze, Result.andThen_ok, Sem.run_pure]
    congr 1
    simp only [World.freeze, Nat.succ_ne_zero, if_false]
    congr 1
    apply Array.ext_getElem?
    intro i
    simp only [Array.getElem?_modify, Array.getElem?_push]
    by_cases hi : w.heap.size = i
    · subst hi; simp
    · rw [if_neg hi]
      by_cases hi2 : i = w.heap.size
      · exact absurd hi2.symm hi
      · rw [if_neg hi2, if_neg hi2]
  · rw [← hsz]
    refine .sl _ _ _ _ _ ⟨w.heap.size, 0, cs.size⟩ _ cap ?_ (Nat.le_add_right _ _) (by simp only [hcsz]; omega) (by simp) (fun _ => rfl)
    simp only [Ghost.push]; rw [← h.lenN]; simp

theorem run_conv_int {P : Program} {s d : TypeId} {ds : TypeDesc} {k k' : IntKind} {n : Int} (hs : P.underlying s = some ds) (hd : P.underlying d = some (.int k')) : (convert s d (.int k n)).run P w = .ok (.int k' (k'.wrap n)) w := by
  simp only [convert, Sem.run_bind, run_underlying_k hs, run_underlying_k hd, Result.andThen_ok]; rfl

theorem run_conv_str {P : Program} {s d : TypeId} {b : ByteArray} {ds : TypeDesc} (hs : P.underlying s = some ds) (hd : P.underlying d = some .string) : (convert s d (.string b)).run P w = .ok (.string b) w := by
  simp only [convert, Sem.run_bind, run_underlying_k hs, run_underlying_k hd, Result.andThen_ok]
  cases ds <;> rfl

def isU8 (P : Program) (e : TypeId) : Bool := match P.underlying e with | some (.int .u8) => true | _ => false
theorem isU8_some {P : Program} {e : TypeId} (h : isU8 P e = true) : P.underlying e = some (.int .u8) := by
  unfold isU8 at h; split at h
  · assumption
  · cases h

def convP (P : Program) (s d : TypeId) (ph : PH) (x : PV) : Option (PV × PH) :=
  match P.underlying s, P.underlying d, x with
  | some _, some (.int k'), .int _ n => some (.int k' (k'.wrap n), ph)
  | some _, some .string, .str r => some (.str r, ph)
  | some .string, some (.slice e), .str r => if isU8 P e = true then some (.sl ph.n 0 1 r.length none, ph.push (bytesPV r)) else none
  | some (.slice e), some .string, .sl p off 1 len _ => if isU8 P e = true then
      match ph.get p with
      | none => none
      | some cells => if off + len ≤ cells.length then (bytesOf (seg cells off len)).map fun r => (.str r, ph) else none
    else none
  | some (.slice e), some .string, .fsl 1 _ cells => if isU8 P e = true then (bytesOf cells).map fun r => (.str r, ph) else none
  | some (.slice e), some .string, .nilsl => if isU8 P e = true then some (.str [], ph) else none
  | some (.pointer t), some .unsafePointer, .ptr p o => match szP P t, ph.get p with
    | some sz, some cells => if sz ≠ 0 ∧ o < cells.length then some (.ptr p o, ph) else none
    | _, _ => none
  | some .unsafePointer, some (.pointer u), .ptr p o => match szP P u, ph.get p with
    | some sz, some cells => if sz ≠ 0 ∧ o = 0 ∧ sz ≤ cells.length ∧ ph.ty p = some u then some (.ptr p o, ph) else none
    | _, _ => none
  | _, _, _ => none

theorem kSl_of {P : Program} {t e : TypeId} (h : P.underlying t = some (.slice e)) : kSl P t = some e := by simp [kSl, h]

theorem liesAt_self {P : Program} {u : TypeId} {count : Nat} (hc : P.cellsOf u ≠ 0) (hn : 1 ≤ count) : liesAt P P.depth u count (0 + 0) u 1 = true := by
  have hd : P.depth = (2 * (P.types.size + Made.depth) + 1) + 1 := rfl
  rw [hd]
  simp only [liesAt, Bool.or_eq_true]
  left
  rw [hd]
  simp [rowAt, hc, hn, sameLayout]

theorem gives_conv (h : Rel X G ph w) {s d : TypeId} {p pv : PV} {x : Value} {ph' : PH} (hx : RV G p x) (hc : convP X.P s d ph p = some (pv, ph')) : Gives X G ((convert s d x).run X.P w) pv ph' := by
  unfold convP at hc
  split at hc
  · rename_i h1 h2; cases hc
    obtain rfl := hx.int_inv
    exact .pure h (run_conv_int h1 h2) (.int _ _)
  · rename_i h1 h2; cases hc
    obtain ⟨b, rfl, hb⟩ := hx.str_inv
    exact .pure h (run_conv_str h1 h2) (.str _ _ hb)
  · rename_i h1 h2
    split at hc
    · rename_i he; cases hc
      exact gives_bytes h hx h1 (kSl_of h2) (isU8_some he)
    · cases hc
  · rename_i h1 h2
    split at hc
    · rename_i he
      split at hc
      · cases hc
      · rename_i cells hp
        split at hc
        · rename_i hle
          simp only [Option.map_eq_some_iff] at hc
          obtain ⟨r, hr, hc⟩ := hc
          cases hc
          exact gives_str_sl h hx (kSl_of h1) (isU8_some he) h2 hp hle hr
        · cases hc
    · cases hc
  · rename_i h1 h2
    split at hc
    · rename_i he
      simp only [Option.map_eq_some_iff] at hc
      obtain ⟨r, hr, hc⟩ := hc
      cases hc
      exact gives_str_fsl h hx (kSl_of h1) (isU8_some he) h2 hr
    · cases hc
  · rename_i h1 h2
    split at hc
    · rename_i he; cases hc
      exact gives_str_nil h hx (kSl_of h1) (isU8_some he) h2
    · cases hc
  · rename_i t p o h1 h2
    split at hc
    · rename_i sz cells hsz hp
      split at hc
      · rename_i hcond; cases hc
        obtain ⟨j, hj, rfl⟩ := szP_some hsz
        obtain ⟨L, vals, cs, e, fz, hL, ow⟩ := h.own p cells hp
        cases hx with
        | ptr _ _ M hM =>
          rw [hL] at hM; cases hM
          refine .pure h (Go.Lib.run_to_unsafe (e := e) (cells := cs.size) w _ h1 h2 hj hcond.1 ?_ ?_) (.ptr p o _ hL)
          · simp only [World.shape?, ow.hb]
          · show L.o + o < cs.size
            have := ow.sz; have := ow.lt; have := ow.rv.length; omega
      · cases hc
    · cases hc
  · rename_i u p o h1 h2
    split at hc
    · rename_i sz cells hsz hp
      split at hc
      · rename_i hcond; cases hc
        obtain ⟨hs0, rfl, hle, hty⟩ := hcond
        obtain ⟨j, hj, rfl⟩ := szP_some hsz
        obtain ⟨L, vals, cs, e, fz, hL, ow⟩ := h.own p cells hp
        obtain ⟨L2, cs2, fz2, t1, t2, t3⟩ := h.ty p u hty
        rw [hL] at t1; cases t1
        rw [ow.hb] at t3; cases t3
        cases hx with
        | ptr _ _ M hM =>
          rw [hL] at hM; cases hM
          refine .pure h (Go.Lib.run_from_unsafe (e := u) (cells := cs.size) w _ h1 h2 hj ?_ ?_) (.ptr p 0 _ hL)
          · simp only [World.shape?, ow.hb]
          · show liesAt X.P X.P.depth u (cs.size / X.P.cellsOf u) (L.o + 0) u 1 = true
            rw [t2]
            refine liesAt_self (by unfold Program.cellsOf; rw [hj]; exact hs0) ?_
            have hcu : X.P.cellsOf u = j.size := by unfold Program.cellsOf; rw [hj]; rfl
            rw [hcu]
            have := ow.sz; have := ow.lt; have := ow.rv.length
            exact (Nat.le_div_iff_mul_le (by omega)).2 (by omega)
      · cases hc
    · cases hc
  · cases hc

/-! ### One operand -/
def unP (op : UnOp) : PV → Option PV
  | .int k n => match op with
    | .neg => some (.int k (k.wrap (0 - n)))
    | .xor => some (.int k (bitsP .xor k (if k.signed then -1 else k.max) n))
    | _ => none
  | .bool b => match op with
    | .not => some (.bool (!b))
    | _ => none
  | _ => none

theorem run_unP {P : Program} {op : UnOp} {p r : PV} {x : Value} (hx : RV G p x) (h : unP op p = some r) : ∃ v, (Op.unary op x).run P w = .ok v w ∧ RV G r v := by
  unfold unP at h
  split at h
  · obtain rfl := hx.int_inv
    split at h <;> cases h
    · exact ⟨_, rfl, .int _ _⟩
    · exact ⟨_, rfl, .int _ _⟩
  · obtain rfl := hx.bool_inv
    split at h <;> cases h
    exact ⟨_, rfl, .bool _⟩
  · cases h

/-! ### len, min, max -/
def lenP (P : Program) (t : TypeId) (x : PV) : Option PV :=
  match P.underlying t, x with
  | some .string, .str s => some (.int .i64 s.length)
  | some (.array n _), _ => some (.int .i64 n)
  | some (.slice _), .sl _ _ _ len _ => some (.int .i64 len)
  | some (.slice _), .fsl _ len _ => some (.int .i64 len)
  | some (.slice _), .nilsl => some (.int .i64 0)
  | some (.slice _), .zsl => some (.int .i64 0)
  | _, _ => none

theorem run_lenP {P : Program} {ts : Array TypeId} {t ty : TypeId} {p r : PV} {x : Value} (ht : ts[0]? = some t) (hx : RV G p x) (h : lenP P t p = some r) : ∃ v, (Builtin.len_ ts ty #[x]).run P w = .ok v w ∧ RV G r v := by
  unfold lenP at h
  split at h
  · rename_i s hu; cases h
    obtain ⟨b, rfl, hb⟩ := hx.str_inv
    refine ⟨.int .i64 b.size, by simp [Builtin.len_, ht, run_underlying_k hu, goInt], ?_⟩
    have : b.size = s.length := by rw [← hb]; rfl
    rw [this]; exact .int _ _
  · rename_i n e hu; cases h
    refine ⟨.int .i64 n, ?_, .int _ _⟩
    simp only [Builtin.len_, ht, List.getElem?_toArray, List.getElem?_cons_zero, Sem.run_bind, run_underlying_k hu, Result.andThen_ok]; rfl
  all_goals
    first
      | (rename_i hu; cases h; cases hx <;> first
          | (refine ⟨_, ?_, .int _ _⟩; simp only [Builtin.len_, ht, List.getElem?_toArray, List.getElem?_cons_zero, Sem.run_bind, run_underlying_k hu, Result.andThen_ok]; rfl))
      | cases h

def mmP (mx : Bool) : PV → PV → Option PV
  | .int k x, .int k' y => if k = k' then some (.int k (if mx then (if y > x then y else x) else (if y < x then y else x))) else none
  | _, _ => none

def mmsP (mx : Bool) : PV → List PV → Option PV
  | x, [] => some x
  | x, y :: r => (mmP mx x y).bind fun z => mmsP mx z r

theorem run_max {P : Program} : ∀ {ps : List PV} {vs : List Value} {p r : PV} {x : Value}, RVs G ps vs → RV G p x → mmsP true p ps = some r → ∃ v, (vs.foldlM Builtin.max2 x).run P w = .ok v w ∧ RV G r v
  | _, _, p, r, x, .nil, hx, h => by cases h; exact ⟨x, by simp, hx⟩
  | _, _, p, r, x, .cons q u qs us hq hs, hx, h => by
    simp only [mmsP, Option.bind_eq_some_iff] at h
    obtain ⟨z, hz, h⟩ := h
    unfold mmP at hz
    split at hz
    · rename_i k a k' b
      split at hz
      · rename_i hk; subst hk; cases hz
        obtain rfl := hx.int_inv; obtain rfl := hq.int_inv
        obtain ⟨v, e, hv⟩ := run_max (P := P) hs (RV.int (G := G) k (if b > a then b else a)) (by simpa using h)
        refine ⟨v, ?_, hv⟩
        simp only [List.foldlM_cons, Sem.run_bind, Builtin.max2, Sem.run_pure, Result.andThen_ok]; exact e
      · cases hz
    · cases hz

theorem run_min {P : Program} : ∀ {ps : List PV} {vs : List Value} {p r : PV} {x : Value}, RVs G ps vs → RV G p x → mmsP false p ps = some r → ∃ v, (vs.foldlM Builtin.min2 x).run P w = .ok v w ∧ RV G r v
  | _, _, p, r, x, .nil, hx, h => by cases h; exact ⟨x, by simp, hx⟩
  | _, _, p, r, x, .cons q u qs us hq hs, hx, h => by
    simp only [mmsP, Option.bind_eq_some_iff] at h
    obtain ⟨z, hz, h⟩ := h
    unfold mmP at hz
    split at hz
    · rename_i k a k' b
      split at hz
      · rename_i hk; subst hk; cases hz
        obtain rfl := hx.int_inv; obtain rfl := hq.int_inv
        obtain ⟨v, e, hv⟩ := run_min (P := P) hs (RV.int (G := G) k (if b < a then b else a)) (by simpa using h)
        refine ⟨v, ?_, hv⟩
        simp only [List.foldlM_cons, Sem.run_bind, Builtin.min2, Sem.run_pure, Result.andThen_ok]; exact e
      · cases hz
    · cases hz

end Pv
