/- Part of the proof: the layer of pure values, or walks through functions (PvOpsB). -/
import Derived.Test.YtjomgffpkdcanaaGreatPvMem
set_option linter.all false
namespace Pv
open Go Go.RowKit
variable {X : Ctx} {G : Ghost} {ph : PH} {w : World}

theorem not_arr_slice {P : Program} {t : TypeId} {d : TypeDesc} (h : P.underlying t = some d) (hd : ∀ n e, d ≠ .array n e) (x : Value) (lo hi mx : Option Value) :
    (Instr.sliceAt t x lo hi mx).run P w = (Instr.slice t x lo hi mx).run P w := by
  simp only [Instr.sliceAt, Sem.run_bind, run_underlying_k h, Result.andThen_ok]

theorem extract_toList (b : ByteArray) (l h : Nat) : (b.extract l h).data.toList = (b.data.toList.drop l).take (h - l) := by
  simp [ByteArray.data_extract, List.extract]

theorem gives_slice_str (h : Rel X G ph w) {t : TypeId} {s : List UInt8} {a : Value} {lo hi : Option PV} {rl rh : Option Value} {l u : Nat} (ha : RV G (.str s) a) (hl : RVo G lo rl) (hh : RVo G hi rh) (ht : kP X.P t = some .str)
    (hb : bndsP s.length s.length lo hi none = some (l, u, none)) : Gives X G ((Instr.sliceAt t a rl rh none).run X.P w) (.str ((s.drop l).take (u - l))) ph := by
  obtain ⟨b, rfl, hs⟩ := ha.str_inv
  obtain ⟨d, hd, hk⟩ := kP_some ht
  have hd' : d = .string := by cases d <;> simp_all [kOf]
  subst hd'
  have hsz : b.size = s.length := by rw [← hs]; rfl
  obtain ⟨e, -⟩ := bndsP_run (P := X.P) (w := w) (s := false) (rcap := b.size) (mx := none) (rm := none) hl hh trivial (by omega) (Nat.le_refl _) hb
  refine .pure h (v := .string (b.extract l u)) ?_ (.str _ _ ?_)
  · rw [not_arr_slice hd (by intros; simp)]
    rw [← hsz] at e
    simp [Instr.slice, run_underlying_k hd, e]
  · rw [extract_toList, hs]

/-- A slice of cells of the call's own. 'capw': how far it may be cut. -/
def capw (len : Nat) : Option Nat → Nat
  | none => len
  | some c => max len c

def capCut (m : Option Nat) (l : Nat) (cap : Option Nat) : Option Nat :=
  match m with
  | some m => some (m - l)
  | none => cap.map (· - l)

theorem gives_slice_sl (h : Rel X G ph w) {t e : TypeId} {p off esz len : Nat} {cap : Option Nat} {a : Value} {lo hi mx : Option PV} {rl rh rm : Option Value} {l u : Nat} {m : Option Nat} (ha : RV G (.sl p off esz len cap) a)
    (hl : RVo G lo rl) (hh : RVo G hi rh) (hm : RVo G mx rm) (ht : kSl X.P t = some e) (hs : szP X.P e = some esz) (hb : bndsP len (capw len cap) lo hi mx = some (l, u, m)) :
    Gives X G ((Instr.sliceAt t a rl rh rm).run X.P w) (.sl p (off + l * esz) esz (u - l) (capCut m l cap)) ph := by
  cases ha with
  | sl _ _ _ _ _ L a rcap hL h1 h2 h3 h4 =>
    have hcw : capw len cap ≤ rcap := by
      unfold capw; cases cap with
      | none => exact h1
      | some c => have := h3 c rfl; simp only; omega
    have hcl : len ≤ capw len cap := by unfold capw; cases cap <;> simp only <;> omega
    obtain ⟨e1, b1, b2, b3⟩ := bndsP_run (P := X.P) (w := w) (s := true) hl hh hm hcw hcl hb
    have hmr : m.getD rcap ≤ rcap := by cases m with | none => simp | some m => simp at b3 ⊢; omega
    have hur : u ≤ m.getD rcap := by cases m with | none => simp at b2 ⊢; omega | some m => simpa using b2
    refine .pure h (v := .slice (if m.getD rcap = l then some a else some (a.add (l * esz))) (u - l) (m.getD rcap - l)) ?_ ?_
    · rw [not_arr_slice (kSl_some ht) (by intros; simp)]
      simp [Instr.slice, run_underlying_k (kSl_some ht), e1, run_sizeOf_k hs]
    · have hlm : l ≤ m.getD rcap := by omega
      have e2 : (if m.getD rcap = l then some a else some (a.add (l * esz))) = some (if m.getD rcap = l then a else a.add (l * esz)) := by split <;> rfl
      rw [e2]
      refine .sl _ _ _ _ _ L _ _ hL (by omega) ?_ ?_ ?_
      · have : l * esz + (m.getD rcap - l) * esz ≤ rcap * esz := by rw [← Nat.add_mul]; exact Nat.mul_le_mul_right _ (by omega)
        omega
      · intro c hc
        unfold capCut at hc
        cases m with
        | some m => simp only [Option.getD_some]; cases hc; rfl
        | none =>
          simp only [Option.getD_none]
          cases cap with
          | none => cases hc
          | some c' => simp only [Option.map_some, Option.some.injEq] at hc; have := h3 c' rfl; omega
      · intro hp
        rw [if_neg (by omega), h4 (by omega), add_plain, Nat.add_assoc]

theorem gives_slice_fsl (h : Rel X G ph w) {t e : TypeId} {esz len : Nat} {cells : List PV} {a : Value} {lo hi : Option PV} {rl rh : Option Value} {l u : Nat} (ha : RV G (.fsl esz len cells) a)
    (hl : RVo G lo rl) (hh : RVo G hi rh) (ht : kSl X.P t = some e) (hs : szP X.P e = some esz) (hb : bndsP len len lo hi none = some (l, u, none)) :
    Gives X G ((Instr.sliceAt t a rl rh none).run X.P w) (.fsl esz (u - l) (seg cells (l * esz) ((u - l) * esz))) ph := by
  cases ha with
  | fsl _ _ _ vals a rcap hr h1 h2 h3 hf =>
    obtain ⟨e1, b1, b2, b3⟩ := bndsP_run (P := X.P) (w := w) (s := true) (mx := none) (rm := none) hl hh trivial h1 (Nat.le_refl _) hb
    simp only [Option.getD_none] at e1 b2 b3
    refine .pure h (v := .slice (if rcap = l then some a else some (a.add (l * esz))) (u - l) (rcap - l)) ?_ ?_
    · rw [not_arr_slice (kSl_some ht) (by intros; simp)]
      simp [Instr.slice, run_underlying_k (kSl_some ht), e1, run_sizeOf_k hs]
    · have e2 : (if rcap = l then some a else some (a.add (l * esz))) = some (if rcap = l then a else a.add (l * esz)) := by split <;> rfl
      rw [e2]
      have hlen : l * esz + (u - l) * esz ≤ cells.length := by
        rw [h2, ← Nat.add_mul]; exact Nat.mul_le_mul_right _ (by omega)
      refine .fsl _ _ _ ((vals.drop (l * esz)).take ((u - l) * esz)) _ _ ((hr.drop _).take _) (by omega) ?_ ?_ ?_
      · simp [seg]; omega
      · intro h0
        rw [if_neg (by omega)]
        have := h3 (by omega)
        unfold Addr.add; split <;> simp_all
      · intro j v hj
        have h0 : 0 < (u - l) * esz := by
          by_cases hz : (u - l) * esz = 0
          · rw [hz] at hj; simp at hj
          · omega
        have hul : 0 < u - l := Nat.pos_of_mul_pos_right h0
        rw [if_neg (by omega)]
        obtain ⟨b, o, sp⟩ := a
        have hsp : sp = none := h3 (by omega)
        subst hsp
        rw [add_plain]
        rw [List.getElem?_take] at hj
        split at hj
        · rw [List.getElem?_drop] at hj
          have := hf _ _ hj
          simpa [Nat.add_assoc] using this
        · cases hj
  | fslnil _ =>
    obtain ⟨e1, b1, b2, b3⟩ := bndsP_run (P := X.P) (w := w) (s := true) (rcap := 0) (mx := none) (rm := none) hl hh trivial (Nat.le_refl _) (Nat.le_refl _) hb
    simp only [Option.getD_none] at e1 b2 b3
    have hl0 : l = 0 := by omega
    have hu0 : u = 0 := by omega
    subst hl0; subst hu0
    refine .pure h (v := .slice none 0 0) ?_ ?_
    · rw [not_arr_slice (kSl_some ht) (by intros; simp)]
      simp [Instr.slice, run_underlying_k (kSl_some ht), e1, run_sizeOf_k hs]
    · simpa [seg] using RV.fslnil (G := G) esz

theorem gives_slice_fslM (h : Rel X G ph w) {t e : TypeId} {esz len : Nat} {cells : List PV} {a : Value} {lo hi mx : Option PV} {rl rh rm : Option Value} {l u : Nat} {m : Option Nat} (ha : RV G (.fsl esz len cells) a)
    (hl : RVo G lo rl) (hh : RVo G hi rh) (hm : RVo G mx rm) (ht : kSl X.P t = some e) (hs : szP X.P e = some esz) (hb : bndsP len len lo hi mx = some (l, u, m)) :
    Gives X G ((Instr.sliceAt t a rl rh rm).run X.P w) (.fsl esz (u - l) (seg cells (l * esz) ((u - l) * esz))) ph := by
  cases ha with
  | fsl _ _ _ vals a rcap hr h1 h2 h3 hf =>
    obtain ⟨e1, b1, b2, b3⟩ := bndsP_run (P := X.P) (w := w) (s := true) hl hh hm h1 (Nat.le_refl _) hb
    have hur : u ≤ m.getD rcap := by cases m with | none => simp at b2 ⊢; omega | some m => simpa using b2
    have hul' : u ≤ len := by omega
    refine .pure h (v := .slice (if m.getD rcap = l then some a else some (a.add (l * esz))) (u - l) (m.getD rcap - l)) ?_ ?_
    · rw [not_arr_slice (kSl_some ht) (by intros; simp)]
      simp [Instr.slice, run_underlying_k (kSl_some ht), e1, run_sizeOf_k hs]
    · have e2 : (if m.getD rcap = l then some a else some (a.add (l * esz))) = some (if m.getD rcap = l then a else a.add (l * esz)) := by split <;> rfl
      rw [e2]
      have hlen : l * esz + (u - l) * esz ≤ cells.length := by
        rw [h2, ← Nat.add_mul]; exact Nat.mul_le_mul_right _ (by omega)
      refine .fsl _ _ _ ((vals.drop (l * esz)).take ((u - l) * esz)) _ _ ((hr.drop _).take _) (by omega) ?_ ?_ ?_
      · simp [seg]; omega
      · intro h0
        rw [if_neg (by omega)]
        have := h3 (by omega)
        unfold Addr.add; split <;> simp_all
      · intro j v hj
        have h0 : 0 < (u - l) * esz := by
          by_cases hz : (u - l) * esz = 0
          · rw [hz] at hj; simp at hj
          · omega
        have hul : 0 < u - l := Nat.pos_of_mul_pos_right h0
        rw [if_neg (by omega)]
        obtain ⟨b, o, sp⟩ := a
        have hsp : sp = none := h3 (by omega)
        subst hsp
        rw [add_plain]
        rw [List.getElem?_take] at hj
        split at hj
        · rw [List.getElem?_drop] at hj
          have := hf _ _ hj
          simpa [Nat.add_assoc] using this
        · cases hj
  | fslnil _ =>
    obtain ⟨e1, b1, b2, b3⟩ := bndsP_run (P := X.P) (w := w) (s := true) (rcap := 0) hl hh hm (Nat.le_refl _) (Nat.le_refl _) hb
    have hm0 : m.getD 0 = 0 := by cases m with | none => rfl | some m => simp at b3 ⊢; omega
    rw [hm0] at b3 b2 e1
    have hl0 : l = 0 := by omega
    have hu0 : u = 0 := by omega
    subst hl0; subst hu0
    refine .pure h (v := .slice none 0 0) ?_ ?_
    · rw [not_arr_slice (kSl_some ht) (by intros; simp)]
      simp [Instr.slice, run_underlying_k (kSl_some ht), e1, run_sizeOf_k hs]
    · simpa [seg] using RV.fslnil (G := G) esz

/-- 's[:0:0]': nothing, with no room. -/
theorem gives_slice_zero (h : Rel X G ph w) {t e : TypeId} {esz len : Nat} {cells : List PV} {a : Value} {lo : Option PV} {rl rh rm : Option Value} {k k' : IntKind} (ha : RV G (.fsl esz len cells) a)
    (hl : lo = none ∨ ∃ k, lo = some (.int k 0)) (hl' : RVo G lo rl) (hh : RVo G (some (.int k 0)) rh) (hm : RVo G (some (.int k' 0)) rm) (ht : kSl X.P t = some e) (hs : szP X.P e = some esz) :
    Gives X G ((Instr.sliceAt t a rl rh rm).run X.P w) .zsl ph := by
  have hb : bndsP 0 0 lo (some (.int k 0)) (some (.int k' 0)) = some (0, 0, some 0) := by
    rcases hl with rfl | ⟨k, rfl⟩ <;> simp [bndsP, bndP]
  have key : ∀ (a : Option Addr) (len rcap : Nat), (Instr.slice t (.slice a len rcap) rl rh rm).run X.P w = .ok (.slice a 0 0) w := by
    intro a len rcap
    cases rh with
    | none => exact hh.elim
    | some vh =>
      cases rm with
      | none => exact hm.elim
      | some vm =>
        obtain rfl := RV.int_inv hh
        obtain rfl := RV.int_inv hm
        have e0 : ∀ (y : Nat) (c : BoundsCode) (k : IntKind), (Instr.sliceBound (.int k 0) y c).run X.P w = .ok 0 w := fun y c k => by simp [Instr.sliceBound, asIntOf]
        rcases hl with rfl | ⟨k2, rfl⟩
        · cases rl with
          | some _ => exact hl'.elim
          | none => simp [Instr.slice, run_underlying_k (kSl_some ht), Instr.sliceBounds, e0, run_sizeOf_k hs]
        · cases rl with
          | none => exact hl'.elim
          | some vl =>
            obtain rfl := RV.int_inv hl'
            simp [Instr.slice, run_underlying_k (kSl_some ht), Instr.sliceBounds, e0, run_sizeOf_k hs]
  cases ha with
  | fsl _ _ _ vals a rcap hr h1 h2 h3 hf => exact .pure h (by rw [not_arr_slice (kSl_some ht) (by intros; simp), key]) (.zsl _)
  | fslnil _ => exact .pure h (by rw [not_arr_slice (kSl_some ht) (by intros; simp), key]) (.zsl _)

/-- A cut of an array that lies in memory. -/
theorem gives_slice_arr (h : Rel X G ph w) {t e : TypeId} {p off n esz : Nat} {cells : List PV} {a : Value} {lo hi mx : Option PV} {rl rh rm : Option Value} {l u : Nat} {m : Option Nat} (ha : RV G (.ptr p off) a)
    (hl : RVo G lo rl) (hh : RVo G hi rh) (hm : RVo G mx rm) (ht : kArr X.P t = some (n, e)) (hs : szP X.P e = some esz) (hb : bndsP n n lo hi mx = some (l, u, m)) (hp : ph.get p = some cells) (hle : off + n * esz ≤ cells.length) :
    Gives X G ((Instr.sliceAt t a rl rh rm).run X.P w) (.sl p (off + l * esz) esz (u - l) (some (m.getD n - l))) ph := by
  obtain ⟨L', vals, cs, e', fz, hL', o⟩ := h.own p cells hp
  cases ha with
  | ptr _ _ L hL =>
    rw [hL] at hL'
    obtain rfl : L = L' := by simpa using hL'
    obtain ⟨e1, b1, b2, b3⟩ := bndsP_run (P := X.P) (w := w) (s := false) hl hh hm (Nat.le_refl n) (Nat.le_refl n) hb
    refine .pure h (v := .slice (some (if m.getD n = l then ⟨L.b, L.o + off, none⟩ else (⟨L.b, L.o + off, none⟩ : Addr).add (l * esz))) (u - l) (m.getD n - l)) ?_ ?_
    · simp [Instr.sliceAt, run_underlying_k (kArr_some ht), e1, run_sizeOf_k hs, Instr.sureAddr]
    · have : l * esz + (m.getD n - l) * esz ≤ n * esz := by rw [← Nat.add_mul]; exact Nat.mul_le_mul_right _ (by omega)
      refine .sl _ _ _ _ _ L _ _ hL (by omega) ?_ ?_ ?_
      · have := o.lt; have := o.rv.length; omega
      · intro c hc; cases hc; rfl
      · intro hp
        rw [if_neg (by omega), add_plain, Nat.add_assoc]

theorem gives_slice_farr (h : Rel X G ph w) {t e : TypeId} {n esz : Nat} {cells : List PV} {a : Value} {lo hi : Option PV} {rl rh : Option Value} {l u : Nat} (ha : RV G (.fptr cells) a)
    (hl : RVo G lo rl) (hh : RVo G hi rh) (ht : kArr X.P t = some (n, e)) (hs : szP X.P e = some esz) (hb : bndsP n n lo hi none = some (l, u, none)) (hle : n * esz ≤ cells.length) :
    Gives X G ((Instr.sliceAt t a rl rh none).run X.P w) (.fsl esz (u - l) (seg cells (l * esz) ((u - l) * esz))) ph := by
  cases ha with
  | fptr _ vals b o hr hf =>
    obtain ⟨e1, b1, b2, b3⟩ := bndsP_run (P := X.P) (w := w) (s := false) (mx := none) (rm := none) hl hh trivial (Nat.le_refl n) (Nat.le_refl n) hb
    simp only [Option.getD_none] at e1 b2 b3
    refine .pure h (v := .slice (some (if n = l then ⟨b, o, none⟩ else (⟨b, o, none⟩ : Addr).add (l * esz))) (u - l) (n - l)) ?_ ?_
    · simp [Instr.sliceAt, run_underlying_k (kArr_some ht), e1, run_sizeOf_k hs, Instr.sureAddr]
    · have hlen : l * esz + (u - l) * esz ≤ cells.length := by
        have : (l + (u - l)) * esz ≤ n * esz := Nat.mul_le_mul_right _ (by omega)
        rw [Nat.add_mul] at this; omega
      refine .fsl _ _ _ ((vals.drop (l * esz)).take ((u - l) * esz)) _ _ ((hr.drop _).take _) (by omega) ?_ ?_ ?_
      · simp [seg]; omega
      · intro h0; rw [if_neg (by omega), add_plain]
      · intro j v hj
        have h0 : 0 < (u - l) * esz := by
          by_cases hz : (u - l) * esz = 0
          · rw [hz] at hj; simp at hj
          · omega
        have hul : 0 < u - l := Nat.pos_of_mul_pos_right h0
        rw [if_neg (by omega), add_plain]
        rw [List.getElem?_take] at hj
        split at hj
        · rw [List.getElem?_drop] at hj
          have := hf _ _ hj
          simpa [Nat.add_assoc] using this
        · cases hj

/-! ### An array's address out of a slice -/
theorem gives_arrayAt (h : Rel X G ph w) {t e : TypeId} {p off esz len n : Nat} {cap : Option Nat} {a : Value} (ha : RV G (.sl p off esz len cap) a) (ht : kArr X.P t = some (n, e)) (hn : n ≤ len) (h0 : 0 < n) :
    Gives X G ((Instr.arrayAt t a).run X.P w) (.ptr p off) ph := by
  cases ha with
  | sl _ _ _ _ _ L a rcap hL h1 h2 h3 h4 =>
    obtain rfl := h4 (by omega)
    exact .pure h (by simp [Instr.arrayAt, run_underlying_k (kArr_some ht), show ¬ len < n by omega]) (.ptr _ _ _ hL)

theorem gives_arrayAt_f (h : Rel X G ph w) {t e : TypeId} {esz len n : Nat} {cells : List PV} {a : Value} (ha : RV G (.fsl esz len cells) a) (ht : kArr X.P t = some (n, e)) (hn : n ≤ len) (h0 : 0 < n) :
    Gives X G ((Instr.arrayAt t a).run X.P w) (.fptr cells) ph := by
  cases ha with
  | fsl _ _ _ vals a rcap hr h1 h2 h3 hf =>
    have hsp := h3 (by omega)
    obtain ⟨b, o, sp⟩ := a
    simp only at hsp hf; subst hsp
    exact .pure h (by simp [Instr.arrayAt, run_underlying_k (kArr_some ht), show ¬ len < n by omega]) (.fptr _ _ _ _ hr hf)
  | fslnil _ => omega

/-! ### Filling -/
def fillP (place : Nat → Option (Nat × Nat)) (cells : List PV) : List (Nat × PV) → Option (List PV)
  | [] => some cells
  | (i, v) :: rest =>
    match place i with
    | none => none
    | some (off, size) => if v.cells.length ≠ size ∨ off + v.cells.length > cells.length then none else fillP place (setL cells off v.cells) rest

inductive RParts (G : Ghost) : List (Nat × PV) → List (Nat × Value) → Prop
  | nil : RParts G [] []
  | cons (i : Nat) (p : PV) (v : Value) (ps : List (Nat × PV)) (vs : List (Nat × Value)) (h : RV G p v) (hs : RParts G ps vs) : RParts G ((i, p) :: ps) ((i, v) :: vs)

def setLV (cells : List Value) (off : Nat) : List Value → List Value
  | [] => cells
  | v :: vs => setLV (cells.set off v) (off + 1) vs

theorem RVs.setL {cells : List PV} {vals : List Value} (h : RVs G cells vals) : ∀ {ps : List PV} {us : List Value} (off : Nat), RVs G ps us → RVs G (Pv.setL cells off ps) (setLV vals off us)
  | _, _, _, .nil => h
  | _, _, off, .cons p u ps us hp hs => RVs.setL (h.set off hp) (off + 1) hs

theorem foldl_set (off : Nat) : ∀ (us : List Value) (k : Nat) (cs : Array Value), ((us.zipIdx k).foldl (fun cs (c, j) => cs.setIfInBounds (off + j) c) cs).toList = setLV cs.toList (off + k) us
  | [], _, _ => rfl
  | u :: us, k, cs => by
    simp only [List.zipIdx_cons, List.foldl_cons, setLV]
    rw [foldl_set off us (k + 1)]
    simp [Nat.add_assoc]

theorem fill_run {place : Nat → Option (Nat × Nat)} : ∀ {parts : List (Nat × PV)} {rparts : List (Nat × Value)} {cells cells' : List PV} {vals : Array Value}, RParts G parts rparts → (∀ x ∈ parts, x.2.cells.all cellOk = true) → RVs G cells vals.toList → fillP place cells parts = some cells' →
    ∃ vals' : Array Value, Instr.fill place vals rparts = some vals' ∧ RVs G cells' vals'.toList
  | _, _, cells, cells', vals, .nil, _, h, hf => by cases hf; exact ⟨vals, rfl, h⟩
  | _, _, cells, cells', vals, .cons i p v ps vs hp hs, hc, h, hf => by
    unfold fillP at hf
    split at hf
    · cases hf
    · rename_i off size hpl
      split at hf
      · cases hf
      · rename_i hcond
        have hpc := hp.cells (hc (i, p) (by simp))
        have hl := hpc.1.length
        have hcl := h.length
        simp only [Array.length_toList] at hl hcl
        have hcond' : ¬ (v.cells.size ≠ size ∨ off + v.cells.size > vals.size) := by rw [← hl, ← hcl]; exact hcond
        have h2 := h.setL off hpc.1
        have e : (v.cells.zipIdx.foldl (fun cs (c, j) => cs.setIfInBounds (off + j) c) vals).toList = setLV vals.toList off v.cells.toList := by
          rw [← Array.foldl_toList, Array.toList_zipIdx, foldl_set]; rfl
        obtain ⟨vals', h3, h4⟩ := fill_run (vals := v.cells.zipIdx.foldl (fun cs (c, j) => cs.setIfInBounds (off + j) c) vals) hs (fun x hx => hc x (List.mem_cons_of_mem _ hx)) (by rw [e]; exact h2) hf
        refine ⟨vals', ?_, h4⟩
        simp only [Instr.fill, hpl]
        rw [if_neg (by simpa using hcond')]
        exact h3

/-! ### Structs and arrays as values -/
/-- Where a struct's fields lie: offset and size, one by one. -/
def placesP (P : Program) (t : TypeId) : Option (List (Nat × Nat)) :=
  match P.underlying t with
  | some (.struct fs) => fs.toList.mapM fun f => (szP P f.type).map fun n => (f.offset, n)
  | _ => none

theorem mapM_run {P : Program} {α β : Type} (f : α → Sem β) (g : α → Option β) (hg : ∀ a b, g a = some b → (f a).run P w = .ok b w) : ∀ (l : List α) (l' : List β), l.mapM g = some l' → (l.mapM f).run P w = .ok l' w
  | [], l', h => by simp at h; subst h; simp
  | a :: l, l', h => by
    simp only [List.mapM_cons, Option.pure_def, Option.bind_eq_bind, Option.bind_eq_some_iff] at h
    obtain ⟨b, hb, l'', hl, h⟩ := h
    cases h
    simp [List.mapM_cons, hg a b hb, mapM_run f g hg l l'' hl]

theorem gives_build_st (h : Rel X G ph w) {t : TypeId} {pl : List (Nat × Nat)} {zs cells : List PV} {parts : List (Nat × PV)} {rparts : Array (Nat × Value)} (hz : zeroP X.P t = some (.agg zs)) (hp : placesP X.P t = some pl)
    (hr : RParts G parts rparts.toList) (hc : ∀ x ∈ parts, x.2.cells.all cellOk = true) (hf : fillP (pl[·]?) zs parts = some cells) : Gives X G ((Instr.build t rparts).run X.P w) (.agg cells) ph := by
  unfold placesP at hp
  split at hp
  · rename_i fs hu
    obtain ⟨z, ez, hz', hzc⟩ := run_zero_k (G := G) hz w
    obtain ⟨vals', h1, h2⟩ := fill_run (place := (pl[·]?)) hr hc (hz'.cells hzc).1 hf
    have em : (fs.mapM (fun f => do pure (f.offset, ← Go.sizeOf f.type) : Field → Sem (Nat × Nat))).run X.P w = .ok pl.toArray w := by
      rw [← Array.toArray_toList (xs := fs), List.mapM_toArray, Sem.run_map]
      rw [mapM_run (P := X.P) (w := w) _ (fun f => (szP X.P f.type).map fun n => (f.offset, n)) (fun a b hb => by
        simp only [Option.map_eq_some_iff] at hb
        obtain ⟨n, hn, rfl⟩ := hb
        simp [run_sizeOf_k hn]) _ _ hp]
      rfl
    refine .pure h (v := .agg vals') ?_ (by have := RV.agg _ _ h2; simpa using this)
    have h1' : Instr.fill (fun x => pl.toArray[x]?) z.cells rparts.toList = some vals' := by simpa using h1
    simp only [Instr.build, Sem.run_bind, ez, Result.andThen_ok, run_underlying_k hu, em, h1', Sem.run_pure]
  · cases hp

theorem gives_build_arr (h : Rel X G ph w) {t e : TypeId} {n sz : Nat} {zs cells : List PV} {parts : List (Nat × PV)} {rparts : Array (Nat × Value)} (hz : zeroP X.P t = some (.agg zs)) (ht : kArr X.P t = some (n, e)) (hs : szP X.P e = some sz)
    (hr : RParts G parts rparts.toList) (hc : ∀ x ∈ parts, x.2.cells.all cellOk = true) (hf : fillP (fun i => some (i * sz, sz)) zs parts = some cells) : Gives X G ((Instr.build t rparts).run X.P w) (.agg cells) ph := by
  obtain ⟨z, ez, hz', hzc⟩ := run_zero_k (G := G) hz w
  obtain ⟨vals', h1, h2⟩ := fill_run (place := fun i => some (i * sz, sz)) hr hc (hz'.cells hzc).1 hf
  refine .pure h (v := .agg vals') ?_ (by have := RV.agg _ _ h2; simpa using this)
  simp only [Instr.build, Sem.run_bind, ez, Result.andThen_ok, run_underlying_k (kArr_some ht), run_sizeOf_k hs, h1, Sem.run_pure]

/-- n times a zero value's cells. -/
def reps (n : Nat) (zs : List PV) : List PV := (List.replicate n zs).flatten
def repsV (n : Nat) (zs : List Value) : List Value := (List.replicate n zs).flatten

theorem RVs.reps {zs : List PV} {us : List Value} (h : RVs G zs us) (n : Nat) : RVs G (Pv.reps n zs) (repsV n us) := by
  induction n with
  | zero => exact .nil
  | succ n ih => simp only [Pv.reps, repsV, List.replicate_succ, List.flatten_cons]; exact h.append ih

theorem range_mod (us : List Value) (n : Nat) (hu : us ≠ [] ∨ n = 0) : (Array.range (n * us.length)).map (fun i => us.toArray[i % us.toArray.size]!) = (repsV n us).toArray := by
  apply Array.toList_inj.1
  simp only [Array.toList_map, Array.toList_range, List.size_toArray]
  apply List.ext_getElem?
  intro i
  have hlen : (repsV n us).length = n * us.length := by simp [repsV, List.length_flatten]
  by_cases hi : i < n * us.length
  · have h0 : 0 < us.length := by
      rcases hu with h | h
      · exact List.length_pos_iff.2 h
      · subst h; simp at hi
    have hm : i % us.length < us.length := Nat.mod_lt _ h0
    rw [List.getElem?_map, List.getElem?_range hi]
    simp only [Option.map_some]
    have key : ∀ (n i : Nat), i < n * us.length → (repsV n us)[i]? = us[i % us.length]? := by
      intro n
      induction n with
      | zero => intro i hi; simp at hi
      | succ n ih =>
        intro i hi
        simp only [repsV, List.replicate_succ, List.flatten_cons]
        by_cases h1 : i < us.length
        · rw [List.getElem?_append_left h1, Nat.mod_eq_of_lt h1]
        · have hs : (n + 1) * us.length = n * us.length + us.length := Nat.succ_mul _ _
          rw [List.getElem?_append_right (by omega)]
          have := ih (i - us.length) (by omega)
          simp only [repsV] at this
          rw [this, ← Nat.mod_eq_sub_mod (by omega)]
    rw [key n i hi, List.getElem?_eq_getElem hm]
    simp [hm]
  · rw [List.getElem?_eq_none (by simp; omega), List.getElem?_eq_none (by simp only [List.toList_toArray, hlen]; omega)]

theorem fillP_ok : ∀ {place : Nat → Option (Nat × Nat)} {parts : List (Nat × PV)} {cells cells' : List PV}, cells.all cellOk = true → (∀ x ∈ parts, x.2.cells.all cellOk = true) → fillP place cells parts = some cells' → cells'.all cellOk = true
  | _, [], _, _, h, _, hf => by cases hf; exact h
  | place, (i, v) :: rest, cells, cells', h, hc, hf => by
    unfold fillP at hf
    split at hf
    · cases hf
    · split at hf
      · cases hf
      · refine fillP_ok ?_ (fun x hx => hc x (List.mem_cons_of_mem _ hx)) hf
        have hv := hc (i, v) (by simp)
        revert hv
        generalize v.cells = vs
        rename_i off _ hpl hno
        clear hf hpl hno
        induction vs generalizing cells off with
        | nil => intro _; exact h
        | cons u us ih =>
          intro hv
          simp only [List.all_cons, Bool.and_eq_true] at hv
          refine ih (cells := cells.set off u) ?_ (off + 1) hv.2
          rw [List.all_eq_true] at h ⊢
          intro x hx
          rcases List.mem_or_eq_of_mem_set hx with h1 | h1
          · exact h x h1
          · subst h1; exact hv.1

theorem reps_ok {zs : List PV} (h : zs.all cellOk = true) (n : Nat) : (reps n zs).all cellOk = true := by
  rw [List.all_eq_true] at h ⊢
  intro x hx
  simp only [reps, List.mem_flatten, List.mem_replicate] at hx
  obtain ⟨l, ⟨-, rfl⟩, hx⟩ := hx
  exact h x hx

theorem gives_buildSlice (h : Rel X G ph w) {t e : TypeId} {len sz : Nat} {z : PV} {cells : List PV} {parts : List (Nat × PV)} {rparts : Array (Nat × Value)} (ht : kSl X.P t = some e) (hs : szP X.P e = some sz) (hz : zeroP X.P e = some z) (hzl : z.cells.length = sz)
    (h0 : 0 < sz) (hlim : len * sz ≤ 2 ^ 24) (hr : RParts G parts rparts.toList) (hc : ∀ x ∈ parts, x.2.cells.all cellOk = true) (hf : fillP (fun i => some (i * sz, sz)) (reps len z.cells) parts = some cells) :
    Gives X G ((Instr.buildSlice t len rparts).run X.P w) (.sl ph.n 0 sz len (some len)) (ph.push cells) := by
  obtain ⟨v, ez, hz', hzc⟩ := run_zero_k (G := G) hz w
  have hvc := hz'.cells hzc
  have hvl : v.cells.size = sz := by rw [← hzl, hvc.1.length]; simp
  have hrep : RVs G (reps len z.cells) ((repsV len v.cells.toList).toArray).toList := by simpa using hvc.1.reps len
  obtain ⟨vals', h1, h2⟩ := fill_run (place := fun i => some (i * sz, sz)) hr hc hrep hf
  have hok := fillP_ok (reps_ok hzc len) hc hf
  obtain ⟨w', G', e1, -, hle, hrel, hl⟩ := gives_new (e := e) (cs := vals') (extra := []) h h2 (h2.ones hok) (by simp)
  have hcl : cells.length = len * sz := by
    have : ∀ (parts : List (Nat × PV)) (cs cs' : List PV), fillP (fun i => some (i * sz, sz)) cs parts = some cs' → cs'.length = cs.length := by
      intro parts
      induction parts with
      | nil => intro cs cs' hf; cases hf; rfl
      | cons x xs ih =>
        intro cs cs' hf
        unfold fillP at hf
        simp only at hf
        split at hf
        · cases hf
        · rw [ih _ _ hf]; simp
    rw [this _ _ _ hf]; simp [reps, List.length_flatten, hzl]
  refine ⟨_, w', G', ?_, hle, hrel, .sl ph.n 0 sz len (some len) _ ⟨w.heap.size, 0, none⟩ len hl (Nat.le_refl _) ?_ (fun c hc => by cases hc; rfl) (fun _ => rfl)⟩
  · have hrange : (Array.range (len * sz)).map (fun i => v.cells[i % v.cells.size]!) = (repsV len v.cells.toList).toArray := by
      have := range_mod v.cells.toList len (.inl (by intro hn; have : v.cells.size = 0 := by rw [← Array.length_toList, hn]; rfl
                                                     omega))
      simpa [hvl] using this
    simp only [Instr.buildSlice, Sem.run_bind, run_underlying_k (kSl_some ht), Result.andThen_ok, run_sizeOf_k hs, if_neg (show ¬ len * sz > 2 ^ 24 by omega), Sem.run_pure]
    by_cases hz0 : len * sz = 0
    · have hl0 : len = 0 := by rcases Nat.mul_eq_zero.1 hz0 with h | h <;> omega
      subst hl0
      have e2 : (Array.range (0 * sz)).map (fun i => (#[] : Array Value)[i % (#[] : Array Value).size]!) = (repsV 0 v.cells.toList).toArray := by simp [repsV]
      rw [if_pos (Nat.zero_mul sz), Sem.run_bind, Sem.run_pure, Result.andThen_ok, e2, h1]
      simp [e1]
    · simp only [if_neg hz0, Sem.run_bind, ez, Result.andThen_ok, Sem.run_pure, hrange, h1]
      simp [e1]
  · simp only [Nat.zero_add]
    have : vals'.size = cells.length := by rw [h2.length]; simp
    omega

theorem wrap_i64 {n : Int} (h1 : -9223372036854775808 ≤ n) (h2 : n ≤ 9223372036854775807) : IntKind.wrap .i64 n = n := by
  show (if (true && decide (n % 2 ^ 64 ≥ 2 ^ 63)) = true then n % 2 ^ 64 - 2 ^ 64 else n % 2 ^ 64) = n
  simp only [Bool.true_and, decide_eq_true_eq, ge_iff_le]
  split
  · rename_i h; omega
  · rename_i h; omega

theorem gives_makeSlice (h : Rel X G ph w) {t e : TypeId} {len cap sz by_ : Nat} {k k' : IntKind} {z : PV} {a b : Value} (ht : kSl X.P t = some e) (hs : szP X.P e = some sz) (hby : byP X.P e = some by_) (hz : zeroP X.P e = some z) (hzl : z.cells.length = sz) (h0 : 0 < sz)
    (ha : RV G (.int k len) a) (hb : RV G (.int k' cap) b) (hlc : len ≤ cap) (hlim : by_ * cap ≤ 2 ^ 48) (hcap : cap < 2 ^ 62) : Gives X G ((Instr.makeSlice t a b).run X.P w) (.sl ph.n 0 sz len (some cap)) (ph.push (reps cap z.cells)) := by
  obtain rfl := ha.int_inv
  obtain rfl := hb.int_inv
  obtain ⟨v, ez, hz', hzc⟩ := run_zero_k (G := G) hz w
  obtain ⟨i, hi, hib⟩ := byP_some hby
  have hvc := hz'.cells hzc
  have hvl : v.cells.size = sz := by rw [← hzl, hvc.1.length]; simp
  have hrep : RVs G (reps cap z.cells) (repsV cap v.cells.toList) := hvc.1.reps cap
  obtain ⟨w', G', e1, -, hle, hrel, hl⟩ := gives_new (e := e) (cs := (repsV cap v.cells.toList).toArray) (extra := []) h hrep (hrep.ones (reps_ok hzc cap)) (by simp)
  have w1 : ∀ n : Nat, n < 2 ^ 62 → IntKind.i64.wrap (n : Int) = n := fun n hn => wrap_i64 (by omega) (by omega)
  refine ⟨_, w', G', ?_, hle, hrel, .sl ph.n 0 sz len (some cap) _ ⟨w.heap.size, 0, none⟩ cap hl hlc ?_ (fun c hc => by cases hc; rfl) (fun _ => rfl)⟩
  · have hrange : (Array.range (cap * sz)).map (fun i => v.cells[i % v.cells.size]!) = (repsV cap v.cells.toList).toArray := by
      have := range_mod v.cells.toList cap (.inl (by intro hn; have : v.cells.size = 0 := by rw [← Array.length_toList, hn]; rfl
                                                     omega))
      simpa [hvl] using this
    have c1 : ¬ ((i.bytes : Int) * (cap : Int) > 2 ^ 48) := by
      rw [hib]; have : ((by_ * cap : Nat) : Int) ≤ ((2 ^ 48 : Nat) : Int) := Int.ofNat_le.2 hlim
      simp only [Int.natCast_mul] at this; omega
    simp only [Instr.makeSlice, Sem.run_bind, run_underlying_k (kSl_some ht), Result.andThen_ok, asInt, asIntOf, Sem.run_pure, run_typeInfo_k hi, w1 cap hcap, w1 len (by omega)]
    have c2 : (decide ((cap : Int) < 0) || decide ((i.bytes : Int) * (cap : Int) > 2 ^ 48)) = false := by
      simp only [Bool.or_eq_false_iff, decide_eq_false_iff_not]; exact ⟨by omega, c1⟩
    have c3 : ¬ ((len : Int) < 0) := by omega
    have c4 : ¬ ((len : Int) > (cap : Int)) := by omega
    simp only [c2, c3, c4, decide_false, Bool.or_false, Bool.false_eq_true, if_false, run_askRoom, Result.andThen_ok, Int.toNat_natCast, run_sizeOf_k hs, Sem.run_bind]
    by_cases hz0 : cap * sz = 0
    · have hl0 : cap = 0 := by rcases Nat.mul_eq_zero.1 hz0 with h | h <;> omega
      subst hl0
      have e2 : (Array.range (0 * sz)).map (fun i => (#[] : Array Value)[i % (#[] : Array Value).size]!) = (repsV 0 v.cells.toList).toArray := by simp [repsV]
      rw [if_pos (Nat.zero_mul sz)]
      simp only [Sem.run_bind, Sem.run_pure, Result.andThen_ok, e2]
      simp [e1]
    · simp only [if_neg hz0, Sem.run_bind, ez, Result.andThen_ok, Sem.run_pure, hrange]
      simp [e1]
  · simp only [Nat.zero_add]
    have : (repsV cap v.cells.toList).length = cap * sz := by simp [repsV, List.length_flatten, hvl]
    simp [this]

end Pv
