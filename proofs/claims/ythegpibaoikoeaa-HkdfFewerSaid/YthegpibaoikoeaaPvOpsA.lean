/- Part of the proof: the layer of pure values, or a walk through a function (PvOpsA). -/
import Derived.Test.YthegpibaoikoeaaPvMem
set_option linter.all false
namespace Pv
open Go Go.RowKit
variable {X : Ctx} {G : Ghost} {ph : PH} {w : World}

theorem RV.int_inv {k : IntKind} {n : Int} {v : Value} (h : RV G (.int k n) v) : v = .int k n := by cases h; rfl
theorem RV.bool_inv {b : Bool} {v : Value} (h : RV G (.bool b) v) : v = .bool b := by cases h; rfl
theorem RV.str_inv {s : List UInt8} {v : Value} (h : RV G (.str s) v) : ∃ t : ByteArray, v = .string t ∧ t.data.toList = s := by cases h; exact ⟨_, rfl, ‹_›⟩

/-! ### Fields -/
theorem fldP_some {P : Program} {t : TypeId} {f o : Nat} {ft : TypeId} (h : fldP P t f = some (o, ft)) :
    ∃ fs x i, P.underlying t = some (.struct fs) ∧ fs[f]? = some x ∧ x.offset = o ∧ x.type = ft ∧ P.info? ft = some i ∧ i.size ≠ 0 := by
  unfold fldP at h
  split at h
  · rename_i fs hu
    simp only [Option.bind_eq_some_iff] at h
    obtain ⟨x, hx, i, hi, h⟩ := h
    split at h
    · cases h
    · rename_i hs
      cases h
      exact ⟨fs, x, i, hu, hx, rfl, rfl, hi, hs⟩
  · cases h

theorem run_fieldAt {P : Program} {t : TypeId} {f o : Nat} {ft : TypeId} (h : fldP P t f = some (o, ft)) (b k : Nat) :
    (Instr.fieldAt t (.pointer (some ⟨b, k, none⟩)) f).run P w = .ok (.pointer (some ⟨b, k + o, none⟩)) w := by
  obtain ⟨fs, x, i, hu, hx, rfl, rfl, hi, hs⟩ := fldP_some h
  simp [Instr.fieldAt, run_underlying_k hu, hx, Instr.sureAddr, fieldPlace, Go.sizeOf, run_typeInfo_k hi, hs, add_plain]

theorem gives_fieldAddr (h : Rel X G ph w) {t : TypeId} {f o p off : Nat} {ft : TypeId} {a : Value} (ha : RV G (.ptr p off) a) (hf : fldP X.P t f = some (o, ft)) :
    Gives X G ((Instr.fieldAt t a f).run X.P w) (.ptr p (off + o)) ph := by
  cases ha with
  | ptr _ _ L hL => exact .pure h (run_fieldAt hf _ _) (by rw [Nat.add_assoc]; exact .ptr _ _ _ hL)

theorem RV.fptr_drop {cells : List PV} {vals : List Value} {b o : Nat} (hr : RVs G cells vals) (hf : ∀ (j : Nat) (v : Value), vals[j]? = some v → G.f ⟨b, o + j, none⟩ = some v) (n : Nat) :
    RV G (.fptr (cells.drop n)) (.pointer (some ⟨b, o + n, none⟩)) :=
  .fptr _ _ _ _ (hr.drop n) fun j v hj => by rw [List.getElem?_drop] at hj; rw [Nat.add_assoc]; exact hf _ _ hj

theorem gives_fieldAddr_f (h : Rel X G ph w) {t : TypeId} {f o : Nat} {cells : List PV} {ft : TypeId} {a : Value} (ha : RV G (.fptr cells) a) (hf : fldP X.P t f = some (o, ft)) :
    Gives X G ((Instr.fieldAt t a f).run X.P w) (.fptr (cells.drop o)) ph := by
  cases ha with
  | fptr _ vals b k hr hv => exact .pure h (run_fieldAt hf _ _) (.fptr_drop hr hv o)

/-- A part of an aggregate. -/
theorem run_part {P : Program} {t : TypeId} {cells : List PV} {vals : List Value} {off : Nat} {pv : PV} (hr : RVs G cells vals) (h : loadP P t cells off = some pv) :
    ∃ v, (part t vals.toArray off).run P w = .ok v w ∧ RV G pv v := by
  unfold loadP at h
  split at h
  · cases h
  · rename_i k hk
    split at h
    · rename_i ha
      split at h
      · cases h
      · rename_i n hn
        split at h
        · rename_i hle
          cases h
          refine ⟨.agg ((vals.drop off).take n).toArray, ?_, .agg _ _ ((hr.drop off).take n)⟩
          simp only [part, Sem.run_bind, run_isAgg_k hk, Result.andThen_ok, ha, if_true, run_sizeOf_k hn, Sem.run_pure]
          congr 2
          apply Array.toList_inj.1
          simp [List.extract]
        · cases h
    · rename_i ha
      obtain ⟨v, hv, hrv⟩ := hr.get off pv h
      refine ⟨v, ?_, hrv⟩
      have ha : k.agg = false := by simpa using ha
      simp [part, run_isAgg_k hk, ha, hv]

theorem gives_field (h : Rel X G ph w) {t : TypeId} {f o : Nat} {cells : List PV} {ft : TypeId} {a : Value} {pv : PV} (ha : RV G (.agg cells) a) (hf : fldP X.P t f = some (o, ft)) (hl : loadP X.P ft cells o = some pv) :
    Gives X G ((Instr.field t a f).run X.P w) pv ph := by
  cases ha with
  | agg _ vals hr =>
    obtain ⟨fs, x, i, hu, hx, rfl, rfl, hi, hs⟩ := fldP_some hf
    obtain ⟨v, e, hv⟩ := run_part (w := w) hr hl
    exact .pure h (by simp [Instr.field, run_underlying_k hu, hx, asAgg, e]) hv

/-! ### Indices -/
def kArr (P : Program) (t : TypeId) : Option (Nat × TypeId) := match P.underlying t with | some (.array n e) => some (n, e) | _ => none
def kSl (P : Program) (t : TypeId) : Option TypeId := match P.underlying t with | some (.slice e) => some e | _ => none
theorem kArr_some {P : Program} {t : TypeId} {n : Nat} {e : TypeId} (h : kArr P t = some (n, e)) : P.underlying t = some (.array n e) := by
  unfold kArr at h; split at h
  · rename_i hu; cases h; exact hu
  · cases h
theorem kSl_some {P : Program} {t : TypeId} {e : TypeId} (h : kSl P t = some e) : P.underlying t = some (.slice e) := by
  unfold kSl at h; split at h
  · rename_i hu; cases h; exact hu
  · cases h

theorem gives_index_arr (h : Rel X G ph w) {t e : TypeId} {n sz : Nat} {k : IntKind} {i : Int} {cells : List PV} {a x : Value} {pv : PV} (ha : RV G (.agg cells) a) (hx : RV G (.int k i) x) (ht : kArr X.P t = some (n, e)) (hs : szP X.P e = some sz)
    (h0 : 0 ≤ i) (h1 : i < n) (hl : loadP X.P e cells (i.toNat * sz) = some pv) : Gives X G ((Instr.index t a x).run X.P w) pv ph := by
  obtain rfl := hx.int_inv
  cases ha with
  | agg _ vals hr =>
    obtain ⟨v, ev, hv⟩ := run_part (w := w) hr hl
    exact .pure h (by simp [Instr.index, asIntOf, run_underlying_k (kArr_some ht), h0, h1, run_sizeOf_k hs, ev]) hv

theorem gives_index_str (h : Rel X G ph w) {t : TypeId} {k : IntKind} {i : Int} {s : List UInt8} {c : UInt8} {a x : Value} (ha : RV G (.str s) a) (hx : RV G (.int k i) x) (ht : kP X.P t = some .str) (h0 : 0 ≤ i) (hc : s[i.toNat]? = some c) :
    Gives X G ((Instr.index t a x).run X.P w) (.int .u8 c.toNat) ph := by
  obtain rfl := hx.int_inv
  obtain ⟨b, rfl, hb⟩ := ha.str_inv
  obtain ⟨d, hd, hk⟩ := kP_some ht
  have hd' : d = .string := by cases d <;> simp_all [kOf]
  subst hd'
  have hlt : i.toNat < b.data.size := by rw [← Array.length_toList, hb]; exact (List.getElem?_eq_some_iff.1 hc).1
  have e : b[i.toNat]? = some c := by
    have e1 : b[i.toNat]? = some b[i.toNat] := getElem?_pos b i.toNat hlt
    rw [e1]
    have e2 : b.data.toList[i.toNat]? = some c := by rw [hb]; exact hc
    rw [Array.getElem?_toList, Array.getElem?_eq_getElem hlt] at e2
    exact e2
  exact .pure h (by simp [Instr.index, asIntOf, run_underlying_k hd, h0, e]) (.int _ _)

theorem run_indexAt_sl {P : Program} {t e : TypeId} {sz len rcap : Nat} {k : IntKind} {i : Int} {b o : Nat} (ht : kSl P t = some e) (hs : szP P e = some sz) (h0 : 0 ≤ i) (h1 : i < len) :
    (Instr.indexAt t (.slice (some ⟨b, o, none⟩) len rcap) (.int k i)).run P w = .ok (.pointer (some ⟨b, o + i.toNat * sz, none⟩)) w := by
  simp [Instr.indexAt, asIntOf, run_underlying_k (kSl_some ht), h0, h1, run_sizeOf_k hs, add_plain]

theorem gives_indexAddr_sl (h : Rel X G ph w) {t e : TypeId} {p off esz len : Nat} {cap : Option Nat} {k : IntKind} {i : Int} {a x : Value} (ha : RV G (.sl p off esz len cap) a) (hx : RV G (.int k i) x) (ht : kSl X.P t = some e) (hs : szP X.P e = some esz)
    (h0 : 0 ≤ i) (h1 : i < len) : Gives X G ((Instr.indexAt t a x).run X.P w) (.ptr p (off + i.toNat * esz)) ph := by
  obtain rfl := hx.int_inv
  cases ha with
  | sl _ _ _ _ _ L a rcap hL h2 h3 h4 h5 =>
    obtain rfl := h5 (by omega)
    exact .pure h (run_indexAt_sl ht hs h0 h1) (by rw [Nat.add_assoc]; exact .ptr _ _ _ hL)

theorem gives_indexAddr_fsl (h : Rel X G ph w) {t e : TypeId} {esz len : Nat} {cells : List PV} {k : IntKind} {i : Int} {a x : Value} (ha : RV G (.fsl esz len cells) a) (hx : RV G (.int k i) x) (ht : kSl X.P t = some e) (hs : szP X.P e = some esz)
    (h0 : 0 ≤ i) (h1 : i < len) : Gives X G ((Instr.indexAt t a x).run X.P w) (.fptr (cells.drop (i.toNat * esz))) ph := by
  obtain rfl := hx.int_inv
  cases ha with
  | fsl _ _ _ vals a rcap hr h2 h3 h4 hf =>
    have hsp := h4 (by omega)
    obtain ⟨b, o, sp⟩ := a
    simp only at hsp hf; subst hsp
    exact .pure h (run_indexAt_sl ht hs h0 h1) (.fptr_drop hr hf _)
  | fslnil _ => simp only [Int.natCast_zero] at h1; omega

theorem run_indexAt_arr {P : Program} {t e : TypeId} {n sz : Nat} {k : IntKind} {i : Int} {b o : Nat} (ht : kArr P t = some (n, e)) (hs : szP P e = some sz) (h0 : 0 ≤ i) (h1 : i < n) :
    (Instr.indexAt t (.pointer (some ⟨b, o, none⟩)) (.int k i)).run P w = .ok (.pointer (some ⟨b, o + i.toNat * sz, none⟩)) w := by
  simp [Instr.indexAt, asIntOf, run_underlying_k (kArr_some ht), h0, h1, run_sizeOf_k hs, add_plain, Instr.sureAddr]

theorem gives_indexAddr_arr (h : Rel X G ph w) {t e : TypeId} {p off n sz : Nat} {k : IntKind} {i : Int} {a x : Value} (ha : RV G (.ptr p off) a) (hx : RV G (.int k i) x) (ht : kArr X.P t = some (n, e)) (hs : szP X.P e = some sz)
    (h0 : 0 ≤ i) (h1 : i < n) : Gives X G ((Instr.indexAt t a x).run X.P w) (.ptr p (off + i.toNat * sz)) ph := by
  obtain rfl := hx.int_inv
  cases ha with
  | ptr _ _ L hL => exact .pure h (run_indexAt_arr ht hs h0 h1) (by rw [Nat.add_assoc]; exact .ptr _ _ _ hL)

theorem gives_indexAddr_farr (h : Rel X G ph w) {t e : TypeId} {n sz : Nat} {cells : List PV} {k : IntKind} {i : Int} {a x : Value} (ha : RV G (.fptr cells) a) (hx : RV G (.int k i) x) (ht : kArr X.P t = some (n, e)) (hs : szP X.P e = some sz)
    (h0 : 0 ≤ i) (h1 : i < n) : Gives X G ((Instr.indexAt t a x).run X.P w) (.fptr (cells.drop (i.toNat * sz))) ph := by
  obtain rfl := hx.int_inv
  cases ha with
  | fptr _ vals b o hr hf => exact .pure h (run_indexAt_arr ht hs h0 h1) (.fptr_drop hr hf _)

/-! ### Slicing -/
/-- What a bound says: none, or a number within. -/
def bndP (d : Nat) (top : Nat) : Option PV → Option Nat
  | none => some d
  | some (.int _ i) => if 0 ≤ i ∧ i ≤ top then some i.toNat else none
  | some _ => none

theorem run_bound {P : Program} {k : IntKind} {i : Int} {y : Nat} {c : BoundsCode} (h : 0 ≤ i ∧ i ≤ y) : (Instr.sliceBound (.int k i) y c).run P w = .ok i.toNat w := by
  simp [Instr.sliceBound, asIntOf, h]

/-- An optional operand. -/
def RVo (G : Ghost) : Option PV → Option Value → Prop
  | none, none => True
  | some p, some v => RV G p v
  | _, _ => False

theorem bndP_run {P : Program} {d y : Nat} {o : Option PV} {ro : Option Value} {n : Nat} {c : BoundsCode} (hr : RVo G o ro) (h : bndP d y o = some n) :
    (match ro with | some v => Instr.sliceBound v y c | none => pure d : Sem Nat).run P w = .ok n w := by
  cases o with
  | none => cases ro with
    | none => cases h; rfl
    | some v => exact hr.elim
  | some p => cases ro with
    | none => exact hr.elim
    | some v =>
      unfold bndP at h
      split at h
      · rename_i h0; cases h0
      · rename_i k i h0; cases h0
        obtain rfl := RV.int_inv hr
        split at h
        · rename_i hb; cases h; exact run_bound hb
        · cases h
      · cases h

/-- low, high, max of a slicing; cap' is what high may come up to where no max stands. -/
def bndsP (len capw : Nat) (lo hi mx : Option PV) : Option (Nat × Nat × Option Nat) :=
  match mx with
  | none => (bndP len capw hi).bind fun h => (bndP 0 h lo).bind fun l => some (l, h, none)
  | some m => (bndP capw capw (some m)).bind fun m => (match hi with | none => none | some _ => bndP len m hi).bind fun h => (bndP 0 h lo).bind fun l => some (l, h, some m)

theorem bndsP_run {P : Program} {s : Bool} {len capw rcap : Nat} {lo hi mx : Option PV} {rl rh rm : Option Value} {l h : Nat} {m : Option Nat} (hl : RVo G lo rl) (hh : RVo G hi rh) (hm : RVo G mx rm) (hc : capw ≤ rcap) (hlen : len ≤ capw)
    (hb : bndsP len capw lo hi mx = some (l, h, m)) : (Instr.sliceBounds s len rcap rl rh rm).run P w = .ok (l, h, m.getD rcap) w ∧ l ≤ h ∧ h ≤ m.getD capw ∧ m.getD capw ≤ capw := by
  have key : ∀ {d y y' : Nat} {o : Option PV} {n : Nat}, y ≤ y' → bndP d y o = some n → bndP d y' o = some n := by
    intro d y y' o n hy h
    unfold bndP at h ⊢
    split at h
    · exact h
    · split at h
      · rename_i hb; cases h; rw [if_pos ⟨hb.1, by omega⟩]
      · cases h
    · cases h
  have bnd : ∀ {d y : Nat} {o : Option PV} {n : Nat}, d ≤ y → bndP d y o = some n → n ≤ y := by
    intro d y o n hd h
    unfold bndP at h
    split at h
    · cases h; exact hd
    · split at h
      · rename_i hb; cases h; omega
      · cases h
    · cases h
  unfold bndsP at hb
  cases mx with
  | none =>
    cases rm with
    | some _ => exact hm.elim
    | none =>
      simp only [Option.bind_eq_some_iff] at hb
      obtain ⟨h', hh', l', hl', e⟩ := hb
      cases e
      have e1 := bndP_run (P := P) (w := w) (c := if s then .sliceAcap else .sliceAlen) hh (key hc hh')
      have e2 := bndP_run (P := P) (w := w) (c := .sliceB) hl hl'
      have b1 := bnd hlen hh'
      have b2 := bnd (Nat.zero_le _) hl'
      refine ⟨?_, b2, by simpa using b1, by simp⟩
      cases rh <;> cases rl <;> simp_all [Instr.sliceBounds]
  | some q =>
    cases rm with
    | none => exact hm.elim
    | some vm =>
      cases hi with
      | none => simp at hb
      | some hq =>
        cases rh with
        | none => exact hh.elim
        | some vh =>
          simp only [Option.bind_eq_some_iff] at hb
          obtain ⟨m', hm', h', hh', l', hl', e⟩ := hb
          cases e
          have e0 := bndP_run (P := P) (w := w) (ro := some vm) (c := if s then .slice3Acap else .slice3Alen) hm (key hc hm')
          have e1 := bndP_run (P := P) (w := w) (ro := some vh) (c := .slice3B) hh hh'
          have e2 := bndP_run (P := P) (w := w) (c := .slice3C) hl hl'
          have b0 := bnd (Nat.le_refl _) hm'
          have b1 : h ≤ m' := by
            unfold bndP at hh'
            split at hh'
            · rename_i h0; cases h0
            · split at hh'
              · rename_i hb; cases hh'; omega
              · cases hh'
            · cases hh'
          have b2 := bnd (Nat.zero_le _) hl'
          refine ⟨?_, b2, by simpa using b1, by simpa using b0⟩
          cases rl <;> simp_all [Instr.sliceBounds]

end Pv
