/- Part of the proof: the layer of pure values, or walks through functions (PvEntry, PvEntry2, PvEntry3, PvEntry4). -/
import Derived.Test.YtjomgffpkdcanaaGreatDoorPvNum
import Derived.ProofKit
import Derived.Carry
import Derived.SizedLaws
import Derived.ChangeArms
set_option linter.all false
namespace Pv
open Go Go.RowKit

/-! ### What an argument reads as -/
inductive FK where
  | int (k : IntKind)
  | bool
  | str
  | sl (row : List FK)

mutual
inductive OkC : FK → PV → Prop
  | int (k : IntKind) (n : Int) (h : (Lit.int k n).wf = true) : OkC (.int k) (.int k n)
  | bool (b : Bool) : OkC .bool (.bool b)
  | str (l : List UInt8) (h : l.length ≤ maxLen) : OkC .str (.str l)
  | sl (row : List FK) (len : Nat) (cells : List PV) (h : len ≤ maxLen) (hc : OkR row len cells) : OkC (.sl row) (.fsl row.length len cells)
inductive OkL : List FK → List PV → Prop
  | nil : OkL [] []
  | cons (k : FK) (ks : List FK) (p : PV) (ps : List PV) (h : OkC k p) (hs : OkL ks ps) : OkL (k :: ks) (p :: ps)
inductive OkR : List FK → Nat → List PV → Prop
  | nil (row : List FK) : OkR row 0 []
  | cons (row : List FK) (n : Nat) (c r : List PV) (h : OkL row c) (hr : OkR row n r) : OkR row (n + 1) (c ++ r)
end

theorem OkL.length {ks : List FK} {ps : List PV} (h : OkL ks ps) : ps.length = ks.length := by
  induction ks generalizing ps with
  | nil => cases h; rfl
  | cons k ks ih => cases h with | cons _ _ _ _ _ hs => simp [ih hs]

theorem OkR.length {row : List FK} {n : Nat} {ps : List PV} (h : OkR row n ps) : ps.length = n * row.length := by
  induction n generalizing ps with
  | zero => cases h; simp
  | succ n ih => cases h with | cons _ _ c r hc hr => rw [List.length_append, ih hr, hc.length, Nat.succ_mul, Nat.add_comm]

theorem OkL.append {a b : List FK} {ps qs : List PV} (h : OkL a ps) (k : OkL b qs) : OkL (a ++ b) (ps ++ qs) := by
  induction a generalizing ps with
  | nil => cases h; exact k
  | cons x a ih => cases h with | cons _ _ _ _ h1 h2 => exact .cons _ _ _ _ h1 (ih h2)

/-- The cells of a type, one by one. -/
def shGo (P : Program) (rc : TypeId → Option (List FK)) : List Field → Nat → Option (List FK)
  | [], _ => some []
  | f :: fs, off => if f.offset = off then
      match rc f.type with
      | some ks => if ks.length = P.cellsOf f.type then (shGo P rc fs (off + ks.length)).map (ks ++ ·) else none
      | none => none
    else none

def shP (P : Program) : Nat → TypeId → Option (List FK)
  | 0, _ => none
  | d + 1, t =>
    match P.underlying t with
    | some .bool => some [.bool]
    | some (.int k) => some [.int k]
    | some .string => some [.str]
    | some (.slice e) => match shP P d e with
      | some ks => if ks.length = P.cellsOf e ∧ 0 < ks.length then some [.sl ks] else none
      | none => none
    | some (.struct fs) => match shGo P (shP P d) fs.toList 0 with
      | some ks => if ks.length = P.cellsOf t then some ks else none
      | none => none
    | some (.array n e) => match shP P d e with
      | some ks => if ks.length = P.cellsOf e ∧ n * ks.length = P.cellsOf t then some ((List.replicate n ks).flatten) else none
      | none => none
    | _ => none

/-- All that there was, as it is. -/
noncomputable def G0 (w : World) : Ghost := { l := [], f := fun a => if a.spot = none then w.cell? a else none }

def PH0 : PH := { bl := [], ob := fun _ => none }

theorem rel0 {P : Program} (w : World) : Rel ⟨P, w⟩ (G0 w) PH0 w := by
  refine ⟨rfl, .refl _ _, fun p c h => by simp [PH0, PH.get] at h, fun p q c d L M _ h => by simp [PH0, PH.get] at h, ?_, fun a v p c L _ h => by simp [PH0, PH.get] at h, fun r o h => by simp [PH0] at h, fun p e h => by simp [PH0] at h, ⟨fun p s t e h => by simp [PH0, PH.gro] at h, fun p q s t e s' t' e' a ra b rb _ h => by simp [PH0, PH.gro] at h, fun p m x h => by simp [G0] at h⟩⟩
  intro a v h
  simp only [G0] at h
  split at h
  · rename_i hs; exact ⟨hs, h⟩
  · cases h

section
variable {H : Type} {enc : TypeId × Value → H} {P : Program} {w : World} {base : Nat} {spare : Nat → Bool} {held : Bool}

theorem cell_spot {a : Addr} {v : Value} (h : w.cell? a = some v) : a.spot = none := by
  cases e : a.spot with
  | none => rfl
  | some s =>
    unfold World.cell? at h
    split at h
    · simp [e] at h
    · cases h

theorem add_none {a : Addr} (h : a.spot = none) (j : Nat) : a.add j = ⟨a.block, a.off + j, none⟩ := by
  unfold Addr.add
  split
  · rename_i hj; subst hj; cases a; simp at h; subst h; simp
  · rfl

theorem cells_f {a : Addr} {n : Nat} {cs : List Value} (h : w.cells? base a n = some cs) : ∀ j v, cs[j]? = some v → (G0 w).f ⟨a.block, a.off + j, none⟩ = some v ∧ a.spot = none := by
  obtain ⟨-, hl, hc⟩ := World.cells?_some h
  intro j v hv
  have hj : j < n := by rw [← hl]; exact (List.getElem?_eq_some_iff.1 hv).1
  have h0 := hc 0 (by omega)
  rw [List.getElem?_eq_getElem (by omega)] at h0
  have hs : a.spot = none := by
    have := cell_spot h0
    simpa [Addr.add] using this
  have := hc j hj
  rw [hv, add_none hs] at this
  refine ⟨?_, hs⟩
  simp only [G0, if_true]
  exact this

theorem trod_struct' {fuel : Nat} {t : TypeId} {fs : Array Field} {cs : List Value} {x : DataW H × List MemPlace} (hu : P.underlying t = some (.struct fs)) (h : DataW.trod enc P w base spare held fuel t cs = some x) :
    ∃ m xs, fuel = m + 1 ∧ cs.length = P.cellsOf t ∧ (fs.toList.mapM fun f => DataW.trod enc P w base spare held m f.type ((cs.drop f.offset).take (P.cellsOf f.type))) = some xs := by
  cases fuel with
  | zero => simp [DataW.trod] at h
  | succ m =>
    unfold DataW.trod at h
    rw [hu] at h
    split at h <;> simp_all
    obtain ⟨hl, xs, hp, hd⟩ := h
    exact ⟨xs, hp⟩

theorem trod_arr' {fuel n : Nat} {t e : TypeId} {cs : List Value} {x : DataW H × List MemPlace} (hu : P.underlying t = some (.array n e)) (h : DataW.trod enc P w base spare held fuel t cs = some x) :
    ∃ (xs : List (DataW H × List MemPlace)) (m : Nat), fuel = m + 1 ∧ cs.length = P.cellsOf t ∧ xs.length = n ∧ ∀ (i : Nat), i < n → DataW.trod enc P w base spare held m e ((cs.drop (i * P.cellsOf e)).take (P.cellsOf e)) = xs[i]? := by
  cases fuel with
  | zero => simp [DataW.trod] at h
  | succ m =>
    unfold DataW.trod at h
    rw [hu] at h
    split at h <;> simp_all
    obtain ⟨hl, xs, hp, hd⟩ := h
    exact ⟨xs, by simpa using mapM_some_length hp, fun i hi => mapM_some_get hp i i (by simp [hi])⟩

theorem trod_rv : ∀ (d fuel : Nat) (t : TypeId) (cs : List Value) (x : DataW H × List MemPlace) (ks : List FK), DataW.trod enc P w base spare held fuel t cs = some x → shP P d t = some ks →
    ∃ ps, RVs (G0 w) ps cs ∧ OkL ks ps := by
  intro d
  induction d with
  | zero => intro fuel t cs x ks _ h; simp [shP] at h
  | succ d ih =>
    intro fuel t cs x ks hx hk
    unfold shP at hk
    split at hk
    · rename_i hu; cases hk
      cases fuel with
      | zero => simp [DataW.trod] at hx
      | succ fuel =>
        unfold DataW.trod at hx; rw [hu] at hx
        split at hx <;> simp_all
        exact ⟨_, .cons _ _ _ _ (.bool _) .nil, .cons _ _ _ _ (.bool _) .nil⟩
    · rename_i k hu; cases hk
      cases fuel with
      | zero => simp [DataW.trod] at hx
      | succ fuel =>
        unfold DataW.trod at hx; rw [hu] at hx
        split at hx <;> simp_all
        obtain ⟨⟨h1, h2⟩, h3⟩ := hx
        subst h1
        exact ⟨_, .cons _ _ _ _ (.int _ _) .nil, .cons _ _ _ _ (.int _ _ h2) .nil⟩
    · rename_i hu; cases hk
      cases fuel with
      | zero => simp [DataW.trod] at hx
      | succ fuel =>
        unfold DataW.trod at hx; rw [hu] at hx
        split at hx <;> simp_all
        rename_i s _
        exact ⟨_, .cons _ _ _ _ (.str _ _ rfl) .nil, .cons _ _ _ _ (.str _ (by have := hx.1; simpa using this)) .nil⟩
    · rename_i e hu
      split at hk
      · rename_i row hrow
        split at hk
        · rename_i hc; cases hk
          rcases DataW.trod_slice hu hx with ⟨rfl, -⟩ | ⟨a, len, cap, elems, rest, n, -, rfl, -, -, hlc, hcm, hel, heach, -, -⟩
          · exact ⟨_, .cons _ _ _ _ (.fslnil _) .nil, .cons _ _ _ _ (.sl row 0 [] (by decide) (.nil _)) .nil⟩
          · have hsp : 0 < len → a.spot = none := by
              intro hl
              have h0 := heach 0 hl
              rw [List.getElem?_eq_getElem (by omega)] at h0
              obtain ⟨cs', hcs, -⟩ := Option.bind_eq_some_iff.1 h0
              have hl' := (World.cells?_some hcs).2.1
              have := (cells_f hcs 0 _ (List.getElem?_eq_getElem (by omega))).2
              simpa [Addr.add] using this
            have key : ∀ m, m ≤ len → ∃ (ps : List PV) (vs : List Value), RVs (G0 w) ps vs ∧ (∀ j v, vs[j]? = some v → (G0 w).f ⟨a.block, a.off + j, none⟩ = some v ∧ a.spot = none) ∧ vs.length = m * row.length ∧ ∃ rows : List (List PV), rows.length = m ∧ (∀ c ∈ rows, OkL row c) ∧ rows.flatten = ps := by
              intro m
              induction m with
              | zero => intro _; exact ⟨[], [], .nil, by simp, by simp, [], rfl, by simp, rfl⟩
              | succ m ihm =>
                intro hm
                obtain ⟨ps, vs, h1, h2, h3, rows, h4, h5, h6⟩ := ihm (by omega)
                have hme := heach m (by omega)
                have : m < elems.length := by omega
                rw [List.getElem?_eq_getElem this] at hme
                obtain ⟨cs', hcs, ht⟩ := Option.bind_eq_some_iff.1 hme
                obtain ⟨qs, g1, g2⟩ := ih _ _ _ _ _ ht hrow
                have hf := cells_f hcs
                refine ⟨ps ++ qs, vs ++ cs', h1.append g1, ?_, ?_, rows ++ [qs], by simp [h4], ?_, by simp [h6]⟩
                · intro j v hj
                  by_cases hlt : j < vs.length
                  · rw [List.getElem?_append_left hlt] at hj; exact h2 j v hj
                  · rw [List.getElem?_append_right (by omega)] at hj
                    have := hf _ _ hj
                    rw [add_none (hsp (by omega))] at this
                    refine ⟨?_, hsp (by omega)⟩
                    rw [← this.1]
                    have e1 : a.off + j = a.off + m * P.cellsOf e + (j - vs.length) := by rw [← hc.1]; omega
                    rw [e1]
                · have := (World.cells?_some hcs).2.1
                  simp [h3, this, ← hc.1, Nat.succ_mul]
                · intro c hcm'
                  rcases List.mem_append.1 hcm' with h | h
                  · exact h5 c h
                  · simp at h; subst h; exact g2
            obtain ⟨ps, vs, h1, h2, h3, rows, h4, h5, h6⟩ := key len (Nat.le_refl _)
            have hR : OkR row len ps := by
              rw [← h6, ← h4]
              clear h4 h6 h1 h3 heach key
              induction rows with
              | nil => exact .nil _
              | cons c rows ihr => exact .cons _ _ _ _ (h5 c (by simp)) (ihr fun c' h => h5 c' (List.mem_cons_of_mem _ h))
            refine ⟨_, .cons _ _ _ _ (.fsl row.length len ps vs a cap h1 hlc hR.length ?_ fun j v hj => (h2 j v hj).1) .nil, .cons _ _ _ _ (.sl row len ps (by omega) hR) .nil⟩
            intro hl
            have : 0 < vs.length := by rw [h3]; exact Nat.mul_pos hl hc.2
            exact (h2 0 _ (List.getElem?_eq_getElem this)).2
        · cases hk
      · cases hk
    · rename_i fs hu
      split at hk
      · rename_i ks' hgo
        split at hk
        · rename_i hlen; cases hk
          obtain ⟨fuel, xs, -, hcl, hm⟩ := trod_struct' hu hx
          have go : ∀ (fl : List Field) (off : Nat) (ks : List FK) (xs : List (DataW H × List MemPlace)), shGo P (shP P d) fl off = some ks → (fl.mapM fun f => DataW.trod enc P w base spare held fuel f.type ((cs.drop f.offset).take (P.cellsOf f.type))) = some xs → off + ks.length ≤ cs.length →
              ∃ ps, RVs (G0 w) ps ((cs.drop off).take ks.length) ∧ OkL ks ps := by
            intro fl
            induction fl with
            | nil =>
              intro off ks xs hg _ _
              simp only [shGo, Option.some.injEq] at hg
              subst hg
              exact ⟨[], by simpa using RVs.nil, .nil⟩
            | cons f fl ihf =>
              intro off ks xs hg hmm hle
              unfold shGo at hg
              split at hg
              · rename_i hoff
                split at hg
                · rename_i k1 hk1
                  split at hg
                  · rename_i hk1l
                    simp only [Option.map_eq_some_iff] at hg
                    obtain ⟨k2, hk2, rfl⟩ := hg
                    rw [List.mapM_cons] at hmm
                    simp only [Option.bind_eq_bind, Option.bind_eq_some_iff, Option.pure_def, Option.some.injEq] at hmm
                    obtain ⟨y, hy, ys, hys, -⟩ := hmm
                    obtain ⟨p1, r1, o1⟩ := ih _ _ _ _ _ hy hk1
                    simp only [List.length_append] at hle
                    obtain ⟨p2, r2, o2⟩ := ihf _ _ _ hk2 hys (by omega)
                    refine ⟨p1 ++ p2, ?_, o1.append o2⟩
                    rw [List.length_append, List.take_add, List.drop_drop]
                    rw [hoff, ← hk1l] at r1
                    exact r1.append r2
                  · cases hg
                · cases hg
              · cases hg
          obtain ⟨ps, r, o⟩ := go _ _ _ _ hgo hm (by omega)
          refine ⟨ps, ?_, o⟩
          rw [List.drop_zero, List.take_of_length_le (by omega)] at r
          exact r
        · cases hk
      · cases hk
    · rename_i n e hu
      split at hk
      · rename_i row hrow
        split at hk
        · rename_i hc; cases hk
          obtain ⟨xs, m, -, hcl, hxl, heach⟩ := trod_arr' hu hx
          have key : ∀ i, i ≤ n → ∃ ps, RVs (G0 w) ps (cs.take (i * row.length)) ∧ OkL ((List.replicate i row).flatten) ps := by
            intro i
            induction i with
            | zero => intro _; exact ⟨[], by simpa using RVs.nil, .nil⟩
            | succ i ihi =>
              intro hi
              obtain ⟨ps, h1, h2⟩ := ihi (by omega)
              have he := heach i (by omega)
              rw [List.getElem?_eq_getElem (by omega)] at he
              obtain ⟨qs, g1, g2⟩ := ih _ _ _ _ _ he hrow
              rw [← hc.1] at g1
              refine ⟨ps ++ qs, ?_, ?_⟩
              · rw [Nat.succ_mul, List.take_add]; exact h1.append g1
              · rw [List.replicate_succ', List.flatten_append]; simpa using h2.append g2
          obtain ⟨ps, h1, h2⟩ := key n (Nat.le_refl _)
          refine ⟨ps, ?_, h2⟩
          rw [List.take_of_length_le (by rw [hcl, ← hc.2]; exact Nat.le_refl _)] at h1
          exact h1
        · cases hk
      · cases hk
    · cases hk
end

section
variable {H : Type} {enc : TypeId × Value → H} {P : Program} {w : World} {spare : Nat → Bool} {held : Bool} {t : TypeId} {v : Value} {d : DataW H} {ps : List MemPlace} {base : Nat} {ks : List FK}

theorem open_cell {k : FK} (hc : v.cells = #[v]) (h : DataW.Trod enc P w 0 spare held t v d ps) (hs : shP P 20 t = some [k]) : ∃ p, OkC k p ∧ RV (G0 w) p v := by
  obtain ⟨fuel, hf⟩ := h
  obtain ⟨cells, hr, ho⟩ := trod_rv _ _ _ _ _ _ hf hs
  rw [hc] at hr
  cases ho with
  | cons _ _ p ps h1 h2 =>
    cases h2
    cases hr with
    | cons _ _ _ _ r _ => exact ⟨p, h1, r⟩

theorem open_i {k : IntKind} (hu : P.underlying t = some (.int k)) (hv : Value.okWide P w .any base t v) (h : DataW.Trod enc P w 0 spare held t v d ps) : ∃ n, (Lit.int k n).wf = true ∧ RV (G0 w) (.int k n) v := by
  obtain ⟨p, ho, r⟩ := open_cell (k := .int k) (by obtain ⟨s, rfl⟩ := Go.WideShapes.okWide_int hu hv; rfl) h (by unfold shP; rw [hu])
  cases ho with | int k n hn => exact ⟨n, hn, r⟩

end

/-- From what the body does to what the row asks for. -/
theorem enter {P : Program} {f : FuncId} {args : List PV} {W : World} {rargs : List Value} {b : Bool} {fn : Func} (hf : P.funcs[f]? = some fn) (hb : fn.body.isSome = true) (hnm : (fn.name == "runtime.NumGoroutine") = false) (h : Fn ⟨P, W⟩ f args (.bool b)) (ha : RVs (G0 W) args rargs) :
    Calls P f rargs.toArray W fun e W' => e = .returned (.bool b) ∧ Below W.heap.size W W' := by
  have hp := h PH0 (G0 W) W rargs (rel0 W) ha
  have hent := run_enter (P := P) (w := W) (args := rargs.toArray) hf hb hnm
  rw [hent] at hp
  rcases hp with ⟨v, w', e, -⟩ | ⟨w', e, hc⟩
  · cases e
  · cases e
    refine Calls.mono hc fun e W' he => ?_
    cases e with
    | returned u =>
      obtain ⟨G', pv, ph', -, hr, hv, -, rfl, rfl⟩ := he
      refine ⟨?_, hr.below⟩
      cases hv; rfl
    | panicked _ => exact he.elim
    | outgrown => exact he.elim
end Pv

namespace Pv
open Go Go.RowKit
variable {H : Type} {enc : TypeId × Value → H} {P : Program} {w : World} {spare : Nat → Bool} {held : Bool} {t : TypeId} {v : Value} {d : DataW H} {ps : List MemPlace} {base : Nat}

/-- A text among the arguments, with the bound that the form itself gives. -/
theorem open_str2 {ts : List TypeId} {ds : List (DataW H)} (hu : P.underlying t = some .string) (hv : Value.okWide P w .any base t v) (h : DataW.Trod enc P w 0 spare held t v d ps) (hsz : (DataW.weightsEach P ts ds).all (· ≤ reachBytes) = true) {j : Nat} (ht : ts[j]? = some t) (hd : ds[j]? = some d) :
    ∃ l, l.length < 2 ^ 47 ∧ RV (G0 w) (.str l) v := by
  obtain ⟨fuel, hf⟩ := h
  obtain ⟨s, rfl⟩ := Go.WideShapes.okWide_string hu hv
  obtain ⟨s', e1, e2, -⟩ := DataW.trod_string hu hf
  have e3 : s = s' := by simpa [Value.cells] using e1
  subst e3
  cases e2
  have := sized_string hsz ht hd
  exact ⟨s.data.toList, by have := reachBytes_lt; omega, .str _ _ rfl⟩
end Pv

namespace Pv
open Go Go.RowKit

section
variable {H : Type} {enc : TypeId × Value → H} {P : Program} {w : World} {spare : Nat → Bool} {held : Bool} {t : TypeId} {v : Value} {d : DataW H} {ps : List MemPlace} {base : Nat} {ks : List FK}
end

end Pv

/- Arguments with the bound of their reach upon every text in them. -/
namespace Pv
open Go Go.RowKit
inductive BdV : PV → Prop
  | int (k : IntKind) (n : Int) : BdV (.int k n)
  | bool (b : Bool) : BdV (.bool b)
  | str (l : List UInt8) (h : l.length < 2 ^ 47) : BdV (.str l)
  | fsl (e len : Nat) (cells : List PV) (h : ∀ c ∈ cells, BdV c) : BdV (.fsl e len cells)
theorem weightsAll_mem {H : Type} {P : Program} {e : TypeId} {l : List (DataW H × List MemPlace)} {x : DataW H × List MemPlace} {n : Nat} (hx : x ∈ l) (hn : n ∈ x.1.weights P e) : n ∈ DataW.weightsAll P e (l.map (·.1)) := by
  induction l with
  | nil => cases hx
  | cons y l ih =>
    rw [List.map_cons, DataW.weightsAll]
    rcases List.mem_cons.1 hx with rfl | h
    · exact List.mem_append_left _ hn
    · exact List.mem_append_right _ (ih h)
section
variable {H : Type} {enc : TypeId × Value → H} {P : Program} {w : World} {base : Nat} {spare : Nat → Bool} {held : Bool}

theorem trod_structB {fuel : Nat} {t : TypeId} {fs : Array Field} {cs : List Value} {x : DataW H × List MemPlace} (hu : P.underlying t = some (.struct fs)) (h : DataW.trod enc P w base spare held fuel t cs = some x) :
    ∃ m xs, fuel = m + 1 ∧ cs.length = P.cellsOf t ∧ (fs.toList.mapM fun f => DataW.trod enc P w base spare held m f.type ((cs.drop f.offset).take (P.cellsOf f.type))) = some xs ∧ x.1 = .agg (xs.map (·.1)) := by
  cases fuel with
  | zero => simp [DataW.trod] at h
  | succ m =>
    unfold DataW.trod at h
    rw [hu] at h
    split at h <;> simp_all
    obtain ⟨hl, xs, hp, hd⟩ := h
    exact ⟨xs, hp, by rw [← hd]⟩

theorem trod_arrB {fuel n : Nat} {t e : TypeId} {cs : List Value} {x : DataW H × List MemPlace} (hu : P.underlying t = some (.array n e)) (h : DataW.trod enc P w base spare held fuel t cs = some x) :
    ∃ (xs : List (DataW H × List MemPlace)) (m : Nat), fuel = m + 1 ∧ cs.length = P.cellsOf t ∧ xs.length = n ∧ (∀ (i : Nat), i < n → DataW.trod enc P w base spare held m e ((cs.drop (i * P.cellsOf e)).take (P.cellsOf e)) = xs[i]?) ∧ x.1 = .agg (xs.map (·.1)) := by
  cases fuel with
  | zero => simp [DataW.trod] at h
  | succ m =>
    unfold DataW.trod at h
    rw [hu] at h
    split at h <;> simp_all
    obtain ⟨hl, xs, hp, hd⟩ := h
    exact ⟨xs, by simpa using mapM_some_length hp, fun i hi => mapM_some_get hp i i (by simp [hi]), by rw [← hd]⟩

theorem trod_rvb : ∀ (d fuel : Nat) (t : TypeId) (cs : List Value) (x : DataW H × List MemPlace) (ks : List FK), DataW.trod enc P w base spare held fuel t cs = some x → shP P d t = some ks → (∀ n ∈ x.1.weights P t, n ≤ reachBytes) →
    ∃ ps, RVs (G0 w) ps cs ∧ OkL ks ps ∧ ∀ p ∈ ps, BdV p := by
  intro d
  induction d with
  | zero => intro fuel t cs x ks _ h; simp [shP] at h
  | succ d ih =>
    intro fuel t cs x ks hx hk hw
    unfold shP at hk
    split at hk
    · rename_i hu; cases hk
      cases fuel with
      | zero => simp [DataW.trod] at hx
      | succ fuel =>
        unfold DataW.trod at hx; rw [hu] at hx
        split at hx <;> simp_all
        exact ⟨_, .cons _ _ _ _ (.bool _) .nil, .cons _ _ _ _ (.bool _) .nil, by simpa using BdV.bool _⟩
    · rename_i k hu; cases hk
      cases fuel with
      | zero => simp [DataW.trod] at hx
      | succ fuel =>
        unfold DataW.trod at hx; rw [hu] at hx
        split at hx <;> simp_all
        obtain ⟨⟨h1, h2⟩, h3⟩ := hx
        subst h1
        exact ⟨_, .cons _ _ _ _ (.int _ _) .nil, .cons _ _ _ _ (.int _ _ h2) .nil, by simpa using BdV.int _ _⟩
    · rename_i hu; cases hk
      cases fuel with
      | zero => simp [DataW.trod] at hx
      | succ fuel =>
        obtain ⟨s, rfl, e2, -⟩ := DataW.trod_string hu hx
        have hlen : s.data.toList.length ≤ maxLen := by
          unfold DataW.trod at hx; rw [hu] at hx
          split at hx <;> simp_all
        have hb := hw s.data.toList.length (by rw [e2]; simp [DataW.weights])
        have := reachBytes_lt
        exact ⟨_, .cons _ _ _ _ (.str _ _ rfl) .nil, .cons _ _ _ _ (.str s.data.toList hlen) .nil, by simpa using BdV.str s.data.toList (by omega)⟩
    · rename_i e hu
      split at hk
      · rename_i row hrow
        split at hk
        · rename_i hc; cases hk
          rcases DataW.trod_slice hu hx with ⟨rfl, -⟩ | ⟨a, len, cap, elems, rest, n, -, rfl, hxe, -, hlc, hcm, hel, heach, -, -⟩
          · exact ⟨_, .cons _ _ _ _ (.fslnil _) .nil, .cons _ _ _ _ (.sl row 0 [] (by decide) (.nil _)) .nil, by simpa using BdV.fsl _ _ [] (by simp)⟩
          · have hsp : 0 < len → a.spot = none := by
              intro hl
              have h0 := heach 0 hl
              rw [List.getElem?_eq_getElem (by omega)] at h0
              obtain ⟨cs', hcs, -⟩ := Option.bind_eq_some_iff.1 h0
              have hl' := (World.cells?_some hcs).2.1
              have := (cells_f hcs 0 _ (List.getElem?_eq_getElem (by omega))).2
              simpa [Addr.add] using this
            have hwe : ∀ e' ∈ elems, ∀ n ∈ e'.1.weights P e, n ≤ reachBytes := by
              intro e' he' n hn
              refine hw n ?_
              rw [hxe]
              simp only [DataW.weights, hu]
              exact List.mem_cons_of_mem _ (List.mem_append_left _ (weightsAll_mem he' hn))
            have key : ∀ m, m ≤ len → ∃ (ps : List PV) (vs : List Value), RVs (G0 w) ps vs ∧ (∀ j v, vs[j]? = some v → (G0 w).f ⟨a.block, a.off + j, none⟩ = some v ∧ a.spot = none) ∧ vs.length = m * row.length ∧ ∃ rows : List (List PV), rows.length = m ∧ (∀ c ∈ rows, OkL row c) ∧ rows.flatten = ps ∧ ∀ p ∈ ps, BdV p := by
              intro m
              induction m with
              | zero => intro _; exact ⟨[], [], .nil, by simp, by simp, [], rfl, by simp, rfl, by simp⟩
              | succ m ihm =>
                intro hm
                obtain ⟨ps, vs, h1, h2, h3, rows, h4, h5, h6, h7⟩ := ihm (by omega)
                have hme := heach m (by omega)
                have : m < elems.length := by omega
                rw [List.getElem?_eq_getElem this] at hme
                obtain ⟨cs', hcs, ht⟩ := Option.bind_eq_some_iff.1 hme
                obtain ⟨qs, g1, g2, g3⟩ := ih _ _ _ _ _ ht hrow (hwe _ (List.getElem_mem _))
                have hf := cells_f hcs
                refine ⟨ps ++ qs, vs ++ cs', h1.append g1, ?_, ?_, rows ++ [qs], by simp [h4], ?_, by simp [h6], fun p hp => (List.mem_append.1 hp).elim (h7 p) (g3 p)⟩
                · intro j v hj
                  by_cases hlt : j < vs.length
                  · rw [List.getElem?_append_left hlt] at hj; exact h2 j v hj
                  · rw [List.getElem?_append_right (by omega)] at hj
                    have := hf _ _ hj
                    rw [add_none (hsp (by omega))] at this
                    refine ⟨?_, hsp (by omega)⟩
                    rw [← this.1]
                    have e1 : a.off + j = a.off + m * P.cellsOf e + (j - vs.length) := by rw [← hc.1]; omega
                    rw [e1]
                · have := (World.cells?_some hcs).2.1
                  simp [h3, this, ← hc.1, Nat.succ_mul]
                · intro c hcm'
                  rcases List.mem_append.1 hcm' with h | h
                  · exact h5 c h
                  · simp at h; subst h; exact g2
            obtain ⟨ps, vs, h1, h2, h3, rows, h4, h5, h6, h7⟩ := key len (Nat.le_refl _)
            have hR : OkR row len ps := by
              rw [← h6, ← h4]
              clear h4 h6 h1 h3 h7 heach key
              induction rows with
              | nil => exact .nil _
              | cons c rows ihr => exact .cons _ _ _ _ (h5 c (by simp)) (ihr fun c' h => h5 c' (List.mem_cons_of_mem _ h))
            refine ⟨_, .cons _ _ _ _ (.fsl row.length len ps vs a cap h1 hlc hR.length ?_ fun j v hj => (h2 j v hj).1) .nil, .cons _ _ _ _ (.sl row len ps (by omega) hR) .nil, by simpa using BdV.fsl _ _ ps h7⟩
            intro hl
            have : 0 < vs.length := by rw [h3]; exact Nat.mul_pos hl hc.2
            exact (h2 0 _ (List.getElem?_eq_getElem this)).2
        · cases hk
      · cases hk
    · rename_i fs hu
      split at hk
      · rename_i ks' hgo
        split at hk
        · rename_i hlen; cases hk
          obtain ⟨fuel, xs, -, hcl, hm, hxe⟩ := trod_structB hu hx
          have go : ∀ (fl : List Field) (off : Nat) (ks : List FK) (xs : List (DataW H × List MemPlace)), shGo P (shP P d) fl off = some ks → (fl.mapM fun f => DataW.trod enc P w base spare held fuel f.type ((cs.drop f.offset).take (P.cellsOf f.type))) = some xs → off + ks.length ≤ cs.length → (∀ n ∈ DataW.weightsEach P (fl.map (·.type)) (xs.map (·.1)), n ≤ reachBytes) →
              ∃ ps, RVs (G0 w) ps ((cs.drop off).take ks.length) ∧ OkL ks ps ∧ ∀ p ∈ ps, BdV p := by
            intro fl
            induction fl with
            | nil =>
              intro off ks xs hg _ _ _
              simp only [shGo, Option.some.injEq] at hg
              subst hg
              exact ⟨[], by simpa using RVs.nil, .nil, by simp⟩
            | cons f fl ihf =>
              intro off ks xs hg hmm hle hww
              unfold shGo at hg
              split at hg
              · rename_i hoff
                split at hg
                · rename_i k1 hk1
                  split at hg
                  · rename_i hk1l
                    simp only [Option.map_eq_some_iff] at hg
                    obtain ⟨k2, hk2, rfl⟩ := hg
                    rw [List.mapM_cons] at hmm
                    simp only [Option.bind_eq_bind, Option.bind_eq_some_iff, Option.pure_def, Option.some.injEq] at hmm
                    obtain ⟨y, hy, ys, hys, rfl⟩ := hmm
                    simp only [List.map_cons, DataW.weightsEach, List.mem_append] at hww
                    obtain ⟨p1, r1, o1, b1⟩ := ih _ _ _ _ _ hy hk1 (fun n hn => hww n (.inl hn))
                    simp only [List.length_append] at hle
                    obtain ⟨p2, r2, o2, b2⟩ := ihf _ _ _ hk2 hys (by omega) (fun n hn => hww n (.inr hn))
                    refine ⟨p1 ++ p2, ?_, o1.append o2, fun p hp => (List.mem_append.1 hp).elim (b1 p) (b2 p)⟩
                    rw [List.length_append, List.take_add, List.drop_drop]
                    rw [hoff, ← hk1l] at r1
                    exact r1.append r2
                  · cases hg
                · cases hg
              · cases hg
          obtain ⟨ps, r, o, b⟩ := go _ _ _ _ hgo hm (by omega) (fun n hn => hw n (by rw [hxe]; simp only [DataW.weights, hu]; exact hn))
          refine ⟨ps, ?_, o, b⟩
          rw [List.drop_zero, List.take_of_length_le (by omega)] at r
          exact r
        · cases hk
      · cases hk
    · rename_i n e hu
      split at hk
      · rename_i row hrow
        split at hk
        · rename_i hc; cases hk
          obtain ⟨xs, m, -, hcl, hxl, heach, hxe⟩ := trod_arrB hu hx
          have hwe : ∀ e' ∈ xs, ∀ n ∈ e'.1.weights P e, n ≤ reachBytes := fun e' he' n hn => hw n (by rw [hxe]; simp only [DataW.weights, hu]; exact weightsAll_mem he' hn)
          have key : ∀ i, i ≤ n → ∃ ps, RVs (G0 w) ps (cs.take (i * row.length)) ∧ OkL ((List.replicate i row).flatten) ps ∧ ∀ p ∈ ps, BdV p := by
            intro i
            induction i with
            | zero => intro _; exact ⟨[], by simpa using RVs.nil, .nil, by simp⟩
            | succ i ihi =>
              intro hi
              obtain ⟨ps, h1, h2, h3⟩ := ihi (by omega)
              have he := heach i (by omega)
              rw [List.getElem?_eq_getElem (by omega)] at he
              obtain ⟨qs, g1, g2, g3⟩ := ih _ _ _ _ _ he hrow (hwe _ (List.getElem_mem _))
              rw [← hc.1] at g1
              refine ⟨ps ++ qs, ?_, ?_, fun p hp => (List.mem_append.1 hp).elim (h3 p) (g3 p)⟩
              · rw [Nat.succ_mul, List.take_add]; exact h1.append g1
              · rw [List.replicate_succ', List.flatten_append]; simpa using h2.append g2
          obtain ⟨ps, h1, h2, h3⟩ := key n (Nat.le_refl _)
          refine ⟨ps, ?_, h2, h3⟩
          rw [List.take_of_length_le (by rw [hcl, ← hc.2]; exact Nat.le_refl _)] at h1
          exact h1
        · cases hk
      · cases hk
    · cases hk
end
section
variable {H : Type} {enc : TypeId × Value → H} {P : Program} {w : World} {spare : Nat → Bool} {held : Bool} {t : TypeId} {v : Value} {d : DataW H} {ps : List MemPlace} {base : Nat} {ks : List FK}
theorem weights_le {ts : List TypeId} {ds : List (DataW H)} (hsz : (DataW.weightsEach P ts ds).all (· ≤ reachBytes) = true) {j : Nat} (ht : ts[j]? = some t) (hd : ds[j]? = some d) : ∀ n ∈ d.weights P t, n ≤ reachBytes := fun n hn => by
  have := List.all_eq_true.1 hsz _ (DataW.weights_mem_each ht hd n hn)
  simpa using this
theorem open_stB {fs : Array Field} {ts : List TypeId} {ds : List (DataW H)} (hu : P.underlying t = some (.struct fs)) (hv : Value.okWide P w .any base t v) (h : DataW.Trod enc P w 0 spare held t v d ps) (hs : shP P 20 t = some ks) (hsz : (DataW.weightsEach P ts ds).all (· ≤ reachBytes) = true) {j : Nat} (ht : ts[j]? = some t) (hd : ds[j]? = some d) : ∃ cells, OkL ks cells ∧ (∀ p ∈ cells, BdV p) ∧ RV (G0 w) (.agg cells) v := by
  obtain ⟨fuel, hf⟩ := h
  obtain ⟨cells, hr, ho, hb⟩ := trod_rvb _ _ _ _ _ _ hf hs (weights_le hsz ht hd)
  obtain ⟨cs, rfl, -⟩ := Go.WideShapes.okWide_struct hu hv
  refine ⟨cells, ho, hb, ?_⟩
  have : cs = cs.toList.toArray := by simp
  rw [this]
  exact .agg _ _ hr
end
end Pv
