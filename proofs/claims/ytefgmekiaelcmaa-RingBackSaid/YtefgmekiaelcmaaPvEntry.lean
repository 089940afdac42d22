/- Part of the proof: the layer of pure values, or walks through functions (PvEntry, PvEntry2, PvEntry3, PvRiH, PvH2). -/
import Derived.Test.YtefgmekiaelcmaaPvNum
import Derived.ProofKit
import Derived.Carry
import Derived.SizedLaws
import Derived.ChangeArms
import Derived.Test.YtefgmekiaelcmaaPvDrawP
import Derived.Test.YtefgmekiaelcmaaPvH
set_option linter.all false
namespace Pv
open Go Go.RowKit

/-! ### What an argument reads as -/
inductive FK where
  | int (k : IntKind)
  | bool
  | str
  | sl (row : List FK)

mutual
inductive OkC : FK → PV → Prop
  | int (k : IntKind) (n : Int) (h : (Lit.int k n).wf = true) : OkC (.int k) (.int k n)
  | bool (b : Bool) : OkC .bool (.bool b)
  | str (l : List UInt8) (h : l.length ≤ maxLen) : OkC .str (.str l)
  | sl (row : List FK) (len : Nat) (cells : List PV) (h : len ≤ maxLen) (hc : OkR row len cells) : OkC (.sl row) (.fsl row.length len cells)
inductive OkL : List FK → List PV → Prop
  | nil : OkL [] []
  | cons (k : FK) (ks : List FK) (p : PV) (ps : List PV) (h : OkC k p) (hs : OkL ks ps) : OkL (k :: ks) (p :: ps)
inductive OkR : List FK → Nat → List PV → Prop
  | nil (row : List FK) : OkR row 0 []
  | cons (row : List FK) (n : Nat) (c r : List PV) (h : OkL row c) (hr : OkR row n r) : OkR row (n + 1) (c ++ r)
end

theorem OkL.length {ks : List FK} {ps : List PV} (h : OkL ks ps) : ps.length = ks.length := by
  induction ks generalizing ps with
  | nil => cases h; rfl
  | cons k ks ih => cases h with | cons _ _ _ _ _ hs => simp [ih hs]

theorem OkR.length {row : List FK} {n : Nat} {ps : List PV} (h : OkR row n ps) : ps.length = n * row.length := by
  induction n generalizing ps with
  | zero => cases h; simp
  | succ n ih => cases h with | cons _ _ c r hc hr => rw [List.length_append, ih hr, hc.length, Nat.succ_mul, Nat.add_comm]

theorem OkL.append {a b : List FK} {ps qs : List PV} (h : OkL a ps) (k : OkL b qs) : OkL (a ++ b) (ps ++ qs) := by
  induction a generalizing ps with
  | nil => cases h; exact k
  | cons x a ih => cases h with | cons _ _ _ _ h1 h2 => exact .cons _ _ _ _ h1 (ih h2)

/-- The cells of a type, one by one. -/
def shGo (P : Program) (rc : TypeId → Option (List FK)) : List Field → Nat → Option (List FK)
  | [], _ => some []
  | f :: fs, off => if f.offset = off then
      match rc f.type with
      | some ks => if ks.length = P.cellsOf f.type then (shGo P rc fs (off + ks.length)).map (ks ++ ·) else none
      | none => none
    else none

def shP (P : Program) : Nat → TypeId → Option (List FK)
  | 0, _ => none
  | d + 1, t =>
    match P.underlying t with
    | some .bool => some [.bool]
    | some (.int k) => some [.int k]
    | some .string => some [.str]
    | some (.slice e) => match shP P d e with
      | some ks => if ks.length = P.cellsOf e ∧ 0 < ks.length then some [.sl ks] else none
      | none => none
    | some (.struct fs) => match shGo P (shP P d) fs.toList 0 with
      | some ks => if ks.length = P.cellsOf t then some ks else none
      | none => none
    | some (.array n e) => match shP P d e with
      | some ks => if ks.length = P.cellsOf e ∧ n * ks.length = P.cellsOf t then some ((List.replicate n ks).flatten) else none
      | none => none
    | _ => none

/-- All that there was, as it is. -/
noncomputable def G0 (w : World) : Ghost := { l := [], f := fun a => if a.spot = none then w.cell? a else none }

def PH0 : PH := { bl := [], ob := fun _ => none }

theorem rel0 {P : Program} (w : World) : Rel ⟨P, w⟩ (G0 w) PH0 w := by
  refine ⟨rfl, .refl _ _, fun p c h => by simp [PH0, PH.get] at h, fun p q c d L M _ h => by simp [PH0, PH.get] at h, ?_, fun a v p c L _ h => by simp [PH0, PH.get] at h, fun r o h => by simp [PH0] at h, fun p e h => by simp [PH0] at h, ⟨fun p s t e h => by simp [PH0, PH.gro] at h, fun p q s t e s' t' e' a ra b rb _ h => by simp [PH0, PH.gro] at h, fun p m x h => by simp [G0] at h⟩⟩
  intro a v h
  simp only [G0] at h
  split at h
  · rename_i hs; exact ⟨hs, h⟩
  · cases h

section
variable {H : Type} {enc : TypeId × Value → H} {P : Program} {w : World} {base : Nat} {spare : Nat → Bool} {held : Bool}

theorem cell_spot {a : Addr} {v : Value} (h : w.cell? a = some v) : a.spot = none := by
  cases e : a.spot with
  | none => rfl
  | some s =>
    unfold World.cell? at h
    split at h
    · simp [e] at h
    · cases h

theorem add_none {a : Addr} (h : a.spot = none) (j : Nat) : a.add j = ⟨a.block, a.off + j, none⟩ := by
  unfold Addr.add
  split
  · rename_i hj; subst hj; cases a; simp at h; subst h; simp
  · rfl

theorem cells_f {a : Addr} {n : Nat} {cs : List Value} (h : w.cells? base a n = some cs) : ∀ j v, cs[j]? = some v → (G0 w).f ⟨a.block, a.off + j, none⟩ = some v ∧ a.spot = none := by
  obtain ⟨-, hl, hc⟩ := World.cells?_some h
  intro j v hv
  have hj : j < n := by rw [← hl]; exact (List.getElem?_eq_some_iff.1 hv).1
  have h0 := hc 0 (by omega)
  rw [List.getElem?_eq_getElem (by omega)] at h0
  have hs : a.spot = none := by
    have := cell_spot h0
    simpa [Addr.add] using this
  have := hc j hj
  rw [hv, add_none hs] at this
  refine ⟨?_, hs⟩
  simp only [G0, if_true]
  exact this

theorem trod_struct' {fuel : Nat} {t : TypeId} {fs : Array Field} {cs : List Value} {x : DataW H × List MemPlace} (hu : P.underlying t = some (.struct fs)) (h : DataW.trod enc P w base spare held fuel t cs = some x) :
    ∃ m xs, fuel = m + 1 ∧ cs.length = P.cellsOf t ∧ (fs.toList.mapM fun f => DataW.trod enc P w base spare held m f.type ((cs.drop f.offset).take (P.cellsOf f.type))) = some xs := by
  cases fuel with
  | zero => simp [DataW.trod] at h
  | succ m =>
    unfold DataW.trod at h
    rw [hu] at h
    split at h <;> simp_all
    obtain ⟨hl, xs, hp, hd⟩ := h
    exact ⟨xs, hp⟩

theorem trod_arr' {fuel n : Nat} {t e : TypeId} {cs : List Value} {x : DataW H × List MemPlace} (hu : P.underlying t = some (.array n e)) (h : DataW.trod enc P w base spare held fuel t cs = some x) :
    ∃ (xs : List (DataW H × List MemPlace)) (m : Nat), fuel = m + 1 ∧ cs.length = P.cellsOf t ∧ xs.length = n ∧ ∀ (i : Nat), i < n → DataW.trod enc P w base spare held m e ((cs.drop (i * P.cellsOf e)).take (P.cellsOf e)) = xs[i]? := by
  cases fuel with
  | zero => simp [DataW.trod] at h
  | succ m =>
    unfold DataW.trod at h
    rw [hu] at h
    split at h <;> simp_all
    obtain ⟨hl, xs, hp, hd⟩ := h
    exact ⟨xs, by simpa using mapM_some_length hp, fun i hi => mapM_some_get hp i i (by simp [hi])⟩

theorem trod_rv : ∀ (d fuel : Nat) (t : TypeId) (cs : List Value) (x : DataW H × List MemPlace) (ks : List FK), DataW.trod enc P w base spare held fuel t cs = some x → shP P d t = some ks →
    ∃ ps, RVs (G0 w) ps cs ∧ OkL ks ps := by
  intro d
  induction d with
  | zero => intro fuel t cs x ks _ h; simp [shP] at h
  | succ d ih =>
    intro fuel t cs x ks hx hk
    unfold shP at hk
    split at hk
    · rename_i hu; cases hk
      cases fuel with
      | zero => simp [DataW.trod] at hx
      | succ fuel =>
        unfold DataW.trod at hx; rw [hu] at hx
        split at hx <;> simp_all
        exact ⟨_, .cons _ _ _ _ (.bool _) .nil, .cons _ _ _ _ (.bool _) .nil⟩
    · rename_i k hu; cases hk
      cases fuel with
      | zero => simp [DataW.trod] at hx
      | succ fuel =>
        unfold DataW.trod at hx; rw [hu] at hx
        split at hx <;> simp_all
        obtain ⟨⟨h1, h2⟩, h3⟩ := hx
        subst h1
        exact ⟨_, .cons _ _ _ _ (.int _ _) .nil, .cons _ _ _ _ (.int _ _ h2) .nil⟩
    · rename_i hu; cases hk
      cases fuel with
      | zero => simp [DataW.trod] at hx
      | succ fuel =>
        unfold DataW.trod at hx; rw [hu] at hx
        split at hx <;> simp_all
        rename_i s _
        exact ⟨_, .cons _ _ _ _ (.str _ _ rfl) .nil, .cons _ _ _ _ (.str _ (by have := hx.1; simpa using this)) .nil⟩
    · rename_i e hu
      split at hk
      · rename_i row hrow
        split at hk
        · rename_i hc; cases hk
          rcases DataW.trod_slice hu hx with ⟨rfl, -⟩ | ⟨a, len, cap, elems, rest, n, -, rfl, -, -, hlc, hcm, hel, heach, -, -⟩
          · exact ⟨_, .cons _ _ _ _ (.fslnil _) .nil, .cons _ _ _ _ (.sl row 0 [] (by decide) (.nil _)) .nil⟩
          · have hsp : 0 < len → a.spot = none := by
              intro hl
              have h0 := heach 0 hl
              rw [List.getElem?_eq_getElem (by omega)] at h0
              obtain ⟨cs', hcs, -⟩ := Option.bind_eq_some_iff.1 h0
              have hl' := (World.cells?_some hcs).2.1
              have := (cells_f hcs 0 _ (List.getElem?_eq_getElem (by omega))).2
              simpa [Addr.add] using this
            have key : ∀ m, m ≤ len → ∃ (ps : List PV) (vs : List Value), RVs (G0 w) ps vs ∧ (∀ j v, vs[j]? = some v → (G0 w).f ⟨a.block, a.off + j, none⟩ = some v ∧ a.spot = none) ∧ vs.length = m * row.length ∧ ∃ rows : List (List PV), rows.length = m ∧ (∀ c ∈ rows, OkL row c) ∧ rows.flatten = ps := by
              intro m
              induction m with
              | zero => intro _; exact ⟨[], [], .nil, by simp, by simp, [], rfl, by simp, rfl⟩
              | succ m ihm =>
                intro hm
                obtain ⟨ps, vs, h1, h2, h3, rows, h4, h5, h6⟩ := ihm (by omega)
                have hme := heach m (by omega)
                have : m < elems.length := by omega
                rw [List.getElem?_eq_getElem this] at hme
                obtain ⟨cs', hcs, ht⟩ := Option.bind_eq_some_iff.1 hme
                obtain ⟨qs, g1, g2⟩ := ih _ _ _ _ _ ht hrow
                have hf := cells_f hcs
                refine ⟨ps ++ qs, vs ++ cs', h1.append g1, ?_, ?_, rows ++ [qs], by simp [h4], ?_, by simp [h6]⟩
                · intro j v hj
                  by_cases hlt : j < vs.length
                  · rw [List.getElem?_append_left hlt] at hj; exact h2 j v hj
                  · rw [List.getElem?_append_right (by omega)] at hj
                    have := hf _ _ hj
                    rw [add_none (hsp (by omega))] at this
                    refine ⟨?_, hsp (by omega)⟩
                    rw [← this.1]
                    have e1 : a.off + j = a.off + m * P.cellsOf e + (j - vs.length) := by rw [← hc.1]; omega
                    rw [e1]
                · have := (World.cells?_some hcs).2.1
                  simp [h3, this, ← hc.1, Nat.succ_mul]
                · intro c hcm'
                  rcases List.mem_append.1 hcm' with h | h
                  · exact h5 c h
                  · simp at h; subst h; exact g2
            obtain ⟨ps, vs, h1, h2, h3, rows, h4, h5, h6⟩ := key len (Nat.le_refl _)
            have hR : OkR row len ps := by
              rw [← h6, ← h4]
              clear h4 h6 h1 h3 heach key
              induction rows with
              | nil => exact .nil _
              | cons c rows ihr => exact .cons _ _ _ _ (h5 c (by simp)) (ihr fun c' h => h5 c' (List.mem_cons_of_mem _ h))
            refine ⟨_, .cons _ _ _ _ (.fsl row.length len ps vs a cap h1 hlc hR.length ?_ fun j v hj => (h2 j v hj).1) .nil, .cons _ _ _ _ (.sl row len ps (by omega) hR) .nil⟩
            intro hl
            have : 0 < vs.length := by rw [h3]; exact Nat.mul_pos hl hc.2
            exact (h2 0 _ (List.getElem?_eq_getElem this)).2
        · cases hk
      · cases hk
    · rename_i fs hu
      split at hk
      · rename_i ks' hgo
        split at hk
        · rename_i hlen; cases hk
          obtain ⟨fuel, xs, -, hcl, hm⟩ := trod_struct' hu hx
          have go : ∀ (fl : List Field) (off : Nat) (ks : List FK) (xs : List (DataW H × List MemPlace)), shGo P (shP P d) fl off = some ks → (fl.mapM fun f => DataW.trod enc P w base spare held fuel f.type ((cs.drop f.offset).take (P.cellsOf f.type))) = some xs → off + ks.length ≤ cs.length →
              ∃ ps, RVs (G0 w) ps ((cs.drop off).take ks.length) ∧ OkL ks ps := by
            intro fl
            induction fl with
            | nil =>
              intro off ks xs hg _ _
              simp only [shGo, Option.some.injEq] at hg
              subst hg
              exact ⟨[], by simpa using RVs.nil, .nil⟩
            | cons f fl ihf =>
              intro off ks xs hg hmm hle
              unfold shGo at hg
              split at hg
              · rename_i hoff
                split at hg
                · rename_i k1 hk1
                  split at hg
                  · rename_i hk1l
                    simp only [Option.map_eq_some_iff] at hg
                    obtain ⟨k2, hk2, rfl⟩ := hg
                    rw [List.mapM_cons] at hmm
                    simp only [Option.bind_eq_bind, Option.bind_eq_some_iff, Option.pure_def, Option.some.injEq] at hmm
                    obtain ⟨y, hy, ys, hys, -⟩ := hmm
                    obtain ⟨p1, r1, o1⟩ := ih _ _ _ _ _ hy hk1
                    simp only [List.length_append] at hle
                    obtain ⟨p2, r2, o2⟩ := ihf _ _ _ hk2 hys (by omega)
                    refine ⟨p1 ++ p2, ?_, o1.append o2⟩
                    rw [List.length_append, List.take_add, List.drop_drop]
                    rw [hoff, ← hk1l] at r1
                    exact r1.append r2
                  · cases hg
                · cases hg
              · cases hg
          obtain ⟨ps, r, o⟩ := go _ _ _ _ hgo hm (by omega)
          refine ⟨ps, ?_, o⟩
          rw [List.drop_zero, List.take_of_length_le (by omega)] at r
          exact r
        · cases hk
      · cases hk
    · rename_i n e hu
      split at hk
      · rename_i row hrow
        split at hk
        · rename_i hc; cases hk
          obtain ⟨xs, m, -, hcl, hxl, heach⟩ := trod_arr' hu hx
          have key : ∀ i, i ≤ n → ∃ ps, RVs (G0 w) ps (cs.take (i * row.length)) ∧ OkL ((List.replicate i row).flatten) ps := by
            intro i
            induction i with
            | zero => intro _; exact ⟨[], by simpa using RVs.nil, .nil⟩
            | succ i ihi =>
              intro hi
              obtain ⟨ps, h1, h2⟩ := ihi (by omega)
              have he := heach i (by omega)
              rw [List.getElem?_eq_getElem (by omega)] at he
              obtain ⟨qs, g1, g2⟩ := ih _ _ _ _ _ he hrow
              rw [← hc.1] at g1
              refine ⟨ps ++ qs, ?_, ?_⟩
              · rw [Nat.succ_mul, List.take_add]; exact h1.append g1
              · rw [List.replicate_succ', List.flatten_append]; simpa using h2.append g2
          obtain ⟨ps, h1, h2⟩ := key n (Nat.le_refl _)
          refine ⟨ps, ?_, h2⟩
          rw [List.take_of_length_le (by rw [hcl, ← hc.2]; exact Nat.le_refl _)] at h1
          exact h1
        · cases hk
      · cases hk
    · cases hk
end

section
variable {H : Type} {enc : TypeId × Value → H} {P : Program} {w : World} {spare : Nat → Bool} {held : Bool} {t : TypeId} {v : Value} {d : DataW H} {ps : List MemPlace} {base : Nat} {ks : List FK}

/-- An argument that is a struct. -/
theorem open_st {fs : Array Field} (hu : P.underlying t = some (.struct fs)) (hv : Value.okWide P w .any base t v) (h : DataW.Trod enc P w 0 spare held t v d ps) (hs : shP P 20 t = some ks) : ∃ cells, OkL ks cells ∧ RV (G0 w) (.agg cells) v := by
  obtain ⟨fuel, hf⟩ := h
  obtain ⟨cells, hr, ho⟩ := trod_rv _ _ _ _ _ _ hf hs
  obtain ⟨cs, rfl, -⟩ := Go.WideShapes.okWide_struct hu hv
  refine ⟨cells, ho, ?_⟩
  have : cs = cs.toList.toArray := by simp
  rw [this]
  exact .agg _ _ hr

end

/-- From what the body does to what the row asks for. -/
theorem enter {P : Program} {f : FuncId} {args : List PV} {W : World} {rargs : List Value} {b : Bool} {fn : Func} (hf : P.funcs[f]? = some fn) (hb : fn.body.isSome = true) (hnm : (fn.name == "runtime.NumGoroutine") = false) (h : Fn ⟨P, W⟩ f args (.bool b)) (ha : RVs (G0 W) args rargs) :
    Calls P f rargs.toArray W fun e W' => e = .returned (.bool b) ∧ Below W.heap.size W W' := by
  have hp := h PH0 (G0 W) W rargs (rel0 W) ha
  have hent := run_enter (P := P) (w := W) (args := rargs.toArray) hf hb hnm
  rw [hent] at hp
  rcases hp with ⟨v, w', e, -⟩ | ⟨w', e, hc⟩
  · cases e
  · cases e
    refine Calls.mono hc fun e W' he => ?_
    cases e with
    | returned u =>
      obtain ⟨G', pv, ph', -, hr, hv, -, rfl, rfl⟩ := he
      refine ⟨?_, hr.below⟩
      cases hv; rfl
    | panicked _ => exact he.elim
    | outgrown => exact he.elim
end Pv

namespace Pv
open Go Go.RowKit
variable {H : Type} {enc : TypeId × Value → H} {P : Program} {w : World} {spare : Nat → Bool} {held : Bool} {t : TypeId} {v : Value} {d : DataW H} {ps : List MemPlace} {base : Nat}

/-- A text among the arguments, with the bound that the form itself gives. -/
theorem open_str2 {ts : List TypeId} {ds : List (DataW H)} (hu : P.underlying t = some .string) (hv : Value.okWide P w .any base t v) (h : DataW.Trod enc P w 0 spare held t v d ps) (hsz : (DataW.weightsEach P ts ds).all (· ≤ reachBytes) = true) {j : Nat} (ht : ts[j]? = some t) (hd : ds[j]? = some d) :
    ∃ l, l.length < 2 ^ 47 ∧ RV (G0 w) (.str l) v := by
  obtain ⟨fuel, hf⟩ := h
  obtain ⟨s, rfl⟩ := Go.WideShapes.okWide_string hu hv
  obtain ⟨s', e1, e2, -⟩ := DataW.trod_string hu hf
  have e3 : s = s' := by simpa [Value.cells] using e1
  subst e3
  cases e2
  have := sized_string hsz ht hd
  exact ⟨s.data.toList, by have := reachBytes_lt; omega, .str _ _ rfl⟩
end Pv

namespace Pv
open Go Go.RowKit

section
variable {H : Type} {enc : TypeId × Value → H} {P : Program} {w : World} {spare : Nat → Bool} {held : Bool} {t : TypeId} {v : Value} {d : DataW H} {ps : List MemPlace} {base : Nat} {ks : List FK}
end

theorem okC_u32 {p : PV} (h : OkC (.int .u32) p) : ∃ x : UInt32, p = .int .u32 (x.toNat : Int) := by
  cases h with
  | int k n hn =>
    have : (0 : Int) ≤ n ∧ n < 4294967296 := by
      simp [Lit.wf, IntKind.bits, IntKind.signed, IntKind.min, IntKind.max] at hn; omega
    exact ⟨UInt32.ofNat n.toNat, by congr 1; rw [UInt32.toNat_ofNat']; omega⟩
theorem okC_str {p : PV} (h : OkC .str p) : ∃ l : List UInt8, l.length ≤ maxLen ∧ p = .str l := by
  cases h with | str l hl => exact ⟨l, hl, rfl⟩
theorem okL_cons {k : FK} {ks : List FK} {c : List PV} (h : OkL (k :: ks) c) : ∃ p ps, c = p :: ps ∧ OkC k p ∧ OkL ks ps := by
  cases h with | cons _ _ p ps h1 h2 => exact ⟨p, ps, rfl, h1, h2⟩
theorem okL_nil {c : List PV} (h : OkL [] c) : c = [] := by cases h; rfl
end Pv

namespace Pv
open Go

/-! ### Chapter 24: rings of keys, in plain Lean -/
structure RK where
  id : UInt32
  key : List UInt8
  made : Int
  deriving DecidableEq
def rkC (k : RK) : List PV := [.int .u32 (k.id.toNat : Int), .str k.key, .int .i64 k.made]
def rksC (l : List RK) : List PV := l.flatMap rkC
theorem rksC_len : ∀ (l : List RK), (rksC l).length = l.length * 3
  | [] => rfl
  | k :: l => by rw [rksC, List.flatMap_cons, List.length_append, show (l.flatMap rkC) = rksC l from rfl, rksC_len l]; simp [rkC]; omega
theorem rksC_drop : ∀ (l : List RK) (i : Nat) (r : RK), l[i]? = some r → (rksC l).drop (i * 3) = .int .u32 (r.id.toNat : Int) :: .str r.key :: .int .i64 r.made :: rksC (l.drop (i + 1))
  | [], i, r, h => by simp at h
  | a :: l, 0, r, h => by simp at h; subst h; rfl
  | a :: l, i + 1, r, h => by
    simp only [List.getElem?_cons_succ] at h
    have e : rksC (a :: l) = rkC a ++ rksC l := rfl
    rw [e, show (i + 1) * 3 = 3 + i * 3 by omega, ← List.drop_drop, show (rkC a ++ rksC l).drop 3 = rksC l from rfl, rksC_drop l i r h]; rfl
theorem rksC_dropn (l : List RK) : ∀ i, (rksC l).drop (i * 3) = rksC (l.drop i) := by
  intro i
  cases h : l[i]? with
  | none =>
    rw [List.getElem?_eq_none_iff] at h
    rw [List.drop_eq_nil_of_le (by rw [rksC_len]; omega), List.drop_eq_nil_of_le h]; rfl
  | some r =>
    rw [rksC_drop l i r h]
    have hi := (List.getElem?_eq_some_iff.1 h).1
    have hr : l[i] = r := (List.getElem?_eq_some_iff.1 h).2
    rw [List.drop_eq_getElem_cons hi, hr]; rfl
theorem rksC_append (l m : List RK) : rksC (l ++ m) = rksC l ++ rksC m := by simp [rksC]
theorem rksC_ok (l : List RK) : (rksC l).all scalarV = true := by
  induction l with
  | nil => rfl
  | cons r l ih => rw [rksC, List.flatMap_cons, List.all_append, show l.flatMap rkC = rksC l from rfl, ih]; simp [rkC, scalarV]
theorem rksC_cok (l : List RK) : (rksC l).all cellOk = true := by
  induction l with
  | nil => rfl
  | cons r l ih => rw [rksC, List.flatMap_cons, List.all_append, show l.flatMap rkC = rksC l from rfl, ih]; simp [rkC, cellOk]
theorem scs_rks {n : Nat} {l : List RK} : Scs n (rksC l) = True := eq_true (scs_scalars (rksC_ok l))
theorem getR {α : Type} {l : List α} {i : Nat} (h : i < l.length) : ∃ r, l[i]? = some r := ⟨_, List.getElem?_eq_getElem h⟩
theorem takeR {α : Type} {l : List α} {i : Nat} {x : α} (h : l[i]? = some x) : l.take (i + 1) = l.take i ++ [x] := by rw [List.take_add_one, h]; rfl
/-- A ring's cells. -/
def rgC (L : List RK) (nx : UInt32) : List PV := [.fsl 3 L.length (rksC L), .int .u32 (nx.toNat : Int)]

/-- Is the i-th key as it should be? -/
def fitK (L : List RK) (nx : UInt32) (i : Nat) : Bool :=
  match L[i]? with
  | some k => decide (k.key.length = 32) && (k.id == nx - UInt32.ofNat (L.length - i)) && (decide (i = 0) || match L[i - 1]? with | some p => decide (p.made ≤ k.made) | none => true)
  | none => true
def fitG (L : List RK) (nx : UInt32) : Bool := decide (1 ≤ L.length) && decide (L.length ≤ 8) && (List.range L.length).all (fitK L nx)
def newG (key : List UInt8) (now : Int) : (List RK × UInt32) × Int := if key.length = 32 then (([⟨1, key, now⟩], 2), 0) else (([], 0), 10)
def rotG (L : List RK) (nx : UInt32) (key : List UInt8) (now : Int) : (List RK × UInt32) × Int :=
  if key.length ≠ 32 then ((L, nx), 10) else if (match L.getLast? with | some k => decide (now < k.made) | none => false) then ((L, nx), 21)
  else (((L ++ [(⟨nx, key, now⟩ : RK)]).drop (L.length + 1 - 8), nx + 1), 0)
def idxG (p : RK → Bool) (l : List RK) : Int := match l.findIdx? p with | some i => i | none => -1
theorem idxG_found {p : RK → Bool} {l : List RK} {i : Nat} {r : RK} (h : (l.take i).any p = false) (hr : l[i]? = some r) (hp : p r = true) : l.findIdx? p = some i := by
  obtain ⟨hi, rfl⟩ := List.getElem?_eq_some_iff.1 hr
  rw [List.findIdx?_eq_some_iff_getElem]
  refine ⟨hi, hp, fun j hj => ?_⟩
  rw [List.any_eq_false] at h
  have := h l[j] (by rw [List.mem_take_iff_getElem]; exact ⟨j, by omega, rfl⟩)
  simpa using this
end Pv

namespace Pv
open Go Go.RowKit
variable {X : Ctx} {G : Ghost} {ph : PH} {w : World} {ρ : Option Nat} {n0 : Nat} {Q : Exit → PSt → PH → Prop}

theorem PCalls.args {f : FuncId} {args args' : List PV} {K : PV → PH → Prop} (h : NWs args args') (hc : PCalls X f args' ph K) : PCalls X f args ph K :=
  fun G w rargs hr ha => hc G w rargs hr (h G rargs ha)

/-- All cells of a block are frozen. -/
noncomputable def Ghost.frzB (G : Ghost) (w : World) (b : Nat) : Ghost :=
  { G with f := fun a => match G.f a with
      | some v => some v
      | none => open Classical in if a.spot = none ∧ a.block = b then w.cell? a else none }

theorem le_frzB (G : Ghost) (w : World) (b : Nat) : Le G (G.frzB w b) := ⟨fun _ _ h => h, fun a v h => by simp only [Ghost.frzB, h], fun _ _ _ h => h⟩

theorem Rel.frzB (h : Rel X G ph w) {p : Nat} {cells : List PV} {L : Loc} (hp : ph.get p = some cells) (hL : G.l[p]? = some L) : Rel X (G.frzB w L.b) (ph.kill p) w := by
  have hle := le_frzB G w L.b
  have hk := h.kill p
  have hf : ∀ a v, (G.frzB w L.b).f a = some v → G.f a = some v ∨ (a.spot = none ∧ a.block = L.b ∧ w.cell? a = some v) := by
    intro a v ha
    simp only [Ghost.frzB] at ha
    split at ha
    · rename_i e; cases ha; exact .inl e
    · split at ha
      · rename_i e; exact .inr ⟨e.1, e.2, ha⟩
      · cases ha
  refine ⟨hk.len, hk.below, ?_, hk.disj, ?_, ?_, ?_, ?_, ?_⟩
  · intro q c hc
    obtain ⟨M, vals, cs, e, fz, hM, o⟩ := hk.own q c hc
    exact ⟨M, vals, cs, e, fz, hM, ⟨o.rv.mono hle, o.lt, o.ge, o.hb, o.sz, o.fr, o.at_, o.one⟩⟩
  · intro a v ha
    rcases hf a v ha with h1 | ⟨h1, h2, h3⟩
    · exact h.fz a v h1
    · exact ⟨h1, h3⟩
  · intro a v q c M ha hq hM
    rw [PH.get_kill] at hq
    split at hq
    · cases hq
    · rename_i hne
      rcases hf a v ha with h1 | ⟨h1, h2, h3⟩
      · exact h.fdisj a v q c M h1 hq hM
      · rw [h2]; exact fun e => h.disj q p c cells M L hne hq hp hM hL e.symm
  · intro r o hr
    exact ⟨(hk.ob r o hr).1, (hk.ob r o hr).2.mono hle rfl⟩
  · exact hk.ty.step hle (fun b cs e fz hb => ⟨cs, fz, hb⟩) rfl
  · refine hk.grow.step rfl (Nat.le_refl _) (fun _ _ h => h) (fun _ _ => rfl) (fun a v ha => ?_) fun q c L hc hL => .inl ⟨c, hc, hL⟩
    rcases hf a v ha with h1 | ⟨h1, h2, h3⟩
    · exact .inl h1
    · exact .inr fun hG => h.noGrow hp hL (h2 ▸ hG.kill)

/-- Arguments, of which those that lie in block p are told with their cells. -/
def FA (p : Nat) (cells : List PV) : List PV → List PV → Prop
  | [], [] => True
  | a :: az, b :: bs => (b = a ∨ ∃ off esz len cap, a = .sl p off esz len cap ∧ b = .fsl esz len (seg cells off (len * esz)) ∧ off + len * esz ≤ cells.length) ∧ FA p cells az bs
  | _, _ => False

theorem rv_frz (h : Rel X G ph w) {p : Nat} {cells : List PV} {L : Loc} (hp : ph.get p = some cells) (hL : G.l[p]? = some L) {off esz len : Nat} {cap : Option Nat} {v : Value} (hr : RV G (.sl p off esz len cap) v) (hle : off + len * esz ≤ cells.length) :
    RV (G.frzB w L.b) (.fsl esz len (seg cells off (len * esz))) v := by
  obtain ⟨L2, vals, cs, e, fz, hL2, o⟩ := h.own p cells hp
  rw [hL] at hL2
  obtain rfl : L = L2 := by simpa using hL2
  cases hr with
  | sl _ _ _ _ _ L' a rcap hL' h1 h2 h3 h4 =>
    rw [hL] at hL'
    obtain rfl : L = L' := by simpa using hL'
    refine .fsl _ _ _ ((vals.drop off).take (len * esz)) _ _ (((o.rv.drop off).take _).mono (le_frzB _ _ _)) h1 (by simp [seg]; omega) ?_ ?_
    · intro h0; rw [h4 (by omega)]
    · intro j u hj
      have h0 : 0 < rcap := by
        by_cases hz : rcap = 0
        · have : len = 0 := by omega
          subst this; simp at hj
        · omega
      rw [h4 h0]
      rw [List.getElem?_take] at hj
      split at hj
      · rw [List.getElem?_drop] at hj
        have hc := o.cell hj
        have hn : G.f ⟨L.b, L.o + (off + j), none⟩ = none := by
          cases e : G.f ⟨L.b, L.o + (off + j), none⟩ with
          | none => rfl
          | some u => exact absurd rfl (h.fdisj _ _ p cells L e hp hL)
        simp only [Ghost.frzB, Nat.add_assoc, hn]
        rw [if_pos (by simp)]; exact hc
      · cases hj

theorem FA.rvs (h : Rel X G ph w) {p : Nat} {cells : List PV} {L : Loc} (hp : ph.get p = some cells) (hL : G.l[p]? = some L) : ∀ {az bs : List PV} {rs : List Value}, FA p cells az bs → RVs G az rs → RVs (G.frzB w L.b) bs rs
  | [], [], _, _, hr => by cases hr; exact .nil
  | a :: az, b :: bs, _, hf, hr => by
    obtain ⟨h1, h2⟩ := hf
    cases hr with
    | cons _ r _ rs ha hs =>
      refine .cons _ _ _ _ ?_ (FA.rvs h hp hL h2 hs)
      rcases h1 with rfl | ⟨off, esz, len, cap, rfl, rfl, hle⟩
      · exact ha.mono (le_frzB _ _ _)
      · exact rv_frz h hp hL ha hle
  | [], _ :: _, _, hf, _ => hf.elim
  | _ :: _, [], _, hf, _ => hf.elim

end Pv
