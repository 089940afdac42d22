/- Part of the proof: the layer of pure values, or walks through functions (PvDrawF, PvCxJ, PvBits, PvAesH, PvAesE, PvNbH). -/
import Derived.Test.YtbocckencbkdeaaGreatPvDrawT
import Derived.Test.YtbocckencbkdeaaGreatPvNum
import Derived.Test.YtbocckencbkdeaaGreatPvFxJ
import Derived.Test.YtbocckencbkdeaaGreatPvB0
import Derived.Test.YtbocckencbkdeaaGreatPvOpsE
set_option linter.all false
namespace Pv
open Go Go.RowKit
variable {X : Ctx} {ops : Array Oper} {Q : Exit → PSt → PH → Prop} {P : Program}

/-! ### The checks of a region's order, by a table of what stands ahead (clo itself goes every way) -/
abbrev Tab := List (List Nat)
def Tab.at (T : Tab) (i : Nat) : List Nat := T.getD i []
def tabAll (ops : Array Oper) (T : Tab) : Nat → List Oper → Bool
  | _, [] => true
  | i, o :: os => (edgesOf o).all (fun j => decide (j < i) && (T.at i).contains j && (T.at j).all (T.at i).contains) &&
      (T.at i).all (fun k => (edgesOf o).any fun j => k == j || (T.at j).contains k) && tabAll ops T (i + 1) os
def tabOk (ops : Array Oper) (T : Tab) : Bool := tabAll ops T 0 ops.toList

theorem tabAll_get {T : Tab} : ∀ {os : List Oper} {n : Nat}, tabAll ops T n os = true → ∀ {i : Nat} {o : Oper}, os[i]? = some o →
    (∀ j ∈ edgesOf o, j < n + i ∧ j ∈ T.at (n + i) ∧ ∀ k ∈ T.at j, k ∈ T.at (n + i)) ∧ ∀ k ∈ T.at (n + i), ∃ j ∈ edgesOf o, k = j ∨ k ∈ T.at j
  | [], _, _, i, o, h => by simp at h
  | a :: os, n, h, 0, o, ho => by
    simp at ho; subst ho
    simp only [tabAll, Bool.and_eq_true, List.all_eq_true, List.any_eq_true, decide_eq_true_eq, List.contains_iff_mem, beq_iff_eq, Bool.or_eq_true] at h
    exact ⟨fun j hj => ⟨(h.1.1 j hj).1.1, (h.1.1 j hj).1.2, (h.1.1 j hj).2⟩, h.1.2⟩
  | a :: os, n, h, i + 1, o, ho => by
    simp only [List.getElem?_cons_succ] at ho
    simp only [tabAll, Bool.and_eq_true] at h
    have := tabAll_get h.2 ho
    rwa [show n + 1 + i = n + (i + 1) by omega] at this

theorem tab_clo {T : Tab} (h : tabOk ops T = true) : ∀ (n i : Nat) (o : Oper), ops[i]? = some o → i < n → ∀ k, k ∈ clo ops n i ↔ k ∈ T.at i := by
  intro n
  induction n with
  | zero => intro i o _ hi; omega
  | succ n ih =>
    intro i o ho hi k
    have hg := tabAll_get h (i := i) (o := o) (by rw [Array.getElem?_toList]; exact ho)
    rw [Nat.zero_add] at hg
    rw [clo, ho]
    simp only [List.mem_flatMap, List.mem_cons]
    have hlt : i < ops.size := (Array.getElem?_eq_some_iff.1 ho).1
    constructor
    · rintro ⟨j, hj, hk⟩
      obtain ⟨h1, h2, h3⟩ := hg.1 j hj
      rcases hk with rfl | hk
      · exact h2
      · have hj2 : j < ops.size := by omega
        exact h3 k ((ih j ops[j] (Array.getElem?_eq_getElem hj2) (by omega) k).1 hk)
    · intro hk
      obtain ⟨j, hj, hk⟩ := hg.2 k hk
      obtain ⟨h1, h2, h3⟩ := hg.1 j hj
      have hj2 : j < ops.size := by omega
      refine ⟨j, hj, ?_⟩
      rcases hk with rfl | hk
      · exact .inl rfl
      · exact .inr ((ih j ops[j] (Array.getElem?_eq_getElem hj2) (by omega) k).2 hk)

theorem tab_anc {T : Tab} (h : tabOk ops T = true) {i j : Nat} (hi : i < ops.size) : (anc ops i).contains j = (T.at i).contains j := by
  rw [Bool.eq_iff_iff, List.contains_iff_mem, List.contains_iff_mem]
  exact tab_clo h ops.size i ops[i] (Array.getElem?_eq_getElem hi) hi j

/-- Is it so that.., for places in the region alone. -/
def inT (ops : Array Oper) (T : Tab) (i j : Nat) : Bool := (T.at i).contains j
theorem inT_anc {T : Tab} (h : tabOk ops T = true) {i j : Nat} {o : Oper} (ho : ops[i]? = some o) : (anc ops i).contains j = inT ops T i j := tab_anc h (Array.getElem?_eq_some_iff.1 ho).1

def atF (P : Program) (ops : Array Oper) (T : Tab) (N : Nat) (all pre post : List Nat) (i : Nat) : Bool :=
  match ops[i]? with
  | none => false
  | some o =>
    (edgesOf o).all (fun j => decide (j < i)) &&
    pre.all (fun j => match ops[j]? with
      | none => false
      | some p => movable P p.op || inT ops T i j) &&
    post.all (fun j => j != i && !inT ops T i j) &&
    (match o.dst with
      | none => !movable P o.op
      | some d => decide (d < N) && (!movable P o.op || !(readsOf ops o).contains d) &&
        all.all (fun j => j == i || match ops[j]? with
          | none => false
          | some p => !(namesOf ops p).contains d || inT ops T j i || (!movable P o.op && inT ops T i j)))
theorem atF_eq {T : Tab} (h : tabOk ops T = true) {N : Nat} {all pre post : List Nat} {i : Nat} : atF P ops T N all pre post i = atOk P ops N all pre post i := by
  unfold atF atOk
  cases ho : ops[i]? with
  | none => rfl
  | some o =>
    dsimp only
    have e : ∀ j, (anc ops i).contains j = inT ops T i j := fun j => inT_anc h ho
    simp only [e]
    congr 1
    cases o.dst with
    | none => rfl
    | some d =>
      dsimp only
      congr 2
      funext j
      cases hp : ops[j]? with
      | none => rfl
      | some p => dsimp only; rw [inT_anc h hp]
def chainF (P : Program) (ops : Array Oper) (T : Tab) (N : Nat) (all : List Nat) : List Nat → List Nat → Bool
  | _, [] => true
  | pre, i :: κ => atF P ops T N all pre κ i && chainF P ops T N all (pre ++ [i]) κ
theorem chainF_eq {T : Tab} (h : tabOk ops T = true) {N : Nat} {all : List Nat} : ∀ {κ pre : List Nat}, chainF P ops T N all pre κ = chainOk P ops N all pre κ
  | [], _ => rfl
  | i :: κ, pre => by rw [chainF, chainOk, atF_eq h, chainF_eq h]
def planF (P : Program) (ops : Array Oper) (T : Tab) : List Nat → Plan → Bool
  | _, [] => true
  | pend, (i, mv, re) :: κ => match ops[i]? with
    | none => false
    | some o => (mv == movable P o.op) && (match mv with
      | true => planF P ops T (i :: pend) κ
      | false => (pend.filter fun j => !inT ops T i j).all re.contains && planF P ops T (pend.filter fun j => !inT ops T i j) κ)
theorem planF_eq {T : Tab} (h : tabOk ops T = true) : ∀ {κ : Plan} {pend : List Nat}, planF P ops T pend κ = planOk P ops pend κ
  | [], _ => rfl
  | (i, mv, re) :: κ, pend => by
    unfold planF planOk
    cases ho : ops[i]? with
    | none => rfl
    | some o =>
      dsimp only
      have e : ∀ j, (anc ops i).contains j = inT ops T i j := fun j => inT_anc h ho
      cases mv <;> simp only [e, planF_eq h]
def drawF (P : Program) (ops : Array Oper) (T : Tab) (N : Nat) (κ : Plan) : Bool :=
  tabOk ops T && (κ.length == ops.size && (List.range ops.size).all (fun i => (κ.map (·.1)).contains i) && (κ.map (·.1)).all (fun i => decide (i < ops.size)) && chainF P ops T N (κ.map (·.1)) [] (κ.map (·.1))) && planF P ops T [] κ
theorem w_drawnF {ρ : Option Nat} {n0 id : Nat} {s : PSt} {ph : PH} (T : Tab) (κ : Plan) (N : Nat) (hm : X.P.follows .mixedOrders = true) (hok : drawF X.P ops T N κ = true) (hN : N ≤ s.tm.length) (h : vcP X ops Q κ s ph) : vc X ρ n0 (.region id ops true) Q s ph := by
  simp only [drawF, Bool.and_eq_true] at hok
  refine w_drawn κ N hm ?_ hN h
  rw [Bool.and_eq_true]
  refine ⟨?_, by rw [← planF_eq hok.1.1]; exact hok.2⟩
  unfold drawOk
  rw [← chainF_eq hok.1.1]
  simp only [Bool.and_eq_true, List.length_map]
  exact ⟨⟨⟨hok.1.2.1.1.1, hok.1.2.1.1.2⟩, hok.1.2.1.2⟩, hok.1.2.2⟩

/-! Trees -/
def atTF (P : Program) (ops : Array Oper) (T : Tab) (N : Nat) (all post : List Nat) (i : Nat) : Bool :=
  match ops[i]? with
  | none => false
  | some o =>
    (edgesOf o).all (fun j => decide (j < i)) &&
    post.all (fun j => j != i && !inT ops T i j) &&
    (match o.dst with
      | none => !movable P o.op
      | some d => decide (d < N) && (!movable P o.op || !(readsOf ops o).contains d) &&
        all.all (fun j => j == i || match ops[j]? with
          | none => false
          | some p => !(namesOf ops p).contains d || inT ops T j i || (!movable P o.op && inT ops T i j)))
theorem atTF_eq {T : Tab} (h : tabOk ops T = true) {N : Nat} {all post : List Nat} {i : Nat} : atTF P ops T N all post i = atT P ops N all post i := by
  unfold atTF atT
  cases ho : ops[i]? with
  | none => rfl
  | some o =>
    dsimp only
    have e : ∀ j, (anc ops i).contains j = inT ops T i j := fun j => inT_anc h ho
    simp only [e]
    congr 1
    cases o.dst with
    | none => rfl
    | some d =>
      dsimp only
      congr 2
      funext j
      cases hp : ops[j]? with
      | none => rfl
      | some p => dsimp only; rw [inT_anc h hp]
def chainTF (P : Program) (ops : Array Oper) (T : Tab) (N : Nat) (all : List Nat) : List Nat → Bool
  | [] => true
  | i :: κ => atTF P ops T N all κ i && chainTF P ops T N all κ
theorem chainTF_eq {T : Tab} (h : tabOk ops T = true) {N : Nat} {all : List Nat} : ∀ {κ : List Nat}, chainTF P ops T N all κ = chainT P ops N all κ
  | [] => rfl
  | i :: κ => by rw [chainTF, chainT, atTF_eq h, chainTF_eq h]
def altsF (P : Program) (ops : Array Oper) (T : Tab) (κ : List Nat) : List Nat :=
  κ.filter fun i => (match ops[i]? with | some o => !movable P o.op | none => false) && κ.all fun j => !inT ops T i j
def rdyF (P : Program) (ops : Array Oper) (T : Tab) (κ : List Nat) : Option Nat :=
  κ.find? fun i => (match ops[i]? with | some o => movable P o.op | none => false) && κ.all fun j => !inT ops T i j
theorem altsF_eq {T : Tab} (h : tabOk ops T = true) {κ : List Nat} : altsF P ops T κ = alts P ops κ := by
  unfold altsF alts
  congr 1; funext i
  cases ho : ops[i]? with
  | none => rfl
  | some o => simp only [fun j => inT_anc (j := j) h ho]
theorem rdyF_eq {T : Tab} (h : tabOk ops T = true) {κ : List Nat} : rdyF P ops T κ = rdy P ops κ := by
  unfold rdyF rdy
  congr 1; funext i
  cases ho : ops[i]? with
  | none => rfl
  | some o => simp only [fun j => inT_anc (j := j) h ho]
def ptF (P : Program) (ops : Array Oper) (T : Tab) : Bool → List Nat → List Nat → PT → Bool
  | c, _, κ, .nil => !c && κ.isEmpty
  | c, _, _, .no => c
  | c, pend, κ, .mv i t => !c && (rdyF P ops T κ == some i) && ptF P ops T false (i :: pend) (κ.erase i) t
  | c, pend, κ, .fx i re t rest => (c || (rdyF P ops T κ == none && !κ.isEmpty && (altsF P ops T κ).all (PT.fx i re t rest).heads.contains)) && (ops[i]?).isSome &&
      (pend.filter fun j => !inT ops T i j).all re.contains && ptF P ops T false (pend.filter fun j => !inT ops T i j) (κ.erase i) t && ptF P ops T true pend κ rest
theorem ptF_ok {T : Tab} (h : tabOk ops T = true) : ∀ {t : PT} {c : Bool} {pend κ : List Nat}, ptF P ops T c pend κ t = true → ptOk P ops c pend κ t = true
  | .nil, _, _, _, e => e
  | .no, _, _, _, e => e
  | .mv i t, c, pend, κ, e => by
    unfold ptF at e; unfold ptOk
    simp only [Bool.and_eq_true] at e ⊢
    rw [rdyF_eq h] at e
    exact ⟨e.1, ptF_ok h e.2⟩
  | .fx i re t rest, c, pend, κ, e => by
    unfold ptF at e; unfold ptOk
    rw [rdyF_eq h, altsF_eq h] at e
    simp only [Bool.and_eq_true] at e ⊢
    obtain ⟨⟨⟨⟨e1, e2⟩, e3⟩, e4⟩, e5⟩ := e
    obtain ⟨o, ho⟩ := Option.isSome_iff_exists.1 e2
    simp only [fun j => (inT_anc (j := j) h ho)]
    exact ⟨⟨⟨e1, e3⟩, ptF_ok h e4⟩, ptF_ok h e5⟩
def drawTF (P : Program) (ops : Array Oper) (A : Tab) (N : Nat) (κ : List Nat) (T : PT) : Bool :=
  tabOk ops A && (κ.length == ops.size && (List.range ops.size).all (fun i => κ.contains i) && κ.all (fun i => decide (i < ops.size)) && chainTF P ops A N κ κ) && ptF P ops A false [] κ T
theorem w_drawnTF {ρ : Option Nat} {n0 id : Nat} {s : PSt} {ph : PH} (A : Tab) (T : PT) (κ : List Nat) (N : Nat) (hm : X.P.follows .mixedOrders = true) (hok : drawTF X.P ops A N κ T = true) (hN : N ≤ s.tm.length) (h : vcT X ops Q T s ph) : vc X ρ n0 (.region id ops true) Q s ph := by
  simp only [drawTF, Bool.and_eq_true] at hok
  refine w_drawnT T κ N hm ?_ hN h
  rw [Bool.and_eq_true]
  refine ⟨?_, ptF_ok hok.1.1 hok.2⟩
  unfold drawOkT
  rw [← chainTF_eq hok.1.1]
  simp only [Bool.and_eq_true]
  exact ⟨⟨⟨hok.1.2.1.1.1, hok.1.2.1.1.2⟩, hok.1.2.1.2⟩, hok.1.2.2⟩
end Pv

namespace Pv
open Go Go.Proofs
noncomputable abbrev Cx (w0 : World) : Ctx := ⟨Tryz.prog, w0⟩
theorem tf1 : type_of% (And.intro (And.intro (And.intro (@Tryz.underlying1) (@Tryz.sz1)) (And.intro (@Tryz.by1) (@Tryz.kk1))) (And.intro (And.intro (@Tryz.ag1) (@Tryz.ap1)) (And.intro (@Tryz.iu1) (@Tryz.se1)))) := And.intro (And.intro (And.intro (@Tryz.underlying1) (@Tryz.sz1)) (And.intro (@Tryz.by1) (@Tryz.kk1))) (And.intro (And.intro (@Tryz.ag1) (@Tryz.ap1)) (And.intro (@Tryz.iu1) (@Tryz.se1)))
theorem tf3 : type_of% (And.intro (And.intro (And.intro (@Tryz.underlying3) (@Tryz.sz3)) (And.intro (@Tryz.by3) (@Tryz.kk3))) (And.intro (And.intro (@Tryz.ag3) (@Tryz.ap3)) (And.intro (@Tryz.iu3) (@Tryz.se3)))) := And.intro (And.intro (And.intro (@Tryz.underlying3) (@Tryz.sz3)) (And.intro (@Tryz.by3) (@Tryz.kk3))) (And.intro (And.intro (@Tryz.ag3) (@Tryz.ap3)) (And.intro (@Tryz.iu3) (@Tryz.se3)))
theorem tf4 : type_of% (And.intro (And.intro (And.intro (@Tryz.underlying4) (@Tryz.sz4)) (And.intro (@Tryz.by4) (@Tryz.kk4))) (And.intro (And.intro (@Tryz.ag4) (@Tryz.ap4)) (And.intro (@Tryz.iu4) (@Tryz.se4)))) := And.intro (And.intro (And.intro (@Tryz.underlying4) (@Tryz.sz4)) (And.intro (@Tryz.by4) (@Tryz.kk4))) (And.intro (And.intro (@Tryz.ag4) (@Tryz.ap4)) (And.intro (@Tryz.iu4) (@Tryz.se4)))
theorem tf5 : type_of% (And.intro (And.intro (And.intro (@Tryz.underlying5) (@Tryz.sz5)) (And.intro (@Tryz.by5) (@Tryz.kk5))) (And.intro (And.intro (@Tryz.ag5) (@Tryz.ap5)) (And.intro (@Tryz.iu5) (@Tryz.se5)))) := And.intro (And.intro (And.intro (@Tryz.underlying5) (@Tryz.sz5)) (And.intro (@Tryz.by5) (@Tryz.kk5))) (And.intro (And.intro (@Tryz.ag5) (@Tryz.ap5)) (And.intro (@Tryz.iu5) (@Tryz.se5)))
theorem tf9 : type_of% (And.intro (And.intro (And.intro (@Tryz.underlying9) (@Tryz.sz9)) (And.intro (@Tryz.by9) (@Tryz.kk9))) (And.intro (And.intro (@Tryz.ag9) (@Tryz.ap9)) (And.intro (@Tryz.iu9) (@Tryz.se9)))) := And.intro (And.intro (And.intro (@Tryz.underlying9) (@Tryz.sz9)) (And.intro (@Tryz.by9) (@Tryz.kk9))) (And.intro (And.intro (@Tryz.ag9) (@Tryz.ap9)) (And.intro (@Tryz.iu9) (@Tryz.se9)))
theorem tf21 : type_of% (And.intro (And.intro (And.intro (@Tryz.underlying21) (@Tryz.sz21)) (And.intro (@Tryz.by21) (@Tryz.kk21))) (And.intro (And.intro (@Tryz.ag21) (@Tryz.ap21)) (And.intro (@Tryz.iu21) (@Tryz.se21)))) := And.intro (And.intro (And.intro (@Tryz.underlying21) (@Tryz.sz21)) (And.intro (@Tryz.by21) (@Tryz.kk21))) (And.intro (And.intro (@Tryz.ag21) (@Tryz.ap21)) (And.intro (@Tryz.iu21) (@Tryz.se21)))
theorem tf24 : type_of% (And.intro (And.intro (And.intro (@Tryz.underlying24) (@Tryz.sz24)) (And.intro (@Tryz.by24) (@Tryz.kk24))) (And.intro (And.intro (@Tryz.ag24) (@Tryz.ap24)) (And.intro (@Tryz.iu24) (@Tryz.se24)))) := And.intro (And.intro (And.intro (@Tryz.underlying24) (@Tryz.sz24)) (And.intro (@Tryz.by24) (@Tryz.kk24))) (And.intro (And.intro (@Tryz.ag24) (@Tryz.ap24)) (And.intro (@Tryz.iu24) (@Tryz.se24)))
theorem tf30 : type_of% (And.intro (And.intro (And.intro (@Tryz.underlying30) (@Tryz.sz30)) (And.intro (@Tryz.by30) (@Tryz.kk30))) (And.intro (And.intro (@Tryz.sl30) (@Tryz.ag30)) (And.intro (@Tryz.ap30) (And.intro (@Tryz.iu30) (@Tryz.se30))))) := And.intro (And.intro (And.intro (@Tryz.underlying30) (@Tryz.sz30)) (And.intro (@Tryz.by30) (@Tryz.kk30))) (And.intro (And.intro (@Tryz.sl30) (@Tryz.ag30)) (And.intro (@Tryz.ap30) (And.intro (@Tryz.iu30) (@Tryz.se30))))
theorem tf31 : type_of% (And.intro (And.intro (And.intro (@Tryz.underlying31) (@Tryz.sz31)) (And.intro (@Tryz.by31) (@Tryz.kk31))) (And.intro (And.intro (@Tryz.ag31) (@Tryz.ap31)) (And.intro (@Tryz.iu31) (@Tryz.se31)))) := And.intro (And.intro (And.intro (@Tryz.underlying31) (@Tryz.sz31)) (And.intro (@Tryz.by31) (@Tryz.kk31))) (And.intro (And.intro (@Tryz.ag31) (@Tryz.ap31)) (And.intro (@Tryz.iu31) (@Tryz.se31)))
theorem tf33 : type_of% (And.intro (And.intro (And.intro (@Tryz.underlying33) (@Tryz.sz33)) (And.intro (@Tryz.by33) (@Tryz.kk33))) (And.intro (And.intro (@Tryz.sl33) (@Tryz.ag33)) (And.intro (@Tryz.ap33) (And.intro (@Tryz.iu33) (@Tryz.se33))))) := And.intro (And.intro (And.intro (@Tryz.underlying33) (@Tryz.sz33)) (And.intro (@Tryz.by33) (@Tryz.kk33))) (And.intro (And.intro (@Tryz.sl33) (@Tryz.ag33)) (And.intro (@Tryz.ap33) (And.intro (@Tryz.iu33) (@Tryz.se33))))
theorem tf56 : type_of% (And.intro (And.intro (And.intro (@Tryz.underlying56) (And.intro (@Tryz.sz56) (@Tryz.by56))) (And.intro (And.intro (@Tryz.kk56) (@Tryz.ag56)) (And.intro (@Tryz.ap56) (@Tryz.iu56)))) (And.intro (And.intro (@Tryz.se56) (And.intro (@Tryz.fl56_0) (@Tryz.fl56_1))) (And.intro (And.intro (@Tryz.fl56_2) (@Tryz.pl56)) (And.intro (@Tryz.ft56) (@Tryz.eg56))))) := And.intro (And.intro (And.intro (@Tryz.underlying56) (And.intro (@Tryz.sz56) (@Tryz.by56))) (And.intro (And.intro (@Tryz.kk56) (@Tryz.ag56)) (And.intro (@Tryz.ap56) (@Tryz.iu56)))) (And.intro (And.intro (@Tryz.se56) (And.intro (@Tryz.fl56_0) (@Tryz.fl56_1))) (And.intro (And.intro (@Tryz.fl56_2) (@Tryz.pl56)) (And.intro (@Tryz.ft56) (@Tryz.eg56))))
theorem tf82 : type_of% (And.intro (And.intro (And.intro (@Tryz.underlying82) (@Tryz.sz82)) (And.intro (@Tryz.by82) (@Tryz.kk82))) (And.intro (And.intro (@Tryz.ag82) (@Tryz.ap82)) (And.intro (@Tryz.iu82) (@Tryz.se82)))) := And.intro (And.intro (And.intro (@Tryz.underlying82) (@Tryz.sz82)) (And.intro (@Tryz.by82) (@Tryz.kk82))) (And.intro (And.intro (@Tryz.ag82) (@Tryz.ap82)) (And.intro (@Tryz.iu82) (@Tryz.se82)))
theorem tf86 : type_of% (And.intro (And.intro (And.intro (@Tryz.underlying86) (And.intro (@Tryz.sz86) (@Tryz.by86))) (And.intro (@Tryz.kk86) (And.intro (@Tryz.ar86) (@Tryz.pl86)))) (And.intro (And.intro (@Tryz.ag86) (And.intro (@Tryz.ap86) (@Tryz.iu86))) (And.intro (@Tryz.se86) (And.intro (@Tryz.ft86) (@Tryz.eg86))))) := And.intro (And.intro (And.intro (@Tryz.underlying86) (And.intro (@Tryz.sz86) (@Tryz.by86))) (And.intro (@Tryz.kk86) (And.intro (@Tryz.ar86) (@Tryz.pl86)))) (And.intro (And.intro (@Tryz.ag86) (And.intro (@Tryz.ap86) (@Tryz.iu86))) (And.intro (@Tryz.se86) (And.intro (@Tryz.ft86) (@Tryz.eg86))))
theorem tf116 : type_of% (And.intro (And.intro (And.intro (@Tryz.underlying116) (@Tryz.sz116)) (And.intro (@Tryz.by116) (@Tryz.kk116))) (And.intro (And.intro (@Tryz.ag116) (@Tryz.ap116)) (And.intro (@Tryz.iu116) (@Tryz.se116)))) := And.intro (And.intro (And.intro (@Tryz.underlying116) (@Tryz.sz116)) (And.intro (@Tryz.by116) (@Tryz.kk116))) (And.intro (And.intro (@Tryz.ag116) (@Tryz.ap116)) (And.intro (@Tryz.iu116) (@Tryz.se116)))
theorem tf118 : type_of% (And.intro (And.intro (And.intro (@Tryz.underlying118) (@Tryz.sz118)) (And.intro (@Tryz.by118) (And.intro (@Tryz.kk118) (@Tryz.ag118)))) (And.intro (And.intro (@Tryz.ap118) (@Tryz.iu118)) (And.intro (@Tryz.se118) (And.intro (@Tryz.fl118_1) (@Tryz.pl118))))) := And.intro (And.intro (And.intro (@Tryz.underlying118) (@Tryz.sz118)) (And.intro (@Tryz.by118) (And.intro (@Tryz.kk118) (@Tryz.ag118)))) (And.intro (And.intro (@Tryz.ap118) (@Tryz.iu118)) (And.intro (@Tryz.se118) (And.intro (@Tryz.fl118_1) (@Tryz.pl118))))
theorem tf120 : type_of% (And.intro (And.intro (And.intro (@Tryz.underlying120) (@Tryz.sz120)) (And.intro (@Tryz.by120) (And.intro (@Tryz.kk120) (@Tryz.ag120)))) (And.intro (And.intro (@Tryz.ap120) (And.intro (@Tryz.iu120) (@Tryz.se120))) (And.intro (@Tryz.fl120_0) (And.intro (@Tryz.fl120_1) (@Tryz.pl120))))) := And.intro (And.intro (And.intro (@Tryz.underlying120) (@Tryz.sz120)) (And.intro (@Tryz.by120) (And.intro (@Tryz.kk120) (@Tryz.ag120)))) (And.intro (And.intro (@Tryz.ap120) (And.intro (@Tryz.iu120) (@Tryz.se120))) (And.intro (@Tryz.fl120_0) (And.intro (@Tryz.fl120_1) (@Tryz.pl120))))
theorem tf122 : type_of% (And.intro (And.intro (And.intro (@Tryz.underlying122) (@Tryz.sz122)) (And.intro (@Tryz.by122) (And.intro (@Tryz.kk122) (@Tryz.ag122)))) (And.intro (And.intro (@Tryz.ap122) (@Tryz.iu122)) (And.intro (@Tryz.se122) (And.intro (@Tryz.fl122_1) (@Tryz.pl122))))) := And.intro (And.intro (And.intro (@Tryz.underlying122) (@Tryz.sz122)) (And.intro (@Tryz.by122) (And.intro (@Tryz.kk122) (@Tryz.ag122)))) (And.intro (And.intro (@Tryz.ap122) (@Tryz.iu122)) (And.intro (@Tryz.se122) (And.intro (@Tryz.fl122_1) (@Tryz.pl122))))
theorem tf124 : type_of% (And.intro (And.intro (And.intro (@Tryz.underlying124) (@Tryz.sz124)) (And.intro (@Tryz.by124) (And.intro (@Tryz.kk124) (@Tryz.ag124)))) (And.intro (And.intro (@Tryz.ap124) (And.intro (@Tryz.iu124) (@Tryz.se124))) (And.intro (@Tryz.fl124_1) (And.intro (@Tryz.fl124_2) (@Tryz.pl124))))) := And.intro (And.intro (And.intro (@Tryz.underlying124) (@Tryz.sz124)) (And.intro (@Tryz.by124) (And.intro (@Tryz.kk124) (@Tryz.ag124)))) (And.intro (And.intro (@Tryz.ap124) (And.intro (@Tryz.iu124) (@Tryz.se124))) (And.intro (@Tryz.fl124_1) (And.intro (@Tryz.fl124_2) (@Tryz.pl124))))
theorem tf125 : type_of% (And.intro (And.intro (And.intro (@Tryz.underlying125) (And.intro (@Tryz.sz125) (@Tryz.by125))) (And.intro (@Tryz.kk125) (And.intro (@Tryz.ar125) (@Tryz.pl125)))) (And.intro (And.intro (@Tryz.ag125) (And.intro (@Tryz.ap125) (@Tryz.iu125))) (And.intro (@Tryz.se125) (And.intro (@Tryz.ft125) (@Tryz.eg125))))) := And.intro (And.intro (And.intro (@Tryz.underlying125) (And.intro (@Tryz.sz125) (@Tryz.by125))) (And.intro (@Tryz.kk125) (And.intro (@Tryz.ar125) (@Tryz.pl125)))) (And.intro (And.intro (@Tryz.ag125) (And.intro (@Tryz.ap125) (@Tryz.iu125))) (And.intro (@Tryz.se125) (And.intro (@Tryz.ft125) (@Tryz.eg125))))
theorem tf126 : type_of% (And.intro (And.intro (And.intro (@Tryz.underlying126) (@Tryz.sz126)) (And.intro (@Tryz.by126) (And.intro (@Tryz.kk126) (@Tryz.ar126)))) (And.intro (And.intro (@Tryz.pl126) (@Tryz.ag126)) (And.intro (@Tryz.ap126) (And.intro (@Tryz.iu126) (@Tryz.se126))))) := And.intro (And.intro (And.intro (@Tryz.underlying126) (@Tryz.sz126)) (And.intro (@Tryz.by126) (And.intro (@Tryz.kk126) (@Tryz.ar126)))) (And.intro (And.intro (@Tryz.pl126) (@Tryz.ag126)) (And.intro (@Tryz.ap126) (And.intro (@Tryz.iu126) (@Tryz.se126))))
theorem tf127 : type_of% (And.intro (And.intro (And.intro (@Tryz.underlying127) (@Tryz.sz127)) (And.intro (@Tryz.by127) (@Tryz.kk127))) (And.intro (And.intro (@Tryz.sl127) (@Tryz.ag127)) (And.intro (@Tryz.ap127) (And.intro (@Tryz.iu127) (@Tryz.se127))))) := And.intro (And.intro (And.intro (@Tryz.underlying127) (@Tryz.sz127)) (And.intro (@Tryz.by127) (@Tryz.kk127))) (And.intro (And.intro (@Tryz.sl127) (@Tryz.ag127)) (And.intro (@Tryz.ap127) (And.intro (@Tryz.iu127) (@Tryz.se127))))
theorem tf129 : type_of% (And.intro (And.intro (And.intro (@Tryz.underlying129) (And.intro (@Tryz.sz129) (@Tryz.by129))) (And.intro (And.intro (@Tryz.kk129) (@Tryz.ag129)) (And.intro (@Tryz.ap129) (@Tryz.iu129)))) (And.intro (And.intro (And.intro (@Tryz.se129) (@Tryz.fl129_0)) (And.intro (@Tryz.fl129_1) (@Tryz.fl129_2))) (And.intro (And.intro (@Tryz.fl129_3) (@Tryz.fl129_4)) (And.intro (@Tryz.fl129_5) (@Tryz.pl129))))) := And.intro (And.intro (And.intro (@Tryz.underlying129) (And.intro (@Tryz.sz129) (@Tryz.by129))) (And.intro (And.intro (@Tryz.kk129) (@Tryz.ag129)) (And.intro (@Tryz.ap129) (@Tryz.iu129)))) (And.intro (And.intro (And.intro (@Tryz.se129) (@Tryz.fl129_0)) (And.intro (@Tryz.fl129_1) (@Tryz.fl129_2))) (And.intro (And.intro (@Tryz.fl129_3) (@Tryz.fl129_4)) (And.intro (@Tryz.fl129_5) (@Tryz.pl129))))
theorem tf135 : type_of% (And.intro (And.intro (And.intro (@Tryz.underlying135) (@Tryz.sz135)) (And.intro (@Tryz.by135) (@Tryz.kk135))) (And.intro (And.intro (@Tryz.ag135) (@Tryz.ap135)) (And.intro (@Tryz.iu135) (@Tryz.se135)))) := And.intro (And.intro (And.intro (@Tryz.underlying135) (@Tryz.sz135)) (And.intro (@Tryz.by135) (@Tryz.kk135))) (And.intro (And.intro (@Tryz.ag135) (@Tryz.ap135)) (And.intro (@Tryz.iu135) (@Tryz.se135)))
theorem tf137 : type_of% (And.intro (And.intro (And.intro (@Tryz.underlying137) (@Tryz.sz137)) (And.intro (@Tryz.by137) (@Tryz.kk137))) (And.intro (And.intro (@Tryz.ag137) (@Tryz.ap137)) (And.intro (@Tryz.iu137) (@Tryz.se137)))) := And.intro (And.intro (And.intro (@Tryz.underlying137) (@Tryz.sz137)) (And.intro (@Tryz.by137) (@Tryz.kk137))) (And.intro (And.intro (@Tryz.ag137) (@Tryz.ap137)) (And.intro (@Tryz.iu137) (@Tryz.se137)))
theorem tf138 : type_of% (And.intro (And.intro (And.intro (@Tryz.underlying138) (And.intro (@Tryz.sz138) (@Tryz.by138))) (And.intro (@Tryz.kk138) (And.intro (@Tryz.ar138) (@Tryz.pl138)))) (And.intro (And.intro (@Tryz.ag138) (And.intro (@Tryz.ap138) (@Tryz.iu138))) (And.intro (@Tryz.se138) (And.intro (@Tryz.ft138) (@Tryz.eg138))))) := And.intro (And.intro (And.intro (@Tryz.underlying138) (And.intro (@Tryz.sz138) (@Tryz.by138))) (And.intro (@Tryz.kk138) (And.intro (@Tryz.ar138) (@Tryz.pl138)))) (And.intro (And.intro (@Tryz.ag138) (And.intro (@Tryz.ap138) (@Tryz.iu138))) (And.intro (@Tryz.se138) (And.intro (@Tryz.ft138) (@Tryz.eg138))))
theorem tf151 : type_of% (And.intro (And.intro (And.intro (@Tryz.underlying151) (@Tryz.sz151)) (And.intro (@Tryz.by151) (@Tryz.kk151))) (And.intro (And.intro (@Tryz.sl151) (@Tryz.ag151)) (And.intro (@Tryz.ap151) (And.intro (@Tryz.iu151) (@Tryz.se151))))) := And.intro (And.intro (And.intro (@Tryz.underlying151) (@Tryz.sz151)) (And.intro (@Tryz.by151) (@Tryz.kk151))) (And.intro (And.intro (@Tryz.sl151) (@Tryz.ag151)) (And.intro (@Tryz.ap151) (And.intro (@Tryz.iu151) (@Tryz.se151))))
theorem tf166 : type_of% (And.intro (And.intro (And.intro (@Tryz.underlying166) (@Tryz.sz166)) (And.intro (@Tryz.by166) (@Tryz.kk166))) (And.intro (And.intro (@Tryz.sl166) (@Tryz.ag166)) (And.intro (@Tryz.ap166) (And.intro (@Tryz.iu166) (@Tryz.se166))))) := And.intro (And.intro (And.intro (@Tryz.underlying166) (@Tryz.sz166)) (And.intro (@Tryz.by166) (@Tryz.kk166))) (And.intro (And.intro (@Tryz.sl166) (@Tryz.ag166)) (And.intro (@Tryz.ap166) (And.intro (@Tryz.iu166) (@Tryz.se166))))
end Pv

namespace Pv
open Go Go.RowKit

/-! ### Bits of numbers -/
theorem ofInt_nat (w n : Nat) : BitVec.ofInt w (n : Int) = BitVec.ofNat w n := by simp

theorem xor_u8 (a b : UInt8) : bitsP .xor .u8 a.toNat b.toNat = ((a ^^^ b).toNat : Int) := by
  have h1 := a.toNat_lt; have h2 := b.toNat_lt
  show IntKind.wrap .u8 (((BitVec.ofInt 8 (a.toNat : Int)) ^^^ (BitVec.ofInt 8 (b.toNat : Int))).toNat : Int) = _
  rw [ofInt_nat, ofInt_nat, BitVec.toNat_xor, BitVec.toNat_ofNat, BitVec.toNat_ofNat, Nat.mod_eq_of_lt h1, Nat.mod_eq_of_lt h2, ← UInt8.toNat_xor]
  exact wrap_u8_b _
theorem and_u8 (a b : UInt8) : bitsP .and .u8 a.toNat b.toNat = ((a &&& b).toNat : Int) := by
  have h1 := a.toNat_lt; have h2 := b.toNat_lt
  show IntKind.wrap .u8 (((BitVec.ofInt 8 (a.toNat : Int)) &&& (BitVec.ofInt 8 (b.toNat : Int))).toNat : Int) = _
  rw [ofInt_nat, ofInt_nat, BitVec.toNat_and, BitVec.toNat_ofNat, BitVec.toNat_ofNat, Nat.mod_eq_of_lt h1, Nat.mod_eq_of_lt h2, ← UInt8.toNat_and]
  exact wrap_u8_b _
theorem or_u8 (a b : UInt8) : bitsP .or .u8 a.toNat b.toNat = ((a ||| b).toNat : Int) := by
  have h1 := a.toNat_lt; have h2 := b.toNat_lt
  show IntKind.wrap .u8 (((BitVec.ofInt 8 (a.toNat : Int)) ||| (BitVec.ofInt 8 (b.toNat : Int))).toNat : Int) = _
  rw [ofInt_nat, ofInt_nat, BitVec.toNat_or, BitVec.toNat_ofNat, BitVec.toNat_ofNat, Nat.mod_eq_of_lt h1, Nat.mod_eq_of_lt h2, ← UInt8.toNat_or]
  exact wrap_u8_b _

end Pv

namespace Pv
open Go
set_option maxRecDepth 100000

/-! ### Bytes as a field, in plain Lean -/
/-- A byte by x. -/
def xt (a : UInt8) : UInt8 := (a <<< 1) ^^^ ((a >>> 7) * 27)
def gmR : Nat → UInt8 → UInt8 → UInt8 → UInt8
  | 0, r, _, _ => r
  | n + 1, r, a, b => gmR n (r ^^^ (a * (b &&& 1))) (xt a) (b >>> 1)
def gm (a b : UInt8) : UInt8 := gmR 8 0 a b

theorem byte_all {p : UInt8 → Prop} (h : ∀ i : Fin 256, p (UInt8.ofNat i.val)) (b : UInt8) : p b := by
  have := h ⟨b.toNat, b.toNat_lt⟩
  rwa [UInt8.ofNat_toNat] at this
theorem bit0 (b : UInt8) : b &&& 1 = 0 ∨ b &&& 1 = 1 := byte_all (p := fun b => b &&& 1 = 0 ∨ b &&& 1 = 1) (by decide +kernel) b
theorem shr_xor (a b : UInt8) (k : UInt8) : (a ^^^ b) >>> k = (a >>> k) ^^^ (b >>> k) := UInt8.shiftRight_xor
theorem xor4 (a b c d : UInt8) : (a ^^^ b) ^^^ (c ^^^ d) = (a ^^^ c) ^^^ (b ^^^ d) := by
  rw [UInt8.xor_assoc, UInt8.xor_assoc, ← UInt8.xor_assoc b c d, UInt8.xor_comm b c, UInt8.xor_assoc c b d]
theorem gmR_b0 : ∀ (n : Nat) (r a : UInt8), gmR n r a 0 = r
  | 0, _, _ => rfl
  | n + 1, r, a => by rw [gmR, show (0 : UInt8) >>> 1 = 0 by decide, gmR_b0 n]; simp
/-! ### What a byte becomes -/
def invS : Nat → UInt8 → UInt8 → UInt8
  | 0, r, _ => r
  | n + 1, r, s => invS n (gm r (gm s s)) (gm s s)
def invB (b : UInt8) : UInt8 := invS 7 1 b
def rotB (b : UInt8) (n : UInt8) : UInt8 := (b <<< n) ||| (b >>> (8 - n))
def subB (b : UInt8) : UInt8 := invB b ^^^ rotB (invB b) 1 ^^^ rotB (invB b) 2 ^^^ rotB (invB b) 3 ^^^ rotB (invB b) 4 ^^^ 99
def boxL : List UInt8 := [0x63,0x7c,0x77,0x7b,0xf2,0x6b,0x6f,0xc5,0x30,0x01,0x67,0x2b,0xfe,0xd7,0xab,0x76,0xca,0x82,0xc9,0x7d,0xfa,0x59,0x47,0xf0,0xad,0xd4,0xa2,0xaf,0x9c,0xa4,0x72,0xc0,0xb7,0xfd,0x93,0x26,0x36,0x3f,0xf7,0xcc,0x34,0xa5,0xe5,0xf1,0x71,0xd8,0x31,0x15,0x04,0xc7,0x23,0xc3,0x18,0x96,0x05,0x9a,0x07,0x12,0x80,0xe2,0xeb,0x27,0xb2,0x75,0x09,0x83,0x2c,0x1a,0x1b,0x6e,0x5a,0xa0,0x52,0x3b,0xd6,0xb3,0x29,0xe3,0x2f,0x84,0x53,0xd1,0x00,0xed,0x20,0xfc,0xb1,0x5b,0x6a,0xcb,0xbe,0x39,0x4a,0x4c,0x58,0xcf,0xd0,0xef,0xaa,0xfb,0x43,0x4d,0x33,0x85,0x45,0xf9,0x02,0x7f,0x50,0x3c,0x9f,0xa8,0x51,0xa3,0x40,0x8f,0x92,0x9d,0x38,0xf5,0xbc,0xb6,0xda,0x21,0x10,0xff,0xf3,0xd2,0xcd,0x0c,0x13,0xec,0x5f,0x97,0x44,0x17,0xc4,0xa7,0x7e,0x3d,0x64,0x5d,0x19,0x73,0x60,0x81,0x4f,0xdc,0x22,0x2a,0x90,0x88,0x46,0xee,0xb8,0x14,0xde,0x5e,0x0b,0xdb,0xe0,0x32,0x3a,0x0a,0x49,0x06,0x24,0x5c,0xc2,0xd3,0xac,0x62,0x91,0x95,0xe4,0x79,0xe7,0xc8,0x37,0x6d,0x8d,0xd5,0x4e,0xa9,0x6c,0x56,0xf4,0xea,0x65,0x7a,0xae,0x08,0xba,0x78,0x25,0x2e,0x1c,0xa6,0xb4,0xc6,0xe8,0xdd,0x74,0x1f,0x4b,0xbd,0x8b,0x8a,0x70,0x3e,0xb5,0x66,0x48,0x03,0xf6,0x0e,0x61,0x35,0x57,0xb9,0x86,0xc1,0x1d,0x9e,0xe1,0xf8,0x98,0x11,0x69,0xd9,0x8e,0x94,0x9b,0x1e,0x87,0xe9,0xce,0x55,0x28,0xdf,0x8c,0xa1,0x89,0x0d,0xbf,0xe6,0x42,0x68,0x41,0x99,0x2d,0x0f,0xb0,0x54,0xbb,0x16]
theorem boxL_len : boxL.length = 256 := by decide +kernel
/-- What a byte becomes, by the document's table. -/
def sbox (b : UInt8) : UInt8 := boxL.getD b.toNat 0
theorem sub_box (b : UInt8) : subB b = sbox b := byte_all (p := fun b => subB b = sbox b) (by decide +kernel) b
theorem boxL_at (b : UInt8) : boxL[b.toNat]? = some (sbox b) := by
  have h : b.toNat < boxL.length := by rw [boxL_len]; exact b.toNat_lt
  rw [sbox, List.getD_eq_getElem?_getD, List.getElem?_eq_getElem h]; rfl
/-- The first i bytes, each at the place that it becomes. -/
def backI : Nat → List UInt8
  | 0 => List.replicate 256 0
  | i + 1 => (backI i).set (sbox (UInt8.ofNat i)).toNat (UInt8.ofNat i)
def backL : List UInt8 := backI 256
theorem backI_len : ∀ i, (backI i).length = 256
  | 0 => rfl
  | i + 1 => by rw [backI, List.length_set, backI_len i]
def ibox (b : UInt8) : UInt8 := backL.getD b.toNat 0
attribute [irreducible] boxL

end Pv

namespace Pv
open Go
set_option maxRecDepth 100000

/-! ### AES, in plain Lean -/
/-- Four bytes more of a key's words: w: those there are; c: the constant; i: which word. -/
def kT (nk : Nat) (t : List UInt8) (c : UInt8) (i : Nat) : List UInt8 :=
  if i % nk = 0 then [sbox (t.getD 1 0) ^^^ c, sbox (t.getD 2 0), sbox (t.getD 3 0), sbox (t.getD 0 0)]
  else if nk = 8 ∧ i % 8 = 4 then [sbox (t.getD 0 0), sbox (t.getD 1 0), sbox (t.getD 2 0), sbox (t.getD 3 0)]
  else [t.getD 0 0, t.getD 1 0, t.getD 2 0, t.getD 3 0]
def xorB (a b : List UInt8) : List UInt8 := List.zipWith (· ^^^ ·) a b
def kI (key : List UInt8) (nk : Nat) : Nat → List UInt8 × UInt8
  | 0 => (key, 1)
  | j + 1 => ((kI key nk j).1 ++ xorB (((kI key nk j).1.drop (4 * j)).take 4) (kT nk (((kI key nk j).1.drop (4 * (nk + j) - 4)).take 4) (kI key nk j).2 (nk + j)),
      if (nk + j) % nk = 0 then gm (kI key nk j).2 2 else (kI key nk j).2)
def wordsL (key : List UInt8) : List UInt8 := (kI key (key.length / 4) (3 * (key.length / 4) + 28)).1
def goodK (key : List UInt8) : Prop := key.length = 16 ∨ key.length = 32
instance (key : List UInt8) : Decidable (goodK key) := by unfold goodK; infer_instance

theorem xorB_len (a b : List UInt8) : (xorB a b).length = min a.length b.length := by simp [xorB]
theorem kT_len (nk : Nat) (t : List UInt8) (c : UInt8) (i : Nat) : (kT nk t c i).length = 4 := by unfold kT; split; rfl; split <;> rfl
theorem kI_len {key : List UInt8} {nk : Nat} (h : key.length = 4 * nk) (h0 : 0 < nk) : ∀ j, (kI key nk j).1.length = 4 * (nk + j)
  | 0 => h
  | j + 1 => by
    rw [kI, List.length_append, kI_len h h0 j, xorB_len, kT_len, List.length_take, List.length_drop, kI_len h h0 j]; omega
theorem words_len {key : List UInt8} (h : goodK key) : (wordsL key).length = 16 * (key.length / 4 + 7) := by
  rw [wordsL, kI_len (by rcases h with h | h <;> omega) (by rcases h with h | h <;> omega)]; omega

/-- The i-th round key. -/
def rkL (w : List UInt8) (i : Nat) : List UInt8 := (w.drop (16 * i)).take 16
theorem rk_len {w : List UInt8} {i : Nat} (h : 16 * (i + 1) ≤ w.length) : (rkL w i).length = 16 := by
  rw [rkL, List.length_take, List.length_drop]; omega
def shiftL (b : List UInt8) : List UInt8 := (List.range 16).map fun i => b.getD ((i + 4 * (i % 4)) % 16) 0
def backS (b : List UInt8) : List UInt8 := (List.range 16).map fun i => b.getD ((i + 12 * (i % 4)) % 16) 0
def mixAt (m : List UInt8) (b : List UInt8) (i : Nat) : UInt8 :=
  gm (b.getD (i / 4 * 4 + i % 4) 0) (m.getD 0 0) ^^^ gm (b.getD (i / 4 * 4 + (i + 1) % 4) 0) (m.getD 1 0) ^^^ gm (b.getD (i / 4 * 4 + (i + 2) % 4) 0) (m.getD 2 0) ^^^ gm (b.getD (i / 4 * 4 + (i + 3) % 4) 0) (m.getD 3 0)
def mixL (m : List UInt8) (b : List UInt8) : List UInt8 := (List.range 16).map (mixAt m b)
def mE : List UInt8 := [2, 3, 1, 1]
def mD : List UInt8 := [14, 11, 13, 9]
theorem shift_len (b : List UInt8) : (shiftL b).length = 16 := rfl
theorem mix_len (m b : List UInt8) : (mixL m b).length = 16 := rfl

theorem sixteen {b : List UInt8} (h : b.length = 16) : ∃ b0 b1 b2 b3 b4 b5 b6 b7 b8 b9 b10 b11 b12 b13 b14 b15, b = [b0, b1, b2, b3, b4, b5, b6, b7, b8, b9, b10, b11, b12, b13, b14, b15] := by
  match b, h with
  | [b0, b1, b2, b3, b4, b5, b6, b7, b8, b9, b10, b11, b12, b13, b14, b15], _ => exact ⟨_, _, _, _, _, _, _, _, _, _, _, _, _, _, _, _, rfl⟩
def mx (a b c d e f g h : UInt8) : UInt8 := gm a e ^^^ gm b f ^^^ gm c g ^^^ gm d h
def encS (w : List UInt8) (n : Nat) (b : List UInt8) : Nat → List UInt8
  | 0 => xorB b (rkL w 0)
  | i + 1 => xorB (if i + 1 < n then mixL mE (shiftL ((encS w n b i).map sbox)) else shiftL ((encS w n b i).map sbox)) (rkL w (i + 1))
def encB (w b : List UInt8) : List UInt8 := encS w (w.length / 16 - 1) b (w.length / 16 - 1)
def decS (w : List UInt8) (n : Nat) (b : List UInt8) : Nat → List UInt8
  | 0 => b
  | j + 1 => (backS (if n - j < n then mixL mD (xorB (decS w n b j) (rkL w (n - j))) else xorB (decS w n b j) (rkL w (n - j)))).map ibox
def decB (w b : List UInt8) : List UInt8 := xorB (decS w (w.length / 16 - 1) b (w.length / 16 - 1)) (rkL w 0)

section
variable {w b : List UInt8} {n : Nat}
theorem encS_len (hb : b.length = 16) (hw : 16 * (n + 1) ≤ w.length) : ∀ i, i ≤ n → (encS w n b i).length = 16
  | 0, _ => by rw [encS, xorB_len, hb, rk_len (by omega)]; rfl
  | i + 1, h => by rw [encS, xorB_len, rk_len (by omega)]; split <;> simp [mix_len, shift_len]
end
theorem encB_len {w b : List UInt8} (hb : b.length = 16) (hw : 16 ≤ w.length) : (encB w b).length = 16 := encS_len hb (by omega) _ (Nat.le_refl _)
/-! ### Bytes of a counter -/
/-- One more, from the i-th byte upwards. -/
def incI (b : List UInt8) : Nat → List UInt8
  | 0 => b.set 0 (b.getD 0 0 + 1)
  | i + 1 => if b.getD (i + 1) 0 + 1 = 0 then incI (b.set (i + 1) (b.getD (i + 1) 0 + 1)) i else b.set (i + 1) (b.getD (i + 1) 0 + 1)
def incL (b : List UInt8) : List UInt8 := incI b 15
theorem incI_len : ∀ (i : Nat) (b : List UInt8), (incI b i).length = b.length
  | 0, b => by simp [incI]
  | i + 1, b => by rw [incI]; split; rw [incI_len i]; simp; simp
def ctrL (b : List UInt8) : Nat → List UInt8
  | 0 => b
  | j + 1 => incL (ctrL b j)
theorem ctr_len {b : List UInt8} (h : b.length = 16) : ∀ j, (ctrL b j).length = 16
  | 0 => h
  | j + 1 => by rw [ctrL, incL, incI_len, ctr_len h j]
/-- j blocks. -/
def strK (w b : List UInt8) (j : Nat) : List UInt8 := (List.range j).flatMap fun i => encB w (ctrL b i)
theorem strK_0 (w b : List UInt8) : strK w b 0 = [] := rfl
theorem strK_succ (w b : List UInt8) (j : Nat) : strK w b (j + 1) = strK w b j ++ encB w (ctrL b j) := by simp [strK, List.range_succ, List.flatMap_append]
theorem strK_len {w b : List UInt8} (h : b.length = 16) (hw : 16 ≤ w.length) : ∀ j, (strK w b j).length = 16 * j
  | 0 => rfl
  | j + 1 => by rw [strK_succ, List.length_append, strK_len h hw j, encB_len (ctr_len h j) hw]; omega
def strL (w b : List UInt8) (n : Nat) : List UInt8 := (strK w b ((n + 15) / 16)).take n
theorem strL_len {w b : List UInt8} (h : b.length = 16) (hw : 16 ≤ w.length) (n : Nat) : (strL w b n).length = n := by
  rw [strL, List.length_take, strK_len h hw]; omega
theorem encB_eq (w b : List UInt8) : encB w b = encS w (w.length / 16 - 1) b (w.length / 16 - 1) := rfl
theorem strL_eq (w b : List UInt8) (n : Nat) : strL w b n = (strK w b ((n + 15) / 16)).take n := rfl
theorem words_eq (key : List UInt8) : wordsL key = (kI key (key.length / 4) (3 * (key.length / 4) + 28)).1 := rfl
attribute [irreducible] wordsL encB decB strL
end Pv

namespace Pv
open Go Go.RowKit

theorem wrap_u8n (n : Nat) : IntKind.wrap .u8 (n : Int) = ((UInt8.ofNat n).toNat : Int) := by
  simp [IntKind.wrap, IntKind.bits, IntKind.signed]
end Pv
