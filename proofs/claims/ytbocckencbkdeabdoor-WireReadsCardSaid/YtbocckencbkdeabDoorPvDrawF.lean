/- Part of the proof: the layer of pure values, or walks through functions (PvDrawF, PvCxW). -/
import Derived.Test.YtbocckencbkdeabDoorPvDrawT
import Derived.Test.YtbocckencbkdeabDoorPvNum
import Derived.Test.YtbocckencbkdeabDoorPvFun
import Derived.Test.YtbocckencbkdeabDoorPvB0
set_option linter.all false
namespace Pv
open Go Go.RowKit
variable {X : Ctx} {ops : Array Oper} {Q : Exit → PSt → PH → Prop} {P : Program}

/-! ### The checks of a region's order, by a table of what stands ahead (clo itself goes every way) -/
abbrev Tab := List (List Nat)
def Tab.at (T : Tab) (i : Nat) : List Nat := T.getD i []
def tabAll (ops : Array Oper) (T : Tab) : Nat → List Oper → Bool
  | _, [] => true
  | i, o :: os => (edgesOf o).all (fun j => decide (j < i) && (T.at i).contains j && (T.at j).all (T.at i).contains) &&
      (T.at i).all (fun k => (edgesOf o).any fun j => k == j || (T.at j).contains k) && tabAll ops T (i + 1) os
def tabOk (ops : Array Oper) (T : Tab) : Bool := tabAll ops T 0 ops.toList

theorem tabAll_get {T : Tab} : ∀ {os : List Oper} {n : Nat}, tabAll ops T n os = true → ∀ {i : Nat} {o : Oper}, os[i]? = some o →
    (∀ j ∈ edgesOf o, j < n + i ∧ j ∈ T.at (n + i) ∧ ∀ k ∈ T.at j, k ∈ T.at (n + i)) ∧ ∀ k ∈ T.at (n + i), ∃ j ∈ edgesOf o, k = j ∨ k ∈ T.at j
  | [], _, _, i, o, h => by simp at h
  | a :: os, n, h, 0, o, ho => by
    simp at ho; subst ho
    simp only [tabAll, Bool.and_eq_true, List.all_eq_true, List.any_eq_true, decide_eq_true_eq, List.contains_iff_mem, beq_iff_eq, Bool.or_eq_true] at h
    exact ⟨fun j hj => ⟨(h.1.1 j hj).1.1, (h.1.1 j hj).1.2, (h.1.1 j hj).2⟩, h.1.2⟩
  | a :: os, n, h, i + 1, o, ho => by
    simp only [List.getElem?_cons_succ] at ho
    simp only [tabAll, Bool.and_eq_true] at h
    have := tabAll_get h.2 ho
    rwa [show n + 1 + i = n + (i + 1) by omega] at this

theorem tab_clo {T : Tab} (h : tabOk ops T = true) : ∀ (n i : Nat) (o : Oper), ops[i]? = some o → i < n → ∀ k, k ∈ clo ops n i ↔ k ∈ T.at i := by
  intro n
  induction n with
  | zero => intro i o _ hi; omega
  | succ n ih =>
    intro i o ho hi k
    have hg := tabAll_get h (i := i) (o := o) (by rw [Array.getElem?_toList]; exact ho)
    rw [Nat.zero_add] at hg
    rw [clo, ho]
    simp only [List.mem_flatMap, List.mem_cons]
    have hlt : i < ops.size := (Array.getElem?_eq_some_iff.1 ho).1
    constructor
    · rintro ⟨j, hj, hk⟩
      obtain ⟨h1, h2, h3⟩ := hg.1 j hj
      rcases hk with rfl | hk
      · exact h2
      · have hj2 : j < ops.size := by omega
        exact h3 k ((ih j ops[j] (Array.getElem?_eq_getElem hj2) (by omega) k).1 hk)
    · intro hk
      obtain ⟨j, hj, hk⟩ := hg.2 k hk
      obtain ⟨h1, h2, h3⟩ := hg.1 j hj
      have hj2 : j < ops.size := by omega
      refine ⟨j, hj, ?_⟩
      rcases hk with rfl | hk
      · exact .inl rfl
      · exact .inr ((ih j ops[j] (Array.getElem?_eq_getElem hj2) (by omega) k).2 hk)

theorem tab_anc {T : Tab} (h : tabOk ops T = true) {i j : Nat} (hi : i < ops.size) : (anc ops i).contains j = (T.at i).contains j := by
  rw [Bool.eq_iff_iff, List.contains_iff_mem, List.contains_iff_mem]
  exact tab_clo h ops.size i ops[i] (Array.getElem?_eq_getElem hi) hi j

/-- Is it so that.., for places in the region alone. -/
def inT (ops : Array Oper) (T : Tab) (i j : Nat) : Bool := (T.at i).contains j
theorem inT_anc {T : Tab} (h : tabOk ops T = true) {i j : Nat} {o : Oper} (ho : ops[i]? = some o) : (anc ops i).contains j = inT ops T i j := tab_anc h (Array.getElem?_eq_some_iff.1 ho).1

def atF (P : Program) (ops : Array Oper) (T : Tab) (N : Nat) (all pre post : List Nat) (i : Nat) : Bool :=
  match ops[i]? with
  | none => false
  | some o =>
    (edgesOf o).all (fun j => decide (j < i)) &&
    pre.all (fun j => match ops[j]? with
      | none => false
      | some p => movable P p.op || inT ops T i j) &&
    post.all (fun j => j != i && !inT ops T i j) &&
    (match o.dst with
      | none => !movable P o.op
      | some d => decide (d < N) && (!movable P o.op || !(readsOf ops o).contains d) &&
        all.all (fun j => j == i || match ops[j]? with
          | none => false
          | some p => !(namesOf ops p).contains d || inT ops T j i || (!movable P o.op && inT ops T i j)))
theorem atF_eq {T : Tab} (h : tabOk ops T = true) {N : Nat} {all pre post : List Nat} {i : Nat} : atF P ops T N all pre post i = atOk P ops N all pre post i := by
  unfold atF atOk
  cases ho : ops[i]? with
  | none => rfl
  | some o =>
    dsimp only
    have e : ∀ j, (anc ops i).contains j = inT ops T i j := fun j => inT_anc h ho
    simp only [e]
    congr 1
    cases o.dst with
    | none => rfl
    | some d =>
      dsimp only
      congr 2
      funext j
      cases hp : ops[j]? with
      | none => rfl
      | some p => dsimp only; rw [inT_anc h hp]
def chainF (P : Program) (ops : Array Oper) (T : Tab) (N : Nat) (all : List Nat) : List Nat → List Nat → Bool
  | _, [] => true
  | pre, i :: κ => atF P ops T N all pre κ i && chainF P ops T N all (pre ++ [i]) κ
theorem chainF_eq {T : Tab} (h : tabOk ops T = true) {N : Nat} {all : List Nat} : ∀ {κ pre : List Nat}, chainF P ops T N all pre κ = chainOk P ops N all pre κ
  | [], _ => rfl
  | i :: κ, pre => by rw [chainF, chainOk, atF_eq h, chainF_eq h]
def planF (P : Program) (ops : Array Oper) (T : Tab) : List Nat → Plan → Bool
  | _, [] => true
  | pend, (i, mv, re) :: κ => match ops[i]? with
    | none => false
    | some o => (mv == movable P o.op) && (match mv with
      | true => planF P ops T (i :: pend) κ
      | false => (pend.filter fun j => !inT ops T i j).all re.contains && planF P ops T (pend.filter fun j => !inT ops T i j) κ)
theorem planF_eq {T : Tab} (h : tabOk ops T = true) : ∀ {κ : Plan} {pend : List Nat}, planF P ops T pend κ = planOk P ops pend κ
  | [], _ => rfl
  | (i, mv, re) :: κ, pend => by
    unfold planF planOk
    cases ho : ops[i]? with
    | none => rfl
    | some o =>
      dsimp only
      have e : ∀ j, (anc ops i).contains j = inT ops T i j := fun j => inT_anc h ho
      cases mv <;> simp only [e, planF_eq h]
def drawF (P : Program) (ops : Array Oper) (T : Tab) (N : Nat) (κ : Plan) : Bool :=
  tabOk ops T && (κ.length == ops.size && (List.range ops.size).all (fun i => (κ.map (·.1)).contains i) && (κ.map (·.1)).all (fun i => decide (i < ops.size)) && chainF P ops T N (κ.map (·.1)) [] (κ.map (·.1))) && planF P ops T [] κ
theorem w_drawnF {ρ : Option Nat} {n0 id : Nat} {s : PSt} {ph : PH} (T : Tab) (κ : Plan) (N : Nat) (hm : X.P.follows .mixedOrders = true) (hok : drawF X.P ops T N κ = true) (hN : N ≤ s.tm.length) (h : vcP X ops Q κ s ph) : vc X ρ n0 (.region id ops true) Q s ph := by
  simp only [drawF, Bool.and_eq_true] at hok
  refine w_drawn κ N hm ?_ hN h
  rw [Bool.and_eq_true]
  refine ⟨?_, by rw [← planF_eq hok.1.1]; exact hok.2⟩
  unfold drawOk
  rw [← chainF_eq hok.1.1]
  simp only [Bool.and_eq_true, List.length_map]
  exact ⟨⟨⟨hok.1.2.1.1.1, hok.1.2.1.1.2⟩, hok.1.2.1.2⟩, hok.1.2.2⟩

/-! Trees -/
def atTF (P : Program) (ops : Array Oper) (T : Tab) (N : Nat) (all post : List Nat) (i : Nat) : Bool :=
  match ops[i]? with
  | none => false
  | some o =>
    (edgesOf o).all (fun j => decide (j < i)) &&
    post.all (fun j => j != i && !inT ops T i j) &&
    (match o.dst with
      | none => !movable P o.op
      | some d => decide (d < N) && (!movable P o.op || !(readsOf ops o).contains d) &&
        all.all (fun j => j == i || match ops[j]? with
          | none => false
          | some p => !(namesOf ops p).contains d || inT ops T j i || (!movable P o.op && inT ops T i j)))
theorem atTF_eq {T : Tab} (h : tabOk ops T = true) {N : Nat} {all post : List Nat} {i : Nat} : atTF P ops T N all post i = atT P ops N all post i := by
  unfold atTF atT
  cases ho : ops[i]? with
  | none => rfl
  | some o =>
    dsimp only
    have e : ∀ j, (anc ops i).contains j = inT ops T i j := fun j => inT_anc h ho
    simp only [e]
    congr 1
    cases o.dst with
    | none => rfl
    | some d =>
      dsimp only
      congr 2
      funext j
      cases hp : ops[j]? with
      | none => rfl
      | some p => dsimp only; rw [inT_anc h hp]
def chainTF (P : Program) (ops : Array Oper) (T : Tab) (N : Nat) (all : List Nat) : List Nat → Bool
  | [] => true
  | i :: κ => atTF P ops T N all κ i && chainTF P ops T N all κ
theorem chainTF_eq {T : Tab} (h : tabOk ops T = true) {N : Nat} {all : List Nat} : ∀ {κ : List Nat}, chainTF P ops T N all κ = chainT P ops N all κ
  | [] => rfl
  | i :: κ => by rw [chainTF, chainT, atTF_eq h, chainTF_eq h]
def altsF (P : Program) (ops : Array Oper) (T : Tab) (κ : List Nat) : List Nat :=
  κ.filter fun i => (match ops[i]? with | some o => !movable P o.op | none => false) && κ.all fun j => !inT ops T i j
def rdyF (P : Program) (ops : Array Oper) (T : Tab) (κ : List Nat) : Option Nat :=
  κ.find? fun i => (match ops[i]? with | some o => movable P o.op | none => false) && κ.all fun j => !inT ops T i j
theorem altsF_eq {T : Tab} (h : tabOk ops T = true) {κ : List Nat} : altsF P ops T κ = alts P ops κ := by
  unfold altsF alts
  congr 1; funext i
  cases ho : ops[i]? with
  | none => rfl
  | some o => simp only [fun j => inT_anc (j := j) h ho]
theorem rdyF_eq {T : Tab} (h : tabOk ops T = true) {κ : List Nat} : rdyF P ops T κ = rdy P ops κ := by
  unfold rdyF rdy
  congr 1; funext i
  cases ho : ops[i]? with
  | none => rfl
  | some o => simp only [fun j => inT_anc (j := j) h ho]
def ptF (P : Program) (ops : Array Oper) (T : Tab) : Bool → List Nat → List Nat → PT → Bool
  | c, _, κ, .nil => !c && κ.isEmpty
  | c, _, _, .no => c
  | c, pend, κ, .mv i t => !c && (rdyF P ops T κ == some i) && ptF P ops T false (i :: pend) (κ.erase i) t
  | c, pend, κ, .fx i re t rest => (c || (rdyF P ops T κ == none && !κ.isEmpty && (altsF P ops T κ).all (PT.fx i re t rest).heads.contains)) && (ops[i]?).isSome &&
      (pend.filter fun j => !inT ops T i j).all re.contains && ptF P ops T false (pend.filter fun j => !inT ops T i j) (κ.erase i) t && ptF P ops T true pend κ rest
theorem ptF_ok {T : Tab} (h : tabOk ops T = true) : ∀ {t : PT} {c : Bool} {pend κ : List Nat}, ptF P ops T c pend κ t = true → ptOk P ops c pend κ t = true
  | .nil, _, _, _, e => e
  | .no, _, _, _, e => e
  | .mv i t, c, pend, κ, e => by
    unfold ptF at e; unfold ptOk
    simp only [Bool.and_eq_true] at e ⊢
    rw [rdyF_eq h] at e
    exact ⟨e.1, ptF_ok h e.2⟩
  | .fx i re t rest, c, pend, κ, e => by
    unfold ptF at e; unfold ptOk
    rw [rdyF_eq h, altsF_eq h] at e
    simp only [Bool.and_eq_true] at e ⊢
    obtain ⟨⟨⟨⟨e1, e2⟩, e3⟩, e4⟩, e5⟩ := e
    obtain ⟨o, ho⟩ := Option.isSome_iff_exists.1 e2
    simp only [fun j => (inT_anc (j := j) h ho)]
    exact ⟨⟨⟨e1, e3⟩, ptF_ok h e4⟩, ptF_ok h e5⟩
def drawTF (P : Program) (ops : Array Oper) (A : Tab) (N : Nat) (κ : List Nat) (T : PT) : Bool :=
  tabOk ops A && (κ.length == ops.size && (List.range ops.size).all (fun i => κ.contains i) && κ.all (fun i => decide (i < ops.size)) && chainTF P ops A N κ κ) && ptF P ops A false [] κ T
theorem w_drawnTF {ρ : Option Nat} {n0 id : Nat} {s : PSt} {ph : PH} (A : Tab) (T : PT) (κ : List Nat) (N : Nat) (hm : X.P.follows .mixedOrders = true) (hok : drawTF X.P ops A N κ T = true) (hN : N ≤ s.tm.length) (h : vcT X ops Q T s ph) : vc X ρ n0 (.region id ops true) Q s ph := by
  simp only [drawTF, Bool.and_eq_true] at hok
  refine w_drawnT T κ N hm ?_ hN h
  rw [Bool.and_eq_true]
  refine ⟨?_, ptF_ok hok.1.1 hok.2⟩
  unfold drawOkT
  rw [← chainTF_eq hok.1.1]
  simp only [Bool.and_eq_true]
  exact ⟨⟨⟨hok.1.2.1.1.1, hok.1.2.1.1.2⟩, hok.1.2.1.2⟩, hok.1.2.2⟩
end Pv

namespace Pv
open Go Go.Proofs
noncomputable abbrev Cx (w0 : World) : Ctx := ⟨Tryd.prog, w0⟩
theorem tf3 : type_of% (And.intro (And.intro (And.intro (@Tryd.underlying3) (@Tryd.sz3)) (And.intro (@Tryd.by3) (@Tryd.kk3))) (And.intro (And.intro (@Tryd.ag3) (@Tryd.ap3)) (And.intro (@Tryd.iu3) (@Tryd.se3)))) := And.intro (And.intro (And.intro (@Tryd.underlying3) (@Tryd.sz3)) (And.intro (@Tryd.by3) (@Tryd.kk3))) (And.intro (And.intro (@Tryd.ag3) (@Tryd.ap3)) (And.intro (@Tryd.iu3) (@Tryd.se3)))
theorem tf4 : type_of% (And.intro (And.intro (And.intro (@Tryd.underlying4) (@Tryd.sz4)) (And.intro (@Tryd.by4) (@Tryd.kk4))) (And.intro (And.intro (@Tryd.ag4) (@Tryd.ap4)) (And.intro (@Tryd.iu4) (@Tryd.se4)))) := And.intro (And.intro (And.intro (@Tryd.underlying4) (@Tryd.sz4)) (And.intro (@Tryd.by4) (@Tryd.kk4))) (And.intro (And.intro (@Tryd.ag4) (@Tryd.ap4)) (And.intro (@Tryd.iu4) (@Tryd.se4)))
theorem tf5 : type_of% (And.intro (And.intro (And.intro (@Tryd.underlying5) (@Tryd.sz5)) (And.intro (@Tryd.by5) (@Tryd.kk5))) (And.intro (And.intro (@Tryd.ag5) (@Tryd.ap5)) (And.intro (@Tryd.iu5) (@Tryd.se5)))) := And.intro (And.intro (And.intro (@Tryd.underlying5) (@Tryd.sz5)) (And.intro (@Tryd.by5) (@Tryd.kk5))) (And.intro (And.intro (@Tryd.ag5) (@Tryd.ap5)) (And.intro (@Tryd.iu5) (@Tryd.se5)))
theorem tf9 : type_of% (And.intro (And.intro (And.intro (@Tryd.underlying9) (@Tryd.sz9)) (And.intro (@Tryd.by9) (@Tryd.kk9))) (And.intro (And.intro (@Tryd.ag9) (@Tryd.ap9)) (And.intro (@Tryd.iu9) (@Tryd.se9)))) := And.intro (And.intro (And.intro (@Tryd.underlying9) (@Tryd.sz9)) (And.intro (@Tryd.by9) (@Tryd.kk9))) (And.intro (And.intro (@Tryd.ag9) (@Tryd.ap9)) (And.intro (@Tryd.iu9) (@Tryd.se9)))
theorem tf22 : type_of% (And.intro (And.intro (And.intro (@Tryd.underlying22) (@Tryd.sz22)) (And.intro (@Tryd.by22) (@Tryd.kk22))) (And.intro (And.intro (@Tryd.ag22) (@Tryd.ap22)) (And.intro (@Tryd.iu22) (@Tryd.se22)))) := And.intro (And.intro (And.intro (@Tryd.underlying22) (@Tryd.sz22)) (And.intro (@Tryd.by22) (@Tryd.kk22))) (And.intro (And.intro (@Tryd.ag22) (@Tryd.ap22)) (And.intro (@Tryd.iu22) (@Tryd.se22)))
theorem tf23 : type_of% (And.intro (And.intro (And.intro (@Tryd.underlying23) (@Tryd.sz23)) (And.intro (@Tryd.by23) (@Tryd.kk23))) (And.intro (And.intro (@Tryd.ag23) (@Tryd.ap23)) (And.intro (@Tryd.iu23) (@Tryd.se23)))) := And.intro (And.intro (And.intro (@Tryd.underlying23) (@Tryd.sz23)) (And.intro (@Tryd.by23) (@Tryd.kk23))) (And.intro (And.intro (@Tryd.ag23) (@Tryd.ap23)) (And.intro (@Tryd.iu23) (@Tryd.se23)))
theorem tf24 : type_of% (And.intro (And.intro (And.intro (@Tryd.underlying24) (@Tryd.sz24)) (And.intro (@Tryd.by24) (@Tryd.kk24))) (And.intro (And.intro (@Tryd.sl24) (@Tryd.ag24)) (And.intro (@Tryd.ap24) (And.intro (@Tryd.iu24) (@Tryd.se24))))) := And.intro (And.intro (And.intro (@Tryd.underlying24) (@Tryd.sz24)) (And.intro (@Tryd.by24) (@Tryd.kk24))) (And.intro (And.intro (@Tryd.sl24) (@Tryd.ag24)) (And.intro (@Tryd.ap24) (And.intro (@Tryd.iu24) (@Tryd.se24))))
theorem tf26 : type_of% (And.intro (And.intro (And.intro (And.intro (@Tryd.underlying26) (@Tryd.sz26)) (And.intro (@Tryd.by26) (And.intro (@Tryd.kk26) (@Tryd.ag26)))) (And.intro (And.intro (@Tryd.ap26) (And.intro (@Tryd.iu26) (@Tryd.se26))) (And.intro (@Tryd.fl26_0) (And.intro (@Tryd.fl26_1) (@Tryd.fl26_2))))) (And.intro (And.intro (And.intro (@Tryd.fl26_3) (And.intro (@Tryd.fl26_4) (@Tryd.fl26_5))) (And.intro (@Tryd.fl26_6) (And.intro (@Tryd.fl26_7) (@Tryd.fl26_8)))) (And.intro (And.intro (@Tryd.fl26_9) (And.intro (@Tryd.fl26_10) (@Tryd.fl26_11))) (And.intro (@Tryd.fl26_12) (And.intro (@Tryd.fl26_13) (@Tryd.pl26)))))) := And.intro (And.intro (And.intro (And.intro (@Tryd.underlying26) (@Tryd.sz26)) (And.intro (@Tryd.by26) (And.intro (@Tryd.kk26) (@Tryd.ag26)))) (And.intro (And.intro (@Tryd.ap26) (And.intro (@Tryd.iu26) (@Tryd.se26))) (And.intro (@Tryd.fl26_0) (And.intro (@Tryd.fl26_1) (@Tryd.fl26_2))))) (And.intro (And.intro (And.intro (@Tryd.fl26_3) (And.intro (@Tryd.fl26_4) (@Tryd.fl26_5))) (And.intro (@Tryd.fl26_6) (And.intro (@Tryd.fl26_7) (@Tryd.fl26_8)))) (And.intro (And.intro (@Tryd.fl26_9) (And.intro (@Tryd.fl26_10) (@Tryd.fl26_11))) (And.intro (@Tryd.fl26_12) (And.intro (@Tryd.fl26_13) (@Tryd.pl26)))))
theorem tf29 : type_of% (And.intro (And.intro (And.intro (@Tryd.underlying29) (@Tryd.sz29)) (And.intro (@Tryd.by29) (@Tryd.kk29))) (And.intro (And.intro (@Tryd.ag29) (@Tryd.ap29)) (And.intro (@Tryd.iu29) (@Tryd.se29)))) := And.intro (And.intro (And.intro (@Tryd.underlying29) (@Tryd.sz29)) (And.intro (@Tryd.by29) (@Tryd.kk29))) (And.intro (And.intro (@Tryd.ag29) (@Tryd.ap29)) (And.intro (@Tryd.iu29) (@Tryd.se29)))
theorem tf56 : type_of% (And.intro (And.intro (And.intro (@Tryd.underlying56) (@Tryd.sz56)) (And.intro (@Tryd.by56) (@Tryd.kk56))) (And.intro (And.intro (@Tryd.ag56) (@Tryd.ap56)) (And.intro (@Tryd.iu56) (@Tryd.se56)))) := And.intro (And.intro (And.intro (@Tryd.underlying56) (@Tryd.sz56)) (And.intro (@Tryd.by56) (@Tryd.kk56))) (And.intro (And.intro (@Tryd.ag56) (@Tryd.ap56)) (And.intro (@Tryd.iu56) (@Tryd.se56)))
theorem tf57 : type_of% (And.intro (And.intro (And.intro (@Tryd.underlying57) (@Tryd.sz57)) (And.intro (@Tryd.by57) (@Tryd.kk57))) (And.intro (And.intro (@Tryd.ag57) (@Tryd.ap57)) (And.intro (@Tryd.iu57) (@Tryd.se57)))) := And.intro (And.intro (And.intro (@Tryd.underlying57) (@Tryd.sz57)) (And.intro (@Tryd.by57) (@Tryd.kk57))) (And.intro (And.intro (@Tryd.ag57) (@Tryd.ap57)) (And.intro (@Tryd.iu57) (@Tryd.se57)))
theorem tf58 : type_of% (And.intro (And.intro (And.intro (@Tryd.underlying58) (@Tryd.sz58)) (And.intro (@Tryd.by58) (And.intro (@Tryd.kk58) (@Tryd.ar58)))) (And.intro (And.intro (@Tryd.pl58) (@Tryd.ag58)) (And.intro (@Tryd.ap58) (And.intro (@Tryd.iu58) (@Tryd.se58))))) := And.intro (And.intro (And.intro (@Tryd.underlying58) (@Tryd.sz58)) (And.intro (@Tryd.by58) (And.intro (@Tryd.kk58) (@Tryd.ar58)))) (And.intro (And.intro (@Tryd.pl58) (@Tryd.ag58)) (And.intro (@Tryd.ap58) (And.intro (@Tryd.iu58) (@Tryd.se58))))
theorem tf60 : type_of% (And.intro (And.intro (And.intro (@Tryd.underlying60) (@Tryd.sz60)) (And.intro (@Tryd.by60) (@Tryd.kk60))) (And.intro (And.intro (@Tryd.ag60) (@Tryd.ap60)) (And.intro (@Tryd.iu60) (@Tryd.se60)))) := And.intro (And.intro (And.intro (@Tryd.underlying60) (@Tryd.sz60)) (And.intro (@Tryd.by60) (@Tryd.kk60))) (And.intro (And.intro (@Tryd.ag60) (@Tryd.ap60)) (And.intro (@Tryd.iu60) (@Tryd.se60)))
theorem tf61 : type_of% (And.intro (And.intro (And.intro (@Tryd.underlying61) (@Tryd.sz61)) (And.intro (@Tryd.by61) (And.intro (@Tryd.kk61) (@Tryd.ar61)))) (And.intro (And.intro (@Tryd.pl61) (@Tryd.ag61)) (And.intro (@Tryd.ap61) (And.intro (@Tryd.iu61) (@Tryd.se61))))) := And.intro (And.intro (And.intro (@Tryd.underlying61) (@Tryd.sz61)) (And.intro (@Tryd.by61) (And.intro (@Tryd.kk61) (@Tryd.ar61)))) (And.intro (And.intro (@Tryd.pl61) (@Tryd.ag61)) (And.intro (@Tryd.ap61) (And.intro (@Tryd.iu61) (@Tryd.se61))))
theorem tf63 : type_of% (And.intro (And.intro (And.intro (@Tryd.underlying63) (And.intro (@Tryd.sz63) (@Tryd.by63))) (And.intro (@Tryd.kk63) (And.intro (@Tryd.ar63) (@Tryd.pl63)))) (And.intro (And.intro (@Tryd.ag63) (And.intro (@Tryd.ap63) (@Tryd.iu63))) (And.intro (@Tryd.se63) (And.intro (@Tryd.ft63) (@Tryd.eg63))))) := And.intro (And.intro (And.intro (@Tryd.underlying63) (And.intro (@Tryd.sz63) (@Tryd.by63))) (And.intro (@Tryd.kk63) (And.intro (@Tryd.ar63) (@Tryd.pl63)))) (And.intro (And.intro (@Tryd.ag63) (And.intro (@Tryd.ap63) (@Tryd.iu63))) (And.intro (@Tryd.se63) (And.intro (@Tryd.ft63) (@Tryd.eg63))))
theorem tf64 : type_of% (And.intro (And.intro (And.intro (@Tryd.underlying64) (And.intro (@Tryd.sz64) (@Tryd.by64))) (And.intro (@Tryd.kk64) (And.intro (@Tryd.ar64) (@Tryd.pl64)))) (And.intro (And.intro (@Tryd.ag64) (And.intro (@Tryd.ap64) (@Tryd.iu64))) (And.intro (@Tryd.se64) (And.intro (@Tryd.ft64) (@Tryd.eg64))))) := And.intro (And.intro (And.intro (@Tryd.underlying64) (And.intro (@Tryd.sz64) (@Tryd.by64))) (And.intro (@Tryd.kk64) (And.intro (@Tryd.ar64) (@Tryd.pl64)))) (And.intro (And.intro (@Tryd.ag64) (And.intro (@Tryd.ap64) (@Tryd.iu64))) (And.intro (@Tryd.se64) (And.intro (@Tryd.ft64) (@Tryd.eg64))))
theorem tf66 : type_of% (And.intro (And.intro (And.intro (@Tryd.underlying66) (@Tryd.sz66)) (And.intro (@Tryd.by66) (@Tryd.kk66))) (And.intro (And.intro (@Tryd.sl66) (@Tryd.ag66)) (And.intro (@Tryd.ap66) (And.intro (@Tryd.iu66) (@Tryd.se66))))) := And.intro (And.intro (And.intro (@Tryd.underlying66) (@Tryd.sz66)) (And.intro (@Tryd.by66) (@Tryd.kk66))) (And.intro (And.intro (@Tryd.sl66) (@Tryd.ag66)) (And.intro (@Tryd.ap66) (And.intro (@Tryd.iu66) (@Tryd.se66))))
theorem tf67 : type_of% (And.intro (And.intro (And.intro (@Tryd.underlying67) (And.intro (@Tryd.sz67) (@Tryd.by67))) (And.intro (@Tryd.kk67) (And.intro (@Tryd.ar67) (@Tryd.pl67)))) (And.intro (And.intro (@Tryd.ag67) (And.intro (@Tryd.ap67) (@Tryd.iu67))) (And.intro (@Tryd.se67) (And.intro (@Tryd.ft67) (@Tryd.eg67))))) := And.intro (And.intro (And.intro (@Tryd.underlying67) (And.intro (@Tryd.sz67) (@Tryd.by67))) (And.intro (@Tryd.kk67) (And.intro (@Tryd.ar67) (@Tryd.pl67)))) (And.intro (And.intro (@Tryd.ag67) (And.intro (@Tryd.ap67) (@Tryd.iu67))) (And.intro (@Tryd.se67) (And.intro (@Tryd.ft67) (@Tryd.eg67))))
theorem tf72 : type_of% (And.intro (And.intro (And.intro (@Tryd.underlying72) (And.intro (@Tryd.sz72) (@Tryd.by72))) (And.intro (@Tryd.kk72) (And.intro (@Tryd.ag72) (@Tryd.ap72)))) (And.intro (And.intro (@Tryd.iu72) (And.intro (@Tryd.se72) (@Tryd.fl72_0))) (And.intro (And.intro (@Tryd.fl72_1) (@Tryd.pl72)) (And.intro (@Tryd.ft72) (@Tryd.eg72))))) := And.intro (And.intro (And.intro (@Tryd.underlying72) (And.intro (@Tryd.sz72) (@Tryd.by72))) (And.intro (@Tryd.kk72) (And.intro (@Tryd.ag72) (@Tryd.ap72)))) (And.intro (And.intro (@Tryd.iu72) (And.intro (@Tryd.se72) (@Tryd.fl72_0))) (And.intro (And.intro (@Tryd.fl72_1) (@Tryd.pl72)) (And.intro (@Tryd.ft72) (@Tryd.eg72))))
theorem tf73 : type_of% (And.intro (And.intro (And.intro (@Tryd.underlying73) (@Tryd.sz73)) (And.intro (@Tryd.by73) (@Tryd.kk73))) (And.intro (And.intro (@Tryd.ag73) (@Tryd.ap73)) (And.intro (@Tryd.iu73) (@Tryd.se73)))) := And.intro (And.intro (And.intro (@Tryd.underlying73) (@Tryd.sz73)) (And.intro (@Tryd.by73) (@Tryd.kk73))) (And.intro (And.intro (@Tryd.ag73) (@Tryd.ap73)) (And.intro (@Tryd.iu73) (@Tryd.se73)))
theorem tf75 : type_of% (And.intro (And.intro (And.intro (@Tryd.underlying75) (@Tryd.sz75)) (And.intro (@Tryd.by75) (And.intro (@Tryd.kk75) (@Tryd.ag75)))) (And.intro (And.intro (@Tryd.ap75) (And.intro (@Tryd.iu75) (@Tryd.se75))) (And.intro (@Tryd.fl75_0) (And.intro (@Tryd.fl75_1) (@Tryd.pl75))))) := And.intro (And.intro (And.intro (@Tryd.underlying75) (@Tryd.sz75)) (And.intro (@Tryd.by75) (And.intro (@Tryd.kk75) (@Tryd.ag75)))) (And.intro (And.intro (@Tryd.ap75) (And.intro (@Tryd.iu75) (@Tryd.se75))) (And.intro (@Tryd.fl75_0) (And.intro (@Tryd.fl75_1) (@Tryd.pl75))))
theorem tf85 : type_of% (And.intro (And.intro (And.intro (@Tryd.underlying85) (And.intro (@Tryd.sz85) (@Tryd.by85))) (And.intro (@Tryd.kk85) (And.intro (@Tryd.ar85) (@Tryd.pl85)))) (And.intro (And.intro (@Tryd.ag85) (And.intro (@Tryd.ap85) (@Tryd.iu85))) (And.intro (@Tryd.se85) (And.intro (@Tryd.ft85) (@Tryd.eg85))))) := And.intro (And.intro (And.intro (@Tryd.underlying85) (And.intro (@Tryd.sz85) (@Tryd.by85))) (And.intro (@Tryd.kk85) (And.intro (@Tryd.ar85) (@Tryd.pl85)))) (And.intro (And.intro (@Tryd.ag85) (And.intro (@Tryd.ap85) (@Tryd.iu85))) (And.intro (@Tryd.se85) (And.intro (@Tryd.ft85) (@Tryd.eg85))))
theorem tf88 : type_of% (And.intro (And.intro (And.intro (@Tryd.underlying88) (@Tryd.sz88)) (And.intro (@Tryd.by88) (@Tryd.kk88))) (And.intro (And.intro (@Tryd.ag88) (@Tryd.ap88)) (And.intro (@Tryd.iu88) (@Tryd.se88)))) := And.intro (And.intro (And.intro (@Tryd.underlying88) (@Tryd.sz88)) (And.intro (@Tryd.by88) (@Tryd.kk88))) (And.intro (And.intro (@Tryd.ag88) (@Tryd.ap88)) (And.intro (@Tryd.iu88) (@Tryd.se88)))
end Pv
