/- Part of the proof: the layer of pure values, or walks through functions (PvDrawF, PvCxG, PvBits, PvW32, PvEntry). -/
import Derived.Test.YtefgmekiaelcmaaPvDrawT
import Derived.Test.YtefgmekiaelcmaaPvNum
import Derived.Test.YtefgmekiaelcmaaPvFun
import Derived.Test.YtefgmekiaelcmaaPvB0
import Derived.Test.YtefgmekiaelcmaaPvH
import Derived.ProofKit
import Derived.Carry
import Derived.SizedLaws
set_option linter.all false
namespace Pv
open Go Go.RowKit
variable {X : Ctx} {ops : Array Oper} {Q : Exit → PSt → PH → Prop} {P : Program}

/-! ### The checks of a region's order, by a table of what stands ahead (clo itself goes every way) -/
abbrev Tab := List (List Nat)
def Tab.at (T : Tab) (i : Nat) : List Nat := T.getD i []
def tabAll (ops : Array Oper) (T : Tab) : Nat → List Oper → Bool
  | _, [] => true
  | i, o :: os => (edgesOf o).all (fun j => decide (j < i) && (T.at i).contains j && (T.at j).all (T.at i).contains) &&
      (T.at i).all (fun k => (edgesOf o).any fun j => k == j || (T.at j).contains k) && tabAll ops T (i + 1) os
def tabOk (ops : Array Oper) (T : Tab) : Bool := tabAll ops T 0 ops.toList

theorem tabAll_get {T : Tab} : ∀ {os : List Oper} {n : Nat}, tabAll ops T n os = true → ∀ {i : Nat} {o : Oper}, os[i]? = some o →
    (∀ j ∈ edgesOf o, j < n + i ∧ j ∈ T.at (n + i) ∧ ∀ k ∈ T.at j, k ∈ T.at (n + i)) ∧ ∀ k ∈ T.at (n + i), ∃ j ∈ edgesOf o, k = j ∨ k ∈ T.at j
  | [], _, _, i, o, h => by simp at h
  | a :: os, n, h, 0, o, ho => by
    simp at ho; subst ho
    simp only [tabAll, Bool.and_eq_true, List.all_eq_true, List.any_eq_true, decide_eq_true_eq, List.contains_iff_mem, beq_iff_eq, Bool.or_eq_true] at h
    exact ⟨fun j hj => ⟨(h.1.1 j hj).1.1, (h.1.1 j hj).1.2, (h.1.1 j hj).2⟩, h.1.2⟩
  | a :: os, n, h, i + 1, o, ho => by
    simp only [List.getElem?_cons_succ] at ho
    simp only [tabAll, Bool.and_eq_true] at h
    have := tabAll_get h.2 ho
    rwa [show n + 1 + i = n + (i + 1) by omega] at this

theorem tab_clo {T : Tab} (h : tabOk ops T = true) : ∀ (n i : Nat) (o : Oper), ops[i]? = some o → i < n → ∀ k, k ∈ clo ops n i ↔ k ∈ T.at i := by
  intro n
  induction n with
  | zero => intro i o _ hi; omega
  | succ n ih =>
    intro i o ho hi k
    have hg := tabAll_get h (i := i) (o := o) (by rw [Array.getElem?_toList]; exact ho)
    rw [Nat.zero_add] at hg
    rw [clo, ho]
    simp only [List.mem_flatMap, List.mem_cons]
    have hlt : i < ops.size := (Array.getElem?_eq_some_iff.1 ho).1
    constructor
    · rintro ⟨j, hj, hk⟩
      obtain ⟨h1, h2, h3⟩ := hg.1 j hj
      rcases hk with rfl | hk
      · exact h2
      · have hj2 : j < ops.size := by omega
        exact h3 k ((ih j ops[j] (Array.getElem?_eq_getElem hj2) (by omega) k).1 hk)
    · intro hk
      obtain ⟨j, hj, hk⟩ := hg.2 k hk
      obtain ⟨h1, h2, h3⟩ := hg.1 j hj
      have hj2 : j < ops.size := by omega
      refine ⟨j, hj, ?_⟩
      rcases hk with rfl | hk
      · exact .inl rfl
      · exact .inr ((ih j ops[j] (Array.getElem?_eq_getElem hj2) (by omega) k).2 hk)

theorem tab_anc {T : Tab} (h : tabOk ops T = true) {i j : Nat} (hi : i < ops.size) : (anc ops i).contains j = (T.at i).contains j := by
  rw [Bool.eq_iff_iff, List.contains_iff_mem, List.contains_iff_mem]
  exact tab_clo h ops.size i ops[i] (Array.getElem?_eq_getElem hi) hi j

/-- Is it so that.., for places in the region alone. -/
def inT (ops : Array Oper) (T : Tab) (i j : Nat) : Bool := (T.at i).contains j
theorem inT_anc {T : Tab} (h : tabOk ops T = true) {i j : Nat} {o : Oper} (ho : ops[i]? = some o) : (anc ops i).contains j = inT ops T i j := tab_anc h (Array.getElem?_eq_some_iff.1 ho).1

def atF (P : Program) (ops : Array Oper) (T : Tab) (N : Nat) (all pre post : List Nat) (i : Nat) : Bool :=
  match ops[i]? with
  | none => false
  | some o =>
    (edgesOf o).all (fun j => decide (j < i)) &&
    pre.all (fun j => match ops[j]? with
      | none => false
      | some p => movable P p.op || inT ops T i j) &&
    post.all (fun j => j != i && !inT ops T i j) &&
    (match o.dst with
      | none => !movable P o.op
      | some d => decide (d < N) && (!movable P o.op || !(readsOf ops o).contains d) &&
        all.all (fun j => j == i || match ops[j]? with
          | none => false
          | some p => !(namesOf ops p).contains d || inT ops T j i || (!movable P o.op && inT ops T i j)))
theorem atF_eq {T : Tab} (h : tabOk ops T = true) {N : Nat} {all pre post : List Nat} {i : Nat} : atF P ops T N all pre post i = atOk P ops N all pre post i := by
  unfold atF atOk
  cases ho : ops[i]? with
  | none => rfl
  | some o =>
    dsimp only
    have e : ∀ j, (anc ops i).contains j = inT ops T i j := fun j => inT_anc h ho
    simp only [e]
    congr 1
    cases o.dst with
    | none => rfl
    | some d =>
      dsimp only
      congr 2
      funext j
      cases hp : ops[j]? with
      | none => rfl
      | some p => dsimp only; rw [inT_anc h hp]
def chainF (P : Program) (ops : Array Oper) (T : Tab) (N : Nat) (all : List Nat) : List Nat → List Nat → Bool
  | _, [] => true
  | pre, i :: κ => atF P ops T N all pre κ i && chainF P ops T N all (pre ++ [i]) κ
theorem chainF_eq {T : Tab} (h : tabOk ops T = true) {N : Nat} {all : List Nat} : ∀ {κ pre : List Nat}, chainF P ops T N all pre κ = chainOk P ops N all pre κ
  | [], _ => rfl
  | i :: κ, pre => by rw [chainF, chainOk, atF_eq h, chainF_eq h]
def planF (P : Program) (ops : Array Oper) (T : Tab) : List Nat → Plan → Bool
  | _, [] => true
  | pend, (i, mv, re) :: κ => match ops[i]? with
    | none => false
    | some o => (mv == movable P o.op) && (match mv with
      | true => planF P ops T (i :: pend) κ
      | false => (pend.filter fun j => !inT ops T i j).all re.contains && planF P ops T (pend.filter fun j => !inT ops T i j) κ)
theorem planF_eq {T : Tab} (h : tabOk ops T = true) : ∀ {κ : Plan} {pend : List Nat}, planF P ops T pend κ = planOk P ops pend κ
  | [], _ => rfl
  | (i, mv, re) :: κ, pend => by
    unfold planF planOk
    cases ho : ops[i]? with
    | none => rfl
    | some o =>
      dsimp only
      have e : ∀ j, (anc ops i).contains j = inT ops T i j := fun j => inT_anc h ho
      cases mv <;> simp only [e, planF_eq h]
def drawF (P : Program) (ops : Array Oper) (T : Tab) (N : Nat) (κ : Plan) : Bool :=
  tabOk ops T && (κ.length == ops.size && (List.range ops.size).all (fun i => (κ.map (·.1)).contains i) && (κ.map (·.1)).all (fun i => decide (i < ops.size)) && chainF P ops T N (κ.map (·.1)) [] (κ.map (·.1))) && planF P ops T [] κ
theorem w_drawnF {ρ : Option Nat} {n0 id : Nat} {s : PSt} {ph : PH} (T : Tab) (κ : Plan) (N : Nat) (hm : X.P.follows .mixedOrders = true) (hok : drawF X.P ops T N κ = true) (hN : N ≤ s.tm.length) (h : vcP X ops Q κ s ph) : vc X ρ n0 (.region id ops true) Q s ph := by
  simp only [drawF, Bool.and_eq_true] at hok
  refine w_drawn κ N hm ?_ hN h
  rw [Bool.and_eq_true]
  refine ⟨?_, by rw [← planF_eq hok.1.1]; exact hok.2⟩
  unfold drawOk
  rw [← chainF_eq hok.1.1]
  simp only [Bool.and_eq_true, List.length_map]
  exact ⟨⟨⟨hok.1.2.1.1.1, hok.1.2.1.1.2⟩, hok.1.2.1.2⟩, hok.1.2.2⟩

/-! Trees -/
def atTF (P : Program) (ops : Array Oper) (T : Tab) (N : Nat) (all post : List Nat) (i : Nat) : Bool :=
  match ops[i]? with
  | none => false
  | some o =>
    (edgesOf o).all (fun j => decide (j < i)) &&
    post.all (fun j => j != i && !inT ops T i j) &&
    (match o.dst with
      | none => !movable P o.op
      | some d => decide (d < N) && (!movable P o.op || !(readsOf ops o).contains d) &&
        all.all (fun j => j == i || match ops[j]? with
          | none => false
          | some p => !(namesOf ops p).contains d || inT ops T j i || (!movable P o.op && inT ops T i j)))
theorem atTF_eq {T : Tab} (h : tabOk ops T = true) {N : Nat} {all post : List Nat} {i : Nat} : atTF P ops T N all post i = atT P ops N all post i := by
  unfold atTF atT
  cases ho : ops[i]? with
  | none => rfl
  | some o =>
    dsimp only
    have e : ∀ j, (anc ops i).contains j = inT ops T i j := fun j => inT_anc h ho
    simp only [e]
    congr 1
    cases o.dst with
    | none => rfl
    | some d =>
      dsimp only
      congr 2
      funext j
      cases hp : ops[j]? with
      | none => rfl
      | some p => dsimp only; rw [inT_anc h hp]
def chainTF (P : Program) (ops : Array Oper) (T : Tab) (N : Nat) (all : List Nat) : List Nat → Bool
  | [] => true
  | i :: κ => atTF P ops T N all κ i && chainTF P ops T N all κ
theorem chainTF_eq {T : Tab} (h : tabOk ops T = true) {N : Nat} {all : List Nat} : ∀ {κ : List Nat}, chainTF P ops T N all κ = chainT P ops N all κ
  | [] => rfl
  | i :: κ => by rw [chainTF, chainT, atTF_eq h, chainTF_eq h]
def altsF (P : Program) (ops : Array Oper) (T : Tab) (κ : List Nat) : List Nat :=
  κ.filter fun i => (match ops[i]? with | some o => !movable P o.op | none => false) && κ.all fun j => !inT ops T i j
def rdyF (P : Program) (ops : Array Oper) (T : Tab) (κ : List Nat) : Option Nat :=
  κ.find? fun i => (match ops[i]? with | some o => movable P o.op | none => false) && κ.all fun j => !inT ops T i j
theorem altsF_eq {T : Tab} (h : tabOk ops T = true) {κ : List Nat} : altsF P ops T κ = alts P ops κ := by
  unfold altsF alts
  congr 1; funext i
  cases ho : ops[i]? with
  | none => rfl
  | some o => simp only [fun j => inT_anc (j := j) h ho]
theorem rdyF_eq {T : Tab} (h : tabOk ops T = true) {κ : List Nat} : rdyF P ops T κ = rdy P ops κ := by
  unfold rdyF rdy
  congr 1; funext i
  cases ho : ops[i]? with
  | none => rfl
  | some o => simp only [fun j => inT_anc (j := j) h ho]
def ptF (P : Program) (ops : Array Oper) (T : Tab) : Bool → List Nat → List Nat → PT → Bool
  | c, _, κ, .nil => !c && κ.isEmpty
  | c, _, _, .no => c
  | c, pend, κ, .mv i t => !c && (rdyF P ops T κ == some i) && ptF P ops T false (i :: pend) (κ.erase i) t
  | c, pend, κ, .fx i re t rest => (c || (rdyF P ops T κ == none && !κ.isEmpty && (altsF P ops T κ).all (PT.fx i re t rest).heads.contains)) && (ops[i]?).isSome &&
      (pend.filter fun j => !inT ops T i j).all re.contains && ptF P ops T false (pend.filter fun j => !inT ops T i j) (κ.erase i) t && ptF P ops T true pend κ rest
theorem ptF_ok {T : Tab} (h : tabOk ops T = true) : ∀ {t : PT} {c : Bool} {pend κ : List Nat}, ptF P ops T c pend κ t = true → ptOk P ops c pend κ t = true
  | .nil, _, _, _, e => e
  | .no, _, _, _, e => e
  | .mv i t, c, pend, κ, e => by
    unfold ptF at e; unfold ptOk
    simp only [Bool.and_eq_true] at e ⊢
    rw [rdyF_eq h] at e
    exact ⟨e.1, ptF_ok h e.2⟩
  | .fx i re t rest, c, pend, κ, e => by
    unfold ptF at e; unfold ptOk
    rw [rdyF_eq h, altsF_eq h] at e
    simp only [Bool.and_eq_true] at e ⊢
    obtain ⟨⟨⟨⟨e1, e2⟩, e3⟩, e4⟩, e5⟩ := e
    obtain ⟨o, ho⟩ := Option.isSome_iff_exists.1 e2
    simp only [fun j => (inT_anc (j := j) h ho)]
    exact ⟨⟨⟨e1, e3⟩, ptF_ok h e4⟩, ptF_ok h e5⟩
def drawTF (P : Program) (ops : Array Oper) (A : Tab) (N : Nat) (κ : List Nat) (T : PT) : Bool :=
  tabOk ops A && (κ.length == ops.size && (List.range ops.size).all (fun i => κ.contains i) && κ.all (fun i => decide (i < ops.size)) && chainTF P ops A N κ κ) && ptF P ops A false [] κ T
theorem w_drawnTF {ρ : Option Nat} {n0 id : Nat} {s : PSt} {ph : PH} (A : Tab) (T : PT) (κ : List Nat) (N : Nat) (hm : X.P.follows .mixedOrders = true) (hok : drawTF X.P ops A N κ T = true) (hN : N ≤ s.tm.length) (h : vcT X ops Q T s ph) : vc X ρ n0 (.region id ops true) Q s ph := by
  simp only [drawTF, Bool.and_eq_true] at hok
  refine w_drawnT T κ N hm ?_ hN h
  rw [Bool.and_eq_true]
  refine ⟨?_, ptF_ok hok.1.1 hok.2⟩
  unfold drawOkT
  rw [← chainTF_eq hok.1.1]
  simp only [Bool.and_eq_true]
  exact ⟨⟨⟨hok.1.2.1.1.1, hok.1.2.1.1.2⟩, hok.1.2.1.2⟩, hok.1.2.2⟩
end Pv

namespace Pv
open Go Go.Proofs
noncomputable abbrev Cx (w0 : World) : Ctx := ⟨Try.prog, w0⟩
theorem tf2 : type_of% (And.intro (And.intro (And.intro (@Try.underlying2) (@Try.sz2)) (And.intro (@Try.by2) (@Try.kk2))) (And.intro (And.intro (@Try.ag2) (@Try.ap2)) (And.intro (@Try.iu2) (@Try.se2)))) := And.intro (And.intro (And.intro (@Try.underlying2) (@Try.sz2)) (And.intro (@Try.by2) (@Try.kk2))) (And.intro (And.intro (@Try.ag2) (@Try.ap2)) (And.intro (@Try.iu2) (@Try.se2)))
theorem tf3 : type_of% (And.intro (And.intro (And.intro (@Try.underlying3) (@Try.sz3)) (And.intro (@Try.by3) (@Try.kk3))) (And.intro (And.intro (@Try.ag3) (@Try.ap3)) (And.intro (@Try.iu3) (@Try.se3)))) := And.intro (And.intro (And.intro (@Try.underlying3) (@Try.sz3)) (And.intro (@Try.by3) (@Try.kk3))) (And.intro (And.intro (@Try.ag3) (@Try.ap3)) (And.intro (@Try.iu3) (@Try.se3)))
theorem tf4 : type_of% (And.intro (And.intro (And.intro (@Try.underlying4) (@Try.sz4)) (And.intro (@Try.by4) (@Try.kk4))) (And.intro (And.intro (@Try.ag4) (@Try.ap4)) (And.intro (@Try.iu4) (@Try.se4)))) := And.intro (And.intro (And.intro (@Try.underlying4) (@Try.sz4)) (And.intro (@Try.by4) (@Try.kk4))) (And.intro (And.intro (@Try.ag4) (@Try.ap4)) (And.intro (@Try.iu4) (@Try.se4)))
theorem tf5 : type_of% (And.intro (And.intro (And.intro (@Try.underlying5) (@Try.sz5)) (And.intro (@Try.by5) (@Try.kk5))) (And.intro (And.intro (@Try.ag5) (@Try.ap5)) (And.intro (@Try.iu5) (@Try.se5)))) := And.intro (And.intro (And.intro (@Try.underlying5) (@Try.sz5)) (And.intro (@Try.by5) (@Try.kk5))) (And.intro (And.intro (@Try.ag5) (@Try.ap5)) (And.intro (@Try.iu5) (@Try.se5)))
theorem tf9 : type_of% (And.intro (And.intro (And.intro (@Try.underlying9) (@Try.sz9)) (And.intro (@Try.by9) (@Try.kk9))) (And.intro (And.intro (@Try.ag9) (@Try.ap9)) (And.intro (@Try.iu9) (@Try.se9)))) := And.intro (And.intro (And.intro (@Try.underlying9) (@Try.sz9)) (And.intro (@Try.by9) (@Try.kk9))) (And.intro (And.intro (@Try.ag9) (@Try.ap9)) (And.intro (@Try.iu9) (@Try.se9)))
theorem tf22 : type_of% (And.intro (And.intro (And.intro (@Try.underlying22) (@Try.sz22)) (And.intro (@Try.by22) (@Try.kk22))) (And.intro (And.intro (@Try.sl22) (@Try.ag22)) (And.intro (@Try.ap22) (And.intro (@Try.iu22) (@Try.se22))))) := And.intro (And.intro (And.intro (@Try.underlying22) (@Try.sz22)) (And.intro (@Try.by22) (@Try.kk22))) (And.intro (And.intro (@Try.sl22) (@Try.ag22)) (And.intro (@Try.ap22) (And.intro (@Try.iu22) (@Try.se22))))
theorem tf23 : type_of% (And.intro (And.intro (And.intro (@Try.underlying23) (@Try.sz23)) (And.intro (@Try.by23) (@Try.kk23))) (And.intro (And.intro (@Try.ag23) (@Try.ap23)) (And.intro (@Try.iu23) (@Try.se23)))) := And.intro (And.intro (And.intro (@Try.underlying23) (@Try.sz23)) (And.intro (@Try.by23) (@Try.kk23))) (And.intro (And.intro (@Try.ag23) (@Try.ap23)) (And.intro (@Try.iu23) (@Try.se23)))
theorem tf25 : type_of% (And.intro (And.intro (And.intro (@Try.underlying25) (@Try.sz25)) (And.intro (@Try.by25) (And.intro (@Try.kk25) (@Try.ag25)))) (And.intro (And.intro (@Try.ap25) (And.intro (@Try.iu25) (@Try.se25))) (And.intro (@Try.fl25_0) (And.intro (@Try.fl25_1) (@Try.pl25))))) := And.intro (And.intro (And.intro (@Try.underlying25) (@Try.sz25)) (And.intro (@Try.by25) (And.intro (@Try.kk25) (@Try.ag25)))) (And.intro (And.intro (@Try.ap25) (And.intro (@Try.iu25) (@Try.se25))) (And.intro (@Try.fl25_0) (And.intro (@Try.fl25_1) (@Try.pl25))))
theorem tf27 : type_of% (And.intro (And.intro (And.intro (@Try.underlying27) (@Try.sz27)) (And.intro (@Try.by27) (@Try.kk27))) (And.intro (And.intro (@Try.ag27) (@Try.ap27)) (And.intro (@Try.iu27) (@Try.se27)))) := And.intro (And.intro (And.intro (@Try.underlying27) (@Try.sz27)) (And.intro (@Try.by27) (@Try.kk27))) (And.intro (And.intro (@Try.ag27) (@Try.ap27)) (And.intro (@Try.iu27) (@Try.se27)))
theorem tf44 : type_of% (And.intro (And.intro (And.intro (@Try.underlying44) (And.intro (@Try.sz44) (@Try.by44))) (And.intro (And.intro (@Try.kk44) (@Try.ag44)) (And.intro (@Try.ap44) (@Try.iu44)))) (And.intro (And.intro (@Try.se44) (And.intro (@Try.fl44_0) (@Try.fl44_1))) (And.intro (And.intro (@Try.fl44_2) (@Try.pl44)) (And.intro (@Try.ft44) (@Try.eg44))))) := And.intro (And.intro (And.intro (@Try.underlying44) (And.intro (@Try.sz44) (@Try.by44))) (And.intro (And.intro (@Try.kk44) (@Try.ag44)) (And.intro (@Try.ap44) (@Try.iu44)))) (And.intro (And.intro (@Try.se44) (And.intro (@Try.fl44_0) (@Try.fl44_1))) (And.intro (And.intro (@Try.fl44_2) (@Try.pl44)) (And.intro (@Try.ft44) (@Try.eg44))))
theorem tf52 : type_of% (And.intro (And.intro (And.intro (@Try.underlying52) (@Try.sz52)) (And.intro (@Try.by52) (@Try.kk52))) (And.intro (And.intro (@Try.ag52) (@Try.ap52)) (And.intro (@Try.iu52) (@Try.se52)))) := And.intro (And.intro (And.intro (@Try.underlying52) (@Try.sz52)) (And.intro (@Try.by52) (@Try.kk52))) (And.intro (And.intro (@Try.ag52) (@Try.ap52)) (And.intro (@Try.iu52) (@Try.se52)))
theorem tf59 : type_of% (And.intro (And.intro (And.intro (@Try.underlying59) (@Try.sz59)) (And.intro (@Try.by59) (@Try.kk59))) (And.intro (And.intro (@Try.sl59) (@Try.ag59)) (And.intro (@Try.ap59) (And.intro (@Try.iu59) (@Try.se59))))) := And.intro (And.intro (And.intro (@Try.underlying59) (@Try.sz59)) (And.intro (@Try.by59) (@Try.kk59))) (And.intro (And.intro (@Try.sl59) (@Try.ag59)) (And.intro (@Try.ap59) (And.intro (@Try.iu59) (@Try.se59))))
theorem tf60 : type_of% (And.intro (And.intro (And.intro (@Try.underlying60) (@Try.sz60)) (And.intro (@Try.by60) (@Try.kk60))) (And.intro (And.intro (@Try.ag60) (@Try.ap60)) (And.intro (@Try.iu60) (@Try.se60)))) := And.intro (And.intro (And.intro (@Try.underlying60) (@Try.sz60)) (And.intro (@Try.by60) (@Try.kk60))) (And.intro (And.intro (@Try.ag60) (@Try.ap60)) (And.intro (@Try.iu60) (@Try.se60)))
theorem tf62 : type_of% (And.intro (And.intro (And.intro (@Try.underlying62) (@Try.sz62)) (And.intro (@Try.by62) (And.intro (@Try.kk62) (@Try.ag62)))) (And.intro (And.intro (@Try.ap62) (And.intro (@Try.iu62) (@Try.se62))) (And.intro (@Try.fl62_0) (And.intro (@Try.fl62_1) (@Try.pl62))))) := And.intro (And.intro (And.intro (@Try.underlying62) (@Try.sz62)) (And.intro (@Try.by62) (And.intro (@Try.kk62) (@Try.ag62)))) (And.intro (And.intro (@Try.ap62) (And.intro (@Try.iu62) (@Try.se62))) (And.intro (@Try.fl62_0) (And.intro (@Try.fl62_1) (@Try.pl62))))
theorem tf70 : type_of% (And.intro (And.intro (And.intro (@Try.underlying70) (@Try.sz70)) (And.intro (@Try.by70) (@Try.kk70))) (And.intro (And.intro (@Try.ag70) (@Try.ap70)) (And.intro (@Try.iu70) (@Try.se70)))) := And.intro (And.intro (And.intro (@Try.underlying70) (@Try.sz70)) (And.intro (@Try.by70) (@Try.kk70))) (And.intro (And.intro (@Try.ag70) (@Try.ap70)) (And.intro (@Try.iu70) (@Try.se70)))
theorem tf73 : type_of% (And.intro (And.intro (And.intro (@Try.underlying73) (And.intro (@Try.sz73) (@Try.by73))) (And.intro (@Try.kk73) (And.intro (@Try.ar73) (@Try.pl73)))) (And.intro (And.intro (@Try.ag73) (And.intro (@Try.ap73) (@Try.iu73))) (And.intro (@Try.se73) (And.intro (@Try.ft73) (@Try.eg73))))) := And.intro (And.intro (And.intro (@Try.underlying73) (And.intro (@Try.sz73) (@Try.by73))) (And.intro (@Try.kk73) (And.intro (@Try.ar73) (@Try.pl73)))) (And.intro (And.intro (@Try.ag73) (And.intro (@Try.ap73) (@Try.iu73))) (And.intro (@Try.se73) (And.intro (@Try.ft73) (@Try.eg73))))
theorem tf79 : type_of% (And.intro (And.intro (And.intro (@Try.underlying79) (And.intro (@Try.sz79) (@Try.by79))) (And.intro (@Try.kk79) (And.intro (@Try.ar79) (@Try.pl79)))) (And.intro (And.intro (@Try.ag79) (And.intro (@Try.ap79) (@Try.iu79))) (And.intro (@Try.se79) (And.intro (@Try.ft79) (@Try.eg79))))) := And.intro (And.intro (And.intro (@Try.underlying79) (And.intro (@Try.sz79) (@Try.by79))) (And.intro (@Try.kk79) (And.intro (@Try.ar79) (@Try.pl79)))) (And.intro (And.intro (@Try.ag79) (And.intro (@Try.ap79) (@Try.iu79))) (And.intro (@Try.se79) (And.intro (@Try.ft79) (@Try.eg79))))
theorem tf81 : type_of% (And.intro (And.intro (And.intro (@Try.underlying81) (And.intro (@Try.sz81) (@Try.by81))) (And.intro (And.intro (@Try.kk81) (@Try.ag81)) (And.intro (@Try.ap81) (@Try.iu81)))) (And.intro (And.intro (@Try.se81) (And.intro (@Try.fl81_0) (@Try.fl81_1))) (And.intro (And.intro (@Try.fl81_2) (@Try.pl81)) (And.intro (@Try.ft81) (@Try.eg81))))) := And.intro (And.intro (And.intro (@Try.underlying81) (And.intro (@Try.sz81) (@Try.by81))) (And.intro (And.intro (@Try.kk81) (@Try.ag81)) (And.intro (@Try.ap81) (@Try.iu81)))) (And.intro (And.intro (@Try.se81) (And.intro (@Try.fl81_0) (@Try.fl81_1))) (And.intro (And.intro (@Try.fl81_2) (@Try.pl81)) (And.intro (@Try.ft81) (@Try.eg81))))
theorem tf84 : type_of% (And.intro (And.intro (And.intro (@Try.underlying84) (@Try.sz84)) (And.intro (@Try.by84) (@Try.kk84))) (And.intro (And.intro (@Try.ag84) (@Try.ap84)) (And.intro (@Try.iu84) (@Try.se84)))) := And.intro (And.intro (And.intro (@Try.underlying84) (@Try.sz84)) (And.intro (@Try.by84) (@Try.kk84))) (And.intro (And.intro (@Try.ag84) (@Try.ap84)) (And.intro (@Try.iu84) (@Try.se84)))
theorem tf86 : type_of% (And.intro (And.intro (And.intro (@Try.underlying86) (@Try.sz86)) (And.intro (@Try.by86) (@Try.kk86))) (And.intro (And.intro (@Try.ag86) (@Try.ap86)) (And.intro (@Try.iu86) (@Try.se86)))) := And.intro (And.intro (And.intro (@Try.underlying86) (@Try.sz86)) (And.intro (@Try.by86) (@Try.kk86))) (And.intro (And.intro (@Try.ag86) (@Try.ap86)) (And.intro (@Try.iu86) (@Try.se86)))
theorem tf99 : type_of% (And.intro (And.intro (And.intro (@Try.underlying99) (@Try.sz99)) (And.intro (@Try.by99) (@Try.kk99))) (And.intro (And.intro (@Try.sl99) (@Try.ag99)) (And.intro (@Try.ap99) (And.intro (@Try.iu99) (@Try.se99))))) := And.intro (And.intro (And.intro (@Try.underlying99) (@Try.sz99)) (And.intro (@Try.by99) (@Try.kk99))) (And.intro (And.intro (@Try.sl99) (@Try.ag99)) (And.intro (@Try.ap99) (And.intro (@Try.iu99) (@Try.se99))))
theorem tf107 : type_of% (And.intro (And.intro (And.intro (@Try.underlying107) (And.intro (@Try.sz107) (@Try.by107))) (And.intro (@Try.kk107) (And.intro (@Try.ar107) (@Try.pl107)))) (And.intro (And.intro (@Try.ag107) (And.intro (@Try.ap107) (@Try.iu107))) (And.intro (@Try.se107) (And.intro (@Try.ft107) (@Try.eg107))))) := And.intro (And.intro (And.intro (@Try.underlying107) (And.intro (@Try.sz107) (@Try.by107))) (And.intro (@Try.kk107) (And.intro (@Try.ar107) (@Try.pl107)))) (And.intro (And.intro (@Try.ag107) (And.intro (@Try.ap107) (@Try.iu107))) (And.intro (@Try.se107) (And.intro (@Try.ft107) (@Try.eg107))))
end Pv

namespace Pv
open Go Go.RowKit

/-! ### Bits of numbers -/
theorem ofInt_nat (w n : Nat) : BitVec.ofInt w (n : Int) = BitVec.ofNat w n := by simp

end Pv

namespace Pv
open Go Go.RowKit

/-! ### Words of 32 bits -/
def w32 (x : UInt32) : PV := .int .u32 (x.toNat : Int)
def wC (l : List UInt32) : List PV := l.map w32

theorem wrap_u32 (n : Nat) : IntKind.wrap .u32 (n : Int) = ((n % 4294967296 : Nat) : Int) := by
  simp [IntKind.wrap, IntKind.bits, IntKind.signed]
theorem add32 (x y : UInt32) : IntKind.wrap .u32 ((x.toNat : Int) + (y.toNat : Int)) = ((x + y).toNat : Int) := by
  have : (x.toNat : Int) + (y.toNat : Int) = ((x.toNat + y.toNat : Nat) : Int) := by omega
  rw [this, wrap_u32, UInt32.toNat_add]
theorem wrap32 (x : UInt32) : IntKind.wrap .u32 (x.toNat : Int) = x.toNat := by
  rw [wrap_u32, Nat.mod_eq_of_lt x.toNat_lt]
theorem xor32 (a b : UInt32) : bitsP .xor .u32 a.toNat b.toNat = ((a ^^^ b).toNat : Int) := by
  show IntKind.wrap .u32 (((BitVec.ofInt 32 (a.toNat : Int)) ^^^ (BitVec.ofInt 32 (b.toNat : Int))).toNat : Int) = _
  rw [ofInt_nat, ofInt_nat, BitVec.toNat_xor, BitVec.toNat_ofNat, BitVec.toNat_ofNat, Nat.mod_eq_of_lt a.toNat_lt, Nat.mod_eq_of_lt b.toNat_lt, ← UInt32.toNat_xor]
  exact wrap32 _
theorem and32 (a b : UInt32) : bitsP .and .u32 a.toNat b.toNat = ((a &&& b).toNat : Int) := by
  show IntKind.wrap .u32 (((BitVec.ofInt 32 (a.toNat : Int)) &&& (BitVec.ofInt 32 (b.toNat : Int))).toNat : Int) = _
  rw [ofInt_nat, ofInt_nat, BitVec.toNat_and, BitVec.toNat_ofNat, BitVec.toNat_ofNat, Nat.mod_eq_of_lt a.toNat_lt, Nat.mod_eq_of_lt b.toNat_lt, ← UInt32.toNat_and]
  exact wrap32 _
theorem or32 (a b : UInt32) : bitsP .or .u32 a.toNat b.toNat = ((a ||| b).toNat : Int) := by
  show IntKind.wrap .u32 (((BitVec.ofInt 32 (a.toNat : Int)) ||| (BitVec.ofInt 32 (b.toNat : Int))).toNat : Int) = _
  rw [ofInt_nat, ofInt_nat, BitVec.toNat_or, BitVec.toNat_ofNat, BitVec.toNat_ofNat, Nat.mod_eq_of_lt a.toNat_lt, Nat.mod_eq_of_lt b.toNat_lt, ← UInt32.toNat_or]
  exact wrap32 _
theorem shl32 (x : UInt32) (m : Nat) (h : m < 32) : shlP .u32 (x.toNat : Int) (m : Int) = ((x <<< UInt32.ofNat m).toNat : Int) := by
  have e : min ((m : Int)).toNat (IntKind.bits .u32) = m := by simp [IntKind.bits]; omega
  have e2 : (UInt32.ofNat m).toNat = m := by simp; omega
  simp only [shlP]
  rw [e, UInt32.toNat_shiftLeft, e2, Nat.mod_eq_of_lt h, Nat.shiftLeft_eq]
  have : (x.toNat : Int) * 2 ^ m = ((x.toNat * 2 ^ m : Nat) : Int) := by simp
  rw [this, wrap_u32]
theorem shr32 (x : UInt32) (m : Nat) (h : m < 32) : shrP .u32 (x.toNat : Int) (m : Int) = ((x >>> UInt32.ofNat m).toNat : Int) := by
  have e : min ((m : Int)).toNat (IntKind.bits .u32) = m := by simp [IntKind.bits]; omega
  have e2 : (UInt32.ofNat m).toNat = m := by simp; omega
  simp only [shrP]
  rw [e, UInt32.toNat_shiftRight, e2, Nat.mod_eq_of_lt h, Nat.shiftRight_eq_div_pow]
  have e3 : (2 : Int) ^ m = ((2 ^ m : Nat) : Int) := by simp
  rw [e3, Int.fdiv_eq_ediv_of_nonneg _ (Int.natCast_nonneg _)]; rfl
theorem shl32_8 (x : UInt32) : shlP .u32 (x.toNat : Int) 8 = ((x <<< 8).toNat : Int) := shl32 x 8 (by decide)
theorem shl32_16 (x : UInt32) : shlP .u32 (x.toNat : Int) 16 = ((x <<< 16).toNat : Int) := shl32 x 16 (by decide)
theorem shl32_24 (x : UInt32) : shlP .u32 (x.toNat : Int) 24 = ((x <<< 24).toNat : Int) := shl32 x 24 (by decide)
theorem shr32_3 (x : UInt32) : shrP .u32 (x.toNat : Int) 3 = ((x >>> 3).toNat : Int) := shr32 x 3 (by decide)
theorem shr32_8 (x : UInt32) : shrP .u32 (x.toNat : Int) 8 = ((x >>> 8).toNat : Int) := shr32 x 8 (by decide)
theorem shr32_10 (x : UInt32) : shrP .u32 (x.toNat : Int) 10 = ((x >>> 10).toNat : Int) := shr32 x 10 (by decide)
theorem shr32_16 (x : UInt32) : shrP .u32 (x.toNat : Int) 16 = ((x >>> 16).toNat : Int) := shr32 x 16 (by decide)
theorem shr32_24 (x : UInt32) : shrP .u32 (x.toNat : Int) 24 = ((x >>> 24).toNat : Int) := shr32 x 24 (by decide)
/-- A byte, as a word. -/
theorem b32 (b : UInt8) : (b.toUInt32.toNat : Int) = (b.toNat : Int) := by simp
theorem low32 (x : UInt32) : IntKind.wrap .u8 (x.toNat : Int) = (x.toUInt8.toNat : Int) := by
  have : IntKind.wrap .u8 ((x.toNat : Nat) : Int) = ((x.toNat % 256 : Nat) : Int) := by simp [IntKind.wrap, IntKind.bits, IntKind.signed]
  rw [this]; simp

def rotr (x : UInt32) (n : Nat) : UInt32 := (x >>> UInt32.ofNat n) ||| (x <<< UInt32.ofNat (32 - n))

theorem wC_get (l : List UInt32) (i : Nat) : (wC l)[i]? = (l[i]?).map w32 := by simp [wC]
theorem wC_len (l : List UInt32) : (wC l).length = l.length := by simp [wC]
theorem wC_set (l : List UInt32) (i : Nat) (x : UInt32) : (wC l).set i (.int .u32 (x.toNat : Int)) = wC (l.set i x) := by simp [wC, List.map_set, w32]
theorem wC_ok (l : List UInt32) : (wC l).all cellOk = true := by simp [wC, w32, cellOk]
theorem wC_scalar (l : List UInt32) : (wC l).all scalarV = true := by simp [wC, w32, scalarV]
theorem scs_w {n : Nat} {l : List UInt32} : Scs n (wC l) = True := eq_true (scs_scalars (wC_scalar l))
theorem wC_zero (n : Nat) : List.replicate n (PV.int .u32 0) = wC (List.replicate n 0) := by simp [wC, w32]
end Pv

namespace Pv
open Go Go.RowKit

/-! ### What an argument reads as -/
inductive FK where
  | int (k : IntKind)
  | bool
  | str
  | sl (row : List FK)

mutual
inductive OkC : FK → PV → Prop
  | int (k : IntKind) (n : Int) (h : (Lit.int k n).wf = true) : OkC (.int k) (.int k n)
  | bool (b : Bool) : OkC .bool (.bool b)
  | str (l : List UInt8) (h : l.length ≤ maxLen) : OkC .str (.str l)
  | sl (row : List FK) (len : Nat) (cells : List PV) (h : len ≤ maxLen) (hc : OkR row len cells) : OkC (.sl row) (.fsl row.length len cells)
inductive OkL : List FK → List PV → Prop
  | nil : OkL [] []
  | cons (k : FK) (ks : List FK) (p : PV) (ps : List PV) (h : OkC k p) (hs : OkL ks ps) : OkL (k :: ks) (p :: ps)
inductive OkR : List FK → Nat → List PV → Prop
  | nil (row : List FK) : OkR row 0 []
  | cons (row : List FK) (n : Nat) (c r : List PV) (h : OkL row c) (hr : OkR row n r) : OkR row (n + 1) (c ++ r)
end

theorem OkL.length {ks : List FK} {ps : List PV} (h : OkL ks ps) : ps.length = ks.length := by
  induction ks generalizing ps with
  | nil => cases h; rfl
  | cons k ks ih => cases h with | cons _ _ _ _ _ hs => simp [ih hs]

theorem OkR.length {row : List FK} {n : Nat} {ps : List PV} (h : OkR row n ps) : ps.length = n * row.length := by
  induction n generalizing ps with
  | zero => cases h; simp
  | succ n ih => cases h with | cons _ _ c r hc hr => rw [List.length_append, ih hr, hc.length, Nat.succ_mul, Nat.add_comm]

theorem OkL.append {a b : List FK} {ps qs : List PV} (h : OkL a ps) (k : OkL b qs) : OkL (a ++ b) (ps ++ qs) := by
  induction a generalizing ps with
  | nil => cases h; exact k
  | cons x a ih => cases h with | cons _ _ _ _ h1 h2 => exact .cons _ _ _ _ h1 (ih h2)

/-- The cells of a type, one by one. -/
def shGo (P : Program) (rc : TypeId → Option (List FK)) : List Field → Nat → Option (List FK)
  | [], _ => some []
  | f :: fs, off => if f.offset = off then
      match rc f.type with
      | some ks => if ks.length = P.cellsOf f.type then (shGo P rc fs (off + ks.length)).map (ks ++ ·) else none
      | none => none
    else none

def shP (P : Program) : Nat → TypeId → Option (List FK)
  | 0, _ => none
  | d + 1, t =>
    match P.underlying t with
    | some .bool => some [.bool]
    | some (.int k) => some [.int k]
    | some .string => some [.str]
    | some (.slice e) => match shP P d e with
      | some ks => if ks.length = P.cellsOf e ∧ 0 < ks.length then some [.sl ks] else none
      | none => none
    | some (.struct fs) => match shGo P (shP P d) fs.toList 0 with
      | some ks => if ks.length = P.cellsOf t then some ks else none
      | none => none
    | some (.array n e) => match shP P d e with
      | some ks => if ks.length = P.cellsOf e ∧ n * ks.length = P.cellsOf t then some ((List.replicate n ks).flatten) else none
      | none => none
    | _ => none

/-- All that there was, as it is. -/
noncomputable def G0 (w : World) : Ghost := { l := [], f := fun a => if a.spot = none then w.cell? a else none }

def PH0 : PH := { bl := [], ob := fun _ => none }

theorem rel0 {P : Program} (w : World) : Rel ⟨P, w⟩ (G0 w) PH0 w := by
  refine ⟨rfl, .refl _ _, fun p c h => by simp [PH0, PH.get] at h, fun p q c d L M _ h => by simp [PH0, PH.get] at h, ?_, fun a v p c L _ h => by simp [PH0, PH.get] at h, fun r o h => by simp [PH0] at h, fun p e h => by simp [PH0] at h, ⟨fun p s t e h => by simp [PH0, PH.gro] at h, fun p q s t e s' t' e' a ra b rb _ h => by simp [PH0, PH.gro] at h, fun p m x h => by simp [G0] at h⟩⟩
  intro a v h
  simp only [G0] at h
  split at h
  · rename_i hs; exact ⟨hs, h⟩
  · cases h

section
variable {H : Type} {enc : TypeId × Value → H} {P : Program} {w : World} {base : Nat} {spare : Nat → Bool} {held : Bool}

theorem cell_spot {a : Addr} {v : Value} (h : w.cell? a = some v) : a.spot = none := by
  cases e : a.spot with
  | none => rfl
  | some s =>
    unfold World.cell? at h
    split at h
    · simp [e] at h
    · cases h

theorem add_none {a : Addr} (h : a.spot = none) (j : Nat) : a.add j = ⟨a.block, a.off + j, none⟩ := by
  unfold Addr.add
  split
  · rename_i hj; subst hj; cases a; simp at h; subst h; simp
  · rfl

theorem cells_f {a : Addr} {n : Nat} {cs : List Value} (h : w.cells? base a n = some cs) : ∀ j v, cs[j]? = some v → (G0 w).f ⟨a.block, a.off + j, none⟩ = some v ∧ a.spot = none := by
  obtain ⟨-, hl, hc⟩ := World.cells?_some h
  intro j v hv
  have hj : j < n := by rw [← hl]; exact (List.getElem?_eq_some_iff.1 hv).1
  have h0 := hc 0 (by omega)
  rw [List.getElem?_eq_getElem (by omega)] at h0
  have hs : a.spot = none := by
    have := cell_spot h0
    simpa [Addr.add] using this
  have := hc j hj
  rw [hv, add_none hs] at this
  refine ⟨?_, hs⟩
  simp only [G0, if_true]
  exact this

theorem trod_struct' {fuel : Nat} {t : TypeId} {fs : Array Field} {cs : List Value} {x : DataW H × List MemPlace} (hu : P.underlying t = some (.struct fs)) (h : DataW.trod enc P w base spare held fuel t cs = some x) :
    ∃ m xs, fuel = m + 1 ∧ cs.length = P.cellsOf t ∧ (fs.toList.mapM fun f => DataW.trod enc P w base spare held m f.type ((cs.drop f.offset).take (P.cellsOf f.type))) = some xs := by
  cases fuel with
  | zero => simp [DataW.trod] at h
  | succ m =>
    unfold DataW.trod at h
    rw [hu] at h
    split at h <;> simp_all
    obtain ⟨hl, xs, hp, hd⟩ := h
    exact ⟨xs, hp⟩

theorem trod_arr' {fuel n : Nat} {t e : TypeId} {cs : List Value} {x : DataW H × List MemPlace} (hu : P.underlying t = some (.array n e)) (h : DataW.trod enc P w base spare held fuel t cs = some x) :
    ∃ (xs : List (DataW H × List MemPlace)) (m : Nat), fuel = m + 1 ∧ cs.length = P.cellsOf t ∧ xs.length = n ∧ ∀ (i : Nat), i < n → DataW.trod enc P w base spare held m e ((cs.drop (i * P.cellsOf e)).take (P.cellsOf e)) = xs[i]? := by
  cases fuel with
  | zero => simp [DataW.trod] at h
  | succ m =>
    unfold DataW.trod at h
    rw [hu] at h
    split at h <;> simp_all
    obtain ⟨hl, xs, hp, hd⟩ := h
    exact ⟨xs, by simpa using mapM_some_length hp, fun i hi => mapM_some_get hp i i (by simp [hi])⟩

theorem trod_rv : ∀ (d fuel : Nat) (t : TypeId) (cs : List Value) (x : DataW H × List MemPlace) (ks : List FK), DataW.trod enc P w base spare held fuel t cs = some x → shP P d t = some ks →
    ∃ ps, RVs (G0 w) ps cs ∧ OkL ks ps := by
  intro d
  induction d with
  | zero => intro fuel t cs x ks _ h; simp [shP] at h
  | succ d ih =>
    intro fuel t cs x ks hx hk
    unfold shP at hk
    split at hk
    · rename_i hu; cases hk
      cases fuel with
      | zero => simp [DataW.trod] at hx
      | succ fuel =>
        unfold DataW.trod at hx; rw [hu] at hx
        split at hx <;> simp_all
        exact ⟨_, .cons _ _ _ _ (.bool _) .nil, .cons _ _ _ _ (.bool _) .nil⟩
    · rename_i k hu; cases hk
      cases fuel with
      | zero => simp [DataW.trod] at hx
      | succ fuel =>
        unfold DataW.trod at hx; rw [hu] at hx
        split at hx <;> simp_all
        obtain ⟨⟨h1, h2⟩, h3⟩ := hx
        subst h1
        exact ⟨_, .cons _ _ _ _ (.int _ _) .nil, .cons _ _ _ _ (.int _ _ h2) .nil⟩
    · rename_i hu; cases hk
      cases fuel with
      | zero => simp [DataW.trod] at hx
      | succ fuel =>
        unfold DataW.trod at hx; rw [hu] at hx
        split at hx <;> simp_all
        rename_i s _
        exact ⟨_, .cons _ _ _ _ (.str _ _ rfl) .nil, .cons _ _ _ _ (.str _ (by have := hx.1; simpa using this)) .nil⟩
    · rename_i e hu
      split at hk
      · rename_i row hrow
        split at hk
        · rename_i hc; cases hk
          rcases DataW.trod_slice hu hx with ⟨rfl, -⟩ | ⟨a, len, cap, elems, rest, n, -, rfl, -, -, hlc, hcm, hel, heach, -, -⟩
          · exact ⟨_, .cons _ _ _ _ (.fslnil _) .nil, .cons _ _ _ _ (.sl row 0 [] (by decide) (.nil _)) .nil⟩
          · have hsp : 0 < len → a.spot = none := by
              intro hl
              have h0 := heach 0 hl
              rw [List.getElem?_eq_getElem (by omega)] at h0
              obtain ⟨cs', hcs, -⟩ := Option.bind_eq_some_iff.1 h0
              have hl' := (World.cells?_some hcs).2.1
              have := (cells_f hcs 0 _ (List.getElem?_eq_getElem (by omega))).2
              simpa [Addr.add] using this
            have key : ∀ m, m ≤ len → ∃ (ps : List PV) (vs : List Value), RVs (G0 w) ps vs ∧ (∀ j v, vs[j]? = some v → (G0 w).f ⟨a.block, a.off + j, none⟩ = some v ∧ a.spot = none) ∧ vs.length = m * row.length ∧ ∃ rows : List (List PV), rows.length = m ∧ (∀ c ∈ rows, OkL row c) ∧ rows.flatten = ps := by
              intro m
              induction m with
              | zero => intro _; exact ⟨[], [], .nil, by simp, by simp, [], rfl, by simp, rfl⟩
              | succ m ihm =>
                intro hm
                obtain ⟨ps, vs, h1, h2, h3, rows, h4, h5, h6⟩ := ihm (by omega)
                have hme := heach m (by omega)
                have : m < elems.length := by omega
                rw [List.getElem?_eq_getElem this] at hme
                obtain ⟨cs', hcs, ht⟩ := Option.bind_eq_some_iff.1 hme
                obtain ⟨qs, g1, g2⟩ := ih _ _ _ _ _ ht hrow
                have hf := cells_f hcs
                refine ⟨ps ++ qs, vs ++ cs', h1.append g1, ?_, ?_, rows ++ [qs], by simp [h4], ?_, by simp [h6]⟩
                · intro j v hj
                  by_cases hlt : j < vs.length
                  · rw [List.getElem?_append_left hlt] at hj; exact h2 j v hj
                  · rw [List.getElem?_append_right (by omega)] at hj
                    have := hf _ _ hj
                    rw [add_none (hsp (by omega))] at this
                    refine ⟨?_, hsp (by omega)⟩
                    rw [← this.1]
                    have e1 : a.off + j = a.off + m * P.cellsOf e + (j - vs.length) := by rw [← hc.1]; omega
                    rw [e1]
                · have := (World.cells?_some hcs).2.1
                  simp [h3, this, ← hc.1, Nat.succ_mul]
                · intro c hcm'
                  rcases List.mem_append.1 hcm' with h | h
                  · exact h5 c h
                  · simp at h; subst h; exact g2
            obtain ⟨ps, vs, h1, h2, h3, rows, h4, h5, h6⟩ := key len (Nat.le_refl _)
            have hR : OkR row len ps := by
              rw [← h6, ← h4]
              clear h4 h6 h1 h3 heach key
              induction rows with
              | nil => exact .nil _
              | cons c rows ihr => exact .cons _ _ _ _ (h5 c (by simp)) (ihr fun c' h => h5 c' (List.mem_cons_of_mem _ h))
            refine ⟨_, .cons _ _ _ _ (.fsl row.length len ps vs a cap h1 hlc hR.length ?_ fun j v hj => (h2 j v hj).1) .nil, .cons _ _ _ _ (.sl row len ps (by omega) hR) .nil⟩
            intro hl
            have : 0 < vs.length := by rw [h3]; exact Nat.mul_pos hl hc.2
            exact (h2 0 _ (List.getElem?_eq_getElem this)).2
        · cases hk
      · cases hk
    · rename_i fs hu
      split at hk
      · rename_i ks' hgo
        split at hk
        · rename_i hlen; cases hk
          obtain ⟨fuel, xs, -, hcl, hm⟩ := trod_struct' hu hx
          have go : ∀ (fl : List Field) (off : Nat) (ks : List FK) (xs : List (DataW H × List MemPlace)), shGo P (shP P d) fl off = some ks → (fl.mapM fun f => DataW.trod enc P w base spare held fuel f.type ((cs.drop f.offset).take (P.cellsOf f.type))) = some xs → off + ks.length ≤ cs.length →
              ∃ ps, RVs (G0 w) ps ((cs.drop off).take ks.length) ∧ OkL ks ps := by
            intro fl
            induction fl with
            | nil =>
              intro off ks xs hg _ _
              simp only [shGo, Option.some.injEq] at hg
              subst hg
              exact ⟨[], by simpa using RVs.nil, .nil⟩
            | cons f fl ihf =>
              intro off ks xs hg hmm hle
              unfold shGo at hg
              split at hg
              · rename_i hoff
                split at hg
                · rename_i k1 hk1
                  split at hg
                  · rename_i hk1l
                    simp only [Option.map_eq_some_iff] at hg
                    obtain ⟨k2, hk2, rfl⟩ := hg
                    rw [List.mapM_cons] at hmm
                    simp only [Option.bind_eq_bind, Option.bind_eq_some_iff, Option.pure_def, Option.some.injEq] at hmm
                    obtain ⟨y, hy, ys, hys, -⟩ := hmm
                    obtain ⟨p1, r1, o1⟩ := ih _ _ _ _ _ hy hk1
                    simp only [List.length_append] at hle
                    obtain ⟨p2, r2, o2⟩ := ihf _ _ _ hk2 hys (by omega)
                    refine ⟨p1 ++ p2, ?_, o1.append o2⟩
                    rw [List.length_append, List.take_add, List.drop_drop]
                    rw [hoff, ← hk1l] at r1
                    exact r1.append r2
                  · cases hg
                · cases hg
              · cases hg
          obtain ⟨ps, r, o⟩ := go _ _ _ _ hgo hm (by omega)
          refine ⟨ps, ?_, o⟩
          rw [List.drop_zero, List.take_of_length_le (by omega)] at r
          exact r
        · cases hk
      · cases hk
    · rename_i n e hu
      split at hk
      · rename_i row hrow
        split at hk
        · rename_i hc; cases hk
          obtain ⟨xs, m, -, hcl, hxl, heach⟩ := trod_arr' hu hx
          have key : ∀ i, i ≤ n → ∃ ps, RVs (G0 w) ps (cs.take (i * row.length)) ∧ OkL ((List.replicate i row).flatten) ps := by
            intro i
            induction i with
            | zero => intro _; exact ⟨[], by simpa using RVs.nil, .nil⟩
            | succ i ihi =>
              intro hi
              obtain ⟨ps, h1, h2⟩ := ihi (by omega)
              have he := heach i (by omega)
              rw [List.getElem?_eq_getElem (by omega)] at he
              obtain ⟨qs, g1, g2⟩ := ih _ _ _ _ _ he hrow
              rw [← hc.1] at g1
              refine ⟨ps ++ qs, ?_, ?_⟩
              · rw [Nat.succ_mul, List.take_add]; exact h1.append g1
              · rw [List.replicate_succ', List.flatten_append]; simpa using h2.append g2
          obtain ⟨ps, h1, h2⟩ := key n (Nat.le_refl _)
          refine ⟨ps, ?_, h2⟩
          rw [List.take_of_length_le (by rw [hcl, ← hc.2]; exact Nat.le_refl _)] at h1
          exact h1
        · cases hk
      · cases hk
    · cases hk
end

section
variable {H : Type} {enc : TypeId × Value → H} {P : Program} {w : World} {spare : Nat → Bool} {held : Bool} {t : TypeId} {v : Value} {d : DataW H} {ps : List MemPlace} {base : Nat} {ks : List FK}

/-- An argument that is a struct. -/
theorem open_st {fs : Array Field} (hu : P.underlying t = some (.struct fs)) (hv : Value.okWide P w .any base t v) (h : DataW.Trod enc P w 0 spare held t v d ps) (hs : shP P 20 t = some ks) : ∃ cells, OkL ks cells ∧ RV (G0 w) (.agg cells) v := by
  obtain ⟨fuel, hf⟩ := h
  obtain ⟨cells, hr, ho⟩ := trod_rv _ _ _ _ _ _ hf hs
  obtain ⟨cs, rfl, -⟩ := Go.WideShapes.okWide_struct hu hv
  refine ⟨cells, ho, ?_⟩
  have : cs = cs.toList.toArray := by simp
  rw [this]
  exact .agg _ _ hr

theorem open_cell {k : FK} (hc : v.cells = #[v]) (h : DataW.Trod enc P w 0 spare held t v d ps) (hs : shP P 20 t = some [k]) : ∃ p, OkC k p ∧ RV (G0 w) p v := by
  obtain ⟨fuel, hf⟩ := h
  obtain ⟨cells, hr, ho⟩ := trod_rv _ _ _ _ _ _ hf hs
  rw [hc] at hr
  cases ho with
  | cons _ _ p ps h1 h2 =>
    cases h2
    cases hr with
    | cons _ _ _ _ r _ => exact ⟨p, h1, r⟩

theorem open_i {k : IntKind} (hu : P.underlying t = some (.int k)) (hv : Value.okWide P w .any base t v) (h : DataW.Trod enc P w 0 spare held t v d ps) : ∃ n, (Lit.int k n).wf = true ∧ RV (G0 w) (.int k n) v := by
  obtain ⟨p, ho, r⟩ := open_cell (k := .int k) (by obtain ⟨s, rfl⟩ := Go.WideShapes.okWide_int hu hv; rfl) h (by unfold shP; rw [hu])
  cases ho with | int k n hn => exact ⟨n, hn, r⟩

end

/-- From what the body does to what the row asks for. -/
theorem enter {P : Program} {f : FuncId} {args : List PV} {W : World} {rargs : List Value} {b : Bool} {fn : Func} (hf : P.funcs[f]? = some fn) (hb : fn.body.isSome = true) (hnm : (fn.name == "runtime.NumGoroutine") = false) (h : Fn ⟨P, W⟩ f args (.bool b)) (ha : RVs (G0 W) args rargs) :
    Calls P f rargs.toArray W fun e W' => e = .returned (.bool b) ∧ Below W.heap.size W W' := by
  have hp := h PH0 (G0 W) W rargs (rel0 W) ha
  have hent := run_enter (P := P) (w := W) (args := rargs.toArray) hf hb hnm
  rw [hent] at hp
  rcases hp with ⟨v, w', e, -⟩ | ⟨w', e, hc⟩
  · cases e
  · cases e
    refine Calls.mono hc fun e W' he => ?_
    cases e with
    | returned u =>
      obtain ⟨G', pv, ph', -, hr, hv, -, rfl, rfl⟩ := he
      refine ⟨?_, hr.below⟩
      cases hv; rfl
    | panicked _ => exact he.elim
    | outgrown => exact he.elim
end Pv
