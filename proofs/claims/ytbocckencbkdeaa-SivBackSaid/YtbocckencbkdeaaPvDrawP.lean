/- Part of the proof: the layer of pure values, or walks through functions (PvDrawP, PvDrawF, PvCxI, PvBits, PvAesH, PvAesE, PvNbH). -/
import Derived.Test.YtbocckencbkdeaaPvB2
import Derived.Test.YtbocckencbkdeaaPvNum
import Derived.Test.YtbocckencbkdeaaPvFxI
import Derived.Test.YtbocckencbkdeaaPvOpsE
set_option linter.all false
namespace Pv
open Go Go.RowKit
variable {X : Ctx} {ops : Array Oper} {Q : Exit → PSt → PH → Prop}

/-- A plan with every order in it: `fx i re t rest`: i may come next (then t), or else rest. -/
inductive PT where
  | nil
  | no
  | mv (i : Nat) (t : PT)
  | fx (i : Nat) (re : List Nat) (t rest : PT)

def PT.heads : PT → List Nat
  | .fx i _ _ r => i :: r.heads
  | _ => []

def ptOk (P : Program) (ops : Array Oper) : Bool → List Nat → List Nat → PT → Bool
  | c, _, κ, .nil => !c && κ.isEmpty
  | c, _, _, .no => c
  | c, pend, κ, .mv i t => !c && (rdy P ops κ == some i) && ptOk P ops false (i :: pend) (κ.erase i) t
  | c, pend, κ, .fx i re t rest => (c || (rdy P ops κ == none && !κ.isEmpty && (alts P ops κ).all (PT.fx i re t rest).heads.contains)) &&
      (pend.filter fun j => !(anc ops i).contains j).all re.contains && ptOk P ops false (pend.filter fun j => !(anc ops i).contains j) (κ.erase i) t && ptOk P ops true pend κ rest

def vcT (X : Ctx) (ops : Array Oper) (Q : Exit → PSt → PH → Prop) : PT → PSt → PH → Prop
  | .nil, s, ph => Q .normal s ph
  | .no, _, _ => True
  | .mv i t, s, ph => match ops[i]? with
    | none => False
    | some o => match wantedP ops s o with
      | none => False
      | some b => (b = true → opVc X s ph o.op fun v ph' => ph' = ph ∧ vcT X ops Q t (s.put o.dst v) ph) ∧ (b = false → vcT X ops Q t (s.put o.dst (.tuple [])) ph)
  | .fx i re t rest, s, ph => (match ops[i]? with
    | none => False
    | some o => match wantedP ops s o with
      | none => False
      | some b => (b = true → opVc X s ph o.op fun v ph' => look X ops (s.put o.dst v) ph' re ∧ vcT X ops Q t (s.put o.dst v) ph') ∧ (b = false → vcT X ops Q t (s.put o.dst (.tuple [])) ph)) ∧ vcT X ops Q rest s ph

theorem vcT_both (T : PT) :
    (∀ (pend pend' κ : List Nat) (s : PSt) (ph : PH) (m : Nat), ptOk X.P ops false pend' κ T = true → (∀ u ∈ pend, u ∈ pend') → κ.length < m → vcT X ops Q T s ph → vcE X ops Q m pend κ s ph) ∧
    (∀ (c : Bool) (pend pend' κ : List Nat) (s : PSt) (ph : PH) (m : Nat), ptOk X.P ops c pend' κ T = true → (∀ u ∈ pend, u ∈ pend') → κ.length < m + 1 → vcT X ops Q T s ph → ∀ j ∈ T.heads, j ∈ κ → vcF X ops pend s ph j fun p' s' ph' => vcE X ops Q m p' (κ.erase j) s' ph') := by
  induction T with
  | nil =>
    refine ⟨fun pend pend' κ s ph m hk hs hm h => ?_, fun c pend pend' κ s ph m hk hs hm h j hj => by simp [PT.heads] at hj⟩
    have : κ = [] := by simpa [ptOk] using hk
    subst this
    cases m with
    | zero => cases hm
    | succ m => exact ⟨fun _ => h, fun j hj => by simp [alts] at hj⟩
  | no => exact ⟨fun pend pend' κ s ph m hk => by simp [ptOk] at hk, fun c pend pend' κ s ph m hk hs hm h j hj => by simp [PT.heads] at hj⟩
  | mv i t ih => 
    refine ⟨fun pend pend' κ s ph m hk hs hm h => ?_, fun c pend pend' κ s ph m hk hs hm h j hj => by simp [PT.heads] at hj⟩
    simp only [ptOk, Bool.not_false, Bool.true_and, Bool.and_eq_true, beq_iff_eq] at hk
    obtain ⟨hiκ, ⟨o, ho, hmv⟩, -⟩ := rdy_some hk.1
    cases m with
    | zero => cases hm
    | succ m =>
    have hl : (κ.erase i).length < m := by rw [List.length_erase_of_mem hiκ]; have := List.length_pos_of_mem hiκ; omega
    unfold vcE
    rw [hk.1]
    simp only [ho]
    simp only [vcT, ho] at h
    cases hw : wantedP ops s o with
    | none => rw [hw] at h; exact h
    | some b =>
      rw [hw] at h
      simp only at h ⊢
      refine ⟨fun hb => ?_, fun hb => ih.1 _ _ _ _ _ _ hk.2 (fun u hu => List.mem_cons_of_mem _ (hs u hu)) hl (h.2 hb)⟩
      obtain ⟨⟨v, ph'⟩, h1, h2, h3⟩ := opVc_pop hmv (h.1 hb)
      subst h2
      exact ⟨v, h1, ih.1 _ _ _ _ _ _ hk.2 (fun u hu => by rcases List.mem_cons.1 hu with rfl | hu; simp; exact List.mem_cons_of_mem _ (hs u hu)) hl h3⟩
  | fx i re t rest iht ihr =>
    have key : ∀ (c : Bool) (pend pend' κ : List Nat) (s : PSt) (ph : PH) (m : Nat), ptOk X.P ops c pend' κ (.fx i re t rest) = true → (∀ u ∈ pend, u ∈ pend') → κ.length < m + 1 → vcT X ops Q (.fx i re t rest) s ph → ∀ j ∈ (PT.fx i re t rest).heads, j ∈ κ → vcF X ops pend s ph j fun p' s' ph' => vcE X ops Q m p' (κ.erase j) s' ph' := by
      intro c pend pend' κ s ph m hk hs hm h j hj hjκ
      simp only [ptOk, Bool.and_eq_true] at hk
      obtain ⟨⟨⟨-, hre⟩, hkt⟩, hkr⟩ := hk
      rcases List.mem_cons.1 hj with rfl | hj
      · have h := h.1
        have hl : (κ.erase j).length < m := by rw [List.length_erase_of_mem hjκ]; have := List.length_pos_of_mem hjκ; omega
        have hf : ∀ u ∈ pend.filter (fun k => !(anc ops j).contains k), u ∈ pend'.filter (fun k => !(anc ops j).contains k) := by
          intro u hu
          rw [List.mem_filter] at hu ⊢
          exact ⟨hs u hu.1, hu.2⟩
        unfold vcF
        cases ho : ops[j]? with
        | none => rw [ho] at h; exact h
        | some o =>
          rw [ho] at h
          simp only at h ⊢
          cases hw : wantedP ops s o with
          | none => rw [hw] at h; exact h
          | some b =>
            rw [hw] at h
            simp only at h ⊢
            refine ⟨fun hb => opVc_mono' (fun v ph' hk => ⟨recheck_of_look hk.1 fun u hu => ?_, iht.1 _ _ _ _ _ _ hkt hf hl hk.2⟩) (h.1 hb), fun hb => iht.1 _ _ _ _ _ _ hkt hf hl (h.2 hb)⟩
            simpa using List.all_eq_true.1 hre u (hf u hu)
      · exact ihr.2 _ _ _ _ _ _ _ hkr hs hm h.2 j hj hjκ
    refine ⟨fun pend pend' κ s ph m hk hs hm h => ?_, key⟩
    have hk0 := hk
    simp only [ptOk, Bool.false_or, Bool.and_eq_true, beq_iff_eq] at hk
    obtain ⟨⟨⟨⟨⟨hr, hne⟩, hal⟩, -⟩, -⟩, -⟩ := hk
    cases m with
    | zero => cases hm
    | succ m =>
      unfold vcE
      rw [hr]
      refine ⟨fun e => by subst e; simp at hne, fun j hj => key _ _ _ _ _ _ _ hk0 hs hm h j (by simpa using List.all_eq_true.1 hal j hj) (List.mem_filter.1 hj).1⟩

theorem w_drawnT {ρ : Option Nat} {n0 id : Nat} {s : PSt} {ph : PH} (T : PT) (κ : List Nat) (N : Nat) (hm : X.P.follows .mixedOrders = true) (hok : (drawOkT X.P ops N κ && ptOk X.P ops false [] κ T) = true) (hN : N ≤ s.tm.length) (h : vcT X ops Q T s ph) : vc X ρ n0 (.region id ops true) Q s ph := by
  simp only [Bool.and_eq_true] at hok
  rw [w_draw]
  exact pwp_drawT0 (m := κ.length + 1) hm hok.1 hN ((vcT_both T).1 _ _ _ _ _ _ hok.2 (fun _ h => h) (by omega) h)

/-! The walk's equations -/
variable {s : PSt} {ph : PH} {o : Oper} {t rest : PT} {i : Nat} {mv : Bool} {re : List Nat}
def vtK (X : Ctx) (ops : Array Oper) (Q : Exit → PSt → PH → Prop) (mv : Bool) (re : List Nat) (t : PT) (s : PSt) (ph : PH) (dst : Option Tmp) : PV → PH → Prop := fun v ph' => match mv with
  | true => ph' = ph ∧ vcT X ops Q t (s.put dst v) ph
  | false => look X ops (s.put dst v) ph' re ∧ vcT X ops Q t (s.put dst v) ph'
def vtW (X : Ctx) (ops : Array Oper) (Q : Exit → PSt → PH → Prop) (mv : Bool) (re : List Nat) (t : PT) (s : PSt) (ph : PH) (o : Oper) : Option Bool → Prop
  | none => False
  | some b => (b = true → opVc X s ph o.op (vtK X ops Q mv re t s ph o.dst)) ∧ (b = false → vcT X ops Q t (s.put o.dst (.tuple [])) ph)
def vtO (X : Ctx) (ops : Array Oper) (Q : Exit → PSt → PH → Prop) (mv : Bool) (re : List Nat) (t : PT) (s : PSt) (ph : PH) : Option Oper → Prop
  | none => False
  | some o => vtW X ops Q mv re t s ph o (wantedP ops s o)
theorem t_nil : vcT X ops Q .nil s ph = Q .normal s ph := rfl
theorem t_no : vcT X ops Q .no s ph = True := rfl
theorem t_mv : vcT X ops Q (.mv i t) s ph = vtO X ops Q true [] t s ph ops[i]? := by
  conv => lhs; unfold vcT
  cases ops[i]? with
  | none => rfl
  | some o => simp only [vtO]; cases wantedP ops s o <;> rfl
theorem t_fx : vcT X ops Q (.fx i re t rest) s ph = (vtO X ops Q false re t s ph ops[i]? ∧ vcT X ops Q rest s ph) := by
  conv => lhs; unfold vcT
  cases ops[i]? with
  | none => rfl
  | some o => simp only [vtO]; cases wantedP ops s o <;> rfl
theorem t_op : vtO X ops Q mv re t s ph (some o) = vtW X ops Q mv re t s ph o (wantedP ops s o) := rfl
theorem t_true : vtW X ops Q mv re t s ph o (some true) = opVc X s ph o.op (vtK X ops Q mv re t s ph o.dst) := by simp [vtW]
theorem t_false : vtW X ops Q mv re t s ph o (some false) = vcT X ops Q t (s.put o.dst (.tuple [])) ph := by simp [vtW]
theorem t_mvk {dst : Option Tmp} {v : PV} : vtK X ops Q true re t s ph dst v ph = vcT X ops Q t (s.put dst v) ph := by simp [vtK]
theorem t_se {dst : Option Tmp} {v : PV} {ph' : PH} : vtK X ops Q false re t s ph dst v ph' = (look X ops (s.put dst v) ph' re ∧ vcT X ops Q t (s.put dst v) ph') := rfl
theorem t_se0 {dst : Option Tmp} {v : PV} {ph' : PH} : vtK X ops Q false [] t s ph dst v ph' = vcT X ops Q t (s.put dst v) ph' := by simp [vtK, look]
end Pv

namespace Pv
open Go Go.RowKit
variable {X : Ctx} {ops : Array Oper} {Q : Exit → PSt → PH → Prop} {P : Program}

/-! ### The checks of a region's order, by a table of what stands ahead (clo itself goes every way) -/
abbrev Tab := List (List Nat)
def Tab.at (T : Tab) (i : Nat) : List Nat := T.getD i []
def tabAll (ops : Array Oper) (T : Tab) : Nat → List Oper → Bool
  | _, [] => true
  | i, o :: os => (edgesOf o).all (fun j => decide (j < i) && (T.at i).contains j && (T.at j).all (T.at i).contains) &&
      (T.at i).all (fun k => (edgesOf o).any fun j => k == j || (T.at j).contains k) && tabAll ops T (i + 1) os
def tabOk (ops : Array Oper) (T : Tab) : Bool := tabAll ops T 0 ops.toList

theorem tabAll_get {T : Tab} : ∀ {os : List Oper} {n : Nat}, tabAll ops T n os = true → ∀ {i : Nat} {o : Oper}, os[i]? = some o →
    (∀ j ∈ edgesOf o, j < n + i ∧ j ∈ T.at (n + i) ∧ ∀ k ∈ T.at j, k ∈ T.at (n + i)) ∧ ∀ k ∈ T.at (n + i), ∃ j ∈ edgesOf o, k = j ∨ k ∈ T.at j
  | [], _, _, i, o, h => by simp at h
  | a :: os, n, h, 0, o, ho => by
    simp at ho; subst ho
    simp only [tabAll, Bool.and_eq_true, List.all_eq_true, List.any_eq_true, decide_eq_true_eq, List.contains_iff_mem, beq_iff_eq, Bool.or_eq_true] at h
    exact ⟨fun j hj => ⟨(h.1.1 j hj).1.1, (h.1.1 j hj).1.2, (h.1.1 j hj).2⟩, h.1.2⟩
  | a :: os, n, h, i + 1, o, ho => by
    simp only [List.getElem?_cons_succ] at ho
    simp only [tabAll, Bool.and_eq_true] at h
    have := tabAll_get h.2 ho
    rwa [show n + 1 + i = n + (i + 1) by omega] at this

theorem tab_clo {T : Tab} (h : tabOk ops T = true) : ∀ (n i : Nat) (o : Oper), ops[i]? = some o → i < n → ∀ k, k ∈ clo ops n i ↔ k ∈ T.at i := by
  intro n
  induction n with
  | zero => intro i o _ hi; omega
  | succ n ih =>
    intro i o ho hi k
    have hg := tabAll_get h (i := i) (o := o) (by rw [Array.getElem?_toList]; exact ho)
    rw [Nat.zero_add] at hg
    rw [clo, ho]
    simp only [List.mem_flatMap, List.mem_cons]
    have hlt : i < ops.size := (Array.getElem?_eq_some_iff.1 ho).1
    constructor
    · rintro ⟨j, hj, hk⟩
      obtain ⟨h1, h2, h3⟩ := hg.1 j hj
      rcases hk with rfl | hk
      · exact h2
      · have hj2 : j < ops.size := by omega
        exact h3 k ((ih j ops[j] (Array.getElem?_eq_getElem hj2) (by omega) k).1 hk)
    · intro hk
      obtain ⟨j, hj, hk⟩ := hg.2 k hk
      obtain ⟨h1, h2, h3⟩ := hg.1 j hj
      have hj2 : j < ops.size := by omega
      refine ⟨j, hj, ?_⟩
      rcases hk with rfl | hk
      · exact .inl rfl
      · exact .inr ((ih j ops[j] (Array.getElem?_eq_getElem hj2) (by omega) k).2 hk)

theorem tab_anc {T : Tab} (h : tabOk ops T = true) {i j : Nat} (hi : i < ops.size) : (anc ops i).contains j = (T.at i).contains j := by
  rw [Bool.eq_iff_iff, List.contains_iff_mem, List.contains_iff_mem]
  exact tab_clo h ops.size i ops[i] (Array.getElem?_eq_getElem hi) hi j

/-- Is it so that.., for places in the region alone. -/
def inT (ops : Array Oper) (T : Tab) (i j : Nat) : Bool := (T.at i).contains j
theorem inT_anc {T : Tab} (h : tabOk ops T = true) {i j : Nat} {o : Oper} (ho : ops[i]? = some o) : (anc ops i).contains j = inT ops T i j := tab_anc h (Array.getElem?_eq_some_iff.1 ho).1

def atF (P : Program) (ops : Array Oper) (T : Tab) (N : Nat) (all pre post : List Nat) (i : Nat) : Bool :=
  match ops[i]? with
  | none => false
  | some o =>
    (edgesOf o).all (fun j => decide (j < i)) &&
    pre.all (fun j => match ops[j]? with
      | none => false
      | some p => movable P p.op || inT ops T i j) &&
    post.all (fun j => j != i && !inT ops T i j) &&
    (match o.dst with
      | none => !movable P o.op
      | some d => decide (d < N) && (!movable P o.op || !(readsOf ops o).contains d) &&
        all.all (fun j => j == i || match ops[j]? with
          | none => false
          | some p => !(namesOf ops p).contains d || inT ops T j i || (!movable P o.op && inT ops T i j)))
theorem atF_eq {T : Tab} (h : tabOk ops T = true) {N : Nat} {all pre post : List Nat} {i : Nat} : atF P ops T N all pre post i = atOk P ops N all pre post i := by
  unfold atF atOk
  cases ho : ops[i]? with
  | none => rfl
  | some o =>
    dsimp only
    have e : ∀ j, (anc ops i).contains j = inT ops T i j := fun j => inT_anc h ho
    simp only [e]
    congr 1
    cases o.dst with
    | none => rfl
    | some d =>
      dsimp only
      congr 2
      funext j
      cases hp : ops[j]? with
      | none => rfl
      | some p => dsimp only; rw [inT_anc h hp]
def chainF (P : Program) (ops : Array Oper) (T : Tab) (N : Nat) (all : List Nat) : List Nat → List Nat → Bool
  | _, [] => true
  | pre, i :: κ => atF P ops T N all pre κ i && chainF P ops T N all (pre ++ [i]) κ
theorem chainF_eq {T : Tab} (h : tabOk ops T = true) {N : Nat} {all : List Nat} : ∀ {κ pre : List Nat}, chainF P ops T N all pre κ = chainOk P ops N all pre κ
  | [], _ => rfl
  | i :: κ, pre => by rw [chainF, chainOk, atF_eq h, chainF_eq h]
def planF (P : Program) (ops : Array Oper) (T : Tab) : List Nat → Plan → Bool
  | _, [] => true
  | pend, (i, mv, re) :: κ => match ops[i]? with
    | none => false
    | some o => (mv == movable P o.op) && (match mv with
      | true => planF P ops T (i :: pend) κ
      | false => (pend.filter fun j => !inT ops T i j).all re.contains && planF P ops T (pend.filter fun j => !inT ops T i j) κ)
theorem planF_eq {T : Tab} (h : tabOk ops T = true) : ∀ {κ : Plan} {pend : List Nat}, planF P ops T pend κ = planOk P ops pend κ
  | [], _ => rfl
  | (i, mv, re) :: κ, pend => by
    unfold planF planOk
    cases ho : ops[i]? with
    | none => rfl
    | some o =>
      dsimp only
      have e : ∀ j, (anc ops i).contains j = inT ops T i j := fun j => inT_anc h ho
      cases mv <;> simp only [e, planF_eq h]
def drawF (P : Program) (ops : Array Oper) (T : Tab) (N : Nat) (κ : Plan) : Bool :=
  tabOk ops T && (κ.length == ops.size && (List.range ops.size).all (fun i => (κ.map (·.1)).contains i) && (κ.map (·.1)).all (fun i => decide (i < ops.size)) && chainF P ops T N (κ.map (·.1)) [] (κ.map (·.1))) && planF P ops T [] κ
theorem w_drawnF {ρ : Option Nat} {n0 id : Nat} {s : PSt} {ph : PH} (T : Tab) (κ : Plan) (N : Nat) (hm : X.P.follows .mixedOrders = true) (hok : drawF X.P ops T N κ = true) (hN : N ≤ s.tm.length) (h : vcP X ops Q κ s ph) : vc X ρ n0 (.region id ops true) Q s ph := by
  simp only [drawF, Bool.and_eq_true] at hok
  refine w_drawn κ N hm ?_ hN h
  rw [Bool.and_eq_true]
  refine ⟨?_, by rw [← planF_eq hok.1.1]; exact hok.2⟩
  unfold drawOk
  rw [← chainF_eq hok.1.1]
  simp only [Bool.and_eq_true, List.length_map]
  exact ⟨⟨⟨hok.1.2.1.1.1, hok.1.2.1.1.2⟩, hok.1.2.1.2⟩, hok.1.2.2⟩

/-! Trees -/
def atTF (P : Program) (ops : Array Oper) (T : Tab) (N : Nat) (all post : List Nat) (i : Nat) : Bool :=
  match ops[i]? with
  | none => false
  | some o =>
    (edgesOf o).all (fun j => decide (j < i)) &&
    post.all (fun j => j != i && !inT ops T i j) &&
    (match o.dst with
      | none => !movable P o.op
      | some d => decide (d < N) && (!movable P o.op || !(readsOf ops o).contains d) &&
        all.all (fun j => j == i || match ops[j]? with
          | none => false
          | some p => !(namesOf ops p).contains d || inT ops T j i || (!movable P o.op && inT ops T i j)))
theorem atTF_eq {T : Tab} (h : tabOk ops T = true) {N : Nat} {all post : List Nat} {i : Nat} : atTF P ops T N all post i = atT P ops N all post i := by
  unfold atTF atT
  cases ho : ops[i]? with
  | none => rfl
  | some o =>
    dsimp only
    have e : ∀ j, (anc ops i).contains j = inT ops T i j := fun j => inT_anc h ho
    simp only [e]
    congr 1
    cases o.dst with
    | none => rfl
    | some d =>
      dsimp only
      congr 2
      funext j
      cases hp : ops[j]? with
      | none => rfl
      | some p => dsimp only; rw [inT_anc h hp]
def chainTF (P : Program) (ops : Array Oper) (T : Tab) (N : Nat) (all : List Nat) : List Nat → Bool
  | [] => true
  | i :: κ => atTF P ops T N all κ i && chainTF P ops T N all κ
theorem chainTF_eq {T : Tab} (h : tabOk ops T = true) {N : Nat} {all : List Nat} : ∀ {κ : List Nat}, chainTF P ops T N all κ = chainT P ops N all κ
  | [] => rfl
  | i :: κ => by rw [chainTF, chainT, atTF_eq h, chainTF_eq h]
def altsF (P : Program) (ops : Array Oper) (T : Tab) (κ : List Nat) : List Nat :=
  κ.filter fun i => (match ops[i]? with | some o => !movable P o.op | none => false) && κ.all fun j => !inT ops T i j
def rdyF (P : Program) (ops : Array Oper) (T : Tab) (κ : List Nat) : Option Nat :=
  κ.find? fun i => (match ops[i]? with | some o => movable P o.op | none => false) && κ.all fun j => !inT ops T i j
theorem altsF_eq {T : Tab} (h : tabOk ops T = true) {κ : List Nat} : altsF P ops T κ = alts P ops κ := by
  unfold altsF alts
  congr 1; funext i
  cases ho : ops[i]? with
  | none => rfl
  | some o => simp only [fun j => inT_anc (j := j) h ho]
theorem rdyF_eq {T : Tab} (h : tabOk ops T = true) {κ : List Nat} : rdyF P ops T κ = rdy P ops κ := by
  unfold rdyF rdy
  congr 1; funext i
  cases ho : ops[i]? with
  | none => rfl
  | some o => simp only [fun j => inT_anc (j := j) h ho]
def ptF (P : Program) (ops : Array Oper) (T : Tab) : Bool → List Nat → List Nat → PT → Bool
  | c, _, κ, .nil => !c && κ.isEmpty
  | c, _, _, .no => c
  | c, pend, κ, .mv i t => !c && (rdyF P ops T κ == some i) && ptF P ops T false (i :: pend) (κ.erase i) t
  | c, pend, κ, .fx i re t rest => (c || (rdyF P ops T κ == none && !κ.isEmpty && (altsF P ops T κ).all (PT.fx i re t rest).heads.contains)) && (ops[i]?).isSome &&
      (pend.filter fun j => !inT ops T i j).all re.contains && ptF P ops T false (pend.filter fun j => !inT ops T i j) (κ.erase i) t && ptF P ops T true pend κ rest
theorem ptF_ok {T : Tab} (h : tabOk ops T = true) : ∀ {t : PT} {c : Bool} {pend κ : List Nat}, ptF P ops T c pend κ t = true → ptOk P ops c pend κ t = true
  | .nil, _, _, _, e => e
  | .no, _, _, _, e => e
  | .mv i t, c, pend, κ, e => by
    unfold ptF at e; unfold ptOk
    simp only [Bool.and_eq_true] at e ⊢
    rw [rdyF_eq h] at e
    exact ⟨e.1, ptF_ok h e.2⟩
  | .fx i re t rest, c, pend, κ, e => by
    unfold ptF at e; unfold ptOk
    rw [rdyF_eq h, altsF_eq h] at e
    simp only [Bool.and_eq_true] at e ⊢
    obtain ⟨⟨⟨⟨e1, e2⟩, e3⟩, e4⟩, e5⟩ := e
    obtain ⟨o, ho⟩ := Option.isSome_iff_exists.1 e2
    simp only [fun j => (inT_anc (j := j) h ho)]
    exact ⟨⟨⟨e1, e3⟩, ptF_ok h e4⟩, ptF_ok h e5⟩
def drawTF (P : Program) (ops : Array Oper) (A : Tab) (N : Nat) (κ : List Nat) (T : PT) : Bool :=
  tabOk ops A && (κ.length == ops.size && (List.range ops.size).all (fun i => κ.contains i) && κ.all (fun i => decide (i < ops.size)) && chainTF P ops A N κ κ) && ptF P ops A false [] κ T
theorem w_drawnTF {ρ : Option Nat} {n0 id : Nat} {s : PSt} {ph : PH} (A : Tab) (T : PT) (κ : List Nat) (N : Nat) (hm : X.P.follows .mixedOrders = true) (hok : drawTF X.P ops A N κ T = true) (hN : N ≤ s.tm.length) (h : vcT X ops Q T s ph) : vc X ρ n0 (.region id ops true) Q s ph := by
  simp only [drawTF, Bool.and_eq_true] at hok
  refine w_drawnT T κ N hm ?_ hN h
  rw [Bool.and_eq_true]
  refine ⟨?_, ptF_ok hok.1.1 hok.2⟩
  unfold drawOkT
  rw [← chainTF_eq hok.1.1]
  simp only [Bool.and_eq_true]
  exact ⟨⟨⟨hok.1.2.1.1.1, hok.1.2.1.1.2⟩, hok.1.2.1.2⟩, hok.1.2.2⟩
end Pv

namespace Pv
open Go Go.Proofs
noncomputable abbrev Cx (w0 : World) : Ctx := ⟨Try.prog, w0⟩
theorem tf1 : type_of% (And.intro (And.intro (And.intro (@Try.underlying1) (@Try.sz1)) (And.intro (@Try.by1) (@Try.kk1))) (And.intro (And.intro (@Try.ag1) (@Try.ap1)) (And.intro (@Try.iu1) (@Try.se1)))) := And.intro (And.intro (And.intro (@Try.underlying1) (@Try.sz1)) (And.intro (@Try.by1) (@Try.kk1))) (And.intro (And.intro (@Try.ag1) (@Try.ap1)) (And.intro (@Try.iu1) (@Try.se1)))
theorem tf3 : type_of% (And.intro (And.intro (And.intro (@Try.underlying3) (@Try.sz3)) (And.intro (@Try.by3) (@Try.kk3))) (And.intro (And.intro (@Try.ag3) (@Try.ap3)) (And.intro (@Try.iu3) (@Try.se3)))) := And.intro (And.intro (And.intro (@Try.underlying3) (@Try.sz3)) (And.intro (@Try.by3) (@Try.kk3))) (And.intro (And.intro (@Try.ag3) (@Try.ap3)) (And.intro (@Try.iu3) (@Try.se3)))
theorem tf4 : type_of% (And.intro (And.intro (And.intro (@Try.underlying4) (@Try.sz4)) (And.intro (@Try.by4) (@Try.kk4))) (And.intro (And.intro (@Try.ag4) (@Try.ap4)) (And.intro (@Try.iu4) (@Try.se4)))) := And.intro (And.intro (And.intro (@Try.underlying4) (@Try.sz4)) (And.intro (@Try.by4) (@Try.kk4))) (And.intro (And.intro (@Try.ag4) (@Try.ap4)) (And.intro (@Try.iu4) (@Try.se4)))
theorem tf5 : type_of% (And.intro (And.intro (And.intro (@Try.underlying5) (@Try.sz5)) (And.intro (@Try.by5) (@Try.kk5))) (And.intro (And.intro (@Try.ag5) (@Try.ap5)) (And.intro (@Try.iu5) (@Try.se5)))) := And.intro (And.intro (And.intro (@Try.underlying5) (@Try.sz5)) (And.intro (@Try.by5) (@Try.kk5))) (And.intro (And.intro (@Try.ag5) (@Try.ap5)) (And.intro (@Try.iu5) (@Try.se5)))
theorem tf9 : type_of% (And.intro (And.intro (And.intro (@Try.underlying9) (@Try.sz9)) (And.intro (@Try.by9) (@Try.kk9))) (And.intro (And.intro (@Try.ag9) (@Try.ap9)) (And.intro (@Try.iu9) (@Try.se9)))) := And.intro (And.intro (And.intro (@Try.underlying9) (@Try.sz9)) (And.intro (@Try.by9) (@Try.kk9))) (And.intro (And.intro (@Try.ag9) (@Try.ap9)) (And.intro (@Try.iu9) (@Try.se9)))
theorem tf21 : type_of% (And.intro (And.intro (And.intro (@Try.underlying21) (@Try.sz21)) (And.intro (@Try.by21) (@Try.kk21))) (And.intro (And.intro (@Try.ag21) (@Try.ap21)) (And.intro (@Try.iu21) (@Try.se21)))) := And.intro (And.intro (And.intro (@Try.underlying21) (@Try.sz21)) (And.intro (@Try.by21) (@Try.kk21))) (And.intro (And.intro (@Try.ag21) (@Try.ap21)) (And.intro (@Try.iu21) (@Try.se21)))
theorem tf24 : type_of% (And.intro (And.intro (And.intro (@Try.underlying24) (@Try.sz24)) (And.intro (@Try.by24) (@Try.kk24))) (And.intro (And.intro (@Try.ag24) (@Try.ap24)) (And.intro (@Try.iu24) (@Try.se24)))) := And.intro (And.intro (And.intro (@Try.underlying24) (@Try.sz24)) (And.intro (@Try.by24) (@Try.kk24))) (And.intro (And.intro (@Try.ag24) (@Try.ap24)) (And.intro (@Try.iu24) (@Try.se24)))
theorem tf36 : type_of% (And.intro (And.intro (And.intro (@Try.underlying36) (@Try.sz36)) (And.intro (@Try.by36) (@Try.kk36))) (And.intro (And.intro (@Try.sl36) (@Try.ag36)) (And.intro (@Try.ap36) (And.intro (@Try.iu36) (@Try.se36))))) := And.intro (And.intro (And.intro (@Try.underlying36) (@Try.sz36)) (And.intro (@Try.by36) (@Try.kk36))) (And.intro (And.intro (@Try.sl36) (@Try.ag36)) (And.intro (@Try.ap36) (And.intro (@Try.iu36) (@Try.se36))))
theorem tf38 : type_of% (And.intro (And.intro (And.intro (@Try.underlying38) (@Try.sz38)) (And.intro (@Try.by38) (@Try.kk38))) (And.intro (And.intro (@Try.sl38) (@Try.ag38)) (And.intro (@Try.ap38) (And.intro (@Try.iu38) (@Try.se38))))) := And.intro (And.intro (And.intro (@Try.underlying38) (@Try.sz38)) (And.intro (@Try.by38) (@Try.kk38))) (And.intro (And.intro (@Try.sl38) (@Try.ag38)) (And.intro (@Try.ap38) (And.intro (@Try.iu38) (@Try.se38))))
theorem tf63 : type_of% (And.intro (And.intro (And.intro (@Try.underlying63) (And.intro (@Try.sz63) (@Try.by63))) (And.intro (And.intro (@Try.kk63) (@Try.ag63)) (And.intro (@Try.ap63) (@Try.iu63)))) (And.intro (And.intro (@Try.se63) (And.intro (@Try.fl63_0) (@Try.fl63_1))) (And.intro (And.intro (@Try.fl63_2) (@Try.pl63)) (And.intro (@Try.ft63) (@Try.eg63))))) := And.intro (And.intro (And.intro (@Try.underlying63) (And.intro (@Try.sz63) (@Try.by63))) (And.intro (And.intro (@Try.kk63) (@Try.ag63)) (And.intro (@Try.ap63) (@Try.iu63)))) (And.intro (And.intro (@Try.se63) (And.intro (@Try.fl63_0) (@Try.fl63_1))) (And.intro (And.intro (@Try.fl63_2) (@Try.pl63)) (And.intro (@Try.ft63) (@Try.eg63))))
theorem tf87 : type_of% (And.intro (And.intro (And.intro (@Try.underlying87) (@Try.sz87)) (And.intro (@Try.by87) (@Try.kk87))) (And.intro (And.intro (@Try.ag87) (@Try.ap87)) (And.intro (@Try.iu87) (@Try.se87)))) := And.intro (And.intro (And.intro (@Try.underlying87) (@Try.sz87)) (And.intro (@Try.by87) (@Try.kk87))) (And.intro (And.intro (@Try.ag87) (@Try.ap87)) (And.intro (@Try.iu87) (@Try.se87)))
theorem tf90 : type_of% (And.intro (And.intro (And.intro (@Try.underlying90) (And.intro (@Try.sz90) (@Try.by90))) (And.intro (@Try.kk90) (And.intro (@Try.ar90) (@Try.pl90)))) (And.intro (And.intro (@Try.ag90) (And.intro (@Try.ap90) (@Try.iu90))) (And.intro (@Try.se90) (And.intro (@Try.ft90) (@Try.eg90))))) := And.intro (And.intro (And.intro (@Try.underlying90) (And.intro (@Try.sz90) (@Try.by90))) (And.intro (@Try.kk90) (And.intro (@Try.ar90) (@Try.pl90)))) (And.intro (And.intro (@Try.ag90) (And.intro (@Try.ap90) (@Try.iu90))) (And.intro (@Try.se90) (And.intro (@Try.ft90) (@Try.eg90))))
theorem tf95 : type_of% (And.intro (And.intro (And.intro (@Try.underlying95) (@Try.sz95)) (And.intro (@Try.by95) (@Try.kk95))) (And.intro (And.intro (@Try.ag95) (@Try.ap95)) (And.intro (@Try.iu95) (@Try.se95)))) := And.intro (And.intro (And.intro (@Try.underlying95) (@Try.sz95)) (And.intro (@Try.by95) (@Try.kk95))) (And.intro (And.intro (@Try.ag95) (@Try.ap95)) (And.intro (@Try.iu95) (@Try.se95)))
theorem tf105 : type_of% (And.intro (And.intro (And.intro (@Try.underlying105) (@Try.sz105)) (And.intro (@Try.by105) (And.intro (@Try.kk105) (@Try.ag105)))) (And.intro (And.intro (@Try.ap105) (@Try.iu105)) (And.intro (@Try.se105) (And.intro (@Try.fl105_1) (@Try.pl105))))) := And.intro (And.intro (And.intro (@Try.underlying105) (@Try.sz105)) (And.intro (@Try.by105) (And.intro (@Try.kk105) (@Try.ag105)))) (And.intro (And.intro (@Try.ap105) (@Try.iu105)) (And.intro (@Try.se105) (And.intro (@Try.fl105_1) (@Try.pl105))))
theorem tf107 : type_of% (And.intro (And.intro (And.intro (@Try.underlying107) (@Try.sz107)) (And.intro (@Try.by107) (And.intro (@Try.kk107) (@Try.ag107)))) (And.intro (And.intro (@Try.ap107) (And.intro (@Try.iu107) (@Try.se107))) (And.intro (@Try.fl107_0) (And.intro (@Try.fl107_1) (@Try.pl107))))) := And.intro (And.intro (And.intro (@Try.underlying107) (@Try.sz107)) (And.intro (@Try.by107) (And.intro (@Try.kk107) (@Try.ag107)))) (And.intro (And.intro (@Try.ap107) (And.intro (@Try.iu107) (@Try.se107))) (And.intro (@Try.fl107_0) (And.intro (@Try.fl107_1) (@Try.pl107))))
theorem tf109 : type_of% (And.intro (And.intro (And.intro (@Try.underlying109) (@Try.sz109)) (And.intro (@Try.by109) (And.intro (@Try.kk109) (@Try.ag109)))) (And.intro (And.intro (@Try.ap109) (@Try.iu109)) (And.intro (@Try.se109) (And.intro (@Try.fl109_1) (@Try.pl109))))) := And.intro (And.intro (And.intro (@Try.underlying109) (@Try.sz109)) (And.intro (@Try.by109) (And.intro (@Try.kk109) (@Try.ag109)))) (And.intro (And.intro (@Try.ap109) (@Try.iu109)) (And.intro (@Try.se109) (And.intro (@Try.fl109_1) (@Try.pl109))))
theorem tf111 : type_of% (And.intro (And.intro (And.intro (@Try.underlying111) (@Try.sz111)) (And.intro (@Try.by111) (And.intro (@Try.kk111) (@Try.ag111)))) (And.intro (And.intro (@Try.ap111) (And.intro (@Try.iu111) (@Try.se111))) (And.intro (@Try.fl111_1) (And.intro (@Try.fl111_2) (@Try.pl111))))) := And.intro (And.intro (And.intro (@Try.underlying111) (@Try.sz111)) (And.intro (@Try.by111) (And.intro (@Try.kk111) (@Try.ag111)))) (And.intro (And.intro (@Try.ap111) (And.intro (@Try.iu111) (@Try.se111))) (And.intro (@Try.fl111_1) (And.intro (@Try.fl111_2) (@Try.pl111))))
theorem tf112 : type_of% (And.intro (And.intro (And.intro (@Try.underlying112) (And.intro (@Try.sz112) (@Try.by112))) (And.intro (@Try.kk112) (And.intro (@Try.ar112) (@Try.pl112)))) (And.intro (And.intro (@Try.ag112) (And.intro (@Try.ap112) (@Try.iu112))) (And.intro (@Try.se112) (And.intro (@Try.ft112) (@Try.eg112))))) := And.intro (And.intro (And.intro (@Try.underlying112) (And.intro (@Try.sz112) (@Try.by112))) (And.intro (@Try.kk112) (And.intro (@Try.ar112) (@Try.pl112)))) (And.intro (And.intro (@Try.ag112) (And.intro (@Try.ap112) (@Try.iu112))) (And.intro (@Try.se112) (And.intro (@Try.ft112) (@Try.eg112))))
theorem tf113 : type_of% (And.intro (And.intro (And.intro (@Try.underlying113) (@Try.sz113)) (And.intro (@Try.by113) (And.intro (@Try.kk113) (@Try.ar113)))) (And.intro (And.intro (@Try.pl113) (@Try.ag113)) (And.intro (@Try.ap113) (And.intro (@Try.iu113) (@Try.se113))))) := And.intro (And.intro (And.intro (@Try.underlying113) (@Try.sz113)) (And.intro (@Try.by113) (And.intro (@Try.kk113) (@Try.ar113)))) (And.intro (And.intro (@Try.pl113) (@Try.ag113)) (And.intro (@Try.ap113) (And.intro (@Try.iu113) (@Try.se113))))
theorem tf114 : type_of% (And.intro (And.intro (And.intro (@Try.underlying114) (@Try.sz114)) (And.intro (@Try.by114) (@Try.kk114))) (And.intro (And.intro (@Try.sl114) (@Try.ag114)) (And.intro (@Try.ap114) (And.intro (@Try.iu114) (@Try.se114))))) := And.intro (And.intro (And.intro (@Try.underlying114) (@Try.sz114)) (And.intro (@Try.by114) (@Try.kk114))) (And.intro (And.intro (@Try.sl114) (@Try.ag114)) (And.intro (@Try.ap114) (And.intro (@Try.iu114) (@Try.se114))))
theorem tf116 : type_of% (And.intro (And.intro (And.intro (@Try.underlying116) (And.intro (@Try.sz116) (@Try.by116))) (And.intro (And.intro (@Try.kk116) (@Try.ag116)) (And.intro (@Try.ap116) (@Try.iu116)))) (And.intro (And.intro (And.intro (@Try.se116) (@Try.fl116_0)) (And.intro (@Try.fl116_1) (@Try.fl116_2))) (And.intro (And.intro (@Try.fl116_3) (@Try.fl116_4)) (And.intro (@Try.fl116_5) (@Try.pl116))))) := And.intro (And.intro (And.intro (@Try.underlying116) (And.intro (@Try.sz116) (@Try.by116))) (And.intro (And.intro (@Try.kk116) (@Try.ag116)) (And.intro (@Try.ap116) (@Try.iu116)))) (And.intro (And.intro (And.intro (@Try.se116) (@Try.fl116_0)) (And.intro (@Try.fl116_1) (@Try.fl116_2))) (And.intro (And.intro (@Try.fl116_3) (@Try.fl116_4)) (And.intro (@Try.fl116_5) (@Try.pl116))))
theorem tf122 : type_of% (And.intro (And.intro (And.intro (@Try.underlying122) (@Try.sz122)) (And.intro (@Try.by122) (@Try.kk122))) (And.intro (And.intro (@Try.ag122) (@Try.ap122)) (And.intro (@Try.iu122) (@Try.se122)))) := And.intro (And.intro (And.intro (@Try.underlying122) (@Try.sz122)) (And.intro (@Try.by122) (@Try.kk122))) (And.intro (And.intro (@Try.ag122) (@Try.ap122)) (And.intro (@Try.iu122) (@Try.se122)))
theorem tf124 : type_of% (And.intro (And.intro (And.intro (@Try.underlying124) (@Try.sz124)) (And.intro (@Try.by124) (@Try.kk124))) (And.intro (And.intro (@Try.ag124) (@Try.ap124)) (And.intro (@Try.iu124) (@Try.se124)))) := And.intro (And.intro (And.intro (@Try.underlying124) (@Try.sz124)) (And.intro (@Try.by124) (@Try.kk124))) (And.intro (And.intro (@Try.ag124) (@Try.ap124)) (And.intro (@Try.iu124) (@Try.se124)))
theorem tf125 : type_of% (And.intro (And.intro (And.intro (@Try.underlying125) (And.intro (@Try.sz125) (@Try.by125))) (And.intro (@Try.kk125) (And.intro (@Try.ar125) (@Try.pl125)))) (And.intro (And.intro (@Try.ag125) (And.intro (@Try.ap125) (@Try.iu125))) (And.intro (@Try.se125) (And.intro (@Try.ft125) (@Try.eg125))))) := And.intro (And.intro (And.intro (@Try.underlying125) (And.intro (@Try.sz125) (@Try.by125))) (And.intro (@Try.kk125) (And.intro (@Try.ar125) (@Try.pl125)))) (And.intro (And.intro (@Try.ag125) (And.intro (@Try.ap125) (@Try.iu125))) (And.intro (@Try.se125) (And.intro (@Try.ft125) (@Try.eg125))))
theorem tf135 : type_of% (And.intro (And.intro (And.intro (@Try.underlying135) (@Try.sz135)) (And.intro (@Try.by135) (@Try.kk135))) (And.intro (And.intro (@Try.sl135) (@Try.ag135)) (And.intro (@Try.ap135) (And.intro (@Try.iu135) (@Try.se135))))) := And.intro (And.intro (And.intro (@Try.underlying135) (@Try.sz135)) (And.intro (@Try.by135) (@Try.kk135))) (And.intro (And.intro (@Try.sl135) (@Try.ag135)) (And.intro (@Try.ap135) (And.intro (@Try.iu135) (@Try.se135))))
theorem tf150 : type_of% (And.intro (And.intro (And.intro (@Try.underlying150) (@Try.sz150)) (And.intro (@Try.by150) (@Try.kk150))) (And.intro (And.intro (@Try.sl150) (@Try.ag150)) (And.intro (@Try.ap150) (And.intro (@Try.iu150) (@Try.se150))))) := And.intro (And.intro (And.intro (@Try.underlying150) (@Try.sz150)) (And.intro (@Try.by150) (@Try.kk150))) (And.intro (And.intro (@Try.sl150) (@Try.ag150)) (And.intro (@Try.ap150) (And.intro (@Try.iu150) (@Try.se150))))
end Pv

namespace Pv
open Go Go.RowKit

/-! ### Bits of numbers -/
theorem ofInt_nat (w n : Nat) : BitVec.ofInt w (n : Int) = BitVec.ofNat w n := by simp

theorem xor_u8 (a b : UInt8) : bitsP .xor .u8 a.toNat b.toNat = ((a ^^^ b).toNat : Int) := by
  have h1 := a.toNat_lt; have h2 := b.toNat_lt
  show IntKind.wrap .u8 (((BitVec.ofInt 8 (a.toNat : Int)) ^^^ (BitVec.ofInt 8 (b.toNat : Int))).toNat : Int) = _
  rw [ofInt_nat, ofInt_nat, BitVec.toNat_xor, BitVec.toNat_ofNat, BitVec.toNat_ofNat, Nat.mod_eq_of_lt h1, Nat.mod_eq_of_lt h2, ← UInt8.toNat_xor]
  exact wrap_u8_b _
theorem and_u8 (a b : UInt8) : bitsP .and .u8 a.toNat b.toNat = ((a &&& b).toNat : Int) := by
  have h1 := a.toNat_lt; have h2 := b.toNat_lt
  show IntKind.wrap .u8 (((BitVec.ofInt 8 (a.toNat : Int)) &&& (BitVec.ofInt 8 (b.toNat : Int))).toNat : Int) = _
  rw [ofInt_nat, ofInt_nat, BitVec.toNat_and, BitVec.toNat_ofNat, BitVec.toNat_ofNat, Nat.mod_eq_of_lt h1, Nat.mod_eq_of_lt h2, ← UInt8.toNat_and]
  exact wrap_u8_b _
theorem or_u8 (a b : UInt8) : bitsP .or .u8 a.toNat b.toNat = ((a ||| b).toNat : Int) := by
  have h1 := a.toNat_lt; have h2 := b.toNat_lt
  show IntKind.wrap .u8 (((BitVec.ofInt 8 (a.toNat : Int)) ||| (BitVec.ofInt 8 (b.toNat : Int))).toNat : Int) = _
  rw [ofInt_nat, ofInt_nat, BitVec.toNat_or, BitVec.toNat_ofNat, BitVec.toNat_ofNat, Nat.mod_eq_of_lt h1, Nat.mod_eq_of_lt h2, ← UInt8.toNat_or]
  exact wrap_u8_b _

end Pv

namespace Pv
open Go
set_option maxRecDepth 100000

/-! ### Bytes as a field, in plain Lean -/
/-- A byte by x. -/
def xt (a : UInt8) : UInt8 := (a <<< 1) ^^^ ((a >>> 7) * 27)
def gmR : Nat → UInt8 → UInt8 → UInt8 → UInt8
  | 0, r, _, _ => r
  | n + 1, r, a, b => gmR n (r ^^^ (a * (b &&& 1))) (xt a) (b >>> 1)
def gm (a b : UInt8) : UInt8 := gmR 8 0 a b

theorem byte_all {p : UInt8 → Prop} (h : ∀ i : Fin 256, p (UInt8.ofNat i.val)) (b : UInt8) : p b := by
  have := h ⟨b.toNat, b.toNat_lt⟩
  rwa [UInt8.ofNat_toNat] at this
theorem shr_xor (a b : UInt8) (k : UInt8) : (a ^^^ b) >>> k = (a >>> k) ^^^ (b >>> k) := UInt8.shiftRight_xor
theorem xor4 (a b c d : UInt8) : (a ^^^ b) ^^^ (c ^^^ d) = (a ^^^ c) ^^^ (b ^^^ d) := by
  rw [UInt8.xor_assoc, UInt8.xor_assoc, ← UInt8.xor_assoc b c d, UInt8.xor_comm b c, UInt8.xor_assoc c b d]
theorem gmR_b0 : ∀ (n : Nat) (r a : UInt8), gmR n r a 0 = r
  | 0, _, _ => rfl
  | n + 1, r, a => by rw [gmR, show (0 : UInt8) >>> 1 = 0 by decide, gmR_b0 n]; simp
/-! ### What a byte becomes -/
def invS : Nat → UInt8 → UInt8 → UInt8
  | 0, r, _ => r
  | n + 1, r, s => invS n (gm r (gm s s)) (gm s s)
def invB (b : UInt8) : UInt8 := invS 7 1 b
def rotB (b : UInt8) (n : UInt8) : UInt8 := (b <<< n) ||| (b >>> (8 - n))
def subB (b : UInt8) : UInt8 := invB b ^^^ rotB (invB b) 1 ^^^ rotB (invB b) 2 ^^^ rotB (invB b) 3 ^^^ rotB (invB b) 4 ^^^ 99
def boxL : List UInt8 := [0x63,0x7c,0x77,0x7b,0xf2,0x6b,0x6f,0xc5,0x30,0x01,0x67,0x2b,0xfe,0xd7,0xab,0x76,0xca,0x82,0xc9,0x7d,0xfa,0x59,0x47,0xf0,0xad,0xd4,0xa2,0xaf,0x9c,0xa4,0x72,0xc0,0xb7,0xfd,0x93,0x26,0x36,0x3f,0xf7,0xcc,0x34,0xa5,0xe5,0xf1,0x71,0xd8,0x31,0x15,0x04,0xc7,0x23,0xc3,0x18,0x96,0x05,0x9a,0x07,0x12,0x80,0xe2,0xeb,0x27,0xb2,0x75,0x09,0x83,0x2c,0x1a,0x1b,0x6e,0x5a,0xa0,0x52,0x3b,0xd6,0xb3,0x29,0xe3,0x2f,0x84,0x53,0xd1,0x00,0xed,0x20,0xfc,0xb1,0x5b,0x6a,0xcb,0xbe,0x39,0x4a,0x4c,0x58,0xcf,0xd0,0xef,0xaa,0xfb,0x43,0x4d,0x33,0x85,0x45,0xf9,0x02,0x7f,0x50,0x3c,0x9f,0xa8,0x51,0xa3,0x40,0x8f,0x92,0x9d,0x38,0xf5,0xbc,0xb6,0xda,0x21,0x10,0xff,0xf3,0xd2,0xcd,0x0c,0x13,0xec,0x5f,0x97,0x44,0x17,0xc4,0xa7,0x7e,0x3d,0x64,0x5d,0x19,0x73,0x60,0x81,0x4f,0xdc,0x22,0x2a,0x90,0x88,0x46,0xee,0xb8,0x14,0xde,0x5e,0x0b,0xdb,0xe0,0x32,0x3a,0x0a,0x49,0x06,0x24,0x5c,0xc2,0xd3,0xac,0x62,0x91,0x95,0xe4,0x79,0xe7,0xc8,0x37,0x6d,0x8d,0xd5,0x4e,0xa9,0x6c,0x56,0xf4,0xea,0x65,0x7a,0xae,0x08,0xba,0x78,0x25,0x2e,0x1c,0xa6,0xb4,0xc6,0xe8,0xdd,0x74,0x1f,0x4b,0xbd,0x8b,0x8a,0x70,0x3e,0xb5,0x66,0x48,0x03,0xf6,0x0e,0x61,0x35,0x57,0xb9,0x86,0xc1,0x1d,0x9e,0xe1,0xf8,0x98,0x11,0x69,0xd9,0x8e,0x94,0x9b,0x1e,0x87,0xe9,0xce,0x55,0x28,0xdf,0x8c,0xa1,0x89,0x0d,0xbf,0xe6,0x42,0x68,0x41,0x99,0x2d,0x0f,0xb0,0x54,0xbb,0x16]
/-- What a byte becomes, by the document's table. -/
def sbox (b : UInt8) : UInt8 := boxL.getD b.toNat 0
theorem sub_box (b : UInt8) : subB b = sbox b := byte_all (p := fun b => subB b = sbox b) (by decide +kernel) b
/-- The first i bytes, each at the place that it becomes. -/
def backI : Nat → List UInt8
  | 0 => List.replicate 256 0
  | i + 1 => (backI i).set (sbox (UInt8.ofNat i)).toNat (UInt8.ofNat i)
def backL : List UInt8 := backI 256
theorem backI_len : ∀ i, (backI i).length = 256
  | 0 => rfl
  | i + 1 => by rw [backI, List.length_set, backI_len i]
def ibox (b : UInt8) : UInt8 := backL.getD b.toNat 0
attribute [irreducible] boxL

end Pv

namespace Pv
open Go
set_option maxRecDepth 100000

/-! ### AES, in plain Lean -/
/-- Four bytes more of a key's words: w: those there are; c: the constant; i: which word. -/
def kT (nk : Nat) (t : List UInt8) (c : UInt8) (i : Nat) : List UInt8 :=
  if i % nk = 0 then [sbox (t.getD 1 0) ^^^ c, sbox (t.getD 2 0), sbox (t.getD 3 0), sbox (t.getD 0 0)]
  else if nk = 8 ∧ i % 8 = 4 then [sbox (t.getD 0 0), sbox (t.getD 1 0), sbox (t.getD 2 0), sbox (t.getD 3 0)]
  else [t.getD 0 0, t.getD 1 0, t.getD 2 0, t.getD 3 0]
def xorB (a b : List UInt8) : List UInt8 := List.zipWith (· ^^^ ·) a b
def kI (key : List UInt8) (nk : Nat) : Nat → List UInt8 × UInt8
  | 0 => (key, 1)
  | j + 1 => ((kI key nk j).1 ++ xorB (((kI key nk j).1.drop (4 * j)).take 4) (kT nk (((kI key nk j).1.drop (4 * (nk + j) - 4)).take 4) (kI key nk j).2 (nk + j)),
      if (nk + j) % nk = 0 then gm (kI key nk j).2 2 else (kI key nk j).2)
def wordsL (key : List UInt8) : List UInt8 := (kI key (key.length / 4) (3 * (key.length / 4) + 28)).1
def goodK (key : List UInt8) : Prop := key.length = 16 ∨ key.length = 32
instance (key : List UInt8) : Decidable (goodK key) := by unfold goodK; infer_instance

theorem xorB_len (a b : List UInt8) : (xorB a b).length = min a.length b.length := by simp [xorB]
theorem kT_len (nk : Nat) (t : List UInt8) (c : UInt8) (i : Nat) : (kT nk t c i).length = 4 := by unfold kT; split; rfl; split <;> rfl
theorem kI_len {key : List UInt8} {nk : Nat} (h : key.length = 4 * nk) (h0 : 0 < nk) : ∀ j, (kI key nk j).1.length = 4 * (nk + j)
  | 0 => h
  | j + 1 => by
    rw [kI, List.length_append, kI_len h h0 j, xorB_len, kT_len, List.length_take, List.length_drop, kI_len h h0 j]; omega
theorem words_len {key : List UInt8} (h : goodK key) : (wordsL key).length = 16 * (key.length / 4 + 7) := by
  rw [wordsL, kI_len (by rcases h with h | h <;> omega) (by rcases h with h | h <;> omega)]; omega

/-- The i-th round key. -/
def rkL (w : List UInt8) (i : Nat) : List UInt8 := (w.drop (16 * i)).take 16
theorem rk_len {w : List UInt8} {i : Nat} (h : 16 * (i + 1) ≤ w.length) : (rkL w i).length = 16 := by
  rw [rkL, List.length_take, List.length_drop]; omega
def shiftL (b : List UInt8) : List UInt8 := (List.range 16).map fun i => b.getD ((i + 4 * (i % 4)) % 16) 0
def backS (b : List UInt8) : List UInt8 := (List.range 16).map fun i => b.getD ((i + 12 * (i % 4)) % 16) 0
def mixAt (m : List UInt8) (b : List UInt8) (i : Nat) : UInt8 :=
  gm (b.getD (i / 4 * 4 + i % 4) 0) (m.getD 0 0) ^^^ gm (b.getD (i / 4 * 4 + (i + 1) % 4) 0) (m.getD 1 0) ^^^ gm (b.getD (i / 4 * 4 + (i + 2) % 4) 0) (m.getD 2 0) ^^^ gm (b.getD (i / 4 * 4 + (i + 3) % 4) 0) (m.getD 3 0)
def mixL (m : List UInt8) (b : List UInt8) : List UInt8 := (List.range 16).map (mixAt m b)
def mE : List UInt8 := [2, 3, 1, 1]
def mD : List UInt8 := [14, 11, 13, 9]
theorem shift_len (b : List UInt8) : (shiftL b).length = 16 := rfl
theorem mix_len (m b : List UInt8) : (mixL m b).length = 16 := rfl

theorem sixteen {b : List UInt8} (h : b.length = 16) : ∃ b0 b1 b2 b3 b4 b5 b6 b7 b8 b9 b10 b11 b12 b13 b14 b15, b = [b0, b1, b2, b3, b4, b5, b6, b7, b8, b9, b10, b11, b12, b13, b14, b15] := by
  match b, h with
  | [b0, b1, b2, b3, b4, b5, b6, b7, b8, b9, b10, b11, b12, b13, b14, b15], _ => exact ⟨_, _, _, _, _, _, _, _, _, _, _, _, _, _, _, _, rfl⟩
def mx (a b c d e f g h : UInt8) : UInt8 := gm a e ^^^ gm b f ^^^ gm c g ^^^ gm d h
def encS (w : List UInt8) (n : Nat) (b : List UInt8) : Nat → List UInt8
  | 0 => xorB b (rkL w 0)
  | i + 1 => xorB (if i + 1 < n then mixL mE (shiftL ((encS w n b i).map sbox)) else shiftL ((encS w n b i).map sbox)) (rkL w (i + 1))
def encB (w b : List UInt8) : List UInt8 := encS w (w.length / 16 - 1) b (w.length / 16 - 1)
def decS (w : List UInt8) (n : Nat) (b : List UInt8) : Nat → List UInt8
  | 0 => b
  | j + 1 => (backS (if n - j < n then mixL mD (xorB (decS w n b j) (rkL w (n - j))) else xorB (decS w n b j) (rkL w (n - j)))).map ibox
def decB (w b : List UInt8) : List UInt8 := xorB (decS w (w.length / 16 - 1) b (w.length / 16 - 1)) (rkL w 0)

section
variable {w b : List UInt8} {n : Nat}
theorem encS_len (hb : b.length = 16) (hw : 16 * (n + 1) ≤ w.length) : ∀ i, i ≤ n → (encS w n b i).length = 16
  | 0, _ => by rw [encS, xorB_len, hb, rk_len (by omega)]; rfl
  | i + 1, h => by rw [encS, xorB_len, rk_len (by omega)]; split <;> simp [mix_len, shift_len]
end
theorem encB_len {w b : List UInt8} (hb : b.length = 16) (hw : 16 ≤ w.length) : (encB w b).length = 16 := encS_len hb (by omega) _ (Nat.le_refl _)
/-! ### Bytes of a counter -/
/-- One more, from the i-th byte upwards. -/
def incI (b : List UInt8) : Nat → List UInt8
  | 0 => b.set 0 (b.getD 0 0 + 1)
  | i + 1 => if b.getD (i + 1) 0 + 1 = 0 then incI (b.set (i + 1) (b.getD (i + 1) 0 + 1)) i else b.set (i + 1) (b.getD (i + 1) 0 + 1)
def incL (b : List UInt8) : List UInt8 := incI b 15
theorem incI_len : ∀ (i : Nat) (b : List UInt8), (incI b i).length = b.length
  | 0, b => by simp [incI]
  | i + 1, b => by rw [incI]; split; rw [incI_len i]; simp; simp
def ctrL (b : List UInt8) : Nat → List UInt8
  | 0 => b
  | j + 1 => incL (ctrL b j)
theorem ctr_len {b : List UInt8} (h : b.length = 16) : ∀ j, (ctrL b j).length = 16
  | 0 => h
  | j + 1 => by rw [ctrL, incL, incI_len, ctr_len h j]
/-- j blocks. -/
def strK (w b : List UInt8) (j : Nat) : List UInt8 := (List.range j).flatMap fun i => encB w (ctrL b i)
theorem strK_0 (w b : List UInt8) : strK w b 0 = [] := rfl
theorem strK_succ (w b : List UInt8) (j : Nat) : strK w b (j + 1) = strK w b j ++ encB w (ctrL b j) := by simp [strK, List.range_succ, List.flatMap_append]
theorem strK_len {w b : List UInt8} (h : b.length = 16) (hw : 16 ≤ w.length) : ∀ j, (strK w b j).length = 16 * j
  | 0 => rfl
  | j + 1 => by rw [strK_succ, List.length_append, strK_len h hw j, encB_len (ctr_len h j) hw]; omega
def strL (w b : List UInt8) (n : Nat) : List UInt8 := (strK w b ((n + 15) / 16)).take n
theorem strL_len {w b : List UInt8} (h : b.length = 16) (hw : 16 ≤ w.length) (n : Nat) : (strL w b n).length = n := by
  rw [strL, List.length_take, strK_len h hw]; omega
theorem encB_eq (w b : List UInt8) : encB w b = encS w (w.length / 16 - 1) b (w.length / 16 - 1) := rfl
theorem strL_eq (w b : List UInt8) (n : Nat) : strL w b n = (strK w b ((n + 15) / 16)).take n := rfl
theorem words_eq (key : List UInt8) : wordsL key = (kI key (key.length / 4) (3 * (key.length / 4) + 28)).1 := rfl
attribute [irreducible] wordsL encB decB strL
end Pv

namespace Pv
open Go Go.RowKit

theorem wrap_u8n (n : Nat) : IntKind.wrap .u8 (n : Int) = ((UInt8.ofNat n).toNat : Int) := by
  simp [IntKind.wrap, IntKind.bits, IntKind.signed]
end Pv
