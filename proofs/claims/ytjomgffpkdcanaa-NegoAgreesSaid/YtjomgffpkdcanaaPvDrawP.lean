/- Part of the proof: the layer of pure values, or walks through functions (PvDrawP, PvDrawF, PvCxN). -/
import Derived.Test.YtjomgffpkdcanaaPvB2
import Derived.Test.YtjomgffpkdcanaaPvNum
import Derived.Test.YtjomgffpkdcanaaPvFxN
set_option linter.all false
namespace Pv
open Go Go.RowKit
variable {X : Ctx} {ops : Array Oper} {Q : Exit → PSt → PH → Prop}

/-- A plan with every order in it: `fx i re t rest`: i may come next (then t), or else rest. -/
inductive PT where
  | nil
  | no
  | mv (i : Nat) (t : PT)
  | fx (i : Nat) (re : List Nat) (t rest : PT)

def PT.heads : PT → List Nat
  | .fx i _ _ r => i :: r.heads
  | _ => []

def ptOk (P : Program) (ops : Array Oper) : Bool → List Nat → List Nat → PT → Bool
  | c, _, κ, .nil => !c && κ.isEmpty
  | c, _, _, .no => c
  | c, pend, κ, .mv i t => !c && (rdy P ops κ == some i) && ptOk P ops false (i :: pend) (κ.erase i) t
  | c, pend, κ, .fx i re t rest => (c || (rdy P ops κ == none && !κ.isEmpty && (alts P ops κ).all (PT.fx i re t rest).heads.contains)) &&
      (pend.filter fun j => !(anc ops i).contains j).all re.contains && ptOk P ops false (pend.filter fun j => !(anc ops i).contains j) (κ.erase i) t && ptOk P ops true pend κ rest

def vcT (X : Ctx) (ops : Array Oper) (Q : Exit → PSt → PH → Prop) : PT → PSt → PH → Prop
  | .nil, s, ph => Q .normal s ph
  | .no, _, _ => True
  | .mv i t, s, ph => match ops[i]? with
    | none => False
    | some o => match wantedP ops s o with
      | none => False
      | some b => (b = true → opVc X s ph o.op fun v ph' => ph' = ph ∧ vcT X ops Q t (s.put o.dst v) ph) ∧ (b = false → vcT X ops Q t (s.put o.dst (.tuple [])) ph)
  | .fx i re t rest, s, ph => (match ops[i]? with
    | none => False
    | some o => match wantedP ops s o with
      | none => False
      | some b => (b = true → opVc X s ph o.op fun v ph' => look X ops (s.put o.dst v) ph' re ∧ vcT X ops Q t (s.put o.dst v) ph') ∧ (b = false → vcT X ops Q t (s.put o.dst (.tuple [])) ph)) ∧ vcT X ops Q rest s ph

theorem vcT_both (T : PT) :
    (∀ (pend pend' κ : List Nat) (s : PSt) (ph : PH) (m : Nat), ptOk X.P ops false pend' κ T = true → (∀ u ∈ pend, u ∈ pend') → κ.length < m → vcT X ops Q T s ph → vcE X ops Q m pend κ s ph) ∧
    (∀ (c : Bool) (pend pend' κ : List Nat) (s : PSt) (ph : PH) (m : Nat), ptOk X.P ops c pend' κ T = true → (∀ u ∈ pend, u ∈ pend') → κ.length < m + 1 → vcT X ops Q T s ph → ∀ j ∈ T.heads, j ∈ κ → vcF X ops pend s ph j fun p' s' ph' => vcE X ops Q m p' (κ.erase j) s' ph') := by
  induction T with
  | nil =>
    refine ⟨fun pend pend' κ s ph m hk hs hm h => ?_, fun c pend pend' κ s ph m hk hs hm h j hj => by simp [PT.heads] at hj⟩
    have : κ = [] := by simpa [ptOk] using hk
    subst this
    cases m with
    | zero => cases hm
    | succ m => exact ⟨fun _ => h, fun j hj => by simp [alts] at hj⟩
  | no => exact ⟨fun pend pend' κ s ph m hk => by simp [ptOk] at hk, fun c pend pend' κ s ph m hk hs hm h j hj => by simp [PT.heads] at hj⟩
  | mv i t ih => 
    refine ⟨fun pend pend' κ s ph m hk hs hm h => ?_, fun c pend pend' κ s ph m hk hs hm h j hj => by simp [PT.heads] at hj⟩
    simp only [ptOk, Bool.not_false, Bool.true_and, Bool.and_eq_true, beq_iff_eq] at hk
    obtain ⟨hiκ, ⟨o, ho, hmv⟩, -⟩ := rdy_some hk.1
    cases m with
    | zero => cases hm
    | succ m =>
    have hl : (κ.erase i).length < m := by rw [List.length_erase_of_mem hiκ]; have := List.length_pos_of_mem hiκ; omega
    unfold vcE
    rw [hk.1]
    simp only [ho]
    simp only [vcT, ho] at h
    cases hw : wantedP ops s o with
    | none => rw [hw] at h; exact h
    | some b =>
      rw [hw] at h
      simp only at h ⊢
      refine ⟨fun hb => ?_, fun hb => ih.1 _ _ _ _ _ _ hk.2 (fun u hu => List.mem_cons_of_mem _ (hs u hu)) hl (h.2 hb)⟩
      obtain ⟨⟨v, ph'⟩, h1, h2, h3⟩ := opVc_pop hmv (h.1 hb)
      subst h2
      exact ⟨v, h1, ih.1 _ _ _ _ _ _ hk.2 (fun u hu => by rcases List.mem_cons.1 hu with rfl | hu; simp; exact List.mem_cons_of_mem _ (hs u hu)) hl h3⟩
  | fx i re t rest iht ihr =>
    have key : ∀ (c : Bool) (pend pend' κ : List Nat) (s : PSt) (ph : PH) (m : Nat), ptOk X.P ops c pend' κ (.fx i re t rest) = true → (∀ u ∈ pend, u ∈ pend') → κ.length < m + 1 → vcT X ops Q (.fx i re t rest) s ph → ∀ j ∈ (PT.fx i re t rest).heads, j ∈ κ → vcF X ops pend s ph j fun p' s' ph' => vcE X ops Q m p' (κ.erase j) s' ph' := by
      intro c pend pend' κ s ph m hk hs hm h j hj hjκ
      simp only [ptOk, Bool.and_eq_true] at hk
      obtain ⟨⟨⟨-, hre⟩, hkt⟩, hkr⟩ := hk
      rcases List.mem_cons.1 hj with rfl | hj
      · have h := h.1
        have hl : (κ.erase j).length < m := by rw [List.length_erase_of_mem hjκ]; have := List.length_pos_of_mem hjκ; omega
        have hf : ∀ u ∈ pend.filter (fun k => !(anc ops j).contains k), u ∈ pend'.filter (fun k => !(anc ops j).contains k) := by
          intro u hu
          rw [List.mem_filter] at hu ⊢
          exact ⟨hs u hu.1, hu.2⟩
        unfold vcF
        cases ho : ops[j]? with
        | none => rw [ho] at h; exact h
        | some o =>
          rw [ho] at h
          simp only at h ⊢
          cases hw : wantedP ops s o with
          | none => rw [hw] at h; exact h
          | some b =>
            rw [hw] at h
            simp only at h ⊢
            refine ⟨fun hb => opVc_mono' (fun v ph' hk => ⟨recheck_of_look hk.1 fun u hu => ?_, iht.1 _ _ _ _ _ _ hkt hf hl hk.2⟩) (h.1 hb), fun hb => iht.1 _ _ _ _ _ _ hkt hf hl (h.2 hb)⟩
            simpa using List.all_eq_true.1 hre u (hf u hu)
      · exact ihr.2 _ _ _ _ _ _ _ hkr hs hm h.2 j hj hjκ
    refine ⟨fun pend pend' κ s ph m hk hs hm h => ?_, key⟩
    have hk0 := hk
    simp only [ptOk, Bool.false_or, Bool.and_eq_true, beq_iff_eq] at hk
    obtain ⟨⟨⟨⟨⟨hr, hne⟩, hal⟩, -⟩, -⟩, -⟩ := hk
    cases m with
    | zero => cases hm
    | succ m =>
      unfold vcE
      rw [hr]
      refine ⟨fun e => by subst e; simp at hne, fun j hj => key _ _ _ _ _ _ _ hk0 hs hm h j (by simpa using List.all_eq_true.1 hal j hj) (List.mem_filter.1 hj).1⟩

theorem w_drawnT {ρ : Option Nat} {n0 id : Nat} {s : PSt} {ph : PH} (T : PT) (κ : List Nat) (N : Nat) (hm : X.P.follows .mixedOrders = true) (hok : (drawOkT X.P ops N κ && ptOk X.P ops false [] κ T) = true) (hN : N ≤ s.tm.length) (h : vcT X ops Q T s ph) : vc X ρ n0 (.region id ops true) Q s ph := by
  simp only [Bool.and_eq_true] at hok
  rw [w_draw]
  exact pwp_drawT0 (m := κ.length + 1) hm hok.1 hN ((vcT_both T).1 _ _ _ _ _ _ hok.2 (fun _ h => h) (by omega) h)

/-! The walk's equations -/
variable {s : PSt} {ph : PH} {o : Oper} {t rest : PT} {i : Nat} {mv : Bool} {re : List Nat}
def vtK (X : Ctx) (ops : Array Oper) (Q : Exit → PSt → PH → Prop) (mv : Bool) (re : List Nat) (t : PT) (s : PSt) (ph : PH) (dst : Option Tmp) : PV → PH → Prop := fun v ph' => match mv with
  | true => ph' = ph ∧ vcT X ops Q t (s.put dst v) ph
  | false => look X ops (s.put dst v) ph' re ∧ vcT X ops Q t (s.put dst v) ph'
def vtW (X : Ctx) (ops : Array Oper) (Q : Exit → PSt → PH → Prop) (mv : Bool) (re : List Nat) (t : PT) (s : PSt) (ph : PH) (o : Oper) : Option Bool → Prop
  | none => False
  | some b => (b = true → opVc X s ph o.op (vtK X ops Q mv re t s ph o.dst)) ∧ (b = false → vcT X ops Q t (s.put o.dst (.tuple [])) ph)
def vtO (X : Ctx) (ops : Array Oper) (Q : Exit → PSt → PH → Prop) (mv : Bool) (re : List Nat) (t : PT) (s : PSt) (ph : PH) : Option Oper → Prop
  | none => False
  | some o => vtW X ops Q mv re t s ph o (wantedP ops s o)
theorem t_nil : vcT X ops Q .nil s ph = Q .normal s ph := rfl
theorem t_no : vcT X ops Q .no s ph = True := rfl
theorem t_mv : vcT X ops Q (.mv i t) s ph = vtO X ops Q true [] t s ph ops[i]? := by
  conv => lhs; unfold vcT
  cases ops[i]? with
  | none => rfl
  | some o => simp only [vtO]; cases wantedP ops s o <;> rfl
theorem t_fx : vcT X ops Q (.fx i re t rest) s ph = (vtO X ops Q false re t s ph ops[i]? ∧ vcT X ops Q rest s ph) := by
  conv => lhs; unfold vcT
  cases ops[i]? with
  | none => rfl
  | some o => simp only [vtO]; cases wantedP ops s o <;> rfl
theorem t_op : vtO X ops Q mv re t s ph (some o) = vtW X ops Q mv re t s ph o (wantedP ops s o) := rfl
theorem t_true : vtW X ops Q mv re t s ph o (some true) = opVc X s ph o.op (vtK X ops Q mv re t s ph o.dst) := by simp [vtW]
theorem t_mvk {dst : Option Tmp} {v : PV} : vtK X ops Q true re t s ph dst v ph = vcT X ops Q t (s.put dst v) ph := by simp [vtK]
theorem t_se {dst : Option Tmp} {v : PV} {ph' : PH} : vtK X ops Q false re t s ph dst v ph' = (look X ops (s.put dst v) ph' re ∧ vcT X ops Q t (s.put dst v) ph') := rfl
end Pv

namespace Pv
open Go Go.RowKit
variable {X : Ctx} {ops : Array Oper} {Q : Exit → PSt → PH → Prop} {P : Program}

/-! ### The checks of a region's order, by a table of what stands ahead (clo itself goes every way) -/
abbrev Tab := List (List Nat)
def Tab.at (T : Tab) (i : Nat) : List Nat := T.getD i []
def tabAll (ops : Array Oper) (T : Tab) : Nat → List Oper → Bool
  | _, [] => true
  | i, o :: os => (edgesOf o).all (fun j => decide (j < i) && (T.at i).contains j && (T.at j).all (T.at i).contains) &&
      (T.at i).all (fun k => (edgesOf o).any fun j => k == j || (T.at j).contains k) && tabAll ops T (i + 1) os
def tabOk (ops : Array Oper) (T : Tab) : Bool := tabAll ops T 0 ops.toList

theorem tabAll_get {T : Tab} : ∀ {os : List Oper} {n : Nat}, tabAll ops T n os = true → ∀ {i : Nat} {o : Oper}, os[i]? = some o →
    (∀ j ∈ edgesOf o, j < n + i ∧ j ∈ T.at (n + i) ∧ ∀ k ∈ T.at j, k ∈ T.at (n + i)) ∧ ∀ k ∈ T.at (n + i), ∃ j ∈ edgesOf o, k = j ∨ k ∈ T.at j
  | [], _, _, i, o, h => by simp at h
  | a :: os, n, h, 0, o, ho => by
    simp at ho; subst ho
    simp only [tabAll, Bool.and_eq_true, List.all_eq_true, List.any_eq_true, decide_eq_true_eq, List.contains_iff_mem, beq_iff_eq, Bool.or_eq_true] at h
    exact ⟨fun j hj => ⟨(h.1.1 j hj).1.1, (h.1.1 j hj).1.2, (h.1.1 j hj).2⟩, h.1.2⟩
  | a :: os, n, h, i + 1, o, ho => by
    simp only [List.getElem?_cons_succ] at ho
    simp only [tabAll, Bool.and_eq_true] at h
    have := tabAll_get h.2 ho
    rwa [show n + 1 + i = n + (i + 1) by omega] at this

theorem tab_clo {T : Tab} (h : tabOk ops T = true) : ∀ (n i : Nat) (o : Oper), ops[i]? = some o → i < n → ∀ k, k ∈ clo ops n i ↔ k ∈ T.at i := by
  intro n
  induction n with
  | zero => intro i o _ hi; omega
  | succ n ih =>
    intro i o ho hi k
    have hg := tabAll_get h (i := i) (o := o) (by rw [Array.getElem?_toList]; exact ho)
    rw [Nat.zero_add] at hg
    rw [clo, ho]
    simp only [List.mem_flatMap, List.mem_cons]
    have hlt : i < ops.size := (Array.getElem?_eq_some_iff.1 ho).1
    constructor
    · rintro ⟨j, hj, hk⟩
      obtain ⟨h1, h2, h3⟩ := hg.1 j hj
      rcases hk with rfl | hk
      · exact h2
      · have hj2 : j < ops.size := by omega
        exact h3 k ((ih j ops[j] (Array.getElem?_eq_getElem hj2) (by omega) k).1 hk)
    · intro hk
      obtain ⟨j, hj, hk⟩ := hg.2 k hk
      obtain ⟨h1, h2, h3⟩ := hg.1 j hj
      have hj2 : j < ops.size := by omega
      refine ⟨j, hj, ?_⟩
      rcases hk with rfl | hk
      · exact .inl rfl
      · exact .inr ((ih j ops[j] (Array.getElem?_eq_getElem hj2) (by omega) k).2 hk)

theorem tab_anc {T : Tab} (h : tabOk ops T = true) {i j : Nat} (hi : i < ops.size) : (anc ops i).contains j = (T.at i).contains j := by
  rw [Bool.eq_iff_iff, List.contains_iff_mem, List.contains_iff_mem]
  exact tab_clo h ops.size i ops[i] (Array.getElem?_eq_getElem hi) hi j

/-- Is it so that.., for places in the region alone. -/
def inT (ops : Array Oper) (T : Tab) (i j : Nat) : Bool := (T.at i).contains j
theorem inT_anc {T : Tab} (h : tabOk ops T = true) {i j : Nat} {o : Oper} (ho : ops[i]? = some o) : (anc ops i).contains j = inT ops T i j := tab_anc h (Array.getElem?_eq_some_iff.1 ho).1

def atF (P : Program) (ops : Array Oper) (T : Tab) (N : Nat) (all pre post : List Nat) (i : Nat) : Bool :=
  match ops[i]? with
  | none => false
  | some o =>
    (edgesOf o).all (fun j => decide (j < i)) &&
    pre.all (fun j => match ops[j]? with
      | none => false
      | some p => movable P p.op || inT ops T i j) &&
    post.all (fun j => j != i && !inT ops T i j) &&
    (match o.dst with
      | none => !movable P o.op
      | some d => decide (d < N) && (!movable P o.op || !(readsOf ops o).contains d) &&
        all.all (fun j => j == i || match ops[j]? with
          | none => false
          | some p => !(namesOf ops p).contains d || inT ops T j i || (!movable P o.op && inT ops T i j)))
theorem atF_eq {T : Tab} (h : tabOk ops T = true) {N : Nat} {all pre post : List Nat} {i : Nat} : atF P ops T N all pre post i = atOk P ops N all pre post i := by
  unfold atF atOk
  cases ho : ops[i]? with
  | none => rfl
  | some o =>
    dsimp only
    have e : ∀ j, (anc ops i).contains j = inT ops T i j := fun j => inT_anc h ho
    simp only [e]
    congr 1
    cases o.dst with
    | none => rfl
    | some d =>
      dsimp only
      congr 2
      funext j
      cases hp : ops[j]? with
      | none => rfl
      | some p => dsimp only; rw [inT_anc h hp]
def chainF (P : Program) (ops : Array Oper) (T : Tab) (N : Nat) (all : List Nat) : List Nat → List Nat → Bool
  | _, [] => true
  | pre, i :: κ => atF P ops T N all pre κ i && chainF P ops T N all (pre ++ [i]) κ
theorem chainF_eq {T : Tab} (h : tabOk ops T = true) {N : Nat} {all : List Nat} : ∀ {κ pre : List Nat}, chainF P ops T N all pre κ = chainOk P ops N all pre κ
  | [], _ => rfl
  | i :: κ, pre => by rw [chainF, chainOk, atF_eq h, chainF_eq h]
def planF (P : Program) (ops : Array Oper) (T : Tab) : List Nat → Plan → Bool
  | _, [] => true
  | pend, (i, mv, re) :: κ => match ops[i]? with
    | none => false
    | some o => (mv == movable P o.op) && (match mv with
      | true => planF P ops T (i :: pend) κ
      | false => (pend.filter fun j => !inT ops T i j).all re.contains && planF P ops T (pend.filter fun j => !inT ops T i j) κ)
theorem planF_eq {T : Tab} (h : tabOk ops T = true) : ∀ {κ : Plan} {pend : List Nat}, planF P ops T pend κ = planOk P ops pend κ
  | [], _ => rfl
  | (i, mv, re) :: κ, pend => by
    unfold planF planOk
    cases ho : ops[i]? with
    | none => rfl
    | some o =>
      dsimp only
      have e : ∀ j, (anc ops i).contains j = inT ops T i j := fun j => inT_anc h ho
      cases mv <;> simp only [e, planF_eq h]
def drawF (P : Program) (ops : Array Oper) (T : Tab) (N : Nat) (κ : Plan) : Bool :=
  tabOk ops T && (κ.length == ops.size && (List.range ops.size).all (fun i => (κ.map (·.1)).contains i) && (κ.map (·.1)).all (fun i => decide (i < ops.size)) && chainF P ops T N (κ.map (·.1)) [] (κ.map (·.1))) && planF P ops T [] κ
theorem w_drawnF {ρ : Option Nat} {n0 id : Nat} {s : PSt} {ph : PH} (T : Tab) (κ : Plan) (N : Nat) (hm : X.P.follows .mixedOrders = true) (hok : drawF X.P ops T N κ = true) (hN : N ≤ s.tm.length) (h : vcP X ops Q κ s ph) : vc X ρ n0 (.region id ops true) Q s ph := by
  simp only [drawF, Bool.and_eq_true] at hok
  refine w_drawn κ N hm ?_ hN h
  rw [Bool.and_eq_true]
  refine ⟨?_, by rw [← planF_eq hok.1.1]; exact hok.2⟩
  unfold drawOk
  rw [← chainF_eq hok.1.1]
  simp only [Bool.and_eq_true, List.length_map]
  exact ⟨⟨⟨hok.1.2.1.1.1, hok.1.2.1.1.2⟩, hok.1.2.1.2⟩, hok.1.2.2⟩

/-! Trees -/
def atTF (P : Program) (ops : Array Oper) (T : Tab) (N : Nat) (all post : List Nat) (i : Nat) : Bool :=
  match ops[i]? with
  | none => false
  | some o =>
    (edgesOf o).all (fun j => decide (j < i)) &&
    post.all (fun j => j != i && !inT ops T i j) &&
    (match o.dst with
      | none => !movable P o.op
      | some d => decide (d < N) && (!movable P o.op || !(readsOf ops o).contains d) &&
        all.all (fun j => j == i || match ops[j]? with
          | none => false
          | some p => !(namesOf ops p).contains d || inT ops T j i || (!movable P o.op && inT ops T i j)))
theorem atTF_eq {T : Tab} (h : tabOk ops T = true) {N : Nat} {all post : List Nat} {i : Nat} : atTF P ops T N all post i = atT P ops N all post i := by
  unfold atTF atT
  cases ho : ops[i]? with
  | none => rfl
  | some o =>
    dsimp only
    have e : ∀ j, (anc ops i).contains j = inT ops T i j := fun j => inT_anc h ho
    simp only [e]
    congr 1
    cases o.dst with
    | none => rfl
    | some d =>
      dsimp only
      congr 2
      funext j
      cases hp : ops[j]? with
      | none => rfl
      | some p => dsimp only; rw [inT_anc h hp]
def chainTF (P : Program) (ops : Array Oper) (T : Tab) (N : Nat) (all : List Nat) : List Nat → Bool
  | [] => true
  | i :: κ => atTF P ops T N all κ i && chainTF P ops T N all κ
theorem chainTF_eq {T : Tab} (h : tabOk ops T = true) {N : Nat} {all : List Nat} : ∀ {κ : List Nat}, chainTF P ops T N all κ = chainT P ops N all κ
  | [] => rfl
  | i :: κ => by rw [chainTF, chainT, atTF_eq h, chainTF_eq h]
def altsF (P : Program) (ops : Array Oper) (T : Tab) (κ : List Nat) : List Nat :=
  κ.filter fun i => (match ops[i]? with | some o => !movable P o.op | none => false) && κ.all fun j => !inT ops T i j
def rdyF (P : Program) (ops : Array Oper) (T : Tab) (κ : List Nat) : Option Nat :=
  κ.find? fun i => (match ops[i]? with | some o => movable P o.op | none => false) && κ.all fun j => !inT ops T i j
theorem altsF_eq {T : Tab} (h : tabOk ops T = true) {κ : List Nat} : altsF P ops T κ = alts P ops κ := by
  unfold altsF alts
  congr 1; funext i
  cases ho : ops[i]? with
  | none => rfl
  | some o => simp only [fun j => inT_anc (j := j) h ho]
theorem rdyF_eq {T : Tab} (h : tabOk ops T = true) {κ : List Nat} : rdyF P ops T κ = rdy P ops κ := by
  unfold rdyF rdy
  congr 1; funext i
  cases ho : ops[i]? with
  | none => rfl
  | some o => simp only [fun j => inT_anc (j := j) h ho]
def ptF (P : Program) (ops : Array Oper) (T : Tab) : Bool → List Nat → List Nat → PT → Bool
  | c, _, κ, .nil => !c && κ.isEmpty
  | c, _, _, .no => c
  | c, pend, κ, .mv i t => !c && (rdyF P ops T κ == some i) && ptF P ops T false (i :: pend) (κ.erase i) t
  | c, pend, κ, .fx i re t rest => (c || (rdyF P ops T κ == none && !κ.isEmpty && (altsF P ops T κ).all (PT.fx i re t rest).heads.contains)) && (ops[i]?).isSome &&
      (pend.filter fun j => !inT ops T i j).all re.contains && ptF P ops T false (pend.filter fun j => !inT ops T i j) (κ.erase i) t && ptF P ops T true pend κ rest
theorem ptF_ok {T : Tab} (h : tabOk ops T = true) : ∀ {t : PT} {c : Bool} {pend κ : List Nat}, ptF P ops T c pend κ t = true → ptOk P ops c pend κ t = true
  | .nil, _, _, _, e => e
  | .no, _, _, _, e => e
  | .mv i t, c, pend, κ, e => by
    unfold ptF at e; unfold ptOk
    simp only [Bool.and_eq_true] at e ⊢
    rw [rdyF_eq h] at e
    exact ⟨e.1, ptF_ok h e.2⟩
  | .fx i re t rest, c, pend, κ, e => by
    unfold ptF at e; unfold ptOk
    rw [rdyF_eq h, altsF_eq h] at e
    simp only [Bool.and_eq_true] at e ⊢
    obtain ⟨⟨⟨⟨e1, e2⟩, e3⟩, e4⟩, e5⟩ := e
    obtain ⟨o, ho⟩ := Option.isSome_iff_exists.1 e2
    simp only [fun j => (inT_anc (j := j) h ho)]
    exact ⟨⟨⟨e1, e3⟩, ptF_ok h e4⟩, ptF_ok h e5⟩
def drawTF (P : Program) (ops : Array Oper) (A : Tab) (N : Nat) (κ : List Nat) (T : PT) : Bool :=
  tabOk ops A && (κ.length == ops.size && (List.range ops.size).all (fun i => κ.contains i) && κ.all (fun i => decide (i < ops.size)) && chainTF P ops A N κ κ) && ptF P ops A false [] κ T
theorem w_drawnTF {ρ : Option Nat} {n0 id : Nat} {s : PSt} {ph : PH} (A : Tab) (T : PT) (κ : List Nat) (N : Nat) (hm : X.P.follows .mixedOrders = true) (hok : drawTF X.P ops A N κ T = true) (hN : N ≤ s.tm.length) (h : vcT X ops Q T s ph) : vc X ρ n0 (.region id ops true) Q s ph := by
  simp only [drawTF, Bool.and_eq_true] at hok
  refine w_drawnT T κ N hm ?_ hN h
  rw [Bool.and_eq_true]
  refine ⟨?_, ptF_ok hok.1.1 hok.2⟩
  unfold drawOkT
  rw [← chainTF_eq hok.1.1]
  simp only [Bool.and_eq_true]
  exact ⟨⟨⟨hok.1.2.1.1.1, hok.1.2.1.1.2⟩, hok.1.2.1.2⟩, hok.1.2.2⟩
end Pv

namespace Pv
open Go Go.Proofs
noncomputable abbrev Cx (w0 : World) : Ctx := ⟨Try.prog, w0⟩
theorem tf3 : type_of% (And.intro (And.intro (And.intro (@Try.underlying3) (@Try.sz3)) (And.intro (@Try.by3) (@Try.kk3))) (And.intro (And.intro (@Try.ag3) (@Try.ap3)) (And.intro (@Try.iu3) (@Try.se3)))) := And.intro (And.intro (And.intro (@Try.underlying3) (@Try.sz3)) (And.intro (@Try.by3) (@Try.kk3))) (And.intro (And.intro (@Try.ag3) (@Try.ap3)) (And.intro (@Try.iu3) (@Try.se3)))
theorem tf4 : type_of% (And.intro (And.intro (And.intro (@Try.underlying4) (@Try.sz4)) (And.intro (@Try.by4) (@Try.kk4))) (And.intro (And.intro (@Try.ag4) (@Try.ap4)) (And.intro (@Try.iu4) (@Try.se4)))) := And.intro (And.intro (And.intro (@Try.underlying4) (@Try.sz4)) (And.intro (@Try.by4) (@Try.kk4))) (And.intro (And.intro (@Try.ag4) (@Try.ap4)) (And.intro (@Try.iu4) (@Try.se4)))
theorem tf5 : type_of% (And.intro (And.intro (And.intro (@Try.underlying5) (@Try.sz5)) (And.intro (@Try.by5) (@Try.kk5))) (And.intro (And.intro (@Try.ag5) (@Try.ap5)) (And.intro (@Try.iu5) (@Try.se5)))) := And.intro (And.intro (And.intro (@Try.underlying5) (@Try.sz5)) (And.intro (@Try.by5) (@Try.kk5))) (And.intro (And.intro (@Try.ag5) (@Try.ap5)) (And.intro (@Try.iu5) (@Try.se5)))
theorem tf9 : type_of% (And.intro (And.intro (And.intro (@Try.underlying9) (@Try.sz9)) (And.intro (@Try.by9) (@Try.kk9))) (And.intro (And.intro (@Try.ag9) (@Try.ap9)) (And.intro (@Try.iu9) (@Try.se9)))) := And.intro (And.intro (And.intro (@Try.underlying9) (@Try.sz9)) (And.intro (@Try.by9) (@Try.kk9))) (And.intro (And.intro (@Try.ag9) (@Try.ap9)) (And.intro (@Try.iu9) (@Try.se9)))
theorem tf23 : type_of% (And.intro (And.intro (And.intro (@Try.underlying23) (@Try.sz23)) (And.intro (@Try.by23) (@Try.kk23))) (And.intro (And.intro (@Try.sl23) (@Try.ag23)) (And.intro (@Try.ap23) (And.intro (@Try.iu23) (@Try.se23))))) := And.intro (And.intro (And.intro (@Try.underlying23) (@Try.sz23)) (And.intro (@Try.by23) (@Try.kk23))) (And.intro (And.intro (@Try.sl23) (@Try.ag23)) (And.intro (@Try.ap23) (And.intro (@Try.iu23) (@Try.se23))))
theorem tf24 : type_of% (And.intro (And.intro (And.intro (@Try.underlying24) (@Try.sz24)) (And.intro (@Try.by24) (@Try.kk24))) (And.intro (And.intro (@Try.ag24) (@Try.ap24)) (And.intro (@Try.iu24) (@Try.se24)))) := And.intro (And.intro (And.intro (@Try.underlying24) (@Try.sz24)) (And.intro (@Try.by24) (@Try.kk24))) (And.intro (And.intro (@Try.ag24) (@Try.ap24)) (And.intro (@Try.iu24) (@Try.se24)))
theorem tf30 : type_of% (And.intro (And.intro (And.intro (@Try.underlying30) (And.intro (@Try.sz30) (@Try.by30))) (And.intro (And.intro (@Try.kk30) (@Try.ag30)) (And.intro (@Try.ap30) (@Try.iu30)))) (And.intro (And.intro (And.intro (@Try.se30) (@Try.fl30_0)) (And.intro (@Try.fl30_1) (@Try.fl30_2))) (And.intro (And.intro (@Try.fl30_3) (@Try.pl30)) (And.intro (@Try.ft30) (@Try.eg30))))) := And.intro (And.intro (And.intro (@Try.underlying30) (And.intro (@Try.sz30) (@Try.by30))) (And.intro (And.intro (@Try.kk30) (@Try.ag30)) (And.intro (@Try.ap30) (@Try.iu30)))) (And.intro (And.intro (And.intro (@Try.se30) (@Try.fl30_0)) (And.intro (@Try.fl30_1) (@Try.fl30_2))) (And.intro (And.intro (@Try.fl30_3) (@Try.pl30)) (And.intro (@Try.ft30) (@Try.eg30))))
theorem tf33 : type_of% (And.intro (And.intro (And.intro (@Try.underlying33) (@Try.sz33)) (And.intro (@Try.by33) (@Try.kk33))) (And.intro (And.intro (@Try.ag33) (@Try.ap33)) (And.intro (@Try.iu33) (@Try.se33)))) := And.intro (And.intro (And.intro (@Try.underlying33) (@Try.sz33)) (And.intro (@Try.by33) (@Try.kk33))) (And.intro (And.intro (@Try.ag33) (@Try.ap33)) (And.intro (@Try.iu33) (@Try.se33)))
theorem tf35 : type_of% (And.intro (And.intro (And.intro (And.intro (@Try.underlying35) (And.intro (@Try.sz35) (@Try.by35))) (And.intro (And.intro (@Try.kk35) (@Try.ag35)) (And.intro (@Try.ap35) (@Try.iu35)))) (And.intro (And.intro (@Try.se35) (And.intro (@Try.fl35_0) (@Try.fl35_1))) (And.intro (And.intro (@Try.fl35_2) (@Try.fl35_3)) (And.intro (@Try.fl35_4) (@Try.fl35_5))))) (And.intro (And.intro (And.intro (@Try.fl35_6) (And.intro (@Try.fl35_7) (@Try.fl35_8))) (And.intro (And.intro (@Try.fl35_9) (@Try.fl35_10)) (And.intro (@Try.fl35_11) (@Try.fl35_12)))) (And.intro (And.intro (And.intro (@Try.fl35_13) (@Try.fl35_14)) (And.intro (@Try.fl35_15) (@Try.fl35_16))) (And.intro (And.intro (@Try.fl35_17) (@Try.fl35_18)) (And.intro (@Try.fl35_19) (@Try.pl35)))))) := And.intro (And.intro (And.intro (And.intro (@Try.underlying35) (And.intro (@Try.sz35) (@Try.by35))) (And.intro (And.intro (@Try.kk35) (@Try.ag35)) (And.intro (@Try.ap35) (@Try.iu35)))) (And.intro (And.intro (@Try.se35) (And.intro (@Try.fl35_0) (@Try.fl35_1))) (And.intro (And.intro (@Try.fl35_2) (@Try.fl35_3)) (And.intro (@Try.fl35_4) (@Try.fl35_5))))) (And.intro (And.intro (And.intro (@Try.fl35_6) (And.intro (@Try.fl35_7) (@Try.fl35_8))) (And.intro (And.intro (@Try.fl35_9) (@Try.fl35_10)) (And.intro (@Try.fl35_11) (@Try.fl35_12)))) (And.intro (And.intro (And.intro (@Try.fl35_13) (@Try.fl35_14)) (And.intro (@Try.fl35_15) (@Try.fl35_16))) (And.intro (And.intro (@Try.fl35_17) (@Try.fl35_18)) (And.intro (@Try.fl35_19) (@Try.pl35)))))
theorem tf43 : type_of% (And.intro (And.intro (And.intro (@Try.underlying43) (@Try.sz43)) (And.intro (@Try.by43) (@Try.kk43))) (And.intro (And.intro (@Try.sl43) (@Try.ag43)) (And.intro (@Try.ap43) (And.intro (@Try.iu43) (@Try.se43))))) := And.intro (And.intro (And.intro (@Try.underlying43) (@Try.sz43)) (And.intro (@Try.by43) (@Try.kk43))) (And.intro (And.intro (@Try.sl43) (@Try.ag43)) (And.intro (@Try.ap43) (And.intro (@Try.iu43) (@Try.se43))))
theorem tf45 : type_of% (And.intro (And.intro (And.intro (@Try.underlying45) (And.intro (@Try.sz45) (@Try.by45))) (And.intro (@Try.kk45) (And.intro (@Try.ag45) (@Try.ap45)))) (And.intro (And.intro (@Try.iu45) (And.intro (@Try.se45) (@Try.fl45_0))) (And.intro (And.intro (@Try.fl45_1) (@Try.fl45_2)) (And.intro (@Try.fl45_3) (@Try.pl45))))) := And.intro (And.intro (And.intro (@Try.underlying45) (And.intro (@Try.sz45) (@Try.by45))) (And.intro (@Try.kk45) (And.intro (@Try.ag45) (@Try.ap45)))) (And.intro (And.intro (@Try.iu45) (And.intro (@Try.se45) (@Try.fl45_0))) (And.intro (And.intro (@Try.fl45_1) (@Try.fl45_2)) (And.intro (@Try.fl45_3) (@Try.pl45))))
theorem tf47 : type_of% (And.intro (And.intro (And.intro (@Try.underlying47) (@Try.sz47)) (And.intro (@Try.by47) (@Try.kk47))) (And.intro (And.intro (@Try.sl47) (@Try.ag47)) (And.intro (@Try.ap47) (And.intro (@Try.iu47) (@Try.se47))))) := And.intro (And.intro (And.intro (@Try.underlying47) (@Try.sz47)) (And.intro (@Try.by47) (@Try.kk47))) (And.intro (And.intro (@Try.sl47) (@Try.ag47)) (And.intro (@Try.ap47) (And.intro (@Try.iu47) (@Try.se47))))
theorem tf53 : type_of% (And.intro (And.intro (And.intro (@Try.underlying53) (And.intro (@Try.sz53) (@Try.by53))) (And.intro (@Try.kk53) (And.intro (@Try.ag53) (@Try.ap53)))) (And.intro (And.intro (@Try.iu53) (And.intro (@Try.se53) (@Try.fl53_0))) (And.intro (And.intro (@Try.fl53_1) (@Try.fl53_2)) (And.intro (@Try.fl53_3) (@Try.pl53))))) := And.intro (And.intro (And.intro (@Try.underlying53) (And.intro (@Try.sz53) (@Try.by53))) (And.intro (@Try.kk53) (And.intro (@Try.ag53) (@Try.ap53)))) (And.intro (And.intro (@Try.iu53) (And.intro (@Try.se53) (@Try.fl53_0))) (And.intro (And.intro (@Try.fl53_1) (@Try.fl53_2)) (And.intro (@Try.fl53_3) (@Try.pl53))))
theorem tf61 : type_of% (And.intro (And.intro (And.intro (@Try.underlying61) (And.intro (@Try.sz61) (@Try.by61))) (And.intro (@Try.kk61) (And.intro (@Try.ar61) (@Try.pl61)))) (And.intro (And.intro (@Try.ag61) (And.intro (@Try.ap61) (@Try.iu61))) (And.intro (@Try.se61) (And.intro (@Try.ft61) (@Try.eg61))))) := And.intro (And.intro (And.intro (@Try.underlying61) (And.intro (@Try.sz61) (@Try.by61))) (And.intro (@Try.kk61) (And.intro (@Try.ar61) (@Try.pl61)))) (And.intro (And.intro (@Try.ag61) (And.intro (@Try.ap61) (@Try.iu61))) (And.intro (@Try.se61) (And.intro (@Try.ft61) (@Try.eg61))))
theorem tf65 : type_of% (And.intro (And.intro (And.intro (@Try.underlying65) (@Try.sz65)) (And.intro (@Try.by65) (@Try.kk65))) (And.intro (And.intro (@Try.sl65) (@Try.ag65)) (And.intro (@Try.ap65) (And.intro (@Try.iu65) (@Try.se65))))) := And.intro (And.intro (And.intro (@Try.underlying65) (@Try.sz65)) (And.intro (@Try.by65) (@Try.kk65))) (And.intro (And.intro (@Try.sl65) (@Try.ag65)) (And.intro (@Try.ap65) (And.intro (@Try.iu65) (@Try.se65))))
theorem tf69 : type_of% (And.intro (And.intro (And.intro (@Try.underlying69) (And.intro (@Try.sz69) (@Try.by69))) (And.intro (And.intro (@Try.kk69) (@Try.ag69)) (And.intro (@Try.ap69) (@Try.iu69)))) (And.intro (And.intro (@Try.se69) (And.intro (@Try.fl69_0) (@Try.fl69_1))) (And.intro (And.intro (@Try.fl69_2) (@Try.pl69)) (And.intro (@Try.ft69) (@Try.eg69))))) := And.intro (And.intro (And.intro (@Try.underlying69) (And.intro (@Try.sz69) (@Try.by69))) (And.intro (And.intro (@Try.kk69) (@Try.ag69)) (And.intro (@Try.ap69) (@Try.iu69)))) (And.intro (And.intro (@Try.se69) (And.intro (@Try.fl69_0) (@Try.fl69_1))) (And.intro (And.intro (@Try.fl69_2) (@Try.pl69)) (And.intro (@Try.ft69) (@Try.eg69))))
theorem tf72 : type_of% (And.intro (And.intro (And.intro (@Try.underlying72) (@Try.sz72)) (And.intro (@Try.by72) (@Try.kk72))) (And.intro (And.intro (@Try.ag72) (@Try.ap72)) (And.intro (@Try.iu72) (@Try.se72)))) := And.intro (And.intro (And.intro (@Try.underlying72) (@Try.sz72)) (And.intro (@Try.by72) (@Try.kk72))) (And.intro (And.intro (@Try.ag72) (@Try.ap72)) (And.intro (@Try.iu72) (@Try.se72)))
theorem tf82 : type_of% (And.intro (And.intro (And.intro (@Try.underlying82) (@Try.sz82)) (And.intro (@Try.by82) (@Try.kk82))) (And.intro (And.intro (@Try.ag82) (@Try.ap82)) (And.intro (@Try.iu82) (@Try.se82)))) := And.intro (And.intro (And.intro (@Try.underlying82) (@Try.sz82)) (And.intro (@Try.by82) (@Try.kk82))) (And.intro (And.intro (@Try.ag82) (@Try.ap82)) (And.intro (@Try.iu82) (@Try.se82)))
theorem tf84 : type_of% (And.intro (And.intro (And.intro (@Try.underlying84) (@Try.sz84)) (And.intro (@Try.by84) (And.intro (@Try.kk84) (@Try.ag84)))) (And.intro (And.intro (@Try.ap84) (@Try.iu84)) (And.intro (@Try.se84) (And.intro (@Try.fl84_0) (@Try.pl84))))) := And.intro (And.intro (And.intro (@Try.underlying84) (@Try.sz84)) (And.intro (@Try.by84) (And.intro (@Try.kk84) (@Try.ag84)))) (And.intro (And.intro (@Try.ap84) (@Try.iu84)) (And.intro (@Try.se84) (And.intro (@Try.fl84_0) (@Try.pl84))))
theorem tf88 : type_of% (And.intro (And.intro (And.intro (@Try.underlying88) (@Try.sz88)) (And.intro (@Try.by88) (@Try.kk88))) (And.intro (And.intro (@Try.ag88) (@Try.ap88)) (And.intro (@Try.iu88) (@Try.se88)))) := And.intro (And.intro (And.intro (@Try.underlying88) (@Try.sz88)) (And.intro (@Try.by88) (@Try.kk88))) (And.intro (And.intro (@Try.ag88) (@Try.ap88)) (And.intro (@Try.iu88) (@Try.se88)))
theorem tf90 : type_of% (And.intro (And.intro (And.intro (@Try.underlying90) (@Try.sz90)) (And.intro (@Try.by90) (@Try.kk90))) (And.intro (And.intro (@Try.ag90) (@Try.ap90)) (And.intro (@Try.iu90) (@Try.se90)))) := And.intro (And.intro (And.intro (@Try.underlying90) (@Try.sz90)) (And.intro (@Try.by90) (@Try.kk90))) (And.intro (And.intro (@Try.ag90) (@Try.ap90)) (And.intro (@Try.iu90) (@Try.se90)))
theorem tf92 : type_of% (And.intro (And.intro (And.intro (@Try.underlying92) (@Try.sz92)) (And.intro (@Try.by92) (And.intro (@Try.kk92) (@Try.ag92)))) (And.intro (And.intro (@Try.ap92) (And.intro (@Try.iu92) (@Try.se92))) (And.intro (@Try.fl92_0) (And.intro (@Try.fl92_1) (@Try.pl92))))) := And.intro (And.intro (And.intro (@Try.underlying92) (@Try.sz92)) (And.intro (@Try.by92) (And.intro (@Try.kk92) (@Try.ag92)))) (And.intro (And.intro (@Try.ap92) (And.intro (@Try.iu92) (@Try.se92))) (And.intro (@Try.fl92_0) (And.intro (@Try.fl92_1) (@Try.pl92))))
theorem tf98 : type_of% (And.intro (And.intro (And.intro (@Try.underlying98) (@Try.sz98)) (And.intro (@Try.by98) (@Try.kk98))) (And.intro (And.intro (@Try.sl98) (@Try.ag98)) (And.intro (@Try.ap98) (And.intro (@Try.iu98) (@Try.se98))))) := And.intro (And.intro (And.intro (@Try.underlying98) (@Try.sz98)) (And.intro (@Try.by98) (@Try.kk98))) (And.intro (And.intro (@Try.sl98) (@Try.ag98)) (And.intro (@Try.ap98) (And.intro (@Try.iu98) (@Try.se98))))
theorem tf113 : type_of% (And.intro (And.intro (And.intro (@Try.underlying113) (@Try.sz113)) (And.intro (@Try.by113) (@Try.kk113))) (And.intro (And.intro (@Try.ag113) (@Try.ap113)) (And.intro (@Try.iu113) (@Try.se113)))) := And.intro (And.intro (And.intro (@Try.underlying113) (@Try.sz113)) (And.intro (@Try.by113) (@Try.kk113))) (And.intro (And.intro (@Try.ag113) (@Try.ap113)) (And.intro (@Try.iu113) (@Try.se113)))
theorem tf120 : type_of% (And.intro (And.intro (And.intro (@Try.underlying120) (@Try.sz120)) (And.intro (@Try.by120) (@Try.kk120))) (And.intro (And.intro (@Try.ag120) (@Try.ap120)) (And.intro (@Try.iu120) (@Try.se120)))) := And.intro (And.intro (And.intro (@Try.underlying120) (@Try.sz120)) (And.intro (@Try.by120) (@Try.kk120))) (And.intro (And.intro (@Try.ag120) (@Try.ap120)) (And.intro (@Try.iu120) (@Try.se120)))
theorem tf121 : type_of% (And.intro (And.intro (And.intro (@Try.underlying121) (And.intro (@Try.sz121) (@Try.by121))) (And.intro (@Try.kk121) (And.intro (@Try.ar121) (@Try.pl121)))) (And.intro (And.intro (@Try.ag121) (And.intro (@Try.ap121) (@Try.iu121))) (And.intro (@Try.se121) (And.intro (@Try.ft121) (@Try.eg121))))) := And.intro (And.intro (And.intro (@Try.underlying121) (And.intro (@Try.sz121) (@Try.by121))) (And.intro (@Try.kk121) (And.intro (@Try.ar121) (@Try.pl121)))) (And.intro (And.intro (@Try.ag121) (And.intro (@Try.ap121) (@Try.iu121))) (And.intro (@Try.se121) (And.intro (@Try.ft121) (@Try.eg121))))
theorem tf123 : type_of% (And.intro (And.intro (And.intro (@Try.underlying123) (And.intro (@Try.sz123) (@Try.by123))) (And.intro (And.intro (@Try.kk123) (@Try.ag123)) (And.intro (@Try.ap123) (@Try.iu123)))) (And.intro (And.intro (@Try.se123) (And.intro (@Try.fl123_0) (@Try.fl123_1))) (And.intro (And.intro (@Try.fl123_2) (@Try.pl123)) (And.intro (@Try.ft123) (@Try.eg123))))) := And.intro (And.intro (And.intro (@Try.underlying123) (And.intro (@Try.sz123) (@Try.by123))) (And.intro (And.intro (@Try.kk123) (@Try.ag123)) (And.intro (@Try.ap123) (@Try.iu123)))) (And.intro (And.intro (@Try.se123) (And.intro (@Try.fl123_0) (@Try.fl123_1))) (And.intro (And.intro (@Try.fl123_2) (@Try.pl123)) (And.intro (@Try.ft123) (@Try.eg123))))
theorem tf149 : type_of% (And.intro (And.intro (And.intro (@Try.underlying149) (And.intro (@Try.sz149) (@Try.by149))) (And.intro (@Try.kk149) (And.intro (@Try.ar149) (@Try.pl149)))) (And.intro (And.intro (@Try.ag149) (And.intro (@Try.ap149) (@Try.iu149))) (And.intro (@Try.se149) (And.intro (@Try.ft149) (@Try.eg149))))) := And.intro (And.intro (And.intro (@Try.underlying149) (And.intro (@Try.sz149) (@Try.by149))) (And.intro (@Try.kk149) (And.intro (@Try.ar149) (@Try.pl149)))) (And.intro (And.intro (@Try.ag149) (And.intro (@Try.ap149) (@Try.iu149))) (And.intro (@Try.se149) (And.intro (@Try.ft149) (@Try.eg149))))
theorem tf153 : type_of% (And.intro (And.intro (And.intro (@Try.underlying153) (@Try.sz153)) (And.intro (@Try.by153) (@Try.kk153))) (And.intro (And.intro (@Try.sl153) (@Try.ag153)) (And.intro (@Try.ap153) (And.intro (@Try.iu153) (@Try.se153))))) := And.intro (And.intro (And.intro (@Try.underlying153) (@Try.sz153)) (And.intro (@Try.by153) (@Try.kk153))) (And.intro (And.intro (@Try.sl153) (@Try.ag153)) (And.intro (@Try.ap153) (And.intro (@Try.iu153) (@Try.se153))))
end Pv
