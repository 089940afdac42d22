/- Part of the proof: the layer of pure values, or walks through functions (PvDrawP, PvDrawF, PvCxM). -/
import Derived.Test.YtjomgffpkdcanaaGreatPvB2
import Derived.Test.YtjomgffpkdcanaaGreatPvNum
import Derived.Test.YtjomgffpkdcanaaGreatPvFxM
set_option linter.all false
namespace Pv
open Go Go.RowKit
variable {X : Ctx} {ops : Array Oper} {Q : Exit → PSt → PH → Prop}

/-- A plan with every order in it: `fx i re t rest`: i may come next (then t), or else rest. -/
inductive PT where
  | nil
  | no
  | mv (i : Nat) (t : PT)
  | fx (i : Nat) (re : List Nat) (t rest : PT)

def PT.heads : PT → List Nat
  | .fx i _ _ r => i :: r.heads
  | _ => []

def ptOk (P : Program) (ops : Array Oper) : Bool → List Nat → List Nat → PT → Bool
  | c, _, κ, .nil => !c && κ.isEmpty
  | c, _, _, .no => c
  | c, pend, κ, .mv i t => !c && (rdy P ops κ == some i) && ptOk P ops false (i :: pend) (κ.erase i) t
  | c, pend, κ, .fx i re t rest => (c || (rdy P ops κ == none && !κ.isEmpty && (alts P ops κ).all (PT.fx i re t rest).heads.contains)) &&
      (pend.filter fun j => !(anc ops i).contains j).all re.contains && ptOk P ops false (pend.filter fun j => !(anc ops i).contains j) (κ.erase i) t && ptOk P ops true pend κ rest

def vcT (X : Ctx) (ops : Array Oper) (Q : Exit → PSt → PH → Prop) : PT → PSt → PH → Prop
  | .nil, s, ph => Q .normal s ph
  | .no, _, _ => True
  | .mv i t, s, ph => match ops[i]? with
    | none => False
    | some o => match wantedP ops s o with
      | none => False
      | some b => (b = true → opVc X s ph o.op fun v ph' => ph' = ph ∧ vcT X ops Q t (s.put o.dst v) ph) ∧ (b = false → vcT X ops Q t (s.put o.dst (.tuple [])) ph)
  | .fx i re t rest, s, ph => (match ops[i]? with
    | none => False
    | some o => match wantedP ops s o with
      | none => False
      | some b => (b = true → opVc X s ph o.op fun v ph' => look X ops (s.put o.dst v) ph' re ∧ vcT X ops Q t (s.put o.dst v) ph') ∧ (b = false → vcT X ops Q t (s.put o.dst (.tuple [])) ph)) ∧ vcT X ops Q rest s ph

theorem vcT_both (T : PT) :
    (∀ (pend pend' κ : List Nat) (s : PSt) (ph : PH) (m : Nat), ptOk X.P ops false pend' κ T = true → (∀ u ∈ pend, u ∈ pend') → κ.length < m → vcT X ops Q T s ph → vcE X ops Q m pend κ s ph) ∧
    (∀ (c : Bool) (pend pend' κ : List Nat) (s : PSt) (ph : PH) (m : Nat), ptOk X.P ops c pend' κ T = true → (∀ u ∈ pend, u ∈ pend') → κ.length < m + 1 → vcT X ops Q T s ph → ∀ j ∈ T.heads, j ∈ κ → vcF X ops pend s ph j fun p' s' ph' => vcE X ops Q m p' (κ.erase j) s' ph') := by
  induction T with
  | nil =>
    refine ⟨fun pend pend' κ s ph m hk hs hm h => ?_, fun c pend pend' κ s ph m hk hs hm h j hj => by simp [PT.heads] at hj⟩
    have : κ = [] := by simpa [ptOk] using hk
    subst this
    cases m with
    | zero => cases hm
    | succ m => exact ⟨fun _ => h, fun j hj => by simp [alts] at hj⟩
  | no => exact ⟨fun pend pend' κ s ph m hk => by simp [ptOk] at hk, fun c pend pend' κ s ph m hk hs hm h j hj => by simp [PT.heads] at hj⟩
  | mv i t ih => 
    refine ⟨fun pend pend' κ s ph m hk hs hm h => ?_, fun c pend pend' κ s ph m hk hs hm h j hj => by simp [PT.heads] at hj⟩
    simp only [ptOk, Bool.not_false, Bool.true_and, Bool.and_eq_true, beq_iff_eq] at hk
    obtain ⟨hiκ, ⟨o, ho, hmv⟩, -⟩ := rdy_some hk.1
    cases m with
    | zero => cases hm
    | succ m =>
    have hl : (κ.erase i).length < m := by rw [List.length_erase_of_mem hiκ]; have := List.length_pos_of_mem hiκ; omega
    unfold vcE
    rw [hk.1]
    simp only [ho]
    simp only [vcT, ho] at h
    cases hw : wantedP ops s o with
    | none => rw [hw] at h; exact h
    | some b =>
      rw [hw] at h
      simp only at h ⊢
      refine ⟨fun hb => ?_, fun hb => ih.1 _ _ _ _ _ _ hk.2 (fun u hu => List.mem_cons_of_mem _ (hs u hu)) hl (h.2 hb)⟩
      obtain ⟨⟨v, ph'⟩, h1, h2, h3⟩ := opVc_pop hmv (h.1 hb)
      subst h2
      exact ⟨v, h1, ih.1 _ _ _ _ _ _ hk.2 (fun u hu => by rcases List.mem_cons.1 hu with rfl | hu; simp; exact List.mem_cons_of_mem _ (hs u hu)) hl h3⟩
  | fx i re t rest iht ihr =>
    have key : ∀ (c : Bool) (pend pend' κ : List Nat) (s : PSt) (ph : PH) (m : Nat), ptOk X.P ops c pend' κ (.fx i re t rest) = true → (∀ u ∈ pend, u ∈ pend') → κ.length < m + 1 → vcT X ops Q (.fx i re t rest) s ph → ∀ j ∈ (PT.fx i re t rest).heads, j ∈ κ → vcF X ops pend s ph j fun p' s' ph' => vcE X ops Q m p' (κ.erase j) s' ph' := by
      intro c pend pend' κ s ph m hk hs hm h j hj hjκ
      simp only [ptOk, Bool.and_eq_true] at hk
      obtain ⟨⟨⟨-, hre⟩, hkt⟩, hkr⟩ := hk
      rcases List.mem_cons.1 hj with rfl | hj
      · have h := h.1
        have hl : (κ.erase j).length < m := by rw [List.length_erase_of_mem hjκ]; have := List.length_pos_of_mem hjκ; omega
        have hf : ∀ u ∈ pend.filter (fun k => !(anc ops j).contains k), u ∈ pend'.filter (fun k => !(anc ops j).contains k) := by
          intro u hu
          rw [List.mem_filter] at hu ⊢
          exact ⟨hs u hu.1, hu.2⟩
        unfold vcF
        cases ho : ops[j]? with
        | none => rw [ho] at h; exact h
        | some o =>
          rw [ho] at h
          simp only at h ⊢
          cases hw : wantedP ops s o with
          | none => rw [hw] at h; exact h
          | some b =>
            rw [hw] at h
            simp only at h ⊢
            refine ⟨fun hb => opVc_mono' (fun v ph' hk => ⟨recheck_of_look hk.1 fun u hu => ?_, iht.1 _ _ _ _ _ _ hkt hf hl hk.2⟩) (h.1 hb), fun hb => iht.1 _ _ _ _ _ _ hkt hf hl (h.2 hb)⟩
            simpa using List.all_eq_true.1 hre u (hf u hu)
      · exact ihr.2 _ _ _ _ _ _ _ hkr hs hm h.2 j hj hjκ
    refine ⟨fun pend pend' κ s ph m hk hs hm h => ?_, key⟩
    have hk0 := hk
    simp only [ptOk, Bool.false_or, Bool.and_eq_true, beq_iff_eq] at hk
    obtain ⟨⟨⟨⟨⟨hr, hne⟩, hal⟩, -⟩, -⟩, -⟩ := hk
    cases m with
    | zero => cases hm
    | succ m =>
      unfold vcE
      rw [hr]
      refine ⟨fun e => by subst e; simp at hne, fun j hj => key _ _ _ _ _ _ _ hk0 hs hm h j (by simpa using List.all_eq_true.1 hal j hj) (List.mem_filter.1 hj).1⟩

theorem w_drawnT {ρ : Option Nat} {n0 id : Nat} {s : PSt} {ph : PH} (T : PT) (κ : List Nat) (N : Nat) (hm : X.P.follows .mixedOrders = true) (hok : (drawOkT X.P ops N κ && ptOk X.P ops false [] κ T) = true) (hN : N ≤ s.tm.length) (h : vcT X ops Q T s ph) : vc X ρ n0 (.region id ops true) Q s ph := by
  simp only [Bool.and_eq_true] at hok
  rw [w_draw]
  exact pwp_drawT0 (m := κ.length + 1) hm hok.1 hN ((vcT_both T).1 _ _ _ _ _ _ hok.2 (fun _ h => h) (by omega) h)

/-! The walk's equations -/
variable {s : PSt} {ph : PH} {o : Oper} {t rest : PT} {i : Nat} {mv : Bool} {re : List Nat}
def vtK (X : Ctx) (ops : Array Oper) (Q : Exit → PSt → PH → Prop) (mv : Bool) (re : List Nat) (t : PT) (s : PSt) (ph : PH) (dst : Option Tmp) : PV → PH → Prop := fun v ph' => match mv with
  | true => ph' = ph ∧ vcT X ops Q t (s.put dst v) ph
  | false => look X ops (s.put dst v) ph' re ∧ vcT X ops Q t (s.put dst v) ph'
def vtW (X : Ctx) (ops : Array Oper) (Q : Exit → PSt → PH → Prop) (mv : Bool) (re : List Nat) (t : PT) (s : PSt) (ph : PH) (o : Oper) : Option Bool → Prop
  | none => False
  | some b => (b = true → opVc X s ph o.op (vtK X ops Q mv re t s ph o.dst)) ∧ (b = false → vcT X ops Q t (s.put o.dst (.tuple [])) ph)
def vtO (X : Ctx) (ops : Array Oper) (Q : Exit → PSt → PH → Prop) (mv : Bool) (re : List Nat) (t : PT) (s : PSt) (ph : PH) : Option Oper → Prop
  | none => False
  | some o => vtW X ops Q mv re t s ph o (wantedP ops s o)
theorem t_nil : vcT X ops Q .nil s ph = Q .normal s ph := rfl
theorem t_no : vcT X ops Q .no s ph = True := rfl
theorem t_mv : vcT X ops Q (.mv i t) s ph = vtO X ops Q true [] t s ph ops[i]? := by
  conv => lhs; unfold vcT
  cases ops[i]? with
  | none => rfl
  | some o => simp only [vtO]; cases wantedP ops s o <;> rfl
theorem t_fx : vcT X ops Q (.fx i re t rest) s ph = (vtO X ops Q false re t s ph ops[i]? ∧ vcT X ops Q rest s ph) := by
  conv => lhs; unfold vcT
  cases ops[i]? with
  | none => rfl
  | some o => simp only [vtO]; cases wantedP ops s o <;> rfl
theorem t_op : vtO X ops Q mv re t s ph (some o) = vtW X ops Q mv re t s ph o (wantedP ops s o) := rfl
theorem t_true : vtW X ops Q mv re t s ph o (some true) = opVc X s ph o.op (vtK X ops Q mv re t s ph o.dst) := by simp [vtW]
theorem t_mvk {dst : Option Tmp} {v : PV} : vtK X ops Q true re t s ph dst v ph = vcT X ops Q t (s.put dst v) ph := by simp [vtK]
theorem t_se {dst : Option Tmp} {v : PV} {ph' : PH} : vtK X ops Q false re t s ph dst v ph' = (look X ops (s.put dst v) ph' re ∧ vcT X ops Q t (s.put dst v) ph') := rfl
end Pv

namespace Pv
open Go Go.RowKit
variable {X : Ctx} {ops : Array Oper} {Q : Exit → PSt → PH → Prop} {P : Program}

/-! ### The checks of a region's order, by a table of what stands ahead (clo itself goes every way) -/
abbrev Tab := List (List Nat)
def Tab.at (T : Tab) (i : Nat) : List Nat := T.getD i []
def tabAll (ops : Array Oper) (T : Tab) : Nat → List Oper → Bool
  | _, [] => true
  | i, o :: os => (edgesOf o).all (fun j => decide (j < i) && (T.at i).contains j && (T.at j).all (T.at i).contains) &&
      (T.at i).all (fun k => (edgesOf o).any fun j => k == j || (T.at j).contains k) && tabAll ops T (i + 1) os
def tabOk (ops : Array Oper) (T : Tab) : Bool := tabAll ops T 0 ops.toList

theorem tabAll_get {T : Tab} : ∀ {os : List Oper} {n : Nat}, tabAll ops T n os = true → ∀ {i : Nat} {o : Oper}, os[i]? = some o →
    (∀ j ∈ edgesOf o, j < n + i ∧ j ∈ T.at (n + i) ∧ ∀ k ∈ T.at j, k ∈ T.at (n + i)) ∧ ∀ k ∈ T.at (n + i), ∃ j ∈ edgesOf o, k = j ∨ k ∈ T.at j
  | [], _, _, i, o, h => by simp at h
  | a :: os, n, h, 0, o, ho => by
    simp at ho; subst ho
    simp only [tabAll, Bool.and_eq_true, List.all_eq_true, List.any_eq_true, decide_eq_true_eq, List.contains_iff_mem, beq_iff_eq, Bool.or_eq_true] at h
    exact ⟨fun j hj => ⟨(h.1.1 j hj).1.1, (h.1.1 j hj).1.2, (h.1.1 j hj).2⟩, h.1.2⟩
  | a :: os, n, h, i + 1, o, ho => by
    simp only [List.getElem?_cons_succ] at ho
    simp only [tabAll, Bool.and_eq_true] at h
    have := tabAll_get h.2 ho
    rwa [show n + 1 + i = n + (i + 1) by omega] at this

theorem tab_clo {T : Tab} (h : tabOk ops T = true) : ∀ (n i : Nat) (o : Oper), ops[i]? = some o → i < n → ∀ k, k ∈ clo ops n i ↔ k ∈ T.at i := by
  intro n
  induction n with
  | zero => intro i o _ hi; omega
  | succ n ih =>
    intro i o ho hi k
    have hg := tabAll_get h (i := i) (o := o) (by rw [Array.getElem?_toList]; exact ho)
    rw [Nat.zero_add] at hg
    rw [clo, ho]
    simp only [List.mem_flatMap, List.mem_cons]
    have hlt : i < ops.size := (Array.getElem?_eq_some_iff.1 ho).1
    constructor
    · rintro ⟨j, hj, hk⟩
      obtain ⟨h1, h2, h3⟩ := hg.1 j hj
      rcases hk with rfl | hk
      · exact h2
      · have hj2 : j < ops.size := by omega
        exact h3 k ((ih j ops[j] (Array.getElem?_eq_getElem hj2) (by omega) k).1 hk)
    · intro hk
      obtain ⟨j, hj, hk⟩ := hg.2 k hk
      obtain ⟨h1, h2, h3⟩ := hg.1 j hj
      have hj2 : j < ops.size := by omega
      refine ⟨j, hj, ?_⟩
      rcases hk with rfl | hk
      · exact .inl rfl
      · exact .inr ((ih j ops[j] (Array.getElem?_eq_getElem hj2) (by omega) k).2 hk)

theorem tab_anc {T : Tab} (h : tabOk ops T = true) {i j : Nat} (hi : i < ops.size) : (anc ops i).contains j = (T.at i).contains j := by
  rw [Bool.eq_iff_iff, List.contains_iff_mem, List.contains_iff_mem]
  exact tab_clo h ops.size i ops[i] (Array.getElem?_eq_getElem hi) hi j

/-- Is it so that.., for places in the region alone. -/
def inT (ops : Array Oper) (T : Tab) (i j : Nat) : Bool := (T.at i).contains j
theorem inT_anc {T : Tab} (h : tabOk ops T = true) {i j : Nat} {o : Oper} (ho : ops[i]? = some o) : (anc ops i).contains j = inT ops T i j := tab_anc h (Array.getElem?_eq_some_iff.1 ho).1

def atF (P : Program) (ops : Array Oper) (T : Tab) (N : Nat) (all pre post : List Nat) (i : Nat) : Bool :=
  match ops[i]? with
  | none => false
  | some o =>
    (edgesOf o).all (fun j => decide (j < i)) &&
    pre.all (fun j => match ops[j]? with
      | none => false
      | some p => movable P p.op || inT ops T i j) &&
    post.all (fun j => j != i && !inT ops T i j) &&
    (match o.dst with
      | none => !movable P o.op
      | some d => decide (d < N) && (!movable P o.op || !(readsOf ops o).contains d) &&
        all.all (fun j => j == i || match ops[j]? with
          | none => false
          | some p => !(namesOf ops p).contains d || inT ops T j i || (!movable P o.op && inT ops T i j)))
theorem atF_eq {T : Tab} (h : tabOk ops T = true) {N : Nat} {all pre post : List Nat} {i : Nat} : atF P ops T N all pre post i = atOk P ops N all pre post i := by
  unfold atF atOk
  cases ho : ops[i]? with
  | none => rfl
  | some o =>
    dsimp only
    have e : ∀ j, (anc ops i).contains j = inT ops T i j := fun j => inT_anc h ho
    simp only [e]
    congr 1
    cases o.dst with
    | none => rfl
    | some d =>
      dsimp only
      congr 2
      funext j
      cases hp : ops[j]? with
      | none => rfl
      | some p => dsimp only; rw [inT_anc h hp]
def chainF (P : Program) (ops : Array Oper) (T : Tab) (N : Nat) (all : List Nat) : List Nat → List Nat → Bool
  | _, [] => true
  | pre, i :: κ => atF P ops T N all pre κ i && chainF P ops T N all (pre ++ [i]) κ
theorem chainF_eq {T : Tab} (h : tabOk ops T = true) {N : Nat} {all : List Nat} : ∀ {κ pre : List Nat}, chainF P ops T N all pre κ = chainOk P ops N all pre κ
  | [], _ => rfl
  | i :: κ, pre => by rw [chainF, chainOk, atF_eq h, chainF_eq h]
def planF (P : Program) (ops : Array Oper) (T : Tab) : List Nat → Plan → Bool
  | _, [] => true
  | pend, (i, mv, re) :: κ => match ops[i]? with
    | none => false
    | some o => (mv == movable P o.op) && (match mv with
      | true => planF P ops T (i :: pend) κ
      | false => (pend.filter fun j => !inT ops T i j).all re.contains && planF P ops T (pend.filter fun j => !inT ops T i j) κ)
theorem planF_eq {T : Tab} (h : tabOk ops T = true) : ∀ {κ : Plan} {pend : List Nat}, planF P ops T pend κ = planOk P ops pend κ
  | [], _ => rfl
  | (i, mv, re) :: κ, pend => by
    unfold planF planOk
    cases ho : ops[i]? with
    | none => rfl
    | some o =>
      dsimp only
      have e : ∀ j, (anc ops i).contains j = inT ops T i j := fun j => inT_anc h ho
      cases mv <;> simp only [e, planF_eq h]
def drawF (P : Program) (ops : Array Oper) (T : Tab) (N : Nat) (κ : Plan) : Bool :=
  tabOk ops T && (κ.length == ops.size && (List.range ops.size).all (fun i => (κ.map (·.1)).contains i) && (κ.map (·.1)).all (fun i => decide (i < ops.size)) && chainF P ops T N (κ.map (·.1)) [] (κ.map (·.1))) && planF P ops T [] κ
theorem w_drawnF {ρ : Option Nat} {n0 id : Nat} {s : PSt} {ph : PH} (T : Tab) (κ : Plan) (N : Nat) (hm : X.P.follows .mixedOrders = true) (hok : drawF X.P ops T N κ = true) (hN : N ≤ s.tm.length) (h : vcP X ops Q κ s ph) : vc X ρ n0 (.region id ops true) Q s ph := by
  simp only [drawF, Bool.and_eq_true] at hok
  refine w_drawn κ N hm ?_ hN h
  rw [Bool.and_eq_true]
  refine ⟨?_, by rw [← planF_eq hok.1.1]; exact hok.2⟩
  unfold drawOk
  rw [← chainF_eq hok.1.1]
  simp only [Bool.and_eq_true, List.length_map]
  exact ⟨⟨⟨hok.1.2.1.1.1, hok.1.2.1.1.2⟩, hok.1.2.1.2⟩, hok.1.2.2⟩

/-! Trees -/
def atTF (P : Program) (ops : Array Oper) (T : Tab) (N : Nat) (all post : List Nat) (i : Nat) : Bool :=
  match ops[i]? with
  | none => false
  | some o =>
    (edgesOf o).all (fun j => decide (j < i)) &&
    post.all (fun j => j != i && !inT ops T i j) &&
    (match o.dst with
      | none => !movable P o.op
      | some d => decide (d < N) && (!movable P o.op || !(readsOf ops o).contains d) &&
        all.all (fun j => j == i || match ops[j]? with
          | none => false
          | some p => !(namesOf ops p).contains d || inT ops T j i || (!movable P o.op && inT ops T i j)))
theorem atTF_eq {T : Tab} (h : tabOk ops T = true) {N : Nat} {all post : List Nat} {i : Nat} : atTF P ops T N all post i = atT P ops N all post i := by
  unfold atTF atT
  cases ho : ops[i]? with
  | none => rfl
  | some o =>
    dsimp only
    have e : ∀ j, (anc ops i).contains j = inT ops T i j := fun j => inT_anc h ho
    simp only [e]
    congr 1
    cases o.dst with
    | none => rfl
    | some d =>
      dsimp only
      congr 2
      funext j
      cases hp : ops[j]? with
      | none => rfl
      | some p => dsimp only; rw [inT_anc h hp]
def chainTF (P : Program) (ops : Array Oper) (T : Tab) (N : Nat) (all : List Nat) : List Nat → Bool
  | [] => true
  | i :: κ => atTF P ops T N all κ i && chainTF P ops T N all κ
theorem chainTF_eq {T : Tab} (h : tabOk ops T = true) {N : Nat} {all : List Nat} : ∀ {κ : List Nat}, chainTF P ops T N all κ = chainT P ops N all κ
  | [] => rfl
  | i :: κ => by rw [chainTF, chainT, atTF_eq h, chainTF_eq h]
def altsF (P : Program) (ops : Array Oper) (T : Tab) (κ : List Nat) : List Nat :=
  κ.filter fun i => (match ops[i]? with | some o => !movable P o.op | none => false) && κ.all fun j => !inT ops T i j
def rdyF (P : Program) (ops : Array Oper) (T : Tab) (κ : List Nat) : Option Nat :=
  κ.find? fun i => (match ops[i]? with | some o => movable P o.op | none => false) && κ.all fun j => !inT ops T i j
theorem altsF_eq {T : Tab} (h : tabOk ops T = true) {κ : List Nat} : altsF P ops T κ = alts P ops κ := by
  unfold altsF alts
  congr 1; funext i
  cases ho : ops[i]? with
  | none => rfl
  | some o => simp only [fun j => inT_anc (j := j) h ho]
theorem rdyF_eq {T : Tab} (h : tabOk ops T = true) {κ : List Nat} : rdyF P ops T κ = rdy P ops κ := by
  unfold rdyF rdy
  congr 1; funext i
  cases ho : ops[i]? with
  | none => rfl
  | some o => simp only [fun j => inT_anc (j := j) h ho]
def ptF (P : Program) (ops : Array Oper) (T : Tab) : Bool → List Nat → List Nat → PT → Bool
  | c, _, κ, .nil => !c && κ.isEmpty
  | c, _, _, .no => c
  | c, pend, κ, .mv i t => !c && (rdyF P ops T κ == some i) && ptF P ops T false (i :: pend) (κ.erase i) t
  | c, pend, κ, .fx i re t rest => (c || (rdyF P ops T κ == none && !κ.isEmpty && (altsF P ops T κ).all (PT.fx i re t rest).heads.contains)) && (ops[i]?).isSome &&
      (pend.filter fun j => !inT ops T i j).all re.contains && ptF P ops T false (pend.filter fun j => !inT ops T i j) (κ.erase i) t && ptF P ops T true pend κ rest
theorem ptF_ok {T : Tab} (h : tabOk ops T = true) : ∀ {t : PT} {c : Bool} {pend κ : List Nat}, ptF P ops T c pend κ t = true → ptOk P ops c pend κ t = true
  | .nil, _, _, _, e => e
  | .no, _, _, _, e => e
  | .mv i t, c, pend, κ, e => by
    unfold ptF at e; unfold ptOk
    simp only [Bool.and_eq_true] at e ⊢
    rw [rdyF_eq h] at e
    exact ⟨e.1, ptF_ok h e.2⟩
  | .fx i re t rest, c, pend, κ, e => by
    unfold ptF at e; unfold ptOk
    rw [rdyF_eq h, altsF_eq h] at e
    simp only [Bool.and_eq_true] at e ⊢
    obtain ⟨⟨⟨⟨e1, e2⟩, e3⟩, e4⟩, e5⟩ := e
    obtain ⟨o, ho⟩ := Option.isSome_iff_exists.1 e2
    simp only [fun j => (inT_anc (j := j) h ho)]
    exact ⟨⟨⟨e1, e3⟩, ptF_ok h e4⟩, ptF_ok h e5⟩
def drawTF (P : Program) (ops : Array Oper) (A : Tab) (N : Nat) (κ : List Nat) (T : PT) : Bool :=
  tabOk ops A && (κ.length == ops.size && (List.range ops.size).all (fun i => κ.contains i) && κ.all (fun i => decide (i < ops.size)) && chainTF P ops A N κ κ) && ptF P ops A false [] κ T
theorem w_drawnTF {ρ : Option Nat} {n0 id : Nat} {s : PSt} {ph : PH} (A : Tab) (T : PT) (κ : List Nat) (N : Nat) (hm : X.P.follows .mixedOrders = true) (hok : drawTF X.P ops A N κ T = true) (hN : N ≤ s.tm.length) (h : vcT X ops Q T s ph) : vc X ρ n0 (.region id ops true) Q s ph := by
  simp only [drawTF, Bool.and_eq_true] at hok
  refine w_drawnT T κ N hm ?_ hN h
  rw [Bool.and_eq_true]
  refine ⟨?_, ptF_ok hok.1.1 hok.2⟩
  unfold drawOkT
  rw [← chainTF_eq hok.1.1]
  simp only [Bool.and_eq_true]
  exact ⟨⟨⟨hok.1.2.1.1.1, hok.1.2.1.1.2⟩, hok.1.2.1.2⟩, hok.1.2.2⟩
end Pv

namespace Pv
open Go Go.Proofs
noncomputable abbrev Cx (w0 : World) : Ctx := ⟨Tryz.prog, w0⟩
theorem tf3 : type_of% (And.intro (And.intro (And.intro (@Tryz.underlying3) (@Tryz.sz3)) (And.intro (@Tryz.by3) (@Tryz.kk3))) (And.intro (And.intro (@Tryz.ag3) (@Tryz.ap3)) (And.intro (@Tryz.iu3) (@Tryz.se3)))) := And.intro (And.intro (And.intro (@Tryz.underlying3) (@Tryz.sz3)) (And.intro (@Tryz.by3) (@Tryz.kk3))) (And.intro (And.intro (@Tryz.ag3) (@Tryz.ap3)) (And.intro (@Tryz.iu3) (@Tryz.se3)))
theorem tf4 : type_of% (And.intro (And.intro (And.intro (@Tryz.underlying4) (@Tryz.sz4)) (And.intro (@Tryz.by4) (@Tryz.kk4))) (And.intro (And.intro (@Tryz.ag4) (@Tryz.ap4)) (And.intro (@Tryz.iu4) (@Tryz.se4)))) := And.intro (And.intro (And.intro (@Tryz.underlying4) (@Tryz.sz4)) (And.intro (@Tryz.by4) (@Tryz.kk4))) (And.intro (And.intro (@Tryz.ag4) (@Tryz.ap4)) (And.intro (@Tryz.iu4) (@Tryz.se4)))
theorem tf5 : type_of% (And.intro (And.intro (And.intro (@Tryz.underlying5) (@Tryz.sz5)) (And.intro (@Tryz.by5) (@Tryz.kk5))) (And.intro (And.intro (@Tryz.ag5) (@Tryz.ap5)) (And.intro (@Tryz.iu5) (@Tryz.se5)))) := And.intro (And.intro (And.intro (@Tryz.underlying5) (@Tryz.sz5)) (And.intro (@Tryz.by5) (@Tryz.kk5))) (And.intro (And.intro (@Tryz.ag5) (@Tryz.ap5)) (And.intro (@Tryz.iu5) (@Tryz.se5)))
theorem tf9 : type_of% (And.intro (And.intro (And.intro (@Tryz.underlying9) (@Tryz.sz9)) (And.intro (@Tryz.by9) (@Tryz.kk9))) (And.intro (And.intro (@Tryz.ag9) (@Tryz.ap9)) (And.intro (@Tryz.iu9) (@Tryz.se9)))) := And.intro (And.intro (And.intro (@Tryz.underlying9) (@Tryz.sz9)) (And.intro (@Tryz.by9) (@Tryz.kk9))) (And.intro (And.intro (@Tryz.ag9) (@Tryz.ap9)) (And.intro (@Tryz.iu9) (@Tryz.se9)))
theorem tf22 : type_of% (And.intro (And.intro (And.intro (@Tryz.underlying22) (@Tryz.sz22)) (And.intro (@Tryz.by22) (@Tryz.kk22))) (And.intro (And.intro (@Tryz.sl22) (@Tryz.ag22)) (And.intro (@Tryz.ap22) (And.intro (@Tryz.iu22) (@Tryz.se22))))) := And.intro (And.intro (And.intro (@Tryz.underlying22) (@Tryz.sz22)) (And.intro (@Tryz.by22) (@Tryz.kk22))) (And.intro (And.intro (@Tryz.sl22) (@Tryz.ag22)) (And.intro (@Tryz.ap22) (And.intro (@Tryz.iu22) (@Tryz.se22))))
theorem tf23 : type_of% (And.intro (And.intro (And.intro (@Tryz.underlying23) (@Tryz.sz23)) (And.intro (@Tryz.by23) (@Tryz.kk23))) (And.intro (And.intro (@Tryz.sl23) (@Tryz.ag23)) (And.intro (@Tryz.ap23) (And.intro (@Tryz.iu23) (@Tryz.se23))))) := And.intro (And.intro (And.intro (@Tryz.underlying23) (@Tryz.sz23)) (And.intro (@Tryz.by23) (@Tryz.kk23))) (And.intro (And.intro (@Tryz.sl23) (@Tryz.ag23)) (And.intro (@Tryz.ap23) (And.intro (@Tryz.iu23) (@Tryz.se23))))
theorem tf25 : type_of% (And.intro (And.intro (And.intro (@Tryz.underlying25) (And.intro (@Tryz.sz25) (@Tryz.by25))) (And.intro (@Tryz.kk25) (And.intro (@Tryz.ag25) (@Tryz.ap25)))) (And.intro (And.intro (@Tryz.iu25) (And.intro (@Tryz.se25) (@Tryz.fl25_0))) (And.intro (And.intro (@Tryz.fl25_1) (@Tryz.fl25_2)) (And.intro (@Tryz.fl25_3) (@Tryz.pl25))))) := And.intro (And.intro (And.intro (@Tryz.underlying25) (And.intro (@Tryz.sz25) (@Tryz.by25))) (And.intro (@Tryz.kk25) (And.intro (@Tryz.ag25) (@Tryz.ap25)))) (And.intro (And.intro (@Tryz.iu25) (And.intro (@Tryz.se25) (@Tryz.fl25_0))) (And.intro (And.intro (@Tryz.fl25_1) (@Tryz.fl25_2)) (And.intro (@Tryz.fl25_3) (@Tryz.pl25))))
theorem tf26 : type_of% (And.intro (And.intro (And.intro (@Tryz.underlying26) (@Tryz.sz26)) (And.intro (@Tryz.by26) (@Tryz.kk26))) (And.intro (And.intro (@Tryz.sl26) (@Tryz.ag26)) (And.intro (@Tryz.ap26) (And.intro (@Tryz.iu26) (@Tryz.se26))))) := And.intro (And.intro (And.intro (@Tryz.underlying26) (@Tryz.sz26)) (And.intro (@Tryz.by26) (@Tryz.kk26))) (And.intro (And.intro (@Tryz.sl26) (@Tryz.ag26)) (And.intro (@Tryz.ap26) (And.intro (@Tryz.iu26) (@Tryz.se26))))
theorem tf29 : type_of% (And.intro (And.intro (And.intro (@Tryz.underlying29) (@Tryz.sz29)) (And.intro (@Tryz.by29) (@Tryz.kk29))) (And.intro (And.intro (@Tryz.ag29) (@Tryz.ap29)) (And.intro (@Tryz.iu29) (@Tryz.se29)))) := And.intro (And.intro (And.intro (@Tryz.underlying29) (@Tryz.sz29)) (And.intro (@Tryz.by29) (@Tryz.kk29))) (And.intro (And.intro (@Tryz.ag29) (@Tryz.ap29)) (And.intro (@Tryz.iu29) (@Tryz.se29)))
theorem tf46 : type_of% (And.intro (And.intro (And.intro (@Tryz.underlying46) (And.intro (@Tryz.sz46) (@Tryz.by46))) (And.intro (And.intro (@Tryz.kk46) (@Tryz.ag46)) (And.intro (@Tryz.ap46) (@Tryz.iu46)))) (And.intro (And.intro (@Tryz.se46) (And.intro (@Tryz.fl46_0) (@Tryz.fl46_1))) (And.intro (And.intro (@Tryz.fl46_2) (@Tryz.pl46)) (And.intro (@Tryz.ft46) (@Tryz.eg46))))) := And.intro (And.intro (And.intro (@Tryz.underlying46) (And.intro (@Tryz.sz46) (@Tryz.by46))) (And.intro (And.intro (@Tryz.kk46) (@Tryz.ag46)) (And.intro (@Tryz.ap46) (@Tryz.iu46)))) (And.intro (And.intro (@Tryz.se46) (And.intro (@Tryz.fl46_0) (@Tryz.fl46_1))) (And.intro (And.intro (@Tryz.fl46_2) (@Tryz.pl46)) (And.intro (@Tryz.ft46) (@Tryz.eg46))))
theorem tf50 : type_of% (And.intro (And.intro (And.intro (@Tryz.underlying50) (@Tryz.sz50)) (And.intro (@Tryz.by50) (@Tryz.kk50))) (And.intro (And.intro (@Tryz.ag50) (@Tryz.ap50)) (And.intro (@Tryz.iu50) (@Tryz.se50)))) := And.intro (And.intro (And.intro (@Tryz.underlying50) (@Tryz.sz50)) (And.intro (@Tryz.by50) (@Tryz.kk50))) (And.intro (And.intro (@Tryz.ag50) (@Tryz.ap50)) (And.intro (@Tryz.iu50) (@Tryz.se50)))
theorem tf56 : type_of% (And.intro (And.intro (And.intro (@Tryz.underlying56) (And.intro (@Tryz.sz56) (@Tryz.by56))) (And.intro (And.intro (@Tryz.kk56) (@Tryz.ag56)) (And.intro (@Tryz.ap56) (@Tryz.iu56)))) (And.intro (And.intro (And.intro (@Tryz.se56) (@Tryz.fl56_0)) (And.intro (@Tryz.fl56_1) (@Tryz.fl56_2))) (And.intro (And.intro (@Tryz.fl56_3) (@Tryz.pl56)) (And.intro (@Tryz.ft56) (@Tryz.eg56))))) := And.intro (And.intro (And.intro (@Tryz.underlying56) (And.intro (@Tryz.sz56) (@Tryz.by56))) (And.intro (And.intro (@Tryz.kk56) (@Tryz.ag56)) (And.intro (@Tryz.ap56) (@Tryz.iu56)))) (And.intro (And.intro (And.intro (@Tryz.se56) (@Tryz.fl56_0)) (And.intro (@Tryz.fl56_1) (@Tryz.fl56_2))) (And.intro (And.intro (@Tryz.fl56_3) (@Tryz.pl56)) (And.intro (@Tryz.ft56) (@Tryz.eg56))))
theorem tf60 : type_of% (And.intro (And.intro (And.intro (And.intro (@Tryz.underlying60) (And.intro (@Tryz.sz60) (@Tryz.by60))) (And.intro (And.intro (@Tryz.kk60) (@Tryz.ag60)) (And.intro (@Tryz.ap60) (@Tryz.iu60)))) (And.intro (And.intro (@Tryz.se60) (And.intro (@Tryz.fl60_0) (@Tryz.fl60_1))) (And.intro (And.intro (@Tryz.fl60_2) (@Tryz.fl60_3)) (And.intro (@Tryz.fl60_4) (@Tryz.fl60_5))))) (And.intro (And.intro (And.intro (@Tryz.fl60_6) (And.intro (@Tryz.fl60_7) (@Tryz.fl60_8))) (And.intro (And.intro (@Tryz.fl60_9) (@Tryz.fl60_10)) (And.intro (@Tryz.fl60_11) (@Tryz.fl60_12)))) (And.intro (And.intro (And.intro (@Tryz.fl60_13) (@Tryz.fl60_14)) (And.intro (@Tryz.fl60_15) (@Tryz.fl60_16))) (And.intro (And.intro (@Tryz.fl60_17) (@Tryz.fl60_18)) (And.intro (@Tryz.fl60_19) (@Tryz.pl60)))))) := And.intro (And.intro (And.intro (And.intro (@Tryz.underlying60) (And.intro (@Tryz.sz60) (@Tryz.by60))) (And.intro (And.intro (@Tryz.kk60) (@Tryz.ag60)) (And.intro (@Tryz.ap60) (@Tryz.iu60)))) (And.intro (And.intro (@Tryz.se60) (And.intro (@Tryz.fl60_0) (@Tryz.fl60_1))) (And.intro (And.intro (@Tryz.fl60_2) (@Tryz.fl60_3)) (And.intro (@Tryz.fl60_4) (@Tryz.fl60_5))))) (And.intro (And.intro (And.intro (@Tryz.fl60_6) (And.intro (@Tryz.fl60_7) (@Tryz.fl60_8))) (And.intro (And.intro (@Tryz.fl60_9) (@Tryz.fl60_10)) (And.intro (@Tryz.fl60_11) (@Tryz.fl60_12)))) (And.intro (And.intro (And.intro (@Tryz.fl60_13) (@Tryz.fl60_14)) (And.intro (@Tryz.fl60_15) (@Tryz.fl60_16))) (And.intro (And.intro (@Tryz.fl60_17) (@Tryz.fl60_18)) (And.intro (@Tryz.fl60_19) (@Tryz.pl60)))))
theorem tf66 : type_of% (And.intro (And.intro (And.intro (@Tryz.underlying66) (@Tryz.sz66)) (And.intro (@Tryz.by66) (@Tryz.kk66))) (And.intro (And.intro (@Tryz.ag66) (@Tryz.ap66)) (And.intro (@Tryz.iu66) (@Tryz.se66)))) := And.intro (And.intro (And.intro (@Tryz.underlying66) (@Tryz.sz66)) (And.intro (@Tryz.by66) (@Tryz.kk66))) (And.intro (And.intro (@Tryz.ag66) (@Tryz.ap66)) (And.intro (@Tryz.iu66) (@Tryz.se66)))
theorem tf90 : type_of% (And.intro (And.intro (And.intro (@Tryz.underlying90) (And.intro (@Tryz.sz90) (@Tryz.by90))) (And.intro (@Tryz.kk90) (And.intro (@Tryz.ar90) (@Tryz.pl90)))) (And.intro (And.intro (@Tryz.ag90) (And.intro (@Tryz.ap90) (@Tryz.iu90))) (And.intro (@Tryz.se90) (And.intro (@Tryz.ft90) (@Tryz.eg90))))) := And.intro (And.intro (And.intro (@Tryz.underlying90) (And.intro (@Tryz.sz90) (@Tryz.by90))) (And.intro (@Tryz.kk90) (And.intro (@Tryz.ar90) (@Tryz.pl90)))) (And.intro (And.intro (@Tryz.ag90) (And.intro (@Tryz.ap90) (@Tryz.iu90))) (And.intro (@Tryz.se90) (And.intro (@Tryz.ft90) (@Tryz.eg90))))
theorem tf92 : type_of% (And.intro (And.intro (And.intro (@Tryz.underlying92) (@Tryz.sz92)) (And.intro (@Tryz.by92) (@Tryz.kk92))) (And.intro (And.intro (@Tryz.sl92) (@Tryz.ag92)) (And.intro (@Tryz.ap92) (And.intro (@Tryz.iu92) (@Tryz.se92))))) := And.intro (And.intro (And.intro (@Tryz.underlying92) (@Tryz.sz92)) (And.intro (@Tryz.by92) (@Tryz.kk92))) (And.intro (And.intro (@Tryz.sl92) (@Tryz.ag92)) (And.intro (@Tryz.ap92) (And.intro (@Tryz.iu92) (@Tryz.se92))))
theorem tf94 : type_of% (And.intro (And.intro (And.intro (@Tryz.underlying94) (@Tryz.sz94)) (And.intro (@Tryz.by94) (@Tryz.kk94))) (And.intro (And.intro (@Tryz.ag94) (@Tryz.ap94)) (And.intro (@Tryz.iu94) (@Tryz.se94)))) := And.intro (And.intro (And.intro (@Tryz.underlying94) (@Tryz.sz94)) (And.intro (@Tryz.by94) (@Tryz.kk94))) (And.intro (And.intro (@Tryz.ag94) (@Tryz.ap94)) (And.intro (@Tryz.iu94) (@Tryz.se94)))
theorem tf96 : type_of% (And.intro (And.intro (And.intro (@Tryz.underlying96) (@Tryz.sz96)) (And.intro (@Tryz.by96) (And.intro (@Tryz.kk96) (@Tryz.ag96)))) (And.intro (And.intro (@Tryz.ap96) (And.intro (@Tryz.iu96) (@Tryz.se96))) (And.intro (@Tryz.fl96_0) (And.intro (@Tryz.fl96_1) (@Tryz.pl96))))) := And.intro (And.intro (And.intro (@Tryz.underlying96) (@Tryz.sz96)) (And.intro (@Tryz.by96) (And.intro (@Tryz.kk96) (@Tryz.ag96)))) (And.intro (And.intro (@Tryz.ap96) (And.intro (@Tryz.iu96) (@Tryz.se96))) (And.intro (@Tryz.fl96_0) (And.intro (@Tryz.fl96_1) (@Tryz.pl96))))
theorem tf102 : type_of% (And.intro (And.intro (And.intro (@Tryz.underlying102) (@Tryz.sz102)) (And.intro (@Tryz.by102) (@Tryz.kk102))) (And.intro (And.intro (@Tryz.sl102) (@Tryz.ag102)) (And.intro (@Tryz.ap102) (And.intro (@Tryz.iu102) (@Tryz.se102))))) := And.intro (And.intro (And.intro (@Tryz.underlying102) (@Tryz.sz102)) (And.intro (@Tryz.by102) (@Tryz.kk102))) (And.intro (And.intro (@Tryz.sl102) (@Tryz.ag102)) (And.intro (@Tryz.ap102) (And.intro (@Tryz.iu102) (@Tryz.se102))))
theorem tf105 : type_of% (And.intro (And.intro (And.intro (@Tryz.underlying105) (@Tryz.sz105)) (And.intro (@Tryz.by105) (@Tryz.kk105))) (And.intro (And.intro (@Tryz.ag105) (@Tryz.ap105)) (And.intro (@Tryz.iu105) (@Tryz.se105)))) := And.intro (And.intro (And.intro (@Tryz.underlying105) (@Tryz.sz105)) (And.intro (@Tryz.by105) (@Tryz.kk105))) (And.intro (And.intro (@Tryz.ag105) (@Tryz.ap105)) (And.intro (@Tryz.iu105) (@Tryz.se105)))
theorem tf118 : type_of% (And.intro (And.intro (And.intro (@Tryz.underlying118) (@Tryz.sz118)) (And.intro (@Tryz.by118) (@Tryz.kk118))) (And.intro (And.intro (@Tryz.ag118) (@Tryz.ap118)) (And.intro (@Tryz.iu118) (@Tryz.se118)))) := And.intro (And.intro (And.intro (@Tryz.underlying118) (@Tryz.sz118)) (And.intro (@Tryz.by118) (@Tryz.kk118))) (And.intro (And.intro (@Tryz.ag118) (@Tryz.ap118)) (And.intro (@Tryz.iu118) (@Tryz.se118)))
theorem tf128 : type_of% (And.intro (And.intro (And.intro (@Tryz.underlying128) (@Tryz.sz128)) (And.intro (@Tryz.by128) (@Tryz.kk128))) (And.intro (And.intro (@Tryz.ag128) (@Tryz.ap128)) (And.intro (@Tryz.iu128) (@Tryz.se128)))) := And.intro (And.intro (And.intro (@Tryz.underlying128) (@Tryz.sz128)) (And.intro (@Tryz.by128) (@Tryz.kk128))) (And.intro (And.intro (@Tryz.ag128) (@Tryz.ap128)) (And.intro (@Tryz.iu128) (@Tryz.se128)))
theorem tf129 : type_of% (And.intro (And.intro (And.intro (@Tryz.underlying129) (And.intro (@Tryz.sz129) (@Tryz.by129))) (And.intro (@Tryz.kk129) (And.intro (@Tryz.ar129) (@Tryz.pl129)))) (And.intro (And.intro (@Tryz.ag129) (And.intro (@Tryz.ap129) (@Tryz.iu129))) (And.intro (@Tryz.se129) (And.intro (@Tryz.ft129) (@Tryz.eg129))))) := And.intro (And.intro (And.intro (@Tryz.underlying129) (And.intro (@Tryz.sz129) (@Tryz.by129))) (And.intro (@Tryz.kk129) (And.intro (@Tryz.ar129) (@Tryz.pl129)))) (And.intro (And.intro (@Tryz.ag129) (And.intro (@Tryz.ap129) (@Tryz.iu129))) (And.intro (@Tryz.se129) (And.intro (@Tryz.ft129) (@Tryz.eg129))))
theorem tf131 : type_of% (And.intro (And.intro (And.intro (@Tryz.underlying131) (And.intro (@Tryz.sz131) (@Tryz.by131))) (And.intro (And.intro (@Tryz.kk131) (@Tryz.ag131)) (And.intro (@Tryz.ap131) (@Tryz.iu131)))) (And.intro (And.intro (@Tryz.se131) (And.intro (@Tryz.fl131_0) (@Tryz.fl131_1))) (And.intro (And.intro (@Tryz.fl131_2) (@Tryz.pl131)) (And.intro (@Tryz.ft131) (@Tryz.eg131))))) := And.intro (And.intro (And.intro (@Tryz.underlying131) (And.intro (@Tryz.sz131) (@Tryz.by131))) (And.intro (And.intro (@Tryz.kk131) (@Tryz.ag131)) (And.intro (@Tryz.ap131) (@Tryz.iu131)))) (And.intro (And.intro (@Tryz.se131) (And.intro (@Tryz.fl131_0) (@Tryz.fl131_1))) (And.intro (And.intro (@Tryz.fl131_2) (@Tryz.pl131)) (And.intro (@Tryz.ft131) (@Tryz.eg131))))
theorem tf153 : type_of% (And.intro (And.intro (And.intro (@Tryz.underlying153) (@Tryz.sz153)) (And.intro (@Tryz.by153) (@Tryz.kk153))) (And.intro (And.intro (@Tryz.sl153) (@Tryz.ag153)) (And.intro (@Tryz.ap153) (And.intro (@Tryz.iu153) (@Tryz.se153))))) := And.intro (And.intro (And.intro (@Tryz.underlying153) (@Tryz.sz153)) (And.intro (@Tryz.by153) (@Tryz.kk153))) (And.intro (And.intro (@Tryz.sl153) (@Tryz.ag153)) (And.intro (@Tryz.ap153) (And.intro (@Tryz.iu153) (@Tryz.se153))))
theorem tf161 : type_of% (And.intro (And.intro (And.intro (@Tryz.underlying161) (And.intro (@Tryz.sz161) (@Tryz.by161))) (And.intro (@Tryz.kk161) (And.intro (@Tryz.ar161) (@Tryz.pl161)))) (And.intro (And.intro (@Tryz.ag161) (And.intro (@Tryz.ap161) (@Tryz.iu161))) (And.intro (@Tryz.se161) (And.intro (@Tryz.ft161) (@Tryz.eg161))))) := And.intro (And.intro (And.intro (@Tryz.underlying161) (And.intro (@Tryz.sz161) (@Tryz.by161))) (And.intro (@Tryz.kk161) (And.intro (@Tryz.ar161) (@Tryz.pl161)))) (And.intro (And.intro (@Tryz.ag161) (And.intro (@Tryz.ap161) (@Tryz.iu161))) (And.intro (@Tryz.se161) (And.intro (@Tryz.ft161) (@Tryz.eg161))))
end Pv
