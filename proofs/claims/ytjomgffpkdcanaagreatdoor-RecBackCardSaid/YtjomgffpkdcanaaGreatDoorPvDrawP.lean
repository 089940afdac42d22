/- Part of the proof: the layer of pure values, or walks through functions (PvDrawP, PvDrawF, PvCxR, PvBits). -/
import Derived.Test.YtjomgffpkdcanaaGreatDoorPvB2
import Derived.Test.YtjomgffpkdcanaaGreatDoorPvNum
import Derived.Test.YtjomgffpkdcanaaGreatDoorPvFxR
set_option linter.all false
namespace Pv
open Go Go.RowKit
variable {X : Ctx} {ops : Array Oper} {Q : Exit → PSt → PH → Prop}

/-- A plan with every order in it: `fx i re t rest`: i may come next (then t), or else rest. -/
inductive PT where
  | nil
  | no
  | mv (i : Nat) (t : PT)
  | fx (i : Nat) (re : List Nat) (t rest : PT)

def PT.heads : PT → List Nat
  | .fx i _ _ r => i :: r.heads
  | _ => []

def ptOk (P : Program) (ops : Array Oper) : Bool → List Nat → List Nat → PT → Bool
  | c, _, κ, .nil => !c && κ.isEmpty
  | c, _, _, .no => c
  | c, pend, κ, .mv i t => !c && (rdy P ops κ == some i) && ptOk P ops false (i :: pend) (κ.erase i) t
  | c, pend, κ, .fx i re t rest => (c || (rdy P ops κ == none && !κ.isEmpty && (alts P ops κ).all (PT.fx i re t rest).heads.contains)) &&
      (pend.filter fun j => !(anc ops i).contains j).all re.contains && ptOk P ops false (pend.filter fun j => !(anc ops i).contains j) (κ.erase i) t && ptOk P ops true pend κ rest

def vcT (X : Ctx) (ops : Array Oper) (Q : Exit → PSt → PH → Prop) : PT → PSt → PH → Prop
  | .nil, s, ph => Q .normal s ph
  | .no, _, _ => True
  | .mv i t, s, ph => match ops[i]? with
    | none => False
    | some o => match wantedP ops s o with
      | none => False
      | some b => (b = true → opVc X s ph o.op fun v ph' => ph' = ph ∧ vcT X ops Q t (s.put o.dst v) ph) ∧ (b = false → vcT X ops Q t (s.put o.dst (.tuple [])) ph)
  | .fx i re t rest, s, ph => (match ops[i]? with
    | none => False
    | some o => match wantedP ops s o with
      | none => False
      | some b => (b = true → opVc X s ph o.op fun v ph' => look X ops (s.put o.dst v) ph' re ∧ vcT X ops Q t (s.put o.dst v) ph') ∧ (b = false → vcT X ops Q t (s.put o.dst (.tuple [])) ph)) ∧ vcT X ops Q rest s ph

theorem vcT_both (T : PT) :
    (∀ (pend pend' κ : List Nat) (s : PSt) (ph : PH) (m : Nat), ptOk X.P ops false pend' κ T = true → (∀ u ∈ pend, u ∈ pend') → κ.length < m → vcT X ops Q T s ph → vcE X ops Q m pend κ s ph) ∧
    (∀ (c : Bool) (pend pend' κ : List Nat) (s : PSt) (ph : PH) (m : Nat), ptOk X.P ops c pend' κ T = true → (∀ u ∈ pend, u ∈ pend') → κ.length < m + 1 → vcT X ops Q T s ph → ∀ j ∈ T.heads, j ∈ κ → vcF X ops pend s ph j fun p' s' ph' => vcE X ops Q m p' (κ.erase j) s' ph') := by
  induction T with
  | nil =>
    refine ⟨fun pend pend' κ s ph m hk hs hm h => ?_, fun c pend pend' κ s ph m hk hs hm h j hj => by simp [PT.heads] at hj⟩
    have : κ = [] := by simpa [ptOk] using hk
    subst this
    cases m with
    | zero => cases hm
    | succ m => exact ⟨fun _ => h, fun j hj => by simp [alts] at hj⟩
  | no => exact ⟨fun pend pend' κ s ph m hk => by simp [ptOk] at hk, fun c pend pend' κ s ph m hk hs hm h j hj => by simp [PT.heads] at hj⟩
  | mv i t ih => 
    refine ⟨fun pend pend' κ s ph m hk hs hm h => ?_, fun c pend pend' κ s ph m hk hs hm h j hj => by simp [PT.heads] at hj⟩
    simp only [ptOk, Bool.not_false, Bool.true_and, Bool.and_eq_true, beq_iff_eq] at hk
    obtain ⟨hiκ, ⟨o, ho, hmv⟩, -⟩ := rdy_some hk.1
    cases m with
    | zero => cases hm
    | succ m =>
    have hl : (κ.erase i).length < m := by rw [List.length_erase_of_mem hiκ]; have := List.length_pos_of_mem hiκ; omega
    unfold vcE
    rw [hk.1]
    simp only [ho]
    simp only [vcT, ho] at h
    cases hw : wantedP ops s o with
    | none => rw [hw] at h; exact h
    | some b =>
      rw [hw] at h
      simp only at h ⊢
      refine ⟨fun hb => ?_, fun hb => ih.1 _ _ _ _ _ _ hk.2 (fun u hu => List.mem_cons_of_mem _ (hs u hu)) hl (h.2 hb)⟩
      obtain ⟨⟨v, ph'⟩, h1, h2, h3⟩ := opVc_pop hmv (h.1 hb)
      subst h2
      exact ⟨v, h1, ih.1 _ _ _ _ _ _ hk.2 (fun u hu => by rcases List.mem_cons.1 hu with rfl | hu; simp; exact List.mem_cons_of_mem _ (hs u hu)) hl h3⟩
  | fx i re t rest iht ihr =>
    have key : ∀ (c : Bool) (pend pend' κ : List Nat) (s : PSt) (ph : PH) (m : Nat), ptOk X.P ops c pend' κ (.fx i re t rest) = true → (∀ u ∈ pend, u ∈ pend') → κ.length < m + 1 → vcT X ops Q (.fx i re t rest) s ph → ∀ j ∈ (PT.fx i re t rest).heads, j ∈ κ → vcF X ops pend s ph j fun p' s' ph' => vcE X ops Q m p' (κ.erase j) s' ph' := by
      intro c pend pend' κ s ph m hk hs hm h j hj hjκ
      simp only [ptOk, Bool.and_eq_true] at hk
      obtain ⟨⟨⟨-, hre⟩, hkt⟩, hkr⟩ := hk
      rcases List.mem_cons.1 hj with rfl | hj
      · have h := h.1
        have hl : (κ.erase j).length < m := by rw [List.length_erase_of_mem hjκ]; have := List.length_pos_of_mem hjκ; omega
        have hf : ∀ u ∈ pend.filter (fun k => !(anc ops j).contains k), u ∈ pend'.filter (fun k => !(anc ops j).contains k) := by
          intro u hu
          rw [List.mem_filter] at hu ⊢
          exact ⟨hs u hu.1, hu.2⟩
        unfold vcF
        cases ho : ops[j]? with
        | none => rw [ho] at h; exact h
        | some o =>
          rw [ho] at h
          simp only at h ⊢
          cases hw : wantedP ops s o with
          | none => rw [hw] at h; exact h
          | some b =>
            rw [hw] at h
            simp only at h ⊢
            refine ⟨fun hb => opVc_mono' (fun v ph' hk => ⟨recheck_of_look hk.1 fun u hu => ?_, iht.1 _ _ _ _ _ _ hkt hf hl hk.2⟩) (h.1 hb), fun hb => iht.1 _ _ _ _ _ _ hkt hf hl (h.2 hb)⟩
            simpa using List.all_eq_true.1 hre u (hf u hu)
      · exact ihr.2 _ _ _ _ _ _ _ hkr hs hm h.2 j hj hjκ
    refine ⟨fun pend pend' κ s ph m hk hs hm h => ?_, key⟩
    have hk0 := hk
    simp only [ptOk, Bool.false_or, Bool.and_eq_true, beq_iff_eq] at hk
    obtain ⟨⟨⟨⟨⟨hr, hne⟩, hal⟩, -⟩, -⟩, -⟩ := hk
    cases m with
    | zero => cases hm
    | succ m =>
      unfold vcE
      rw [hr]
      refine ⟨fun e => by subst e; simp at hne, fun j hj => key _ _ _ _ _ _ _ hk0 hs hm h j (by simpa using List.all_eq_true.1 hal j hj) (List.mem_filter.1 hj).1⟩

theorem w_drawnT {ρ : Option Nat} {n0 id : Nat} {s : PSt} {ph : PH} (T : PT) (κ : List Nat) (N : Nat) (hm : X.P.follows .mixedOrders = true) (hok : (drawOkT X.P ops N κ && ptOk X.P ops false [] κ T) = true) (hN : N ≤ s.tm.length) (h : vcT X ops Q T s ph) : vc X ρ n0 (.region id ops true) Q s ph := by
  simp only [Bool.and_eq_true] at hok
  rw [w_draw]
  exact pwp_drawT0 (m := κ.length + 1) hm hok.1 hN ((vcT_both T).1 _ _ _ _ _ _ hok.2 (fun _ h => h) (by omega) h)

/-! The walk's equations -/
variable {s : PSt} {ph : PH} {o : Oper} {t rest : PT} {i : Nat} {mv : Bool} {re : List Nat}
def vtK (X : Ctx) (ops : Array Oper) (Q : Exit → PSt → PH → Prop) (mv : Bool) (re : List Nat) (t : PT) (s : PSt) (ph : PH) (dst : Option Tmp) : PV → PH → Prop := fun v ph' => match mv with
  | true => ph' = ph ∧ vcT X ops Q t (s.put dst v) ph
  | false => look X ops (s.put dst v) ph' re ∧ vcT X ops Q t (s.put dst v) ph'
def vtW (X : Ctx) (ops : Array Oper) (Q : Exit → PSt → PH → Prop) (mv : Bool) (re : List Nat) (t : PT) (s : PSt) (ph : PH) (o : Oper) : Option Bool → Prop
  | none => False
  | some b => (b = true → opVc X s ph o.op (vtK X ops Q mv re t s ph o.dst)) ∧ (b = false → vcT X ops Q t (s.put o.dst (.tuple [])) ph)
def vtO (X : Ctx) (ops : Array Oper) (Q : Exit → PSt → PH → Prop) (mv : Bool) (re : List Nat) (t : PT) (s : PSt) (ph : PH) : Option Oper → Prop
  | none => False
  | some o => vtW X ops Q mv re t s ph o (wantedP ops s o)
theorem t_nil : vcT X ops Q .nil s ph = Q .normal s ph := rfl
theorem t_no : vcT X ops Q .no s ph = True := rfl
theorem t_mv : vcT X ops Q (.mv i t) s ph = vtO X ops Q true [] t s ph ops[i]? := by
  conv => lhs; unfold vcT
  cases ops[i]? with
  | none => rfl
  | some o => simp only [vtO]; cases wantedP ops s o <;> rfl
theorem t_fx : vcT X ops Q (.fx i re t rest) s ph = (vtO X ops Q false re t s ph ops[i]? ∧ vcT X ops Q rest s ph) := by
  conv => lhs; unfold vcT
  cases ops[i]? with
  | none => rfl
  | some o => simp only [vtO]; cases wantedP ops s o <;> rfl
theorem t_op : vtO X ops Q mv re t s ph (some o) = vtW X ops Q mv re t s ph o (wantedP ops s o) := rfl
theorem t_true : vtW X ops Q mv re t s ph o (some true) = opVc X s ph o.op (vtK X ops Q mv re t s ph o.dst) := by simp [vtW]
theorem t_false : vtW X ops Q mv re t s ph o (some false) = vcT X ops Q t (s.put o.dst (.tuple [])) ph := by simp [vtW]
theorem t_mvk {dst : Option Tmp} {v : PV} : vtK X ops Q true re t s ph dst v ph = vcT X ops Q t (s.put dst v) ph := by simp [vtK]
theorem t_se {dst : Option Tmp} {v : PV} {ph' : PH} : vtK X ops Q false re t s ph dst v ph' = (look X ops (s.put dst v) ph' re ∧ vcT X ops Q t (s.put dst v) ph') := rfl
theorem t_se0 {dst : Option Tmp} {v : PV} {ph' : PH} : vtK X ops Q false [] t s ph dst v ph' = vcT X ops Q t (s.put dst v) ph' := by simp [vtK, look]
end Pv

namespace Pv
open Go Go.RowKit
variable {X : Ctx} {ops : Array Oper} {Q : Exit → PSt → PH → Prop} {P : Program}

/-! ### The checks of a region's order, by a table of what stands ahead (clo itself goes every way) -/
abbrev Tab := List (List Nat)
def Tab.at (T : Tab) (i : Nat) : List Nat := T.getD i []
def tabAll (ops : Array Oper) (T : Tab) : Nat → List Oper → Bool
  | _, [] => true
  | i, o :: os => (edgesOf o).all (fun j => decide (j < i) && (T.at i).contains j && (T.at j).all (T.at i).contains) &&
      (T.at i).all (fun k => (edgesOf o).any fun j => k == j || (T.at j).contains k) && tabAll ops T (i + 1) os
def tabOk (ops : Array Oper) (T : Tab) : Bool := tabAll ops T 0 ops.toList

theorem tabAll_get {T : Tab} : ∀ {os : List Oper} {n : Nat}, tabAll ops T n os = true → ∀ {i : Nat} {o : Oper}, os[i]? = some o →
    (∀ j ∈ edgesOf o, j < n + i ∧ j ∈ T.at (n + i) ∧ ∀ k ∈ T.at j, k ∈ T.at (n + i)) ∧ ∀ k ∈ T.at (n + i), ∃ j ∈ edgesOf o, k = j ∨ k ∈ T.at j
  | [], _, _, i, o, h => by simp at h
  | a :: os, n, h, 0, o, ho => by
    simp at ho; subst ho
    simp only [tabAll, Bool.and_eq_true, List.all_eq_true, List.any_eq_true, decide_eq_true_eq, List.contains_iff_mem, beq_iff_eq, Bool.or_eq_true] at h
    exact ⟨fun j hj => ⟨(h.1.1 j hj).1.1, (h.1.1 j hj).1.2, (h.1.1 j hj).2⟩, h.1.2⟩
  | a :: os, n, h, i + 1, o, ho => by
    simp only [List.getElem?_cons_succ] at ho
    simp only [tabAll, Bool.and_eq_true] at h
    have := tabAll_get h.2 ho
    rwa [show n + 1 + i = n + (i + 1) by omega] at this

theorem tab_clo {T : Tab} (h : tabOk ops T = true) : ∀ (n i : Nat) (o : Oper), ops[i]? = some o → i < n → ∀ k, k ∈ clo ops n i ↔ k ∈ T.at i := by
  intro n
  induction n with
  | zero => intro i o _ hi; omega
  | succ n ih =>
    intro i o ho hi k
    have hg := tabAll_get h (i := i) (o := o) (by rw [Array.getElem?_toList]; exact ho)
    rw [Nat.zero_add] at hg
    rw [clo, ho]
    simp only [List.mem_flatMap, List.mem_cons]
    have hlt : i < ops.size := (Array.getElem?_eq_some_iff.1 ho).1
    constructor
    · rintro ⟨j, hj, hk⟩
      obtain ⟨h1, h2, h3⟩ := hg.1 j hj
      rcases hk with rfl | hk
      · exact h2
      · have hj2 : j < ops.size := by omega
        exact h3 k ((ih j ops[j] (Array.getElem?_eq_getElem hj2) (by omega) k).1 hk)
    · intro hk
      obtain ⟨j, hj, hk⟩ := hg.2 k hk
      obtain ⟨h1, h2, h3⟩ := hg.1 j hj
      have hj2 : j < ops.size := by omega
      refine ⟨j, hj, ?_⟩
      rcases hk with rfl | hk
      · exact .inl rfl
      · exact .inr ((ih j ops[j] (Array.getElem?_eq_getElem hj2) (by omega) k).2 hk)

theorem tab_anc {T : Tab} (h : tabOk ops T = true) {i j : Nat} (hi : i < ops.size) : (anc ops i).contains j = (T.at i).contains j := by
  rw [Bool.eq_iff_iff, List.contains_iff_mem, List.contains_iff_mem]
  exact tab_clo h ops.size i ops[i] (Array.getElem?_eq_getElem hi) hi j

/-- Is it so that.., for places in the region alone. -/
def inT (ops : Array Oper) (T : Tab) (i j : Nat) : Bool := (T.at i).contains j
theorem inT_anc {T : Tab} (h : tabOk ops T = true) {i j : Nat} {o : Oper} (ho : ops[i]? = some o) : (anc ops i).contains j = inT ops T i j := tab_anc h (Array.getElem?_eq_some_iff.1 ho).1

def atF (P : Program) (ops : Array Oper) (T : Tab) (N : Nat) (all pre post : List Nat) (i : Nat) : Bool :=
  match ops[i]? with
  | none => false
  | some o =>
    (edgesOf o).all (fun j => decide (j < i)) &&
    pre.all (fun j => match ops[j]? with
      | none => false
      | some p => movable P p.op || inT ops T i j) &&
    post.all (fun j => j != i && !inT ops T i j) &&
    (match o.dst with
      | none => !movable P o.op
      | some d => decide (d < N) && (!movable P o.op || !(readsOf ops o).contains d) &&
        all.all (fun j => j == i || match ops[j]? with
          | none => false
          | some p => !(namesOf ops p).contains d || inT ops T j i || (!movable P o.op && inT ops T i j)))
theorem atF_eq {T : Tab} (h : tabOk ops T = true) {N : Nat} {all pre post : List Nat} {i : Nat} : atF P ops T N all pre post i = atOk P ops N all pre post i := by
  unfold atF atOk
  cases ho : ops[i]? with
  | none => rfl
  | some o =>
    dsimp only
    have e : ∀ j, (anc ops i).contains j = inT ops T i j := fun j => inT_anc h ho
    simp only [e]
    congr 1
    cases o.dst with
    | none => rfl
    | some d =>
      dsimp only
      congr 2
      funext j
      cases hp : ops[j]? with
      | none => rfl
      | some p => dsimp only; rw [inT_anc h hp]
def chainF (P : Program) (ops : Array Oper) (T : Tab) (N : Nat) (all : List Nat) : List Nat → List Nat → Bool
  | _, [] => true
  | pre, i :: κ => atF P ops T N all pre κ i && chainF P ops T N all (pre ++ [i]) κ
theorem chainF_eq {T : Tab} (h : tabOk ops T = true) {N : Nat} {all : List Nat} : ∀ {κ pre : List Nat}, chainF P ops T N all pre κ = chainOk P ops N all pre κ
  | [], _ => rfl
  | i :: κ, pre => by rw [chainF, chainOk, atF_eq h, chainF_eq h]
def planF (P : Program) (ops : Array Oper) (T : Tab) : List Nat → Plan → Bool
  | _, [] => true
  | pend, (i, mv, re) :: κ => match ops[i]? with
    | none => false
    | some o => (mv == movable P o.op) && (match mv with
      | true => planF P ops T (i :: pend) κ
      | false => (pend.filter fun j => !inT ops T i j).all re.contains && planF P ops T (pend.filter fun j => !inT ops T i j) κ)
theorem planF_eq {T : Tab} (h : tabOk ops T = true) : ∀ {κ : Plan} {pend : List Nat}, planF P ops T pend κ = planOk P ops pend κ
  | [], _ => rfl
  | (i, mv, re) :: κ, pend => by
    unfold planF planOk
    cases ho : ops[i]? with
    | none => rfl
    | some o =>
      dsimp only
      have e : ∀ j, (anc ops i).contains j = inT ops T i j := fun j => inT_anc h ho
      cases mv <;> simp only [e, planF_eq h]
def drawF (P : Program) (ops : Array Oper) (T : Tab) (N : Nat) (κ : Plan) : Bool :=
  tabOk ops T && (κ.length == ops.size && (List.range ops.size).all (fun i => (κ.map (·.1)).contains i) && (κ.map (·.1)).all (fun i => decide (i < ops.size)) && chainF P ops T N (κ.map (·.1)) [] (κ.map (·.1))) && planF P ops T [] κ
theorem w_drawnF {ρ : Option Nat} {n0 id : Nat} {s : PSt} {ph : PH} (T : Tab) (κ : Plan) (N : Nat) (hm : X.P.follows .mixedOrders = true) (hok : drawF X.P ops T N κ = true) (hN : N ≤ s.tm.length) (h : vcP X ops Q κ s ph) : vc X ρ n0 (.region id ops true) Q s ph := by
  simp only [drawF, Bool.and_eq_true] at hok
  refine w_drawn κ N hm ?_ hN h
  rw [Bool.and_eq_true]
  refine ⟨?_, by rw [← planF_eq hok.1.1]; exact hok.2⟩
  unfold drawOk
  rw [← chainF_eq hok.1.1]
  simp only [Bool.and_eq_true, List.length_map]
  exact ⟨⟨⟨hok.1.2.1.1.1, hok.1.2.1.1.2⟩, hok.1.2.1.2⟩, hok.1.2.2⟩

/-! Trees -/
def atTF (P : Program) (ops : Array Oper) (T : Tab) (N : Nat) (all post : List Nat) (i : Nat) : Bool :=
  match ops[i]? with
  | none => false
  | some o =>
    (edgesOf o).all (fun j => decide (j < i)) &&
    post.all (fun j => j != i && !inT ops T i j) &&
    (match o.dst with
      | none => !movable P o.op
      | some d => decide (d < N) && (!movable P o.op || !(readsOf ops o).contains d) &&
        all.all (fun j => j == i || match ops[j]? with
          | none => false
          | some p => !(namesOf ops p).contains d || inT ops T j i || (!movable P o.op && inT ops T i j)))
theorem atTF_eq {T : Tab} (h : tabOk ops T = true) {N : Nat} {all post : List Nat} {i : Nat} : atTF P ops T N all post i = atT P ops N all post i := by
  unfold atTF atT
  cases ho : ops[i]? with
  | none => rfl
  | some o =>
    dsimp only
    have e : ∀ j, (anc ops i).contains j = inT ops T i j := fun j => inT_anc h ho
    simp only [e]
    congr 1
    cases o.dst with
    | none => rfl
    | some d =>
      dsimp only
      congr 2
      funext j
      cases hp : ops[j]? with
      | none => rfl
      | some p => dsimp only; rw [inT_anc h hp]
def chainTF (P : Program) (ops : Array Oper) (T : Tab) (N : Nat) (all : List Nat) : List Nat → Bool
  | [] => true
  | i :: κ => atTF P ops T N all κ i && chainTF P ops T N all κ
theorem chainTF_eq {T : Tab} (h : tabOk ops T = true) {N : Nat} {all : List Nat} : ∀ {κ : List Nat}, chainTF P ops T N all κ = chainT P ops N all κ
  | [] => rfl
  | i :: κ => by rw [chainTF, chainT, atTF_eq h, chainTF_eq h]
def altsF (P : Program) (ops : Array Oper) (T : Tab) (κ : List Nat) : List Nat :=
  κ.filter fun i => (match ops[i]? with | some o => !movable P o.op | none => false) && κ.all fun j => !inT ops T i j
def rdyF (P : Program) (ops : Array Oper) (T : Tab) (κ : List Nat) : Option Nat :=
  κ.find? fun i => (match ops[i]? with | some o => movable P o.op | none => false) && κ.all fun j => !inT ops T i j
theorem altsF_eq {T : Tab} (h : tabOk ops T = true) {κ : List Nat} : altsF P ops T κ = alts P ops κ := by
  unfold altsF alts
  congr 1; funext i
  cases ho : ops[i]? with
  | none => rfl
  | some o => simp only [fun j => inT_anc (j := j) h ho]
theorem rdyF_eq {T : Tab} (h : tabOk ops T = true) {κ : List Nat} : rdyF P ops T κ = rdy P ops κ := by
  unfold rdyF rdy
  congr 1; funext i
  cases ho : ops[i]? with
  | none => rfl
  | some o => simp only [fun j => inT_anc (j := j) h ho]
def ptF (P : Program) (ops : Array Oper) (T : Tab) : Bool → List Nat → List Nat → PT → Bool
  | c, _, κ, .nil => !c && κ.isEmpty
  | c, _, _, .no => c
  | c, pend, κ, .mv i t => !c && (rdyF P ops T κ == some i) && ptF P ops T false (i :: pend) (κ.erase i) t
  | c, pend, κ, .fx i re t rest => (c || (rdyF P ops T κ == none && !κ.isEmpty && (altsF P ops T κ).all (PT.fx i re t rest).heads.contains)) && (ops[i]?).isSome &&
      (pend.filter fun j => !inT ops T i j).all re.contains && ptF P ops T false (pend.filter fun j => !inT ops T i j) (κ.erase i) t && ptF P ops T true pend κ rest
theorem ptF_ok {T : Tab} (h : tabOk ops T = true) : ∀ {t : PT} {c : Bool} {pend κ : List Nat}, ptF P ops T c pend κ t = true → ptOk P ops c pend κ t = true
  | .nil, _, _, _, e => e
  | .no, _, _, _, e => e
  | .mv i t, c, pend, κ, e => by
    unfold ptF at e; unfold ptOk
    simp only [Bool.and_eq_true] at e ⊢
    rw [rdyF_eq h] at e
    exact ⟨e.1, ptF_ok h e.2⟩
  | .fx i re t rest, c, pend, κ, e => by
    unfold ptF at e; unfold ptOk
    rw [rdyF_eq h, altsF_eq h] at e
    simp only [Bool.and_eq_true] at e ⊢
    obtain ⟨⟨⟨⟨e1, e2⟩, e3⟩, e4⟩, e5⟩ := e
    obtain ⟨o, ho⟩ := Option.isSome_iff_exists.1 e2
    simp only [fun j => (inT_anc (j := j) h ho)]
    exact ⟨⟨⟨e1, e3⟩, ptF_ok h e4⟩, ptF_ok h e5⟩
def drawTF (P : Program) (ops : Array Oper) (A : Tab) (N : Nat) (κ : List Nat) (T : PT) : Bool :=
  tabOk ops A && (κ.length == ops.size && (List.range ops.size).all (fun i => κ.contains i) && κ.all (fun i => decide (i < ops.size)) && chainTF P ops A N κ κ) && ptF P ops A false [] κ T
theorem w_drawnTF {ρ : Option Nat} {n0 id : Nat} {s : PSt} {ph : PH} (A : Tab) (T : PT) (κ : List Nat) (N : Nat) (hm : X.P.follows .mixedOrders = true) (hok : drawTF X.P ops A N κ T = true) (hN : N ≤ s.tm.length) (h : vcT X ops Q T s ph) : vc X ρ n0 (.region id ops true) Q s ph := by
  simp only [drawTF, Bool.and_eq_true] at hok
  refine w_drawnT T κ N hm ?_ hN h
  rw [Bool.and_eq_true]
  refine ⟨?_, ptF_ok hok.1.1 hok.2⟩
  unfold drawOkT
  rw [← chainTF_eq hok.1.1]
  simp only [Bool.and_eq_true]
  exact ⟨⟨⟨hok.1.2.1.1.1, hok.1.2.1.1.2⟩, hok.1.2.1.2⟩, hok.1.2.2⟩
end Pv

namespace Pv
open Go Go.Proofs
noncomputable abbrev Cx (w0 : World) : Ctx := ⟨Tryz.prog, w0⟩
theorem tf1 : type_of% (And.intro (And.intro (And.intro (@Tryz.underlying1) (@Tryz.sz1)) (And.intro (@Tryz.by1) (@Tryz.kk1))) (And.intro (And.intro (@Tryz.ag1) (@Tryz.ap1)) (And.intro (@Tryz.iu1) (@Tryz.se1)))) := And.intro (And.intro (And.intro (@Tryz.underlying1) (@Tryz.sz1)) (And.intro (@Tryz.by1) (@Tryz.kk1))) (And.intro (And.intro (@Tryz.ag1) (@Tryz.ap1)) (And.intro (@Tryz.iu1) (@Tryz.se1)))
theorem tf3 : type_of% (And.intro (And.intro (And.intro (@Tryz.underlying3) (@Tryz.sz3)) (And.intro (@Tryz.by3) (@Tryz.kk3))) (And.intro (And.intro (@Tryz.ag3) (@Tryz.ap3)) (And.intro (@Tryz.iu3) (@Tryz.se3)))) := And.intro (And.intro (And.intro (@Tryz.underlying3) (@Tryz.sz3)) (And.intro (@Tryz.by3) (@Tryz.kk3))) (And.intro (And.intro (@Tryz.ag3) (@Tryz.ap3)) (And.intro (@Tryz.iu3) (@Tryz.se3)))
theorem tf4 : type_of% (And.intro (And.intro (And.intro (@Tryz.underlying4) (@Tryz.sz4)) (And.intro (@Tryz.by4) (@Tryz.kk4))) (And.intro (And.intro (@Tryz.ag4) (@Tryz.ap4)) (And.intro (@Tryz.iu4) (@Tryz.se4)))) := And.intro (And.intro (And.intro (@Tryz.underlying4) (@Tryz.sz4)) (And.intro (@Tryz.by4) (@Tryz.kk4))) (And.intro (And.intro (@Tryz.ag4) (@Tryz.ap4)) (And.intro (@Tryz.iu4) (@Tryz.se4)))
theorem tf5 : type_of% (And.intro (And.intro (And.intro (@Tryz.underlying5) (@Tryz.sz5)) (And.intro (@Tryz.by5) (@Tryz.kk5))) (And.intro (And.intro (@Tryz.ag5) (@Tryz.ap5)) (And.intro (@Tryz.iu5) (@Tryz.se5)))) := And.intro (And.intro (And.intro (@Tryz.underlying5) (@Tryz.sz5)) (And.intro (@Tryz.by5) (@Tryz.kk5))) (And.intro (And.intro (@Tryz.ag5) (@Tryz.ap5)) (And.intro (@Tryz.iu5) (@Tryz.se5)))
theorem tf9 : type_of% (And.intro (And.intro (And.intro (@Tryz.underlying9) (@Tryz.sz9)) (And.intro (@Tryz.by9) (@Tryz.kk9))) (And.intro (And.intro (@Tryz.ag9) (@Tryz.ap9)) (And.intro (@Tryz.iu9) (@Tryz.se9)))) := And.intro (And.intro (And.intro (@Tryz.underlying9) (@Tryz.sz9)) (And.intro (@Tryz.by9) (@Tryz.kk9))) (And.intro (And.intro (@Tryz.ag9) (@Tryz.ap9)) (And.intro (@Tryz.iu9) (@Tryz.se9)))
theorem tf21 : type_of% (And.intro (And.intro (And.intro (@Tryz.underlying21) (@Tryz.sz21)) (And.intro (@Tryz.by21) (@Tryz.kk21))) (And.intro (And.intro (@Tryz.ag21) (@Tryz.ap21)) (And.intro (@Tryz.iu21) (@Tryz.se21)))) := And.intro (And.intro (And.intro (@Tryz.underlying21) (@Tryz.sz21)) (And.intro (@Tryz.by21) (@Tryz.kk21))) (And.intro (And.intro (@Tryz.ag21) (@Tryz.ap21)) (And.intro (@Tryz.iu21) (@Tryz.se21)))
theorem tf22 : type_of% (And.intro (And.intro (And.intro (@Tryz.underlying22) (@Tryz.sz22)) (And.intro (@Tryz.by22) (@Tryz.kk22))) (And.intro (And.intro (@Tryz.ag22) (@Tryz.ap22)) (And.intro (@Tryz.iu22) (@Tryz.se22)))) := And.intro (And.intro (And.intro (@Tryz.underlying22) (@Tryz.sz22)) (And.intro (@Tryz.by22) (@Tryz.kk22))) (And.intro (And.intro (@Tryz.ag22) (@Tryz.ap22)) (And.intro (@Tryz.iu22) (@Tryz.se22)))
theorem tf24 : type_of% (And.intro (And.intro (And.intro (@Tryz.underlying24) (And.intro (@Tryz.sz24) (@Tryz.by24))) (And.intro (And.intro (@Tryz.kk24) (@Tryz.ag24)) (And.intro (@Tryz.ap24) (@Tryz.iu24)))) (And.intro (And.intro (@Tryz.se24) (And.intro (@Tryz.fl24_0) (@Tryz.fl24_1))) (And.intro (And.intro (@Tryz.fl24_2) (@Tryz.pl24)) (And.intro (@Tryz.ft24) (@Tryz.eg24))))) := And.intro (And.intro (And.intro (@Tryz.underlying24) (And.intro (@Tryz.sz24) (@Tryz.by24))) (And.intro (And.intro (@Tryz.kk24) (@Tryz.ag24)) (And.intro (@Tryz.ap24) (@Tryz.iu24)))) (And.intro (And.intro (@Tryz.se24) (And.intro (@Tryz.fl24_0) (@Tryz.fl24_1))) (And.intro (And.intro (@Tryz.fl24_2) (@Tryz.pl24)) (And.intro (@Tryz.ft24) (@Tryz.eg24))))
theorem tf26 : type_of% (And.intro (And.intro (And.intro (@Tryz.underlying26) (And.intro (@Tryz.sz26) (@Tryz.by26))) (And.intro (@Tryz.kk26) (And.intro (@Tryz.ag26) (@Tryz.ap26)))) (And.intro (And.intro (@Tryz.iu26) (And.intro (@Tryz.se26) (@Tryz.fl26_0))) (And.intro (And.intro (@Tryz.fl26_1) (@Tryz.pl26)) (And.intro (@Tryz.ft26) (@Tryz.eg26))))) := And.intro (And.intro (And.intro (@Tryz.underlying26) (And.intro (@Tryz.sz26) (@Tryz.by26))) (And.intro (@Tryz.kk26) (And.intro (@Tryz.ag26) (@Tryz.ap26)))) (And.intro (And.intro (@Tryz.iu26) (And.intro (@Tryz.se26) (@Tryz.fl26_0))) (And.intro (And.intro (@Tryz.fl26_1) (@Tryz.pl26)) (And.intro (@Tryz.ft26) (@Tryz.eg26))))
theorem tf27 : type_of% (And.intro (And.intro (And.intro (@Tryz.underlying27) (@Tryz.sz27)) (And.intro (@Tryz.by27) (@Tryz.kk27))) (And.intro (And.intro (@Tryz.ag27) (@Tryz.ap27)) (And.intro (@Tryz.iu27) (@Tryz.se27)))) := And.intro (And.intro (And.intro (@Tryz.underlying27) (@Tryz.sz27)) (And.intro (@Tryz.by27) (@Tryz.kk27))) (And.intro (And.intro (@Tryz.ag27) (@Tryz.ap27)) (And.intro (@Tryz.iu27) (@Tryz.se27)))
theorem tf29 : type_of% (And.intro (And.intro (And.intro (@Tryz.underlying29) (@Tryz.sz29)) (And.intro (@Tryz.by29) (@Tryz.kk29))) (And.intro (And.intro (@Tryz.ag29) (@Tryz.ap29)) (And.intro (@Tryz.iu29) (@Tryz.se29)))) := And.intro (And.intro (And.intro (@Tryz.underlying29) (@Tryz.sz29)) (And.intro (@Tryz.by29) (@Tryz.kk29))) (And.intro (And.intro (@Tryz.ag29) (@Tryz.ap29)) (And.intro (@Tryz.iu29) (@Tryz.se29)))
theorem tf39 : type_of% (And.intro (And.intro (And.intro (@Tryz.underlying39) (@Tryz.sz39)) (And.intro (@Tryz.by39) (@Tryz.kk39))) (And.intro (And.intro (@Tryz.sl39) (@Tryz.ag39)) (And.intro (@Tryz.ap39) (And.intro (@Tryz.iu39) (@Tryz.se39))))) := And.intro (And.intro (And.intro (@Tryz.underlying39) (@Tryz.sz39)) (And.intro (@Tryz.by39) (@Tryz.kk39))) (And.intro (And.intro (@Tryz.sl39) (@Tryz.ag39)) (And.intro (@Tryz.ap39) (And.intro (@Tryz.iu39) (@Tryz.se39))))
theorem tf46 : type_of% (And.intro (And.intro (And.intro (@Tryz.underlying46) (@Tryz.sz46)) (And.intro (@Tryz.by46) (@Tryz.kk46))) (And.intro (And.intro (@Tryz.ag46) (@Tryz.ap46)) (And.intro (@Tryz.iu46) (@Tryz.se46)))) := And.intro (And.intro (And.intro (@Tryz.underlying46) (@Tryz.sz46)) (And.intro (@Tryz.by46) (@Tryz.kk46))) (And.intro (And.intro (@Tryz.ag46) (@Tryz.ap46)) (And.intro (@Tryz.iu46) (@Tryz.se46)))
theorem tf49 : type_of% (And.intro (And.intro (And.intro (@Tryz.underlying49) (@Tryz.sz49)) (And.intro (@Tryz.by49) (@Tryz.kk49))) (And.intro (And.intro (@Tryz.sl49) (@Tryz.ag49)) (And.intro (@Tryz.ap49) (And.intro (@Tryz.iu49) (@Tryz.se49))))) := And.intro (And.intro (And.intro (@Tryz.underlying49) (@Tryz.sz49)) (And.intro (@Tryz.by49) (@Tryz.kk49))) (And.intro (And.intro (@Tryz.sl49) (@Tryz.ag49)) (And.intro (@Tryz.ap49) (And.intro (@Tryz.iu49) (@Tryz.se49))))
theorem tf56 : type_of% (And.intro (And.intro (And.intro (@Tryz.underlying56) (@Tryz.sz56)) (And.intro (@Tryz.by56) (And.intro (@Tryz.kk56) (@Tryz.ag56)))) (And.intro (And.intro (@Tryz.ap56) (@Tryz.iu56)) (And.intro (@Tryz.se56) (And.intro (@Tryz.fl56_2) (@Tryz.pl56))))) := And.intro (And.intro (And.intro (@Tryz.underlying56) (@Tryz.sz56)) (And.intro (@Tryz.by56) (And.intro (@Tryz.kk56) (@Tryz.ag56)))) (And.intro (And.intro (@Tryz.ap56) (@Tryz.iu56)) (And.intro (@Tryz.se56) (And.intro (@Tryz.fl56_2) (@Tryz.pl56))))
theorem tf58 : type_of% (And.intro (And.intro (And.intro (@Tryz.underlying58) (And.intro (@Tryz.sz58) (@Tryz.by58))) (And.intro (@Tryz.kk58) (And.intro (@Tryz.ag58) (@Tryz.ap58)))) (And.intro (And.intro (@Tryz.iu58) (And.intro (@Tryz.se58) (@Tryz.fl58_0))) (And.intro (@Tryz.fl58_1) (And.intro (@Tryz.fl58_2) (@Tryz.pl58))))) := And.intro (And.intro (And.intro (@Tryz.underlying58) (And.intro (@Tryz.sz58) (@Tryz.by58))) (And.intro (@Tryz.kk58) (And.intro (@Tryz.ag58) (@Tryz.ap58)))) (And.intro (And.intro (@Tryz.iu58) (And.intro (@Tryz.se58) (@Tryz.fl58_0))) (And.intro (@Tryz.fl58_1) (And.intro (@Tryz.fl58_2) (@Tryz.pl58))))
theorem tf81 : type_of% (And.intro (And.intro (And.intro (@Tryz.underlying81) (And.intro (@Tryz.sz81) (@Tryz.by81))) (And.intro (And.intro (@Tryz.kk81) (@Tryz.ag81)) (And.intro (@Tryz.ap81) (@Tryz.iu81)))) (And.intro (And.intro (And.intro (@Tryz.se81) (@Tryz.fl81_0)) (And.intro (@Tryz.fl81_1) (@Tryz.fl81_2))) (And.intro (And.intro (@Tryz.fl81_3) (@Tryz.pl81)) (And.intro (@Tryz.ft81) (@Tryz.eg81))))) := And.intro (And.intro (And.intro (@Tryz.underlying81) (And.intro (@Tryz.sz81) (@Tryz.by81))) (And.intro (And.intro (@Tryz.kk81) (@Tryz.ag81)) (And.intro (@Tryz.ap81) (@Tryz.iu81)))) (And.intro (And.intro (And.intro (@Tryz.se81) (@Tryz.fl81_0)) (And.intro (@Tryz.fl81_1) (@Tryz.fl81_2))) (And.intro (And.intro (@Tryz.fl81_3) (@Tryz.pl81)) (And.intro (@Tryz.ft81) (@Tryz.eg81))))
theorem tf88 : type_of% (And.intro (And.intro (And.intro (@Tryz.underlying88) (And.intro (@Tryz.sz88) (@Tryz.by88))) (And.intro (@Tryz.kk88) (And.intro (@Tryz.ar88) (@Tryz.pl88)))) (And.intro (And.intro (@Tryz.ag88) (And.intro (@Tryz.ap88) (@Tryz.iu88))) (And.intro (@Tryz.se88) (And.intro (@Tryz.ft88) (@Tryz.eg88))))) := And.intro (And.intro (And.intro (@Tryz.underlying88) (And.intro (@Tryz.sz88) (@Tryz.by88))) (And.intro (@Tryz.kk88) (And.intro (@Tryz.ar88) (@Tryz.pl88)))) (And.intro (And.intro (@Tryz.ag88) (And.intro (@Tryz.ap88) (@Tryz.iu88))) (And.intro (@Tryz.se88) (And.intro (@Tryz.ft88) (@Tryz.eg88))))
theorem tf92 : type_of% (And.intro (And.intro (And.intro (@Tryz.underlying92) (@Tryz.sz92)) (And.intro (@Tryz.by92) (@Tryz.kk92))) (And.intro (And.intro (@Tryz.ag92) (@Tryz.ap92)) (And.intro (@Tryz.iu92) (@Tryz.se92)))) := And.intro (And.intro (And.intro (@Tryz.underlying92) (@Tryz.sz92)) (And.intro (@Tryz.by92) (@Tryz.kk92))) (And.intro (And.intro (@Tryz.ag92) (@Tryz.ap92)) (And.intro (@Tryz.iu92) (@Tryz.se92)))
theorem tf98 : type_of% (And.intro (And.intro (And.intro (@Tryz.underlying98) (@Tryz.sz98)) (And.intro (@Tryz.by98) (@Tryz.kk98))) (And.intro (And.intro (@Tryz.ag98) (@Tryz.ap98)) (And.intro (@Tryz.iu98) (@Tryz.se98)))) := And.intro (And.intro (And.intro (@Tryz.underlying98) (@Tryz.sz98)) (And.intro (@Tryz.by98) (@Tryz.kk98))) (And.intro (And.intro (@Tryz.ag98) (@Tryz.ap98)) (And.intro (@Tryz.iu98) (@Tryz.se98)))
theorem tf99 : type_of% (And.intro (And.intro (And.intro (@Tryz.underlying99) (@Tryz.sz99)) (And.intro (@Tryz.by99) (@Tryz.kk99))) (And.intro (And.intro (@Tryz.ag99) (@Tryz.ap99)) (And.intro (@Tryz.iu99) (@Tryz.se99)))) := And.intro (And.intro (And.intro (@Tryz.underlying99) (@Tryz.sz99)) (And.intro (@Tryz.by99) (@Tryz.kk99))) (And.intro (And.intro (@Tryz.ag99) (@Tryz.ap99)) (And.intro (@Tryz.iu99) (@Tryz.se99)))
theorem tf117 : type_of% (And.intro (And.intro (And.intro (@Tryz.underlying117) (@Tryz.sz117)) (And.intro (@Tryz.by117) (@Tryz.kk117))) (And.intro (And.intro (@Tryz.ag117) (@Tryz.ap117)) (And.intro (@Tryz.iu117) (@Tryz.se117)))) := And.intro (And.intro (And.intro (@Tryz.underlying117) (@Tryz.sz117)) (And.intro (@Tryz.by117) (@Tryz.kk117))) (And.intro (And.intro (@Tryz.ag117) (@Tryz.ap117)) (And.intro (@Tryz.iu117) (@Tryz.se117)))
theorem tf120 : type_of% (And.intro (And.intro (And.intro (@Tryz.underlying120) (And.intro (@Tryz.sz120) (@Tryz.by120))) (And.intro (@Tryz.kk120) (And.intro (@Tryz.ar120) (@Tryz.pl120)))) (And.intro (And.intro (@Tryz.ag120) (And.intro (@Tryz.ap120) (@Tryz.iu120))) (And.intro (@Tryz.se120) (And.intro (@Tryz.ft120) (@Tryz.eg120))))) := And.intro (And.intro (And.intro (@Tryz.underlying120) (And.intro (@Tryz.sz120) (@Tryz.by120))) (And.intro (@Tryz.kk120) (And.intro (@Tryz.ar120) (@Tryz.pl120)))) (And.intro (And.intro (@Tryz.ag120) (And.intro (@Tryz.ap120) (@Tryz.iu120))) (And.intro (@Tryz.se120) (And.intro (@Tryz.ft120) (@Tryz.eg120))))
theorem tf121 : type_of% (And.intro (And.intro (And.intro (@Tryz.underlying121) (And.intro (@Tryz.sz121) (@Tryz.by121))) (And.intro (@Tryz.kk121) (And.intro (@Tryz.ar121) (@Tryz.pl121)))) (And.intro (And.intro (@Tryz.ag121) (And.intro (@Tryz.ap121) (@Tryz.iu121))) (And.intro (@Tryz.se121) (And.intro (@Tryz.ft121) (@Tryz.eg121))))) := And.intro (And.intro (And.intro (@Tryz.underlying121) (And.intro (@Tryz.sz121) (@Tryz.by121))) (And.intro (@Tryz.kk121) (And.intro (@Tryz.ar121) (@Tryz.pl121)))) (And.intro (And.intro (@Tryz.ag121) (And.intro (@Tryz.ap121) (@Tryz.iu121))) (And.intro (@Tryz.se121) (And.intro (@Tryz.ft121) (@Tryz.eg121))))
theorem tf124 : type_of% (And.intro (And.intro (And.intro (@Tryz.underlying124) (And.intro (@Tryz.sz124) (@Tryz.by124))) (And.intro (@Tryz.kk124) (And.intro (@Tryz.ar124) (@Tryz.pl124)))) (And.intro (And.intro (@Tryz.ag124) (And.intro (@Tryz.ap124) (@Tryz.iu124))) (And.intro (@Tryz.se124) (And.intro (@Tryz.ft124) (@Tryz.eg124))))) := And.intro (And.intro (And.intro (@Tryz.underlying124) (And.intro (@Tryz.sz124) (@Tryz.by124))) (And.intro (@Tryz.kk124) (And.intro (@Tryz.ar124) (@Tryz.pl124)))) (And.intro (And.intro (@Tryz.ag124) (And.intro (@Tryz.ap124) (@Tryz.iu124))) (And.intro (@Tryz.se124) (And.intro (@Tryz.ft124) (@Tryz.eg124))))
theorem tf127 : type_of% (And.intro (And.intro (And.intro (@Tryz.underlying127) (@Tryz.sz127)) (And.intro (@Tryz.by127) (@Tryz.kk127))) (And.intro (And.intro (@Tryz.ag127) (@Tryz.ap127)) (And.intro (@Tryz.iu127) (@Tryz.se127)))) := And.intro (And.intro (And.intro (@Tryz.underlying127) (@Tryz.sz127)) (And.intro (@Tryz.by127) (@Tryz.kk127))) (And.intro (And.intro (@Tryz.ag127) (@Tryz.ap127)) (And.intro (@Tryz.iu127) (@Tryz.se127)))
theorem tf128 : type_of% (And.intro (And.intro (And.intro (@Tryz.underlying128) (@Tryz.sz128)) (And.intro (@Tryz.by128) (@Tryz.kk128))) (And.intro (And.intro (@Tryz.sl128) (@Tryz.ag128)) (And.intro (@Tryz.ap128) (And.intro (@Tryz.iu128) (@Tryz.se128))))) := And.intro (And.intro (And.intro (@Tryz.underlying128) (@Tryz.sz128)) (And.intro (@Tryz.by128) (@Tryz.kk128))) (And.intro (And.intro (@Tryz.sl128) (@Tryz.ag128)) (And.intro (@Tryz.ap128) (And.intro (@Tryz.iu128) (@Tryz.se128))))
theorem tf135 : type_of% (And.intro (And.intro (And.intro (@Tryz.underlying135) (@Tryz.sz135)) (And.intro (@Tryz.by135) (And.intro (@Tryz.kk135) (@Tryz.ag135)))) (And.intro (And.intro (@Tryz.ap135) (@Tryz.iu135)) (And.intro (@Tryz.se135) (And.intro (@Tryz.fl135_1) (@Tryz.pl135))))) := And.intro (And.intro (And.intro (@Tryz.underlying135) (@Tryz.sz135)) (And.intro (@Tryz.by135) (And.intro (@Tryz.kk135) (@Tryz.ag135)))) (And.intro (And.intro (@Tryz.ap135) (@Tryz.iu135)) (And.intro (@Tryz.se135) (And.intro (@Tryz.fl135_1) (@Tryz.pl135))))
theorem tf137 : type_of% (And.intro (And.intro (And.intro (@Tryz.underlying137) (@Tryz.sz137)) (And.intro (@Tryz.by137) (And.intro (@Tryz.kk137) (@Tryz.ag137)))) (And.intro (And.intro (@Tryz.ap137) (And.intro (@Tryz.iu137) (@Tryz.se137))) (And.intro (@Tryz.fl137_0) (And.intro (@Tryz.fl137_1) (@Tryz.pl137))))) := And.intro (And.intro (And.intro (@Tryz.underlying137) (@Tryz.sz137)) (And.intro (@Tryz.by137) (And.intro (@Tryz.kk137) (@Tryz.ag137)))) (And.intro (And.intro (@Tryz.ap137) (And.intro (@Tryz.iu137) (@Tryz.se137))) (And.intro (@Tryz.fl137_0) (And.intro (@Tryz.fl137_1) (@Tryz.pl137))))
theorem tf139 : type_of% (And.intro (And.intro (And.intro (@Tryz.underlying139) (@Tryz.sz139)) (And.intro (@Tryz.by139) (And.intro (@Tryz.kk139) (@Tryz.ag139)))) (And.intro (And.intro (@Tryz.ap139) (@Tryz.iu139)) (And.intro (@Tryz.se139) (And.intro (@Tryz.fl139_1) (@Tryz.pl139))))) := And.intro (And.intro (And.intro (@Tryz.underlying139) (@Tryz.sz139)) (And.intro (@Tryz.by139) (And.intro (@Tryz.kk139) (@Tryz.ag139)))) (And.intro (And.intro (@Tryz.ap139) (@Tryz.iu139)) (And.intro (@Tryz.se139) (And.intro (@Tryz.fl139_1) (@Tryz.pl139))))
theorem tf141 : type_of% (And.intro (And.intro (And.intro (@Tryz.underlying141) (@Tryz.sz141)) (And.intro (@Tryz.by141) (And.intro (@Tryz.kk141) (@Tryz.ag141)))) (And.intro (And.intro (@Tryz.ap141) (And.intro (@Tryz.iu141) (@Tryz.se141))) (And.intro (@Tryz.fl141_1) (And.intro (@Tryz.fl141_2) (@Tryz.pl141))))) := And.intro (And.intro (And.intro (@Tryz.underlying141) (@Tryz.sz141)) (And.intro (@Tryz.by141) (And.intro (@Tryz.kk141) (@Tryz.ag141)))) (And.intro (And.intro (@Tryz.ap141) (And.intro (@Tryz.iu141) (@Tryz.se141))) (And.intro (@Tryz.fl141_1) (And.intro (@Tryz.fl141_2) (@Tryz.pl141))))
theorem tf142 : type_of% (And.intro (And.intro (And.intro (@Tryz.underlying142) (And.intro (@Tryz.sz142) (@Tryz.by142))) (And.intro (@Tryz.kk142) (And.intro (@Tryz.ar142) (@Tryz.pl142)))) (And.intro (And.intro (@Tryz.ag142) (And.intro (@Tryz.ap142) (@Tryz.iu142))) (And.intro (@Tryz.se142) (And.intro (@Tryz.ft142) (@Tryz.eg142))))) := And.intro (And.intro (And.intro (@Tryz.underlying142) (And.intro (@Tryz.sz142) (@Tryz.by142))) (And.intro (@Tryz.kk142) (And.intro (@Tryz.ar142) (@Tryz.pl142)))) (And.intro (And.intro (@Tryz.ag142) (And.intro (@Tryz.ap142) (@Tryz.iu142))) (And.intro (@Tryz.se142) (And.intro (@Tryz.ft142) (@Tryz.eg142))))
theorem tf143 : type_of% (And.intro (And.intro (And.intro (@Tryz.underlying143) (@Tryz.sz143)) (And.intro (@Tryz.by143) (And.intro (@Tryz.kk143) (@Tryz.ar143)))) (And.intro (And.intro (@Tryz.pl143) (@Tryz.ag143)) (And.intro (@Tryz.ap143) (And.intro (@Tryz.iu143) (@Tryz.se143))))) := And.intro (And.intro (And.intro (@Tryz.underlying143) (@Tryz.sz143)) (And.intro (@Tryz.by143) (And.intro (@Tryz.kk143) (@Tryz.ar143)))) (And.intro (And.intro (@Tryz.pl143) (@Tryz.ag143)) (And.intro (@Tryz.ap143) (And.intro (@Tryz.iu143) (@Tryz.se143))))
theorem tf144 : type_of% (And.intro (And.intro (And.intro (@Tryz.underlying144) (@Tryz.sz144)) (And.intro (@Tryz.by144) (@Tryz.kk144))) (And.intro (And.intro (@Tryz.sl144) (@Tryz.ag144)) (And.intro (@Tryz.ap144) (And.intro (@Tryz.iu144) (@Tryz.se144))))) := And.intro (And.intro (And.intro (@Tryz.underlying144) (@Tryz.sz144)) (And.intro (@Tryz.by144) (@Tryz.kk144))) (And.intro (And.intro (@Tryz.sl144) (@Tryz.ag144)) (And.intro (@Tryz.ap144) (And.intro (@Tryz.iu144) (@Tryz.se144))))
theorem tf146 : type_of% (And.intro (And.intro (And.intro (@Tryz.underlying146) (And.intro (@Tryz.sz146) (@Tryz.by146))) (And.intro (And.intro (@Tryz.kk146) (@Tryz.ag146)) (And.intro (@Tryz.ap146) (@Tryz.iu146)))) (And.intro (And.intro (And.intro (@Tryz.se146) (@Tryz.fl146_0)) (And.intro (@Tryz.fl146_1) (@Tryz.fl146_2))) (And.intro (And.intro (@Tryz.fl146_3) (@Tryz.fl146_4)) (And.intro (@Tryz.fl146_5) (@Tryz.pl146))))) := And.intro (And.intro (And.intro (@Tryz.underlying146) (And.intro (@Tryz.sz146) (@Tryz.by146))) (And.intro (And.intro (@Tryz.kk146) (@Tryz.ag146)) (And.intro (@Tryz.ap146) (@Tryz.iu146)))) (And.intro (And.intro (And.intro (@Tryz.se146) (@Tryz.fl146_0)) (And.intro (@Tryz.fl146_1) (@Tryz.fl146_2))) (And.intro (And.intro (@Tryz.fl146_3) (@Tryz.fl146_4)) (And.intro (@Tryz.fl146_5) (@Tryz.pl146))))
theorem tf152 : type_of% (And.intro (And.intro (And.intro (@Tryz.underlying152) (@Tryz.sz152)) (And.intro (@Tryz.by152) (@Tryz.kk152))) (And.intro (And.intro (@Tryz.ag152) (@Tryz.ap152)) (And.intro (@Tryz.iu152) (@Tryz.se152)))) := And.intro (And.intro (And.intro (@Tryz.underlying152) (@Tryz.sz152)) (And.intro (@Tryz.by152) (@Tryz.kk152))) (And.intro (And.intro (@Tryz.ag152) (@Tryz.ap152)) (And.intro (@Tryz.iu152) (@Tryz.se152)))
theorem tf154 : type_of% (And.intro (And.intro (And.intro (@Tryz.underlying154) (@Tryz.sz154)) (And.intro (@Tryz.by154) (@Tryz.kk154))) (And.intro (And.intro (@Tryz.ag154) (@Tryz.ap154)) (And.intro (@Tryz.iu154) (@Tryz.se154)))) := And.intro (And.intro (And.intro (@Tryz.underlying154) (@Tryz.sz154)) (And.intro (@Tryz.by154) (@Tryz.kk154))) (And.intro (And.intro (@Tryz.ag154) (@Tryz.ap154)) (And.intro (@Tryz.iu154) (@Tryz.se154)))
theorem tf155 : type_of% (And.intro (And.intro (And.intro (@Tryz.underlying155) (And.intro (@Tryz.sz155) (@Tryz.by155))) (And.intro (@Tryz.kk155) (And.intro (@Tryz.ar155) (@Tryz.pl155)))) (And.intro (And.intro (@Tryz.ag155) (And.intro (@Tryz.ap155) (@Tryz.iu155))) (And.intro (@Tryz.se155) (And.intro (@Tryz.ft155) (@Tryz.eg155))))) := And.intro (And.intro (And.intro (@Tryz.underlying155) (And.intro (@Tryz.sz155) (@Tryz.by155))) (And.intro (@Tryz.kk155) (And.intro (@Tryz.ar155) (@Tryz.pl155)))) (And.intro (And.intro (@Tryz.ag155) (And.intro (@Tryz.ap155) (@Tryz.iu155))) (And.intro (@Tryz.se155) (And.intro (@Tryz.ft155) (@Tryz.eg155))))
theorem tf168 : type_of% (And.intro (And.intro (And.intro (@Tryz.underlying168) (@Tryz.sz168)) (And.intro (@Tryz.by168) (@Tryz.kk168))) (And.intro (And.intro (@Tryz.sl168) (@Tryz.ag168)) (And.intro (@Tryz.ap168) (And.intro (@Tryz.iu168) (@Tryz.se168))))) := And.intro (And.intro (And.intro (@Tryz.underlying168) (@Tryz.sz168)) (And.intro (@Tryz.by168) (@Tryz.kk168))) (And.intro (And.intro (@Tryz.sl168) (@Tryz.ag168)) (And.intro (@Tryz.ap168) (And.intro (@Tryz.iu168) (@Tryz.se168))))
theorem tf179 : type_of% (And.intro (And.intro (And.intro (@Tryz.underlying179) (@Tryz.sz179)) (And.intro (@Tryz.by179) (@Tryz.kk179))) (And.intro (And.intro (@Tryz.sl179) (@Tryz.ag179)) (And.intro (@Tryz.ap179) (And.intro (@Tryz.iu179) (@Tryz.se179))))) := And.intro (And.intro (And.intro (@Tryz.underlying179) (@Tryz.sz179)) (And.intro (@Tryz.by179) (@Tryz.kk179))) (And.intro (And.intro (@Tryz.sl179) (@Tryz.ag179)) (And.intro (@Tryz.ap179) (And.intro (@Tryz.iu179) (@Tryz.se179))))
end Pv

namespace Pv
open Go Go.RowKit

/-! ### Bits of numbers -/
theorem ofInt_nat (w n : Nat) : BitVec.ofInt w (n : Int) = BitVec.ofNat w n := by simp

theorem xor_u8 (a b : UInt8) : bitsP .xor .u8 a.toNat b.toNat = ((a ^^^ b).toNat : Int) := by
  have h1 := a.toNat_lt; have h2 := b.toNat_lt
  show IntKind.wrap .u8 (((BitVec.ofInt 8 (a.toNat : Int)) ^^^ (BitVec.ofInt 8 (b.toNat : Int))).toNat : Int) = _
  rw [ofInt_nat, ofInt_nat, BitVec.toNat_xor, BitVec.toNat_ofNat, BitVec.toNat_ofNat, Nat.mod_eq_of_lt h1, Nat.mod_eq_of_lt h2, ← UInt8.toNat_xor]
  exact wrap_u8_b _
theorem and_u8 (a b : UInt8) : bitsP .and .u8 a.toNat b.toNat = ((a &&& b).toNat : Int) := by
  have h1 := a.toNat_lt; have h2 := b.toNat_lt
  show IntKind.wrap .u8 (((BitVec.ofInt 8 (a.toNat : Int)) &&& (BitVec.ofInt 8 (b.toNat : Int))).toNat : Int) = _
  rw [ofInt_nat, ofInt_nat, BitVec.toNat_and, BitVec.toNat_ofNat, BitVec.toNat_ofNat, Nat.mod_eq_of_lt h1, Nat.mod_eq_of_lt h2, ← UInt8.toNat_and]
  exact wrap_u8_b _
theorem or_u8 (a b : UInt8) : bitsP .or .u8 a.toNat b.toNat = ((a ||| b).toNat : Int) := by
  have h1 := a.toNat_lt; have h2 := b.toNat_lt
  show IntKind.wrap .u8 (((BitVec.ofInt 8 (a.toNat : Int)) ||| (BitVec.ofInt 8 (b.toNat : Int))).toNat : Int) = _
  rw [ofInt_nat, ofInt_nat, BitVec.toNat_or, BitVec.toNat_ofNat, BitVec.toNat_ofNat, Nat.mod_eq_of_lt h1, Nat.mod_eq_of_lt h2, ← UInt8.toNat_or]
  exact wrap_u8_b _

end Pv
