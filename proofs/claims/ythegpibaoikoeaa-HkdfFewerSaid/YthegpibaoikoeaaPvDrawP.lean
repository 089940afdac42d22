/- Part of the proof: the layer of pure values, or a walk through a function (PvDrawP). -/
import Derived.Test.YthegpibaoikoeaaPvDrawT
set_option linter.all false
namespace Pv
open Go Go.RowKit
variable {X : Ctx} {ops : Array Oper} {Q : Exit → PSt → PH → Prop}

/-- A plan with every order in it: `fx i re t rest`: i may come next (then t), or else rest. -/
inductive PT where
  | nil
  | no
  | mv (i : Nat) (t : PT)
  | fx (i : Nat) (re : List Nat) (t rest : PT)

def PT.heads : PT → List Nat
  | .fx i _ _ r => i :: r.heads
  | _ => []

def ptOk (P : Program) (ops : Array Oper) : Bool → List Nat → List Nat → PT → Bool
  | c, _, κ, .nil => !c && κ.isEmpty
  | c, _, _, .no => c
  | c, pend, κ, .mv i t => !c && (rdy P ops κ == some i) && ptOk P ops false (i :: pend) (κ.erase i) t
  | c, pend, κ, .fx i re t rest => (c || (rdy P ops κ == none && !κ.isEmpty && (alts P ops κ).all (PT.fx i re t rest).heads.contains)) &&
      (pend.filter fun j => !(anc ops i).contains j).all re.contains && ptOk P ops false (pend.filter fun j => !(anc ops i).contains j) (κ.erase i) t && ptOk P ops true pend κ rest

def vcT (X : Ctx) (ops : Array Oper) (Q : Exit → PSt → PH → Prop) : PT → PSt → PH → Prop
  | .nil, s, ph => Q .normal s ph
  | .no, _, _ => True
  | .mv i t, s, ph => match ops[i]? with
    | none => False
    | some o => match wantedP ops s o with
      | none => False
      | some b => (b = true → opVc X s ph o.op fun v ph' => ph' = ph ∧ vcT X ops Q t (s.put o.dst v) ph) ∧ (b = false → vcT X ops Q t (s.put o.dst (.tuple [])) ph)
  | .fx i re t rest, s, ph => (match ops[i]? with
    | none => False
    | some o => match wantedP ops s o with
      | none => False
      | some b => (b = true → opVc X s ph o.op fun v ph' => look X ops (s.put o.dst v) ph' re ∧ vcT X ops Q t (s.put o.dst v) ph') ∧ (b = false → vcT X ops Q t (s.put o.dst (.tuple [])) ph)) ∧ vcT X ops Q rest s ph

theorem vcT_both (T : PT) :
    (∀ (pend pend' κ : List Nat) (s : PSt) (ph : PH) (m : Nat), ptOk X.P ops false pend' κ T = true → (∀ u ∈ pend, u ∈ pend') → κ.length < m → vcT X ops Q T s ph → vcE X ops Q m pend κ s ph) ∧
    (∀ (c : Bool) (pend pend' κ : List Nat) (s : PSt) (ph : PH) (m : Nat), ptOk X.P ops c pend' κ T = true → (∀ u ∈ pend, u ∈ pend') → κ.length < m + 1 → vcT X ops Q T s ph → ∀ j ∈ T.heads, j ∈ κ → vcF X ops pend s ph j fun p' s' ph' => vcE X ops Q m p' (κ.erase j) s' ph') := by
  induction T with
  | nil =>
    refine ⟨fun pend pend' κ s ph m hk hs hm h => ?_, fun c pend pend' κ s ph m hk hs hm h j hj => by simp [PT.heads] at hj⟩
    have : κ = [] := by simpa [ptOk] using hk
    subst this
    cases m with
    | zero => cases hm
    | succ m => exact ⟨fun _ => h, fun j hj => by simp [alts] at hj⟩
  | no => exact ⟨fun pend pend' κ s ph m hk => by simp [ptOk] at hk, fun c pend pend' κ s ph m hk hs hm h j hj => by simp [PT.heads] at hj⟩
  | mv i t ih => 
    refine ⟨fun pend pend' κ s ph m hk hs hm h => ?_, fun c pend pend' κ s ph m hk hs hm h j hj => by simp [PT.heads] at hj⟩
    simp only [ptOk, Bool.not_false, Bool.true_and, Bool.and_eq_true, beq_iff_eq] at hk
    obtain ⟨hiκ, ⟨o, ho, hmv⟩, -⟩ := rdy_some hk.1
    cases m with
    | zero => cases hm
    | succ m =>
    have hl : (κ.erase i).length < m := by rw [List.length_erase_of_mem hiκ]; have := List.length_pos_of_mem hiκ; omega
    unfold vcE
    rw [hk.1]
    simp only [ho]
    simp only [vcT, ho] at h
    cases hw : wantedP ops s o with
    | none => rw [hw] at h; exact h
    | some b =>
      rw [hw] at h
      simp only at h ⊢
      refine ⟨fun hb => ?_, fun hb => ih.1 _ _ _ _ _ _ hk.2 (fun u hu => List.mem_cons_of_mem _ (hs u hu)) hl (h.2 hb)⟩
      obtain ⟨⟨v, ph'⟩, h1, h2, h3⟩ := opVc_pop hmv (h.1 hb)
      subst h2
      exact ⟨v, h1, ih.1 _ _ _ _ _ _ hk.2 (fun u hu => by rcases List.mem_cons.1 hu with rfl | hu; simp; exact List.mem_cons_of_mem _ (hs u hu)) hl h3⟩
  | fx i re t rest iht ihr =>
    have key : ∀ (c : Bool) (pend pend' κ : List Nat) (s : PSt) (ph : PH) (m : Nat), ptOk X.P ops c pend' κ (.fx i re t rest) = true → (∀ u ∈ pend, u ∈ pend') → κ.length < m + 1 → vcT X ops Q (.fx i re t rest) s ph → ∀ j ∈ (PT.fx i re t rest).heads, j ∈ κ → vcF X ops pend s ph j fun p' s' ph' => vcE X ops Q m p' (κ.erase j) s' ph' := by
      intro c pend pend' κ s ph m hk hs hm h j hj hjκ
      simp only [ptOk, Bool.and_eq_true] at hk
      obtain ⟨⟨⟨-, hre⟩, hkt⟩, hkr⟩ := hk
      rcases List.mem_cons.1 hj with rfl | hj
      · have h := h.1
        have hl : (κ.erase j).length < m := by rw [List.length_erase_of_mem hjκ]; have := List.length_pos_of_mem hjκ; omega
        have hf : ∀ u ∈ pend.filter (fun k => !(anc ops j).contains k), u ∈ pend'.filter (fun k => !(anc ops j).contains k) := by
          intro u hu
          rw [List.mem_filter] at hu ⊢
          exact ⟨hs u hu.1, hu.2⟩
        unfold vcF
        cases ho : ops[j]? with
        | none => rw [ho] at h; exact h
        | some o =>
          rw [ho] at h
          simp only at h ⊢
          cases hw : wantedP ops s o with
          | none => rw [hw] at h; exact h
          | some b =>
            rw [hw] at h
            simp only at h ⊢
            refine ⟨fun hb => opVc_mono' (fun v ph' hk => ⟨recheck_of_look hk.1 fun u hu => ?_, iht.1 _ _ _ _ _ _ hkt hf hl hk.2⟩) (h.1 hb), fun hb => iht.1 _ _ _ _ _ _ hkt hf hl (h.2 hb)⟩
            simpa using List.all_eq_true.1 hre u (hf u hu)
      · exact ihr.2 _ _ _ _ _ _ _ hkr hs hm h.2 j hj hjκ
    refine ⟨fun pend pend' κ s ph m hk hs hm h => ?_, key⟩
    have hk0 := hk
    simp only [ptOk, Bool.false_or, Bool.and_eq_true, beq_iff_eq] at hk
    obtain ⟨⟨⟨⟨⟨hr, hne⟩, hal⟩, -⟩, -⟩, -⟩ := hk
    cases m with
    | zero => cases hm
    | succ m =>
      unfold vcE
      rw [hr]
      refine ⟨fun e => by subst e; simp at hne, fun j hj => key _ _ _ _ _ _ _ hk0 hs hm h j (by simpa using List.all_eq_true.1 hal j hj) (List.mem_filter.1 hj).1⟩

theorem w_drawnT {ρ : Option Nat} {n0 id : Nat} {s : PSt} {ph : PH} (T : PT) (κ : List Nat) (N : Nat) (hm : X.P.follows .mixedOrders = true) (hok : (drawOkT X.P ops N κ && ptOk X.P ops false [] κ T) = true) (hN : N ≤ s.tm.length) (h : vcT X ops Q T s ph) : vc X ρ n0 (.region id ops true) Q s ph := by
  simp only [Bool.and_eq_true] at hok
  rw [w_draw]
  exact pwp_drawT0 (m := κ.length + 1) hm hok.1 hN ((vcT_both T).1 _ _ _ _ _ _ hok.2 (fun _ h => h) (by omega) h)

/-! The walk's equations -/
variable {s : PSt} {ph : PH} {o : Oper} {t rest : PT} {i : Nat} {mv : Bool} {re : List Nat}
def vtK (X : Ctx) (ops : Array Oper) (Q : Exit → PSt → PH → Prop) (mv : Bool) (re : List Nat) (t : PT) (s : PSt) (ph : PH) (dst : Option Tmp) : PV → PH → Prop := fun v ph' => match mv with
  | true => ph' = ph ∧ vcT X ops Q t (s.put dst v) ph
  | false => look X ops (s.put dst v) ph' re ∧ vcT X ops Q t (s.put dst v) ph'
def vtW (X : Ctx) (ops : Array Oper) (Q : Exit → PSt → PH → Prop) (mv : Bool) (re : List Nat) (t : PT) (s : PSt) (ph : PH) (o : Oper) : Option Bool → Prop
  | none => False
  | some b => (b = true → opVc X s ph o.op (vtK X ops Q mv re t s ph o.dst)) ∧ (b = false → vcT X ops Q t (s.put o.dst (.tuple [])) ph)
def vtO (X : Ctx) (ops : Array Oper) (Q : Exit → PSt → PH → Prop) (mv : Bool) (re : List Nat) (t : PT) (s : PSt) (ph : PH) : Option Oper → Prop
  | none => False
  | some o => vtW X ops Q mv re t s ph o (wantedP ops s o)
theorem t_nil : vcT X ops Q .nil s ph = Q .normal s ph := rfl
theorem t_no : vcT X ops Q .no s ph = True := rfl
theorem t_mv : vcT X ops Q (.mv i t) s ph = vtO X ops Q true [] t s ph ops[i]? := by
  conv => lhs; unfold vcT
  cases ops[i]? with
  | none => rfl
  | some o => simp only [vtO]; cases wantedP ops s o <;> rfl
theorem t_fx : vcT X ops Q (.fx i re t rest) s ph = (vtO X ops Q false re t s ph ops[i]? ∧ vcT X ops Q rest s ph) := by
  conv => lhs; unfold vcT
  cases ops[i]? with
  | none => rfl
  | some o => simp only [vtO]; cases wantedP ops s o <;> rfl
theorem t_op : vtO X ops Q mv re t s ph (some o) = vtW X ops Q mv re t s ph o (wantedP ops s o) := rfl
theorem t_true : vtW X ops Q mv re t s ph o (some true) = opVc X s ph o.op (vtK X ops Q mv re t s ph o.dst) := by simp [vtW]
theorem t_false : vtW X ops Q mv re t s ph o (some false) = vcT X ops Q t (s.put o.dst (.tuple [])) ph := by simp [vtW]
theorem t_mvk {dst : Option Tmp} {v : PV} : vtK X ops Q true re t s ph dst v ph = vcT X ops Q t (s.put dst v) ph := by simp [vtK]
theorem t_se {dst : Option Tmp} {v : PV} {ph' : PH} : vtK X ops Q false re t s ph dst v ph' = (look X ops (s.put dst v) ph' re ∧ vcT X ops Q t (s.put dst v) ph') := rfl
theorem t_se0 {dst : Option Tmp} {v : PV} {ph' : PH} : vtK X ops Q false [] t s ph dst v ph' = vcT X ops Q t (s.put dst v) ph' := by simp [vtK, look]
end Pv
