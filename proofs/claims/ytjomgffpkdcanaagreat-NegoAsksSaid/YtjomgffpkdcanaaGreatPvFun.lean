/- Part of the proof: the layer of pure values, or walks through functions (PvFun). -/
import Derived.Test.YtjomgffpkdcanaaGreatPvVc
set_option linter.all false
namespace Pv
open Go Go.RowKit
variable {X : Ctx} {G : Ghost} {ph : PH} {w : World} {ρ : Option Nat} {n0 : Nat} {Q : Exit → PSt → PH → Prop}

/-! ### Freezing -/
theorem frzs_len {ph : PH} {n d : Nat} : ∀ {ps qs : List PV}, frzs ph n d ps = some qs → qs.length = ps.length
  | [], qs, h => by unfold frzs at h; cases h; rfl
  | p :: ps, qs, h => by
    unfold frzs at h
    split at h
    · rename_i p' ps' h1 h2; cases h; simp [frzs_len h2]
    · cases h

theorem frzs_of {ph : PH} {n d : Nat} {G' : Ghost} (ih : ∀ p v p', RV G p v → frz ph n d p = some p' → RV G' p' v) : ∀ {ps : List PV} {vs : List Value} {qs : List PV}, RVs G ps vs → frzs ph n d ps = some qs → RVs G' qs vs
  | [], vs, qs, h, hf => by cases h; unfold frzs at hf; cases hf; exact .nil
  | p :: ps, vs, qs, h, hf => by
    cases h with
    | cons _ v _ vs h1 h2 =>
      unfold frzs at hf
      split at hf
      · rename_i p' ps' e1 e2; cases hf
        exact .cons _ _ _ _ (ih _ _ _ h1 e1) (frzs_of ih h2 e2)
      · cases hf

theorem leN_frozen (G : Ghost) (ph : PH) (w : World) (n : Nat) : LeN n G (frozenGhost G ph w n) :=
  ⟨fun i L hi h => by simp only [frozenGhost]; rw [List.getElem?_take, if_pos hi]; exact h, fun a v h => by simp only [frozenGhost, h], fun p m x hp h => by simp only [frozenGhost, if_pos hp]; exact h⟩

theorem frozen_new (h : Rel X G ph w) {n p : Nat} {cells : List PV} {L : Loc} {k : Nat} {v : Value} (hn : n ≤ p) (hp : ph.get p = some cells) (hL : G.l[p]? = some L) (hv : w.cell? ⟨L.b, k, none⟩ = some v) : (frozenGhost G ph w n).f ⟨L.b, k, none⟩ = some v := by
  have h0 : G.f ⟨L.b, k, none⟩ = none := by
    cases e : G.f ⟨L.b, k, none⟩ with
    | none => rfl
    | some u => exact absurd rfl (h.fdisj _ _ p cells L e hp hL)
  simp only [frozenGhost, h0]
  rw [if_pos ⟨rfl, p, cells, L, hn, hp, hL, rfl⟩]
  exact hv

theorem frz_cellB {ph : PH} {n d : Nat} {p q : PV} (h : frz ph n d p = some q) : q.cellB = p.cellB := by
  cases d with
  | zero => unfold frz at h; cases h
  | succ d =>
    unfold frz at h
    split at h
    all_goals first
      | (cases h; rfl)
      | (cases h; done)
      | (simp only [Option.map_eq_some_iff] at h; obtain ⟨c, -, rfl⟩ := h; rfl)
      | (split at h
         all_goals first
          | (cases h; rfl)
          | (cases h; done)
          | (simp only [Option.map_eq_some_iff] at h; obtain ⟨c, -, rfl⟩ := h; rfl)
          | (split at h
             all_goals first
              | (cases h; done)
              | (split at h
                 all_goals first
                  | (cases h; done)
                  | (simp only [Option.map_eq_some_iff] at h; obtain ⟨c, -, rfl⟩ := h; rfl))))

theorem frzs_cellB {ph : PH} {n d : Nat} : ∀ {ps qs : List PV}, frzs ph n d ps = some qs → (∀ c ∈ ps, c.cellB = true) → ∀ c ∈ qs, c.cellB = true
  | [], qs, h, _ => by unfold frzs at h; cases h; simp
  | p :: ps, qs, h, hc => by
    unfold frzs at h
    split at h
    · rename_i p' ps' h1 h2; cases h
      intro c hm
      rcases List.mem_cons.1 hm with rfl | hm
      · rw [frz_cellB h1]; exact hc p (by simp)
      · exact frzs_cellB h2 (fun c hc' => hc c (List.mem_cons_of_mem _ hc')) c hm
    · cases h

theorem frz_ok (h : Rel X G ph w) (n : Nat) : ∀ (d : Nat) (p : PV) (v : Value) (p' : PV), RV G p v → frz ph n d p = some p' → RV (frozenGhost G ph w n) p' v := by
  intro d
  induction d with
  | zero => intro p v p' _ hf; unfold frz at hf; cases hf
  | succ d ih =>
    have hN := leN_frozen G ph w n
    intro p v p' hr hf
    unfold frz at hf
    split at hf
    · cases hf; exact .undef _
    · cases hf; cases hr; exact .bool _
    · cases hf; cases hr; exact .int _ _
    · cases hf; cases hr; exact .str _ _ ‹_›
    · cases hf; cases hr; exact .nilptr
    · cases hf; cases hr; exact .nilsl
    · cases hf; cases hr; exact .zsl _
    · cases hf; cases hr; exact .nilfunc
    · cases hf; cases hr; exact .nilif
    · cases hf; cases hr; exact .yield _
    · split at hf
      · rename_i hp; cases hf; exact hr.monoN hN hp
      · cases hf
    · rename_i p off esz len cap
      split at hf
      · rename_i hp; cases hf; exact hr.monoN hN hp
      · rename_i hp
        split at hf
        · rename_i cells hg
          split at hf
          · rename_i hle
            simp only [Option.map_eq_some_iff] at hf
            obtain ⟨cells', hc, rfl⟩ := hf
            obtain ⟨L, vals, cs, e, fz, hL, o⟩ := h.own p cells hg
            cases hr with
            | sl _ _ _ _ _ L' a rcap hL' h1 h2 h3 h4 =>
              rw [hL] at hL'
              obtain rfl : L = L' := by simpa using hL'
              have hrv := frzs_of ih ((o.rv.drop off).take (len * esz)) hc
              refine .fsl _ _ _ _ _ _ hrv h1 ?_ ?_ ?_
              · rw [frzs_len hc]; simp [seg]; omega
              · intro h0; rw [h4 (by omega)]
              · intro j u hj
                have h0 : 0 < rcap := by
                  by_cases hz : rcap = 0
                  · have : len = 0 := by omega
                    subst this; simp at hj
                  · omega
                rw [h4 h0]
                rw [List.getElem?_take] at hj
                split at hj
                · rw [List.getElem?_drop] at hj
                  have := o.cell hj
                  simp only [Nat.add_assoc]
                  exact frozen_new h (by omega) hg hL this
                · cases hj
          · cases hf
        · cases hf
    · simp only [Option.map_eq_some_iff] at hf
      obtain ⟨cells', hc, rfl⟩ := hf
      cases hr with
      | fptr _ vals b o hr hv => exact .fptr _ _ _ _ (frzs_of ih hr hc) fun j u hj => hN.f _ _ (hv j u hj)
    · simp only [Option.map_eq_some_iff] at hf
      obtain ⟨cells', hc, rfl⟩ := hf
      cases hr with
      | fsl _ _ _ vals a rcap hr h1 h2 h3 hv => exact .fsl _ _ _ _ _ _ (frzs_of ih hr hc) h1 (by rw [frzs_len hc]; exact h2) h3 fun j u hj => hN.f _ _ (hv j u hj)
      | fslnil _ => unfold frzs at hc; cases hc; exact .fslnil _
    · split at hf
      · rename_i hp
        simp only [Option.map_eq_some_iff] at hf
        obtain ⟨cells', hc, rfl⟩ := hf
        cases hr with
        | gsl _ _ _ _ vals a rcap L hL hg hr h1 h2 h3 h4 h5 hv => exact .gsl _ _ _ _ _ _ _ L (hN.l _ _ hp hL) (hN.g _ _ _ hp hg) (frzs_of ih hr hc) h1 (by rw [frzs_len hc]; exact h2) h3 (frzs_cellB hc h4) h5 fun j u hj => hN.f _ _ (hv j u hj)
        | gslnil _ _ L hL hg => unfold frzs at hc; cases hc; exact .gslnil _ _ L (hN.l _ _ hp hL) (hN.g _ _ _ hp hg)
      · simp only [Option.map_eq_some_iff] at hf
        obtain ⟨cells', hc, rfl⟩ := hf
        cases hr with
        | gsl _ _ _ _ vals a rcap L hL hg hr h1 h2 h3 h4 h5 hv => exact .fsl _ _ _ _ _ _ (frzs_of ih hr hc) h1 (by rw [frzs_len hc]; exact h2) (fun _ => h3) fun j u hj => hN.f _ _ (hv j u hj)
        | gslnil _ _ L hL hg => unfold frzs at hc; cases hc; exact .fslnil _
    · cases hf
    · split at hf
      · rename_i a b h1 h2; cases hf
        cases hr with
        | func _ _ _ rf rc q1 q2 => exact .func _ _ _ _ _ (frzs_of ih q1 h1) (frzs_of ih q2 h2)
      · cases hf
    · simp only [Option.map_eq_some_iff] at hf
      obtain ⟨cells', hc, rfl⟩ := hf
      cases hr with
      | agg _ vals hr => exact .agg _ _ (frzs_of ih hr hc)
    · simp only [Option.map_eq_some_iff] at hf
      obtain ⟨cells', hc, rfl⟩ := hf
      cases hr with
      | tuple _ vals hr => exact .tuple _ _ (frzs_of ih hr hc)

/-- Which blocks an object's record names. -/
def ObSc (n : Nat) : PObj → Prop
  | .loop l => Scs n l.tmps
  | .defd => True

/-- The blocks below n speak of nothing beyond; ob's objects are there, and speak of nothing beyond. -/
structure Closed (ph : PH) (n : Nat) (ob : Nat → Option PObj) : Prop where
  bl : ∀ p c, p < n → ph.get p = some c → Scs n c
  ob : ∀ r o, ob r = some o → ph.ob r = some o ∧ ObSc n o

theorem PH.get_cut {ph : PH} {n p : Nat} {ob : Nat → Option PObj} : (ph.cut n ob).get p = if p < n then ph.get p else none := by
  unfold PH.get PH.cut
  simp only [List.getElem?_take]
  split <;> rfl

theorem PH.gro_cut {ph : PH} {n p : Nat} {ob : Nat → Option PObj} : (ph.cut n ob).gro p = if p < n then ph.gro p else none := by
  unfold PH.gro PH.cut
  simp only [List.getElem?_take]
  split <;> rfl

theorem GrOk.cut (h : Rel X G ph w) {n : Nat} {ob : Nat → Option PObj} : GrOk X (frozenGhost G ph w n) (ph.cut n ob) w where
  own := fun p sz top e hp => by
    rw [PH.gro_cut] at hp
    split at hp
    · rename_i hlt
      obtain ⟨x, h1, h2, h3, h4⟩ := h.grow.own p sz top e hp
      refine ⟨x, by simp only [frozenGhost, if_pos hlt]; exact h1, fun m hm => by simp only [frozenGhost, if_pos hlt]; exact h2 m hm, h3, fun a rcap hx => ?_⟩
      obtain ⟨q1, q2, q3, q4, q5, q6, q7⟩ := h4 a rcap hx
      refine ⟨q1, q2, q3, q4, q5, ?_, ?_⟩
      · intro c v hc hb
        simp only [frozenGhost] at hc
        split at hc
        · rename_i e1; exact q6 c _ e1 hb
        · split at hc
          · rename_i e1
            obtain ⟨-, q, c', M, hq, hg, hM, hb'⟩ := e1
            exact absurd (hb'.symm.trans hb) (q7 q c' M hg hM)
          · cases hc
      · intro q c L hc hL
        rw [PH.get_cut] at hc
        split at hc
        · rename_i hq
          simp only [frozenGhost, List.getElem?_take, if_pos hq] at hL
          exact q7 q c L hc hL
        · cases hc
    · cases hp
  disj := fun p q s t e s' t' e' a ra b rb hpq h1 h2 h3 h4 => by
    rw [PH.gro_cut] at h1 h2
    split at h1
    · split at h2
      · simp only [frozenGhost, if_pos ‹p < n›, if_pos ‹q < n›] at h3 h4
        exact h.grow.disj p q _ _ _ _ _ _ _ _ _ _ hpq h1 h2 h3 h4
      · cases h2
    · cases h1
  new := fun p m x hx => by
    simp only [frozenGhost] at hx ⊢
    split at hx
    · rename_i hp
      have := h.grow.new p m x hx
      simp; omega
    · cases hx

theorem Rel.cut (h : Rel X G ph w) {n : Nat} {ob : Nat → Option PObj} (hc : Closed ph n ob) : Rel X (frozenGhost G ph w n) (ph.cut n ob) w where
  grow := GrOk.cut h
  len := by simp [frozenGhost, PH.cut, h.len]
  below := h.below
  own := fun p c hp => by
    rw [PH.get_cut] at hp
    split at hp
    · rename_i hlt
      obtain ⟨L, vals, cs, e, fz, hL, o⟩ := h.own p c hp
      exact ⟨L, vals, cs, e, fz, (leN_frozen G ph w n).l _ _ hlt hL, ⟨o.rv.monoN (leN_frozen G ph w n) (hc.bl p c hlt hp), o.lt, o.ge, o.hb, o.sz, o.fr, o.at_, o.one⟩⟩
    · cases hp
  disj := fun p q c d L M hpq hp hq hL hM => by
    rw [PH.get_cut] at hp hq
    split at hp
    · split at hq
      · simp only [frozenGhost, List.getElem?_take] at hL hM
        rw [if_pos ‹_›] at hL hM
        exact h.disj p q c d L M hpq hp hq hL hM
      · cases hq
    · cases hp
  fz := fun a v hf => by
    simp only [frozenGhost] at hf
    split at hf
    · rename_i e; cases hf; exact h.fz a v e
    · split at hf
      · rename_i e; exact ⟨e.1, hf⟩
      · cases hf
  fdisj := fun a v p c L hf hp hL => by
    rw [PH.get_cut] at hp
    split at hp
    · rename_i hlt
      simp only [frozenGhost, List.getElem?_take, if_pos hlt] at hL
      simp only [frozenGhost] at hf
      split at hf
      · rename_i e; cases hf; exact h.fdisj a v p c L e hp hL
      · split at hf
        · rename_i e
          obtain ⟨-, q, c', M, hq, hg, hM, hb⟩ := e
          rw [hb]
          exact h.disj q p c' c M L (by omega) hg hp hM hL
        · cases hf
    · cases hp
  ob := fun r o e => by
    obtain ⟨h1, h2⟩ := hc.ob r o e
    obtain ⟨h3, h4⟩ := h.ob r o h1
    refine ⟨h3, ?_⟩
    cases o with
    | loop l => obtain ⟨rt, h5, h6⟩ := h4; exact ⟨rt, h5.monoN (leN_frozen G ph w n) h2, h6⟩
    | defd => exact h4
  ty := by
    intro p e he
    simp only [PH.cut] at he
    split at he
    · rename_i hlt
      obtain ⟨L, cs, fz, h1, h0, h2⟩ := h.ty p e he
      exact ⟨L, cs, fz, (leN_frozen G ph w n).l _ _ hlt h1, h0, h2⟩
    · cases he

theorem Weak.freeze {n d : Nat} {ob : Nat → Option PObj} {vs vs' : List PV} (hn : n0 ≤ n) (hc : Closed ph n ob) (hf : frzs ph n d vs = some vs') : Weak X n0 ph vs (ph.cut n ob) vs' :=
  fun G w rvs hr hv => ⟨frozenGhost G ph w n, (leN_frozen G ph w n).less hn, hr.cut hc, frzs_of (frz_ok hr n d) hv hf⟩

/-! ### Results -/
def resP1 (P : Program) (s : PSt) (ph : PH) : ResultVar → Option PV
  | .tmp t => some (s.tm.getD t .undef)
  | .cell a t => loadOp P t (s.tm.getD a .undef) ph

def resPs (P : Program) (s : PSt) (ph : PH) : List ResultVar → Option (List PV)
  | [] => some []
  | r :: rs => match resP1 P s ph r, resPs P s ph rs with
    | some v, some vs => some (v :: vs)
    | _, _ => none

def resP (P : Program) (rs : List ResultVar) (s : PSt) (ph : PH) : Option PV :=
  (resPs P s ph rs).map fun vs => match vs with
    | [v] => v
    | vs => .tuple vs

theorem run_sureLoad {P : Program} {t : TypeId} {v r : Value} (h : (Instr.loadAt t v).run P w = .ok r w) : (do loadVar t (← asAddr v) : Sem Value).run P w = .ok r w := by
  unfold Instr.loadAt Instr.sureAddr at h
  cases v with
  | pointer a =>
    cases a with
    | some a => simpa [asAddr] using h
    | none => simp at h
  | _ => simp at h

theorem run_loadOp (h : Rel X G ph w) {t : TypeId} {a pv : PV} {v : Value} (ha : RV G a v) (hl : loadOp X.P t a ph = some pv) : ∃ r, (Instr.loadAt t v).run X.P w = .ok r w ∧ RV G pv r := by
  unfold loadOp at hl
  split at hl
  · split at hl
    · rename_i cells hp
      obtain ⟨L, vals, cs, e, fz, hL, o⟩ := h.own _ cells hp
      cases ha with
      | ptr _ _ L' h' =>
        rw [hL] at h'; cases h'
        obtain ⟨v, hr, hv⟩ := run_loadVar_p (P := X.P) (w := w) (b := L.b) (o := L.o) (fun j v hv => o.cell hv) o.rv hl
        exact ⟨v, by simp [Instr.loadAt, Instr.sureAddr, hr], hv⟩
    · cases hl
  · cases ha with
    | fptr _ vals b o hr hf =>
      obtain ⟨v, hr, hv⟩ := run_loadVar_p (P := X.P) (w := w) (b := b) (o := o) (fun j v hv => (h.fz _ _ (hf j v hv)).2) hr hl
      exact ⟨v, by simpa [Instr.loadAt, Instr.sureAddr] using hr, hv⟩
  · cases hl

theorem getD_rv {s : List PV} {a : Array Value} (h : RVs G s a.toList) (t : Nat) : RV G (s.getD t .undef) (a.getD t undef) := by
  by_cases ht : t < s.length
  · obtain ⟨v, e, r⟩ := h.get t _ (List.getElem?_eq_getElem ht)
    have e2 : a.getD t undef = v := by
      rw [Array.getElem?_toList] at e
      simp [Array.getD_eq_getD_getElem?, e]
    rw [e2, List.getD_eq_getElem?_getD, List.getElem?_eq_getElem ht]; exact r
  · have ht' : s.length ≤ t := Nat.le_of_not_lt ht
    rw [List.getD_eq_getElem?_getD, List.getElem?_eq_none ht']; exact .undef _

def resSem (tmps : Array Value) : ResultVar → Sem Value
  | .tmp t => Pure.pure (tmps.getD t undef)
  | .cell a t => do loadVar t (← asAddr (tmps.getD a undef))

theorem results_eq (fn : Func) (tmps : Array Value) : results fn tmps = (do let vs ← fn.results.mapM (resSem tmps); Pure.pure (if h : vs.size = 1 then vs[0] else .tuple vs)) := by
  have : (fun x => match x with | .tmp t => Pure.pure (tmps.getD t undef) | .cell a t => do loadVar t (← asAddr (tmps.getD a undef)) : ResultVar → Sem Value) = resSem tmps := by
    funext x; cases x <;> rfl
  rw [← this]; rfl

theorem resPs_run (h : Rel X G ph w) {s : PSt} {tmps : Array Value} (hs : RVs G s.tm tmps.toList) : ∀ {rs : List ResultVar} {vs : List PV}, resPs X.P s ph rs = some vs →
    ∃ us, (rs.mapM (resSem tmps)).run X.P w = .ok us w ∧ RVs G vs us
  | [], vs, hv => by unfold resPs at hv; cases hv; exact ⟨[], by simp, .nil⟩
  | r :: rs, vs, hv => by
    unfold resPs at hv
    split at hv
    · rename_i v vs' h1 h2
      cases hv
      obtain ⟨us, e, hr⟩ := resPs_run h hs h2
      have h3 : ∃ u, (resSem tmps r).run X.P w = .ok u w ∧ RV G v u := by
        unfold resP1 at h1
        split at h1
        · cases h1; exact ⟨_, rfl, getD_rv hs _⟩
        · obtain ⟨u, e, hu⟩ := run_loadOp h (getD_rv hs _) h1
          exact ⟨u, run_sureLoad e, hu⟩
      obtain ⟨u, e1, hu⟩ := h3
      exact ⟨u :: us, by simp only [List.mapM_cons, Sem.run_bind, e1, Result.andThen_ok, e, Sem.run_pure], .cons _ _ _ _ hu hr⟩
    · cases hv

theorem results_run (h : Rel X G ph w) {s : PSt} {tmps : Array Value} (hs : RVs G s.tm tmps.toList) {fn : Func} {pv : PV} (hv : resP X.P fn.results.toList s ph = some pv) :
    ∃ v, (results fn tmps).run X.P w = .ok v w ∧ RV G pv v := by
  unfold resP at hv
  simp only [Option.map_eq_some_iff] at hv
  obtain ⟨vs, hvs, rfl⟩ := hv
  obtain ⟨us, e, hr⟩ := resPs_run h hs hvs
  have em : (fn.results.mapM (resSem tmps)).run X.P w = .ok us.toArray w := by
    rw [← Array.toArray_toList (xs := fn.results), List.mapM_toArray, Sem.run_map, e]; rfl
  refine ⟨if h : us.toArray.size = 1 then us.toArray[0] else .tuple us.toArray, ?_, ?_⟩
  · rw [results_eq, Sem.run_bind, em]; rfl
  · match vs, us, hr with
    | [], [], .nil => simp; exact .tuple [] [] .nil
    | [v], [u], .cons _ _ _ _ a .nil => simpa using a
    | v :: v2 :: vs, u :: u2 :: us, hr => simp only [List.size_toArray, List.length_cons]; rw [dif_neg (by omega)]; exact .tuple _ _ hr

/-! ### The marks -/
theorem Rel.shut (h : Rel X G ph w) {r : Nat} (hr : ph.ob r = some .defd) : (Instr.takeDeferred r).run X.P w = .ok [] (w.putObj r (.deferred none)) ∧ Rel X G (ph.setOb r none) (w.putObj r (.deferred none)) := by
  obtain ⟨h1, h2⟩ := h.ob r _ hr
  have h2 : w.heap[r]? = some (.deferred (some [])) := h2
  refine ⟨run_takeDeferred h2, ?_⟩
  have hother : ∀ k, k ≠ r → (w.putObj r (.deferred none)).heap[k]? = w.heap[k]? := fun k hk => World.putObj_heap_other hk
  refine ⟨h.len, ?_, ?_, h.disj, ?_, h.fdisj, ?_, h.ty.other (r := r) (fun cs e fz hc => by rw [h2] at hc; cases hc) hother rfl, h.grow.step rfl (Nat.le_refl _) (fun _ _ h => h) (fun b hb => hother b (by rintro rfl; exact h.noGrowOb (fun cs e fz hc => by rw [h2] at hc; cases hc) hb)) (fun c v h => .inl h) fun q c L hc hL => .inl ⟨c, hc, hL⟩⟩
  · exact h.below.trans ⟨rfl, rfl, rfl, by simp [World.putObj], fun k hk => hother k (by have := h1; omega)⟩
  · intro p c hp
    obtain ⟨L, vals, cs, e, fz, hL, o⟩ := h.own p c hp
    refine ⟨L, vals, cs, e, fz, hL, ⟨o.rv, o.lt, o.ge, ?_, o.sz, o.fr, o.at_, o.one⟩⟩
    rw [hother _ (by rintro rfl; have := o.hb; rw [h2] at this; cases this)]; exact o.hb
  · intro a v ha
    obtain ⟨q1, q2⟩ := h.fz a v ha
    refine ⟨q1, ?_⟩
    simp only [World.cell?] at q2 ⊢
    rw [hother _ (by rintro rfl; rw [h2] at q2; cases q2)]; exact q2
  · intro k o hk
    simp only [PH.setOb] at hk
    split at hk
    · cases hk
    · rename_i hne
      obtain ⟨q1, q2⟩ := h.ob k o hk
      exact ⟨q1, q2.mono (.refl _) (hother k hne)⟩

def PH.shut (ph : PH) : List Nat → PH
  | [] => ph
  | r :: rs => (ph.setOb r none).shut rs

/-- The marks are all there, each once. -/
def Marks (ph : PH) : List Nat → Prop
  | [] => True
  | r :: rs => ph.ob r = some .defd ∧ Marks (ph.setOb r none) rs

theorem leaves_ok {fn : Func} {tmps : Array Value} {R : Ending → World → Prop} : ∀ {ms : List Nat} {ph : PH} {w : World}, Rel X G ph w → Marks ph ms → (∀ w, Rel X G (ph.shut ms) w → ∃ v, (results fn tmps).run X.P w = .ok v w ∧ R (.returned v) w) →
    LeavesInM (Fen none) 0 X.P fn tmps R (ms.map markOf) .returning w
  | [], ph, w, h, _, hR => hR w h
  | r :: ms, ph, w, h, hm, hR => by
    obtain ⟨e, h'⟩ := h.shut hm.1
    exact ⟨by simp, .inl ⟨r, _, rfl, e, leaves_ok h' hm.2 hR⟩⟩

/-! ### A function -/
/-- What a body is to end in. -/
def FPost (X : Ctx) (rs : List ResultVar) (n0 : Nat) (R : PV → PH → Prop) : Exit → PSt → PH → Prop := fun e s ph =>
  (e = .normal ∨ e = .ret) ∧ Marks ph s.ms ∧ ∃ v, resP X.P rs s (ph.shut s.ms) = some v ∧ ∃ v' ph', Weak X n0 (ph.shut s.ms) [v] ph' [v'] ∧ n0 ≤ ph'.n ∧ R v' ph'

theorem run_enter {P : Program} {f : FuncId} {fn : Func} {args : Array Value} (hf : P.funcs[f]? = some fn) (hb : fn.body.isSome = true) (hnm : (fn.name == "runtime.NumGoroutine") = false) : (callFunc f args).run P w = .ok (.enter f args) w := by
  have hb' : fn.body.isNone = false := by cases e : fn.body <;> simp_all
  simp only [callFunc, Sem.run_bind, run_program, Result.andThen_ok, hf, hnm, Bool.false_eq_true, if_false, hb', Sem.run_pure]

/-- What a call starts from. -/
def start (fn : Func) (args : List PV) : PSt := { tm := args ++ List.replicate (fn.ntmps - args.length) (.tuple []), ms := [] }

theorem pcalls_of {f : FuncId} {fn : Func} {c : Code} {args : List PV} {R : PV → PH → Prop} (hf : X.P.funcs[f]? = some fn) (hb : fn.body = some c) (hnm : (fn.name == "runtime.NumGoroutine") = false)
    (h : PWp X none ph.n c (FPost X fn.results.toList ph.n R) (start fn args) ph) : PCalls X f args ph R := by
  intro G w rargs hr hargs
  refine .inr ⟨w, run_enter hf (by simp [hb]) hnm, ?_⟩
  refine (callsIn_wide (n := 0)).1 (callsIn_of_wp_marks hf hb trivial ?_)
  have hs : RSt G (start fn args) { tmps := rargs.toArray ++ Array.replicate (fn.ntmps - rargs.toArray.size) undef, defers := [] } := by
    refine ⟨?_, rfl⟩
    have hl := hargs.length
    simp only [start, Array.toList_append, List.toList_toArray, Array.toList_replicate, List.size_toArray, hl]
    exact hargs.append (.replicate _ (.tuple [] [] .nil))
  refine wpIn_mono (h (Nat.le_refl _) G w _ hr hs) ?_
  rintro e a' w' ⟨G', s, ph', h1, h2, h3, h4⟩
  obtain ⟨he, hm, v, hv, v', ph'', hw, hn, hR⟩ := h4
  have key : LeavesInM Fence.wide 0 X.P fn a'.tmps (EPost X ph.n G R) a'.defers .returning w' := by
    rw [h3.ms]
    refine leaves_ok (X := X) (G := G') h2 hm ?_
    intro w2 hr2
    obtain ⟨u, eu, hu⟩ := results_run hr2 h3.tm hv
    obtain ⟨G2, l2, r2, q2⟩ := hw G' w2 [u] hr2 (.cons _ _ _ _ hu .nil)
    refine ⟨u, eu, G2, v', ph'', h1.trans l2, r2, ?_, hn, hR⟩
    cases q2 with | cons _ _ _ _ a _ => exact a
  rcases he with rfl | rfl <;> exact key

theorem PCalls.mono {f : FuncId} {args : List PV} {R R' : PV → PH → Prop} (h : PCalls X f args ph R) (hq : ∀ v ph, R v ph → R' v ph) : PCalls X f args ph R' := by
  intro G w rargs hr ha
  have key : ∀ v w', CPost X ph.n G R v w' → CPost X ph.n G R' v w' := fun v w' ⟨G', pv, ph', a, b, c, n, d⟩ => ⟨G', pv, ph', a, b, c, n, hq _ _ d⟩
  rcases h G w rargs hr ha with ⟨v, w', e, hc⟩ | ⟨w', e, hc⟩
  · exact .inl ⟨v, w', e, key _ _ hc⟩
  · refine .inr ⟨w', e, ?_⟩
    intro cs
    obtain ⟨e, w', fr, hR, rest⟩ := hc cs
    refine ⟨e, w', fr, ?_, rest⟩
    cases e with
    | returned v => exact key _ _ hR
    | panicked _ => exact hR.elim
    | outgrown => exact hR.elim

end Pv
