/- Part of the proof: the layer of pure values, or walks through functions (PvRange). -/
import Derived.Test.YtjomgffpkdcanaaGreatPvFxM
set_option linter.all false
namespace Pv
open Go Go.RowKit
variable {X : Ctx} {G : Ghost} {ph : PH} {w : World} {ρ : Option Nat} {n0 : Nat} {Q : Exit → PSt → PH → Prop}

/-! ### Records of loops -/
theorem ob_lt (h : Rel X G ph w) {r : Nat} {o : PObj} (ho : ph.ob r = some o) : r < w.heap.size := by
  obtain ⟨_, h2⟩ := h.ob r o ho
  cases o with
  | loop l => obtain ⟨rt, _, h2⟩ := h2; exact (Array.getElem?_eq_some_iff.1 h2).1
  | defd => exact (Array.getElem?_eq_some_iff.1 h2).1

/-- An object that is no row of cells is turned. -/
theorem Rel.turn (h : Rel X G ph w) {r : Nat} {o : Obj} {op : Option PObj} (hB : X.B ≤ r) (hno : ∀ cs e fz, w.heap[r]? ≠ some (.cells cs e fz)) (hr : ∀ p, op = some p → ObRel G (w.putObj r o) r p) : Rel X G (ph.setOb r op) (w.putObj r o) := by
  have hother : ∀ k, k ≠ r → (w.putObj r o).heap[k]? = w.heap[k]? := fun k hk => World.putObj_heap_other hk
  refine ⟨h.len, ?_, ?_, h.disj, ?_, h.fdisj, ?_, h.ty.other hno hother rfl, h.grow.step rfl (Nat.le_refl _) (fun _ _ h => h) (fun b hb => hother b (by rintro rfl; exact h.noGrowOb hno hb)) (fun c v h => .inl h) fun q c L hc hL => .inl ⟨c, hc, hL⟩⟩
  · exact h.below.trans ⟨rfl, rfl, rfl, by simp [World.putObj], fun k hk => hother k (by omega)⟩
  · intro p c hp
    obtain ⟨L, vals, cs, e, fz, hL, o⟩ := h.own p c hp
    refine ⟨L, vals, cs, e, fz, hL, ⟨o.rv, o.lt, o.ge, ?_, o.sz, o.fr, o.at_, o.one⟩⟩
    rw [hother _ (by rintro rfl; exact hno _ _ _ o.hb)]; exact o.hb
  · intro a v ha
    obtain ⟨q1, q2⟩ := h.fz a v ha
    refine ⟨q1, ?_⟩
    simp only [World.cell?] at q2 ⊢
    rw [hother _ ?_]
    · exact q2
    · rintro rfl
      cases e : w.heap[a.block]? with
      | none => rw [e] at q2; cases q2
      | some o =>
        cases o with
        | cells cs el fz => exact hno _ _ _ e
        | _ => rw [e] at q2; cases q2
  · intro k o' hk
    simp only [PH.setOb] at hk
    split at hk
    · rename_i e; subst e; exact ⟨hB, hr o' hk⟩
    · rename_i hne
      obtain ⟨q1, q2⟩ := h.ob k o' hk
      exact ⟨q1, q2.mono (.refl _) (hother k hne)⟩

theorem Rel.newOb (h : Rel X G ph w) {o : Obj} {p : PObj} (hr : ObRel G { w with heap := w.heap.push o } w.heap.size p) : Rel X G (ph.setOb w.heap.size (some p)) { w with heap := w.heap.push o } := by
  have hother : ∀ k, k < w.heap.size → (w.heap.push o)[k]? = w.heap[k]? := fun k hk => by rw [Array.getElem?_push, if_neg (by omega)]
  refine ⟨h.len, ?_, ?_, h.disj, ?_, h.fdisj, ?_, h.ty.step (.refl _) (fun b cs e fz hb => ⟨cs, fz, (hother _ (Array.getElem?_eq_some_iff.1 hb).1).trans hb⟩) rfl, h.grow.step rfl (Nat.le_refl _) (fun _ _ h => h) (fun b hb => hother b (h.grow.lt hb)) (fun c v h => .inl h) fun q c L hc hL => .inl ⟨c, hc, hL⟩⟩
  · exact h.below.trans ⟨rfl, rfl, rfl, by simp, fun k hk => hother k (by have := h.size; omega)⟩
  · intro p c hp
    obtain ⟨L, vals, cs, e, fz, hL, o⟩ := h.own p c hp
    exact ⟨L, vals, cs, e, fz, hL, ⟨o.rv, o.lt, o.ge, (hother _ (Array.getElem?_eq_some_iff.1 o.hb).1).trans o.hb, o.sz, o.fr, o.at_, o.one⟩⟩
  · intro a v ha
    exact ⟨(h.fz a v ha).1, cell_alloc (h.fz a v ha).2⟩
  · intro k o' hk
    simp only [PH.setOb] at hk
    split at hk
    · rename_i e; subst e; cases hk; exact ⟨h.size, hr⟩
    · rename_i hne
      obtain ⟨q1, q2⟩ := h.ob k o' hk
      exact ⟨q1, q2.mono (.refl _) (hother k (ob_lt h hk))⟩

theorem loop_notCells {l : Nat} {r : Loop} (h : w.heap[l]? = some (.loop r)) : ∀ cs e fz, w.heap[l]? ≠ some (.cells cs e fz) := by
  intro cs e fz h'; rw [h] at h'; cases h'

/-- The record of a loop takes another state. -/
theorem Rel.loopSt (h : Rel X G ph w) {l : Nat} {L : PLoop} (hl : ph.ob l = some (.loop L)) (st : LoopState) (pd : Option Code) :
    ∃ r : Loop, w.heap[l]? = some (.loop r) ∧ r.state = L.st ∧ r.pending = L.pending ∧ Rel X G (ph.setOb l (some (.loop { L with st := st, pending := pd }))) (w.putObj l (.loop { r with state := st, pending := pd })) := by
  obtain ⟨h1, rt, h2, h3⟩ := h.ob l _ hl
  refine ⟨_, h3, rfl, rfl, ?_⟩
  refine h.turn h1 (loop_notCells h3) ?_
  intro p e; cases e
  exact ⟨rt, h2, World.putObj_heap_same (ob_lt h hl)⟩

def setPs (tm : List PV) : List Tmp → List PV → List PV
  | p :: ps, v :: vs => setPs (tm.set p v) ps vs
  | _, _ => tm

theorem setPs_ok : ∀ {ps : List Tmp} {vs : List PV} {us : List Value} {tm : List PV} {rt : Array Value}, RVs G vs us → RVs G tm rt.toList → RVs G (setPs tm ps vs) ((ps.zip us).foldl (fun tmps (x : Tmp × Value) => tmps.setIfInBounds x.1 x.2) rt).toList
  | [], vs, us, tm, rt, _, h => by unfold setPs; simpa using h
  | p :: ps, [], us, tm, rt, hv, h => by cases hv; unfold setPs; simpa using h
  | p :: ps, v :: vs, us, tm, rt, hv, h => by
    cases hv with
    | cons _ u _ us h1 h2 =>
      unfold setPs
      simp only [List.zip_cons_cons, List.foldl_cons]
      exact setPs_ok h2 (by simpa using h.set p h1)

/-- What a round's body is to end in. -/
def RPost (l : Nat) (L : PLoop) (R : PV → PH → Prop) : Exit → PSt → PH → Prop
  | .normal, _, ph => ∃ L', ph.ob l = some (.loop L') ∧ R (.bool true) (ph.setOb l (some (.loop { L' with st := .ready, pending := none })))
  | .ret, _, ph => ∃ L', ph.ob l = some (.loop L') ∧ R (.bool false) (ph.setOb l (some (.loop { L' with st := .done, pending := some .ret })))
  | .exit id, _, ph => ∃ L', ph.ob l = some (.loop L') ∧ R (.bool false) (ph.setOb l (some (.loop { L' with st := .done, pending := some (.exit id) })))
  | _, _, _ => False

theorem run_endRound {P : Program} {l : Nat} {r : Loop} {jump : Option Code} (h : w.heap[l]? = some (.loop r)) :
    (Instr.endRound l jump).run P w = .ok (.bool jump.isNone) (w.putObj l (.loop { r with state := if jump.isNone then .ready else .done, pending := jump })) := by
  simp [Instr.endRound, Instr.getLoop, getObj, setObj, Sem.run_bind, Sem.run, h, Result.andThen, World.putObj]

/-- **A call of yield: a round of the loop's body.** -/
theorem pyield_of {l : Nat} {L : PLoop} {vs : List PV} {R : PV → PH → Prop} (hl : ph.ob l = some (.loop L)) (hst : L.st = .ready) (hlen : L.params.size = vs.length)
    (h : PWp X (some l) ph.n L.assign (PExit.seq (fun s ph' => ∃ L', ph'.ob l = some (.loop L') ∧ L'.st = .ready ∧ PWp X (some l) ph.n L.body (RPost l L R) s (ph'.setOb l (some (.loop { L' with st := .busy })))) (fun _ _ _ => False))
      { tm := setPs L.tmps L.params.toList vs, ms := [] } ph) : PYield X l vs ph R := by
  intro G w rargs hr hargs
  obtain ⟨h1, rt, h2, h3⟩ := hr.ob l _ hl
  have hal := hargs.length
  refine ⟨L.fn, (L.params.zip rargs.toArray).foldl (fun tmps (x : Tmp × Value) => tmps.setIfInBounds x.1 x.2) rt.toArray, L.assign, L.body, w, ?_, ?_⟩
  · simp only [Instr.yield, Instr.getLoop, getObj, Sem.run_bind, Sem.run, h3, Result.andThen_ok, Sem.run_pure, List.size_toArray]
    rw [if_neg (by simp only [ne_eq, Decidable.not_not]; omega)]
    rfl
  · refine roundIn_of_wpIn (F := Fence.wide) trivial ?_
    have hs : RSt G { tm := setPs L.tmps L.params.toList vs, ms := [] } { tmps := (L.params.zip rargs.toArray).foldl (fun tmps (x : Tmp × Value) => tmps.setIfInBounds x.1 x.2) rt.toArray, defers := [] } := by
      refine ⟨?_, rfl⟩
      have := setPs_ok (ps := L.params.toList) (rt := rt.toArray) hargs (by simpa using h2)
      have e : (L.params.zip rargs.toArray) = (L.params.toList.zip rargs).toArray := by
        apply Array.toList_inj.1; simp
      rw [e]
      simpa using this
    refine wpIn_mono (F := Fen (some l)) (h (Nat.le_refl _) G w _ hr hs) ?_
    rintro e a1 w1 ⟨G1, s1, ph1, q1, q2, q3, q4⟩
    cases e with
    | normal =>
      obtain ⟨L1, hl1, hst1, hbody⟩ := q4
      obtain ⟨r1, e1, e2, e3, hrel⟩ := q2.loopSt hl1 .busy L1.pending
      refine ⟨w1.putObj l (.loop { r1 with state := .busy }), ?_, ?_⟩
      · simp only [Instr.beginRound, Instr.getLoop, getObj, setObj, Sem.run_bind, Sem.run, e1, Result.andThen_ok, e2, hst1, Sem.run_pure]
        rfl
      · have hrel' : Rel X G1 (ph1.setOb l (some (.loop { L1 with st := .busy }))) (w1.putObj l (.loop { r1 with state := .busy })) := by
          have : ({ r1 with state := .busy, pending := L1.pending } : Loop) = { r1 with state := .busy } := by rw [← e3]
          rw [← this]; exact hrel
        have hn1 : ph.n ≤ ph1.n := grow_n hr q2 q1 (Nat.le_refl ph.n)
        refine wpIn_mono (F := Fen (some l)) (hbody hn1 G1 _ a1 hrel' q3) ?_
        rintro e a2 w2 ⟨G2, s2, ph2, p1, p2, p3, p4⟩
        have fin : ∀ (jump : Option Code) (L2 : PLoop) (b : Bool) (st : LoopState), ph2.ob l = some (.loop L2) → jump.isNone = b → st = (if jump.isNone then .ready else .done) → R (.bool b) (ph2.setOb l (some (.loop { L2 with st := st, pending := jump }))) →
            ∃ v w', (Instr.endRound l jump).run X.P w2 = .ok v w' ∧ EPost X ph.n G R (.returned v) w' := by
          intro jump L2 b st hl2 hb hst2 hR
          obtain ⟨r2, f1, f2, f3, hrel2⟩ := p2.loopSt hl2 st jump
          have hn2 : ph.n ≤ (ph2.setOb l (some (.loop { L2 with st := st, pending := jump }))).n := show ph.n ≤ ph2.n from grow_n hr p2 (q1.trans p1) (Nat.le_refl _)
          refine ⟨_, _, run_endRound f1, G2, .bool b, _, q1.trans p1, ?_, ?_, hn2, hR⟩
          · rw [← hst2]; exact hrel2
          · rw [hb]; exact .bool _
        cases e with
        | normal => obtain ⟨L2, hl2, hR⟩ := p4; exact fin none L2 true .ready hl2 rfl rfl hR
        | ret => obtain ⟨L2, hl2, hR⟩ := p4; exact fin (some .ret) L2 false .done hl2 rfl rfl hR
        | exit id => obtain ⟨L2, hl2, hR⟩ := p4; exact fin (some (.exit id)) L2 false .done hl2 rfl rfl hR
        | goto l => exact p4.elim
        | panic c => exact p4.elim
        | outgrown => exact p4.elim
    | exit id => exact q4.elim
    | goto l => exact q4.elim
    | ret => exact q4.elim
    | panic c => exact q4.elim
    | outgrown => exact q4.elim

/-- Has the function a body of Go's? -/
def HasBody (P : Program) (g : FuncId) : Prop := ∃ fn, P.funcs[g]? = some fn ∧ fn.body.isSome = true ∧ (fn.name == "runtime.NumGoroutine") = false

/-- The record that a range over a function lays. -/
def mkLoop (fn : FuncId) (tm : List PV) (ps : Array Tmp) (assign body : Code) (r : Nat) : PLoop :=
  { st := .ready, pending := none, fn := fn, tmps := tm, params := ps, assign := assign, body := body, defers := r }

/-- Behind the function that was ranged over. -/
def rangeEnd (X : Ctx) (ρ : Option Nat) (n0 : Nat) (Q : Exit → PSt → PH → Prop) (l : Nat) (s : PSt) (ph : PH) : Prop :=
  ∃ L, ph.ob l = some (.loop L) ∧ L.st ≠ .busy ∧ match L.pending with
    | none => Q .normal s (ph.setOb l none)
    | some c => PWp X ρ n0 c Q s (ph.setOb l none)

theorem PExit_post {c : Code} {s : PSt} {G G' : Ghost} {w : World} {a : Act} (h : PWp X ρ n0 c Q s ph) (hn : n0 ≤ ph.n) (hle : LeN n0 G G') (hr : Rel X G' ph w) (hs : RSt G' s a) : c.wpIn (Fen ρ) 0 X.P (Post X n0 G Q) a w := by
  refine wpIn_mono (h hn G' w a hr hs) ?_
  rintro e a' w' ⟨G2, s2, ph2, p1, p2, p3, p4⟩
  exact ⟨G2, s2, ph2, hle.trans p1, p2, p3, p4⟩

/-- **A range over a function**, not in a round: what is owed is the call of the function, with yield. -/
theorem pwp_range {f : Operand} {ps : Array Tmp} {assign body : Code} {g : FuncId} {first caps : List PV} {s : PSt} (hf : s.ev f = .func g first caps) (hg : HasBody X.P g)
    (h : ∀ (r l : Nat) (fn : FuncId), ph.ob r = none → ph.ob l = none → r ≠ l →
      PCalls X g (first ++ [.yield l] ++ caps) ((ph.setOb r (some .defd)).setOb l (some (.loop (mkLoop fn s.tm ps assign body r)))) fun _ ph' => n0 ≤ ph'.n ∧ rangeEnd X none n0 Q l { s with ms := r :: s.ms } ph') :
    PWp X none n0 (.rangeFunc f ps assign body) Q s ph := by
  intro hn G w a hr hs
  refine wpIn_rangeFunc fun fn _ => ?_
  have hfv := hs.ev f
  rw [hf] at hfv
  generalize hev : a.eval f = fv at hfv
  cases hfv with
  | func _ _ _ rf rc q1 q2 =>
    have hb1 : ph.ob w.heap.size = none := by
      cases e : ph.ob w.heap.size with
      | none => rfl
      | some o => have := ob_lt hr e; omega
    have hb2 : ph.ob (w.heap.size + 1) = none := by
      cases e : ph.ob (w.heap.size + 1) with
      | none => rfl
      | some o => have := ob_lt hr e; omega
    let w1 : World := { w with heap := w.heap.push (.deferred (some [])) }
    let lp : Loop := { state := .ready, pending := none, fn := fn, tmps := a.tmps, params := ps, assign := assign, body := body, defers := w.heap.size }
    let w2 : World := { w1 with heap := w1.heap.push (.loop lp) }
    have r1 : Rel X G (ph.setOb w.heap.size (some .defd)) w1 := hr.newOb (o := .deferred (some [])) (p := .defd) (by show (w.heap.push _)[w.heap.size]? = _; simp)
    have hsz1 : w1.heap.size = w.heap.size + 1 := by simp [w1]
    have r2 : Rel X G ((ph.setOb w.heap.size (some .defd)).setOb (w.heap.size + 1) (some (.loop (mkLoop fn s.tm ps assign body w.heap.size)))) w2 := by
      have := r1.newOb (o := .loop lp) (p := .loop (mkLoop fn s.tm ps assign body w.heap.size)) ⟨a.tmps.toList, hs.tm, by show (w1.heap.push _)[w1.heap.size]? = _; simp [mkLoop, lp]⟩
      rw [hsz1] at this; exact this
    have hen : (Instr.enterLoop fn a.tmps ps assign body none).run X.P w = .ok (w.heap.size + 1, [markOf w.heap.size]) w2 := by
      simp only [Instr.enterLoop, Sem.run_bind, run_newObj, Result.andThen_ok, Sem.run_pure]
      have : (w.heap.push (Obj.deferred (some []))).size = w.heap.size + 1 := by simp
      simp only [this]
      rfl
    have hcall := h w.heap.size (w.heap.size + 1) fn hb1 hb2 (by omega) G w2 (rf ++ [.func (.yield (w.heap.size + 1)) #[] #[]] ++ rc) r2 ((q1.append (.cons _ _ _ _ (.yield _) .nil)).append q2)
    obtain ⟨gn, hg1, hg2, hg3⟩ := hg
    have hent := run_enter (P := X.P) (w := w2) (args := (rf ++ [Value.func (.yield (w.heap.size + 1)) #[] #[]] ++ rc).toArray) hg1 hg2 hg3
    rw [hent] at hcall
    rcases hcall with ⟨v, w', e, _⟩ | ⟨w', e, hc⟩
    · cases e
    · cases e
      have hargs : (rf.toArray ++ #[Value.func (.yield (w.heap.size + 1)) #[] #[]]) ++ rc.toArray = (rf ++ [Value.func (.yield (w.heap.size + 1)) #[] #[]] ++ rc).toArray := by simp
      refine ⟨w.heap.size + 1, [markOf w.heap.size], w2, { target := .fn (.func g) rc.toArray, args := rf.toArray ++ #[Value.func (.yield (w.heap.size + 1)) #[] #[]] }, w2, g, (rf ++ [Value.func (.yield (w.heap.size + 1)) #[] #[]] ++ rc).toArray, w2, hen, ?_, fun _ _ => trivial, ?_, by simp [Fen, Fence.wide], CallsIn.fen (m := 0) ?_⟩
      · simp only [rangeCall, resolve, hev, Deferred.ofValue]
        simp [Act.eval]
      · simp only [invoke]
        rw [hargs]; exact hent
      · intro cs
        obtain ⟨e, w3, fr, hR, rest⟩ := hc cs
        refine ⟨e, w3, fr, ?_, rest⟩
        cases e with
        | panicked _ => exact hR.elim
        | outgrown => exact hR.elim
        | returned v =>
          obtain ⟨G3, pv, ph3, k1, k2, k3, k4, k5, L, hL, hbusy, hend⟩ := hR
          obtain ⟨hB, rt, h5, h6⟩ := k2.ob _ _ hL
          have hrun := run_endLoop (P := X.P) h6 (by simpa using hbusy)
          refine ⟨_, _, hrun, ?_⟩
          have k1' : LeN ph.n G G3 := k1
          have r4 : Rel X G3 (ph3.setOb (w.heap.size + 1) none) (w3.putObj (w.heap.size + 1) (.loop { state := .exhausted, pending := L.pending, fn := L.fn, tmps := rt.toArray, params := L.params, assign := L.assign, body := L.body, defers := L.defers })) :=
            k2.turn hB (loop_notCells h6) (by intro p e; cases e)
          have hs3 : RSt G3 { s with ms := w.heap.size :: s.ms } { a with defers := [markOf w.heap.size] ++ a.defers } := by
            refine ⟨hs.tm.monoN k1' ?_, by simp [hs.ms]⟩
            have := hs.tm.scs; rw [hr.lenN] at this; exact this
          simp only at hend ⊢
          cases hp : L.pending with
          | none =>
            rw [hp] at hend r4
            exact ⟨G3, _, _, k1'.less hn, r4, hs3, hend⟩
          | some c =>
            rw [hp] at hend r4
            exact PExit_post hend k5 (k1'.less hn) r4 hs3

end Pv
