/- Part of the proof: the layer of pure values, or a walk through a function (PvShelf). -/
import Derived.Test.YthegpibaoikoeaaPvH
set_option linter.all false
namespace Pv
open Go Go.RowKit
variable {X : Ctx} {G : Ghost} {ph : PH} {w w' : World}

/-! ### Contracts of the kit's shelf, told as functions of their arguments -/
theorem hb_below (h : Below w.heap.size w w') {k : Nat} {o : Obj} (hk : w.heap[k]? = some o) : w'.heap[k]? = some o := by
  have : k < w.heap.size := by
    rcases Nat.lt_or_ge k w.heap.size with h1 | h1
    · exact h1
    · rw [Array.getElem?_eq_none h1] at hk; cases hk
  rw [h.block k this]; exact hk
theorem cell_below (h : Below w.heap.size w w') {a : Addr} {v : Value} (hc : w.cell? a = some v) : w'.cell? a = some v := by
  have : w'.heap[a.block]? = w.heap[a.block]? := by
    rcases Nat.lt_or_ge a.block w.heap.size with h1 | h1
    · exact h.block _ h1
    · exfalso
      unfold World.cell? at hc
      rw [Array.getElem?_eq_none h1] at hc
      cases hc
  unfold World.cell? at hc ⊢
  rw [this]; exact hc
theorem Rel.below_w (h : Rel X G ph w) (hb : Below w.heap.size w w') : Rel X G ph w' := by
  have hX : X.B ≤ w.heap.size := h.below.size
  refine ⟨h.len, h.below.trans (hb.mono hX), ?_, h.disj, ?_, h.fdisj, ?_, ?_, ?_⟩
  · intro p cells hp
    obtain ⟨L, vals, cs, e, fz, hL, o⟩ := h.own p cells hp
    exact ⟨L, vals, cs, e, fz, hL, ⟨o.rv, o.lt, o.ge, hb_below hb o.hb, o.sz, o.fr, o.at_, o.one⟩⟩
  · intro a v ha
    exact ⟨(h.fz a v ha).1, cell_below hb (h.fz a v ha).2⟩
  · intro r o hr
    obtain ⟨h1, h2⟩ := h.ob r o hr
    refine ⟨h1, ?_⟩
    cases o with
    | loop l =>
      obtain ⟨rt, k1, k2⟩ := h2
      exact ⟨rt, k1, hb_below hb k2⟩
    | defd => exact hb_below hb h2
  · intro p e hp
    obtain ⟨L, cs, fz, k1, k2, k3⟩ := h.ty p e hp
    exact ⟨L, cs, fz, k1, k2, hb_below hb k3⟩
  · refine ⟨?_, h.grow.disj, h.grow.new⟩
    intro p sz top e hg
    obtain ⟨x, o⟩ := h.grow.own p sz top e hg
    refine ⟨x, o.loc, o.max, o.nil, ?_⟩
    intro a rcap hx
    have r := o.row a rcap hx
    obtain ⟨cs, fz, k1, k2⟩ := r.hb
    exact ⟨r.sp, r.ge, r.le, r.off, ⟨cs, fz, hb_below hb k1, k2⟩, r.ff, r.own⟩

theorem fn_of_calls {f : FuncId} {fn : Func} {args : List PV} {v : PV} (hf : X.P.funcs[f]? = some fn) (hb : fn.body.isSome = true) (hnm : (fn.name == "runtime.NumGoroutine") = false)
    (h : ∀ (G : Ghost) (w : World) (rargs : List Value), RVs G args rargs → Calls X.P f rargs.toArray w fun e w' => (∃ u, e = .returned u ∧ RV G v u) ∧ Below w.heap.size w w') : Fn X f args v := by
  intro ph G w rargs hr ha
  refine .inr ⟨w, run_enter (P := X.P) (w := w) (args := rargs.toArray) hf hb hnm, (h G w rargs ha).mono ?_⟩
  rintro e w' ⟨⟨u, rfl, hu⟩, hbl⟩
  exact ⟨G, v, ph, (LeN.refl _ _), hr.below_w hbl, hu, Nat.le_refl _, rfl, rfl⟩
end Pv
