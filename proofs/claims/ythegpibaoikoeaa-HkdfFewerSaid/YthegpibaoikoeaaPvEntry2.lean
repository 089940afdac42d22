/- Part of the proof: the layer of pure values, or a walk through a function (PvEntry2). -/
import Derived.Test.YthegpibaoikoeaaPvEntry
import Derived.SizedLaws
import Derived.ChangeArms
set_option linter.all false
namespace Pv
open Go Go.RowKit
variable {H : Type} {enc : TypeId × Value → H} {P : Program} {w : World} {spare : Nat → Bool} {held : Bool} {t : TypeId} {v : Value} {d : DataW H} {ps : List MemPlace} {base : Nat}

/-- A text among the arguments, with the bound that the form itself gives. -/
theorem open_str2 {ts : List TypeId} {ds : List (DataW H)} (hu : P.underlying t = some .string) (hv : Value.okWide P w .any base t v) (h : DataW.Trod enc P w 0 spare held t v d ps) (hsz : (DataW.weightsEach P ts ds).all (· ≤ reachBytes) = true) {j : Nat} (ht : ts[j]? = some t) (hd : ds[j]? = some d) :
    ∃ l, l.length < 2 ^ 47 ∧ RV (G0 w) (.str l) v := by
  obtain ⟨fuel, hf⟩ := h
  obtain ⟨s, rfl⟩ := Go.WideShapes.okWide_string hu hv
  obtain ⟨s', e1, e2, -⟩ := DataW.trod_string hu hf
  have e3 : s = s' := by simpa [Value.cells] using e1
  subst e3
  cases e2
  have := sized_string hsz ht hd
  exact ⟨s.data.toList, by have := reachBytes_lt; omega, .str _ _ rfl⟩
end Pv
