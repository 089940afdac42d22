/- Part of the proof: the layer of pure values, or a walk through a function (PvCxD). -/
import Derived.Test.YtipckidoikanhaaPvFxD
import Derived.Test.YtipckidoikanhaaPvB0
set_option linter.all false
namespace Pv
open Go Go.Proofs
noncomputable abbrev Cx (w0 : World) : Ctx := ⟨Try.prog, w0⟩
end Pv
