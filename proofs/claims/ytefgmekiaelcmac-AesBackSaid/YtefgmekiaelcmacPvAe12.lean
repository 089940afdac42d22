/- Part of the proof: the layer of pure values, or walks through functions (PvAe12). -/
import Derived.Test.YtefgmekiaelcmacPvAe11
set_option linter.all false
namespace Pv
set_option maxRecDepth 20000
set_option maxHeartbeats 4000000
open Go Go.Proofs Go.RowKit
variable {w0 : World}

end Pv
