/- Part of the proof: the layer of pure values, or a walk through a function (PvKe12). -/
import Derived.Test.YtinfnpgibmopoaaPvKe8
import Derived.Test.YtinfnpgibmopoaaPvKe11
import Derived.Test.YtinfnpgibmopoaaPvEntry2
set_option linter.all false
namespace Pv
open Go Go.Proofs Go.RowKit

theorem KeBegins_ok (w0 : World) (c0 : List UInt8) (o0 : c0.length < 2 ^ 47) (c1 : List UInt8) (o1 : c1.length < 2 ^ 47) (c2 : Int) (o2 : (Lit.int .i64 c2).wf = true) : Fn (Cx w0) 6 [.str c0, .str c1, .int .i64 c2] (.bool true) := keBegins_ok c0 c1 c2
theorem KeBack_ok (w0 : World) (n0 : Nat) (c0 : List PV) (l0 : n0 ≤ maxLen) (o0 : OkR [.bool, .int .i64, .str] n0 c0) (c1 : List UInt8) (o1 : c1.length < 2 ^ 47) (c2 : List UInt8) (o2 : c2.length < 2 ^ 47) (n3 : Nat) (c3 : List PV) (l3 : n3 ≤ maxLen) (o3 : OkR [.int .i64] n3 c3) :
    Fn (Cx w0) 7 [.fsl 3 n0 c0, .str c1, .str c2, .fsl 1 n3 c3] (.bool true) := by
  obtain ⟨l, rfl, rfl, hl⟩ := okR_krs o0
  obtain ⟨m, rfl, rfl⟩ := okR_ints o3
  have hm : maxLen < 2 ^ 63 := by decide
  exact keBack_ok l c1 c2 m o1 (fun r hr => by have := hl r hr; omega)
end Pv
