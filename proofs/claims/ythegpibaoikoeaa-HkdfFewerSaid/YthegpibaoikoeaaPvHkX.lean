/- Part of the proof: the layer of pure values, or a walk through a function (PvHkX). -/
import Derived.Test.YthegpibaoikoeaaPvHkH
set_option linter.all false
namespace Pv
open Go
set_option maxRecDepth 100000
/-! ### RFC 5869's first example, by Lean itself -/
def prkX : List UInt8 := macL [0, 1, 2, 3, 4, 5, 6, 7, 8, 9, 10, 11, 12] (List.replicate 22 11)
def infX : List UInt8 := [240, 241, 242, 243, 244, 245, 246, 247, 248, 249]
theorem prkX_8 : prkX.take 8 = [7, 119, 9, 54, 44, 46, 50, 223] := by decide +kernel
theorem okmX_8 : (tK prkX infX 1).take 8 = [60, 178, 95, 37, 250, 172, 213, 122] := by decide +kernel
theorem expX : expandL prkX infX 42 = ((okm prkX infX 2).take 42, 0) := expand_of prkX infX 42 2 (by decide) (by decide)
theorem expX_8 : (expandL prkX infX 42).1.take 8 = [60, 178, 95, 37, 250, 172, 213, 122] := by
  rw [expX]
  show ((okm prkX infX 2).take 42).take 8 = _
  rw [List.take_take, Nat.min_eq_left (by decide), okm, List.take_append_of_le_length (by rw [okm_len]; decide), okm, okm, List.nil_append]
  exact okmX_8
theorem expX_len : (expandL prkX infX 42).1.length = 42 := expand_len prkX infX 42 (by decide)
theorem expX_2 : (expandL prkX infX 42).2 = 0 := by rw [expX]
end Pv
