/- Part of the proof: the layer of pure values, or a walk through a function (PvSha10). -/

import Derived.Test.YthegpibaoikoeaaPvSha9
import Derived.Test.YthegpibaoikoeaaPvShaX
import Derived.Test.YthegpibaoikoeaaPvEntry3
set_option linter.all false
namespace Pv
set_option maxRecDepth 20000
set_option maxHeartbeats 4000000
open Go Go.Proofs Go.RowKit
variable {w0 : World}

theorem okL_words : ∀ (n : Nat) {c : List PV}, OkL (List.replicate n (.int .u32)) c → ∃ h : List UInt32, h.length = n ∧ c = wC h
  | 0, c, h => ⟨[], rfl, okL_nil h⟩
  | n + 1, c, h => by
    obtain ⟨p, ps, rfl, h1, h2⟩ := okL_cons h
    obtain ⟨x, rfl⟩ := okC_u32 h1
    obtain ⟨l, hl, rfl⟩ := okL_words n h2
    exact ⟨x :: l, by simp [hl], rfl⟩
theorem okL_hash {c : List PV} (h : OkL [.int .u32, .int .u32, .int .u32, .int .u32, .int .u32, .int .u32, .int .u32, .int .u32, .str, .int .u64] c) : ∃ (h : List UInt32) (lf : List UInt8) (n : UInt64), h.length = 8 ∧ lf.length ≤ maxLen ∧ c = hc h lf n := by
  obtain ⟨p0, r, rfl, k0, h⟩ := okL_cons h
  obtain ⟨p1, r, rfl, k1, h⟩ := okL_cons h
  obtain ⟨p2, r, rfl, k2, h⟩ := okL_cons h
  obtain ⟨p3, r, rfl, k3, h⟩ := okL_cons h
  obtain ⟨p4, r, rfl, k4, h⟩ := okL_cons h
  obtain ⟨p5, r, rfl, k5, h⟩ := okL_cons h
  obtain ⟨p6, r, rfl, k6, h⟩ := okL_cons h
  obtain ⟨p7, r, rfl, k7, h⟩ := okL_cons h
  obtain ⟨p8, r, rfl, k8, h⟩ := okL_cons h
  obtain ⟨p9, r, rfl, k9, h⟩ := okL_cons h
  obtain rfl := okL_nil h
  obtain ⟨x0, rfl⟩ := okC_u32 k0
  obtain ⟨x1, rfl⟩ := okC_u32 k1
  obtain ⟨x2, rfl⟩ := okC_u32 k2
  obtain ⟨x3, rfl⟩ := okC_u32 k3
  obtain ⟨x4, rfl⟩ := okC_u32 k4
  obtain ⟨x5, rfl⟩ := okC_u32 k5
  obtain ⟨x6, rfl⟩ := okC_u32 k6
  obtain ⟨x7, rfl⟩ := okC_u32 k7
  obtain ⟨l, hl, rfl⟩ := okC_str k8
  obtain ⟨n, rfl⟩ := okC_u64 k9
  exact ⟨[x0, x1, x2, x3, x4, x5, x6, x7], l, n, rfl, hl, rfl⟩

end Pv
