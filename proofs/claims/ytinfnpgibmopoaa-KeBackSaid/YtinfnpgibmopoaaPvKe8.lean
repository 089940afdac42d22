/- Part of the proof: the layer of pure values, or a walk through a function (PvKe8). -/
import Derived.Test.YtinfnpgibmopoaaPvKe7
import Derived.Test.YtinfnpgibmopoaaPvEntry
set_option linter.all false
namespace Pv
open Go Go.Proofs Go.RowKit

theorem okR_krs : ∀ {n : Nat} {ps : List PV}, OkR [.bool, .int .i64, .str] n ps → ∃ l : List KR, ps = krsC l ∧ l.length = n ∧ ∀ r ∈ l, r.b.length ≤ maxLen
  | _, _, .nil _ => ⟨[], rfl, rfl, by simp⟩
  | _, _, .cons _ _ _ _ h hs => by
    obtain ⟨l, rfl, rfl, hl⟩ := okR_krs hs
    cases h with
    | cons _ _ _ _ h1 h => cases h with
      | cons _ _ _ _ h2 h => cases h with
        | cons _ _ _ _ h3 h => cases h with
          | nil =>
            cases h1; cases h2; cases h3
            rename_i c k hk b hb
            exact ⟨⟨c, k, b⟩ :: l, by simp [krsC, krC], rfl, by simpa using ⟨hb, hl⟩⟩
theorem okR_ints : ∀ {n : Nat} {ps : List PV}, OkR [.int .i64] n ps → ∃ l : List Int, ps = intsC l ∧ l.length = n
  | _, _, .nil _ => ⟨[], rfl, rfl⟩
  | _, _, .cons _ _ _ _ h hs => by
    obtain ⟨l, rfl, rfl⟩ := okR_ints hs
    cases h with
    | cons _ _ _ _ h1 h => cases h with
      | nil =>
        cases h1
        rename_i k hk
        exact ⟨k :: l, by simp [intsC], rfl⟩

theorem KeReads_ok (w0 : World) (n0 : Nat) (c0 : List PV) (l0 : n0 ≤ maxLen) (o0 : OkR [.bool, .int .i64, .str] n0 c0) (c1 : List UInt8) (o1 : c1.length ≤ maxLen) : Fn (Cx w0) 5 [.fsl 3 n0 c0, .str c1] (.bool true) := by
  obtain ⟨l, rfl, rfl, hl⟩ := okR_krs o0
  have hm : maxLen < 2 ^ 63 := by decide
  exact keReads_ok l c1 (fun r hr => by have := hl r hr; omega)
theorem KeTells_ok (w0 : World) (n0 : Nat) (c0 : List PV) (l0 : n0 ≤ maxLen) (o0 : OkR [.int .i64] n0 c0) (c1 : List UInt8) (o1 : c1.length ≤ maxLen) (n2 : Nat) (c2 : List PV) (l2 : n2 ≤ maxLen) (o2 : OkR [.bool, .int .i64, .str] n2 c2) (c3 : Int) (o3 : (Lit.int .i64 c3).wf = true) :
    Fn (Cx w0) 8 [.fsl 1 n0 c0, .str c1, .fsl 3 n2 c2, .int .i64 c3] (.bool true) := by
  obtain ⟨l, rfl, rfl⟩ := okR_ints o0
  obtain ⟨m, rfl, rfl, hl⟩ := okR_krs o2
  have hm : maxLen < 2 ^ 63 := by decide
  exact keTells_ok l c1 m c3
end Pv
