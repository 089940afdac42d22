/- Part of the proof: the layer of pure values, or a walk through a function (PvEntry3). -/
import Derived.Test.YthegpibaoikoeaaPvEntry2
set_option linter.all false
namespace Pv
open Go Go.RowKit

section
variable {H : Type} {enc : TypeId × Value → H} {P : Program} {w : World} {spare : Nat → Bool} {held : Bool} {t : TypeId} {v : Value} {d : DataW H} {ps : List MemPlace} {base : Nat} {ks : List FK}
/-- An argument that is an array. -/
theorem open_ar {n : Nat} {e : TypeId} (hu : P.underlying t = some (.array n e)) (hv : Value.okWide P w .any base t v) (h : DataW.Trod enc P w 0 spare held t v d ps) (hs : shP P 20 t = some ks) : ∃ cells, OkL ks cells ∧ RV (G0 w) (.agg cells) v := by
  obtain ⟨fuel, hf⟩ := h
  obtain ⟨cells, hr, ho⟩ := trod_rv _ _ _ _ _ _ hf hs
  obtain ⟨cs, rfl⟩ : ∃ cs, v = .agg cs := by
    simp only [Value.okWide, hu] at hv
    obtain ⟨cs, h1, h2, _⟩ := hv
    exact ⟨cs, h1⟩
  refine ⟨cells, ho, ?_⟩
  have : cs = cs.toList.toArray := by simp
  rw [this]
  exact .agg _ _ hr
end

theorem okC_u32 {p : PV} (h : OkC (.int .u32) p) : ∃ x : UInt32, p = .int .u32 (x.toNat : Int) := by
  cases h with
  | int k n hn =>
    have : (0 : Int) ≤ n ∧ n < 4294967296 := by
      simp [Lit.wf, IntKind.bits, IntKind.signed, IntKind.min, IntKind.max] at hn; omega
    exact ⟨UInt32.ofNat n.toNat, by congr 1; rw [UInt32.toNat_ofNat']; omega⟩
theorem okC_u64 {p : PV} (h : OkC (.int .u64) p) : ∃ x : UInt64, p = .int .u64 (x.toNat : Int) := by
  cases h with
  | int k n hn =>
    have : (0 : Int) ≤ n ∧ n < 18446744073709551616 := by
      simp [Lit.wf, IntKind.bits, IntKind.signed, IntKind.min, IntKind.max] at hn; omega
    exact ⟨UInt64.ofNat n.toNat, by congr 1; rw [UInt64.toNat_ofNat']; omega⟩
theorem okC_u8 {p : PV} (h : OkC (.int .u8) p) : ∃ x : UInt8, p = .int .u8 (x.toNat : Int) := by
  cases h with
  | int k n hn =>
    have : (0 : Int) ≤ n ∧ n < 256 := by
      simp [Lit.wf, IntKind.bits, IntKind.signed, IntKind.min, IntKind.max] at hn; omega
    exact ⟨UInt8.ofNat n.toNat, by congr 1; rw [UInt8.toNat_ofNat']; omega⟩
theorem wf_u8 {n : Int} (h : (Lit.int .u8 n).wf = true) : ∃ x : UInt8, n = (x.toNat : Int) := by
  obtain ⟨x, hx⟩ := okC_u8 (.int _ _ h)
  exact ⟨x, by cases hx; rfl⟩
theorem okC_str {p : PV} (h : OkC .str p) : ∃ l : List UInt8, l.length ≤ maxLen ∧ p = .str l := by
  cases h with | str l hl => exact ⟨l, hl, rfl⟩
theorem okL_cons {k : FK} {ks : List FK} {c : List PV} (h : OkL (k :: ks) c) : ∃ p ps, c = p :: ps ∧ OkC k p ∧ OkL ks ps := by
  cases h with | cons _ _ p ps h1 h2 => exact ⟨p, ps, rfl, h1, h2⟩
theorem okL_nil {c : List PV} (h : OkL [] c) : c = [] := by cases h; rfl
theorem okL_strs : ∀ {n : Nat} {c : List PV}, OkR [.str] n c → ∃ L : List (List UInt8), L.length = n ∧ (∀ s ∈ L, s.length ≤ maxLen) ∧ c = L.map PV.str
  | 0, _, h => by cases h; exact ⟨[], rfl, by simp, rfl⟩
  | n + 1, _, h => by
    cases h with
    | cons _ _ c r hc hr =>
      obtain ⟨p, ps, rfl, h1, h2⟩ := okL_cons hc
      obtain rfl := okL_nil h2
      obtain ⟨l, hl, rfl⟩ := okC_str h1
      obtain ⟨L, e1, e2, rfl⟩ := okL_strs hr
      exact ⟨l :: L, by simp [e1], by simpa using ⟨hl, e2⟩, rfl⟩
end Pv
