/- Part of the proof: the layer of pure values, or a walk through a function (PvHkH). -/
import Derived.Test.YthegpibaoikoeaaPvShaH
set_option linter.all false
namespace Pv
open Go

/-! ### Chapter 7: keys of keys, in plain Lean -/
def tK (prk info : List UInt8) : Nat → List UInt8
  | 0 => []
  | k + 1 => macL prk (tK prk info k ++ info ++ [UInt8.ofNat (k + 1)])
def okm (prk info : List UInt8) : Nat → List UInt8
  | 0 => []
  | k + 1 => okm prk info k ++ tK prk info (k + 1)
theorem tK_le (prk info : List UInt8) : ∀ k, (tK prk info k).length ≤ 32
  | 0 => Nat.zero_le _
  | k + 1 => by rw [tK, mac_len]; exact Nat.le_refl _
theorem tK_len (prk info : List UInt8) (k : Nat) : (tK prk info (k + 1)).length = 32 := by rw [tK, mac_len]
theorem okm_len (prk info : List UInt8) : ∀ k, (okm prk info k).length = 32 * k
  | 0 => rfl
  | k + 1 => by rw [okm, List.length_append, okm_len prk info k, tK_len]; omega
theorem okm_take (prk info : List UInt8) (n i : Nat) (h : n ≤ 32 * i) : ∀ j, (okm prk info (i + j)).take n = (okm prk info i).take n
  | 0 => rfl
  | j + 1 => by
    rw [← Nat.add_assoc, okm, List.take_append_of_le_length (by rw [okm_len]; omega)]
    exact okm_take prk info n i h j
def expandL (prk info : List UInt8) (n : Int) : List UInt8 × Int :=
  if n < 0 ∨ 8160 < n then ([], 13) else ((okm prk info ((n.toNat + 31) / 32)).take n.toNat, 0)
theorem expand_of (prk info : List UInt8) (m i : Nat) (hm : m ≤ 8160) (h : m ≤ 32 * i) : expandL prk info (m : Int) = ((okm prk info i).take m, 0) := by
  have e : (m + 31) / 32 ≤ i := by omega
  obtain ⟨j, rfl⟩ : ∃ j, i = (m + 31) / 32 + j := ⟨i - (m + 31) / 32, by omega⟩
  rw [expandL, if_neg (by omega), Int.toNat_natCast, okm_take prk info m _ (by omega) j]
theorem expand_len (prk info : List UInt8) (m : Nat) (hm : m ≤ 8160) : (expandL prk info (m : Int)).1.length = m := by
  rw [expand_of prk info m ((m + 31) / 32) hm (by omega)]
  show ((okm prk info ((m + 31) / 32)).take m).length = m
  rw [List.length_take, okm_len]; omega
theorem expand_fewer (prk info : List UInt8) (m k : Nat) (h : m + k ≤ 8160) : (expandL prk info ((m + k : Nat) : Int)).1.take m = (expandL prk info (m : Int)).1 := by
  rw [expand_of prk info (m + k) ((m + k + 31) / 32) h (by omega), expand_of prk info m ((m + k + 31) / 32) (by omega) (by omega)]
  show ((okm prk info _).take (m + k)).take m = _
  rw [List.take_take, Nat.min_eq_left (by omega)]

def tls13 : List UInt8 := [116, 108, 115, 49, 51, 32]
def infoB (label ctx : List UInt8) (m : Nat) : List UInt8 := [UInt8.ofNat (m / 256), UInt8.ofNat m, UInt8.ofNat (label.length + 6)] ++ (tls13 ++ label) ++ [UInt8.ofNat ctx.length] ++ ctx
def infoL (label ctx : List UInt8) (n : Int) : List UInt8 × Int :=
  if n < 0 ∨ 65535 < n then ([], 13) else if 249 < label.length ∨ 255 < ctx.length then ([], 12) else (infoB label ctx n.toNat, 0)
theorem infoB_len (label ctx : List UInt8) (m : Nat) : (infoB label ctx m).length = label.length + ctx.length + 10 := by simp [infoB, tls13]; omega
theorem ofNat_inj {a b : Nat} (ha : a < 256) (hb : b < 256) (h : UInt8.ofNat a = UInt8.ofNat b) : a = b := by
  have := congrArg UInt8.toNat h
  rw [UInt8.toNat_ofNat', UInt8.toNat_ofNat'] at this; omega
theorem infoB_inj {a b c d : List UInt8} {m n : Nat} (hm : m ≤ 65535) (hn : n ≤ 65535) (ha : a.length ≤ 249) (hb : b.length ≤ 255) (hc : c.length ≤ 249) (hd : d.length ≤ 255) : infoB a b m = infoB c d n ↔ a = c ∧ b = d ∧ m = n := by
  constructor
  · intro h
    simp only [infoB, List.cons_append, List.nil_append, List.append_assoc, List.cons.injEq] at h
    obtain ⟨h1, h2, h3, h4⟩ := h
    have e1 := ofNat_inj (by omega) (by omega) h1
    have e2 : m % 256 = n % 256 := by
      have := congrArg UInt8.toNat h2
      rwa [UInt8.toNat_ofNat', UInt8.toNat_ofNat'] at this
    have e3 := ofNat_inj (by omega) (by omega) h3
    have h5 := (List.append_inj h4 rfl).2
    have h6 := List.append_inj h5 (by omega)
    refine ⟨h6.1, ?_, by omega⟩
    have h7 := h6.2
    simp only [List.cons.injEq] at h7
    exact h7.2
  · rintro ⟨rfl, rfl, rfl⟩; rfl
def labelL (secret label ctx : List UInt8) (n : Int) : List UInt8 × Int :=
  if (infoL label ctx n).2 ≠ 0 then ([], (infoL label ctx n).2) else expandL secret (infoL label ctx n).1 n
theorem wrapb (n : Nat) : IntKind.wrap .u8 (n : Int) = ((UInt8.ofNat n).toNat : Int) := by
  rw [UInt8.toNat_ofNat']
  simp [IntKind.wrap, IntKind.bits, IntKind.signed]
end Pv
