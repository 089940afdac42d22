/- Part of the proof: the layer of pure values, or a walk through a function (PvBits). -/
import Derived.Test.YthegpibaoikoeaaPvNum
set_option linter.all false
namespace Pv
open Go Go.RowKit

/-! ### Bits of numbers -/
theorem ofInt_nat (w n : Nat) : BitVec.ofInt w (n : Int) = BitVec.ofNat w n := by simp

theorem and_i64 (a b : Nat) (ha : a < 2 ^ 63) (hb : b < 2 ^ 63) : bitsP .and .i64 a b = ((a &&& b : Nat) : Int) := by
  have h : (a &&& b) ≤ a := Nat.and_le_left
  show IntKind.wrap .i64 (((BitVec.ofInt 64 (a : Int)) &&& (BitVec.ofInt 64 (b : Int))).toNat : Int) = _
  rw [ofInt_nat, ofInt_nat, BitVec.toNat_and, BitVec.toNat_ofNat, BitVec.toNat_ofNat, Nat.mod_eq_of_lt (by omega), Nat.mod_eq_of_lt (by omega)]
  exact IntWalk.i64_in _ (by omega)
theorem or_i64 (a b : Nat) (ha : a < 2 ^ 62) (hb : b < 2 ^ 62) : bitsP .or .i64 a b = ((a ||| b : Nat) : Int) := by
  have h : (a ||| b) < 2 ^ 62 := Nat.or_lt_two_pow ha hb
  show IntKind.wrap .i64 (((BitVec.ofInt 64 (a : Int)) ||| (BitVec.ofInt 64 (b : Int))).toNat : Int) = _
  rw [ofInt_nat, ofInt_nat, BitVec.toNat_or, BitVec.toNat_ofNat, BitVec.toNat_ofNat, Nat.mod_eq_of_lt (by omega), Nat.mod_eq_of_lt (by omega)]
  exact IntWalk.i64_in _ (by omega)
theorem xor_u8 (a b : UInt8) : bitsP .xor .u8 a.toNat b.toNat = ((a ^^^ b).toNat : Int) := by
  have h1 := a.toNat_lt; have h2 := b.toNat_lt
  show IntKind.wrap .u8 (((BitVec.ofInt 8 (a.toNat : Int)) ^^^ (BitVec.ofInt 8 (b.toNat : Int))).toNat : Int) = _
  rw [ofInt_nat, ofInt_nat, BitVec.toNat_xor, BitVec.toNat_ofNat, BitVec.toNat_ofNat, Nat.mod_eq_of_lt h1, Nat.mod_eq_of_lt h2, ← UInt8.toNat_xor]
  exact wrap_u8_b _
theorem and_u8 (a b : UInt8) : bitsP .and .u8 a.toNat b.toNat = ((a &&& b).toNat : Int) := by
  have h1 := a.toNat_lt; have h2 := b.toNat_lt
  show IntKind.wrap .u8 (((BitVec.ofInt 8 (a.toNat : Int)) &&& (BitVec.ofInt 8 (b.toNat : Int))).toNat : Int) = _
  rw [ofInt_nat, ofInt_nat, BitVec.toNat_and, BitVec.toNat_ofNat, BitVec.toNat_ofNat, Nat.mod_eq_of_lt h1, Nat.mod_eq_of_lt h2, ← UInt8.toNat_and]
  exact wrap_u8_b _
theorem or_u8 (a b : UInt8) : bitsP .or .u8 a.toNat b.toNat = ((a ||| b).toNat : Int) := by
  have h1 := a.toNat_lt; have h2 := b.toNat_lt
  show IntKind.wrap .u8 (((BitVec.ofInt 8 (a.toNat : Int)) ||| (BitVec.ofInt 8 (b.toNat : Int))).toNat : Int) = _
  rw [ofInt_nat, ofInt_nat, BitVec.toNat_or, BitVec.toNat_ofNat, BitVec.toNat_ofNat, Nat.mod_eq_of_lt h1, Nat.mod_eq_of_lt h2, ← UInt8.toNat_or]
  exact wrap_u8_b _

theorem bit15 (a : Nat) (ha : a < 65536) : a &&& 32768 = if 32768 ≤ a then 32768 else 0 := by
  apply Nat.eq_of_testBit_eq
  intro i
  rw [Nat.testBit_and, show (32768 : Nat) = 2 ^ 15 from rfl, Nat.testBit_two_pow]
  by_cases hi : 15 = i
  · subst hi
    rw [Nat.testBit_eq_decide_div_mod_eq]
    by_cases h : 2 ^ 15 ≤ a
    · rw [if_pos h, decide_eq_true (by omega)]; decide
    · rw [if_neg h, decide_eq_false (by omega)]; simp
  · split
    · rw [Nat.testBit_two_pow]; simp [hi]
    · simp [hi]
theorem or15 (a : Nat) (ha : a < 32768) : a ||| 32768 = a + 32768 := by
  have := Nat.two_pow_add_eq_or_of_lt (i := 15) ha 1
  rw [Nat.or_comm]; simp at this; omega
theorem nbit15 (a : Nat) (ha : a < 65536) : bitsP .andNot .i64 a 32768 = ((a % 32768 : Nat) : Int) := by
  have e : BitVec.ofInt 64 (32768 : Int) = 32768#64 := rfl
  show IntKind.wrap .i64 (((BitVec.ofInt 64 (a : Int)) &&& ~~~(BitVec.ofInt 64 (32768 : Int))).toNat : Int) = _
  rw [ofInt_nat, e]
  have : (BitVec.ofNat 64 a &&& ~~~32768#64).toNat = a % 32768 := by
    rw [BitVec.toNat_and, BitVec.toNat_ofNat, Nat.mod_eq_of_lt (by omega)]
    apply Nat.eq_of_testBit_eq
    intro i
    rw [Nat.testBit_and, show (32768 : Nat) = 2 ^ 15 from rfl, Nat.testBit_mod_two_pow]
    have e2 : ((~~~32768#64 : BitVec 64).toNat).testBit i = (~~~32768#64 : BitVec 64).getLsbD i := rfl
    rw [e2, BitVec.getLsbD_not]
    by_cases hi : i < 15
    · have h3 : (32768#64).getLsbD i = false := by
        have : ∀ j : Fin 15, (32768#64).getLsbD j = false := by decide
        exact this ⟨i, hi⟩
      simp [hi, h3]; intro _; omega
    · by_cases hi2 : i = 15
      · subst hi2; simp
      · have : a.testBit i = false := by
          apply Nat.testBit_lt_two_pow
          calc a < 2 ^ 16 := ha
            _ ≤ 2 ^ i := Nat.pow_le_pow_right (by decide) (by omega)
        simp [this, hi]
  rw [this]
  exact IntWalk.i64_in _ (by omega)
end Pv
