/- Part of the proof: the layer of pure values, or a walk through a function (PvW32). -/
import Derived.Test.YthegpibaoikoeaaPvBits
import Derived.Test.YthegpibaoikoeaaPvH
set_option linter.all false
namespace Pv
open Go Go.RowKit

/-! ### Words of 32 bits -/
def w32 (x : UInt32) : PV := .int .u32 (x.toNat : Int)
def wC (l : List UInt32) : List PV := l.map w32

theorem wrap_u32 (n : Nat) : IntKind.wrap .u32 (n : Int) = ((n % 4294967296 : Nat) : Int) := by
  simp [IntKind.wrap, IntKind.bits, IntKind.signed]
theorem add32 (x y : UInt32) : IntKind.wrap .u32 ((x.toNat : Int) + (y.toNat : Int)) = ((x + y).toNat : Int) := by
  have : (x.toNat : Int) + (y.toNat : Int) = ((x.toNat + y.toNat : Nat) : Int) := by omega
  rw [this, wrap_u32, UInt32.toNat_add]
theorem wrap32 (x : UInt32) : IntKind.wrap .u32 (x.toNat : Int) = x.toNat := by
  rw [wrap_u32, Nat.mod_eq_of_lt x.toNat_lt]
theorem xor32 (a b : UInt32) : bitsP .xor .u32 a.toNat b.toNat = ((a ^^^ b).toNat : Int) := by
  show IntKind.wrap .u32 (((BitVec.ofInt 32 (a.toNat : Int)) ^^^ (BitVec.ofInt 32 (b.toNat : Int))).toNat : Int) = _
  rw [ofInt_nat, ofInt_nat, BitVec.toNat_xor, BitVec.toNat_ofNat, BitVec.toNat_ofNat, Nat.mod_eq_of_lt a.toNat_lt, Nat.mod_eq_of_lt b.toNat_lt, ← UInt32.toNat_xor]
  exact wrap32 _
theorem and32 (a b : UInt32) : bitsP .and .u32 a.toNat b.toNat = ((a &&& b).toNat : Int) := by
  show IntKind.wrap .u32 (((BitVec.ofInt 32 (a.toNat : Int)) &&& (BitVec.ofInt 32 (b.toNat : Int))).toNat : Int) = _
  rw [ofInt_nat, ofInt_nat, BitVec.toNat_and, BitVec.toNat_ofNat, BitVec.toNat_ofNat, Nat.mod_eq_of_lt a.toNat_lt, Nat.mod_eq_of_lt b.toNat_lt, ← UInt32.toNat_and]
  exact wrap32 _
theorem or32 (a b : UInt32) : bitsP .or .u32 a.toNat b.toNat = ((a ||| b).toNat : Int) := by
  show IntKind.wrap .u32 (((BitVec.ofInt 32 (a.toNat : Int)) ||| (BitVec.ofInt 32 (b.toNat : Int))).toNat : Int) = _
  rw [ofInt_nat, ofInt_nat, BitVec.toNat_or, BitVec.toNat_ofNat, BitVec.toNat_ofNat, Nat.mod_eq_of_lt a.toNat_lt, Nat.mod_eq_of_lt b.toNat_lt, ← UInt32.toNat_or]
  exact wrap32 _
theorem shl32 (x : UInt32) (m : Nat) (h : m < 32) : shlP .u32 (x.toNat : Int) (m : Int) = ((x <<< UInt32.ofNat m).toNat : Int) := by
  have e : min ((m : Int)).toNat (IntKind.bits .u32) = m := by simp [IntKind.bits]; omega
  have e2 : (UInt32.ofNat m).toNat = m := by simp; omega
  simp only [shlP]
  rw [e, UInt32.toNat_shiftLeft, e2, Nat.mod_eq_of_lt h, Nat.shiftLeft_eq]
  have : (x.toNat : Int) * 2 ^ m = ((x.toNat * 2 ^ m : Nat) : Int) := by simp
  rw [this, wrap_u32]
theorem shr32 (x : UInt32) (m : Nat) (h : m < 32) : shrP .u32 (x.toNat : Int) (m : Int) = ((x >>> UInt32.ofNat m).toNat : Int) := by
  have e : min ((m : Int)).toNat (IntKind.bits .u32) = m := by simp [IntKind.bits]; omega
  have e2 : (UInt32.ofNat m).toNat = m := by simp; omega
  simp only [shrP]
  rw [e, UInt32.toNat_shiftRight, e2, Nat.mod_eq_of_lt h, Nat.shiftRight_eq_div_pow]
  have e3 : (2 : Int) ^ m = ((2 ^ m : Nat) : Int) := by simp
  rw [e3, Int.fdiv_eq_ediv_of_nonneg _ (Int.natCast_nonneg _)]; rfl
theorem shl32_8 (x : UInt32) : shlP .u32 (x.toNat : Int) 8 = ((x <<< 8).toNat : Int) := shl32 x 8 (by decide)
theorem shl32_16 (x : UInt32) : shlP .u32 (x.toNat : Int) 16 = ((x <<< 16).toNat : Int) := shl32 x 16 (by decide)
theorem shl32_24 (x : UInt32) : shlP .u32 (x.toNat : Int) 24 = ((x <<< 24).toNat : Int) := shl32 x 24 (by decide)
theorem shr32_3 (x : UInt32) : shrP .u32 (x.toNat : Int) 3 = ((x >>> 3).toNat : Int) := shr32 x 3 (by decide)
theorem shr32_8 (x : UInt32) : shrP .u32 (x.toNat : Int) 8 = ((x >>> 8).toNat : Int) := shr32 x 8 (by decide)
theorem shr32_10 (x : UInt32) : shrP .u32 (x.toNat : Int) 10 = ((x >>> 10).toNat : Int) := shr32 x 10 (by decide)
theorem shr32_16 (x : UInt32) : shrP .u32 (x.toNat : Int) 16 = ((x >>> 16).toNat : Int) := shr32 x 16 (by decide)
theorem shr32_24 (x : UInt32) : shrP .u32 (x.toNat : Int) 24 = ((x >>> 24).toNat : Int) := shr32 x 24 (by decide)
/-- A byte, as a word. -/
theorem b32 (b : UInt8) : (b.toUInt32.toNat : Int) = (b.toNat : Int) := by simp
theorem low32 (x : UInt32) : IntKind.wrap .u8 (x.toNat : Int) = (x.toUInt8.toNat : Int) := by
  have : IntKind.wrap .u8 ((x.toNat : Nat) : Int) = ((x.toNat % 256 : Nat) : Int) := by simp [IntKind.wrap, IntKind.bits, IntKind.signed]
  rw [this]; simp

def rotr (x : UInt32) (n : Nat) : UInt32 := (x >>> UInt32.ofNat n) ||| (x <<< UInt32.ofNat (32 - n))

theorem wC_get (l : List UInt32) (i : Nat) : (wC l)[i]? = (l[i]?).map w32 := by simp [wC]
theorem wC_len (l : List UInt32) : (wC l).length = l.length := by simp [wC]
theorem wC_set (l : List UInt32) (i : Nat) (x : UInt32) : (wC l).set i (.int .u32 (x.toNat : Int)) = wC (l.set i x) := by simp [wC, List.map_set, w32]
theorem wC_append (a b : List UInt32) : wC (a ++ b) = wC a ++ wC b := by simp [wC]
theorem wC_drop (l : List UInt32) (i : Nat) : (wC l).drop i = wC (l.drop i) := by simp [wC]
theorem wC_take (l : List UInt32) (i : Nat) : (wC l).take i = wC (l.take i) := by simp [wC]
theorem wC_ok (l : List UInt32) : (wC l).all cellOk = true := by simp [wC, w32, cellOk]
theorem wC_scalar (l : List UInt32) : (wC l).all scalarV = true := by simp [wC, w32, scalarV]
theorem scs_w {n : Nat} {l : List UInt32} : Scs n (wC l) = True := eq_true (scs_scalars (wC_scalar l))
theorem wC_zero (n : Nat) : List.replicate n (PV.int .u32 0) = wC (List.replicate n 0) := by simp [wC, w32]
end Pv
