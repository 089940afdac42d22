/- Part of the proof: the layer of pure values, or walks through functions (PvGcE, PvW64, PvGcB, PvSvE, PvGc1, PvH6). -/
import Derived.Test.YtjomgffpkdcanaaGreatDoorPvDrawP
import Derived.Test.YtjomgffpkdcanaaGreatDoorPvH
import Derived.Test.YtjomgffpkdcanaaGreatDoorPvRb3
import Derived.Test.YtjomgffpkdcanaaGreatDoorPvAe7
import Derived.Test.YtjomgffpkdcanaaGreatDoorPvAe5
set_option linter.all false
set_option linter.all false
namespace Pv
/-! ### A field told by the powers of T: plain. -/
/-- A block as two numbers. -/
structure El where
  hi : UInt64
  lo : UInt64
deriving DecidableEq
namespace El
def xor (a b : El) : El := ⟨a.hi ^^^ b.hi, a.lo ^^^ b.lo⟩
def zero : El := ⟨0, 0⟩
def T (f : El) : El := ⟨(f.hi >>> 1) ^^^ ((f.lo &&& 1) * 16212958658533785600), (f.lo >>> 1) ||| (f.hi <<< 63)⟩
def bit (e : El) (i : Nat) : UInt64 := ((if i < 64 then e.hi else e.lo) >>> UInt64.ofNat (63 - i % 64)) &&& 1
def pw (f : El) : Nat → El
  | 0 => f
  | i + 1 => T (pw f i)
/-- The sum of the first i parts. -/
def sm (a f : El) : Nat → El
  | 0 => zero
  | i + 1 => if bit a i = 1 then xor (sm a f i) (pw f i) else sm a f i
def mul (a f : El) : El := sm a f 128
def one : El := ⟨9223372036854775808, 0⟩
theorem ext' {a b : El} (h : a.hi = b.hi) (l : a.lo = b.lo) : a = b := by cases a; cases b; simp_all
theorem xor_comm (a b : El) : xor a b = xor b a := ext' (UInt64.xor_comm ..) (UInt64.xor_comm ..)
theorem xor_assoc (a b c : El) : xor (xor a b) c = xor a (xor b c) := ext' (UInt64.xor_assoc ..) (UInt64.xor_assoc ..)
theorem xor_zero (a : El) : xor a zero = a := ext' (UInt64.xor_zero) (UInt64.xor_zero)
theorem zero_xor (a : El) : xor zero a = a := by rw [xor_comm, xor_zero]
theorem xor_self (a : El) : xor a a = zero := ext' (UInt64.xor_self) (UInt64.xor_self)
theorem low_cases (x : UInt64) : x &&& 1 = 0 ∨ x &&& 1 = 1 := by
  have h : (x &&& 1).toNat = x.toNat % 2 := by rw [UInt64.toNat_and]; exact Nat.and_one_is_mod _
  rcases Nat.mod_two_eq_zero_or_one x.toNat with e | e
  · left; apply UInt64.toNat_inj.1; rw [h, e]; rfl
  · right; apply UInt64.toNat_inj.1; rw [h, e]; rfl
theorem and_xor1 (x y : UInt64) : (x ^^^ y) &&& 1 = (x &&& 1) ^^^ (y &&& 1) := by
  apply UInt64.toBitVec_inj.1; simp only [UInt64.toBitVec_and, UInt64.toBitVec_xor]
  ext i; simp; cases x.toBitVec[i] <;> cases y.toBitVec[i] <;> simp
theorem low_mul (x y : UInt64) (c : UInt64) : ((x ^^^ y) &&& 1) * c = ((x &&& 1) * c) ^^^ ((y &&& 1) * c) := by
  rw [and_xor1]
  rcases low_cases x with h | h <;> rcases low_cases y with g | g <;> rw [h, g] <;> simp
theorem shr_xor1 (x y : UInt64) : (x ^^^ y) >>> 1 = (x >>> 1) ^^^ (y >>> 1) := by
  apply UInt64.toBitVec_inj.1; simp only [UInt64.toBitVec_shiftRight, UInt64.toBitVec_xor]
  ext i; simp
theorem or_shl (x y u v : UInt64) : ((x ^^^ y) >>> 1) ||| ((u ^^^ v) <<< 63) = ((x >>> 1) ||| (u <<< 63)) ^^^ ((y >>> 1) ||| (v <<< 63)) := by
  apply UInt64.toBitVec_inj.1; simp only [UInt64.toBitVec_shiftRight, UInt64.toBitVec_shiftLeft, UInt64.toBitVec_or, UInt64.toBitVec_xor]
  ext i hi
  simp
  rcases Nat.lt_or_ge i 63 with h | h
  · simp [h]
  · have : i = 63 := by omega
    subst this; simp
theorem T_xor (a b : El) : T (xor a b) = xor (T a) (T b) := by
  apply ext'
  · show ((a.hi ^^^ b.hi) >>> (1 : UInt64)) ^^^ (((a.lo ^^^ b.lo) &&& (1 : UInt64)) * (16212958658533785600 : UInt64)) = _
    rw [shr_xor1, low_mul]
    show _ = ((a.hi >>> (1 : UInt64)) ^^^ ((a.lo &&& (1 : UInt64)) * (16212958658533785600 : UInt64))) ^^^ ((b.hi >>> (1 : UInt64)) ^^^ ((b.lo &&& (1 : UInt64)) * (16212958658533785600 : UInt64)))
    ac_rfl
  · exact or_shl ..
theorem T_zero : T zero = zero := by decide
theorem pw_xor (a b : El) : ∀ i, pw (xor a b) i = xor (pw a i) (pw b i)
  | 0 => rfl
  | i + 1 => by rw [pw, pw_xor a b i, T_xor]; rfl
theorem pw_zero : ∀ i, pw zero i = zero
  | 0 => rfl
  | i + 1 => by rw [pw, pw_zero i, T_zero]
theorem pw_T (f : El) : ∀ i, pw (T f) i = T (pw f i)
  | 0 => rfl
  | i + 1 => by rw [pw, pw_T f i]; rfl
theorem xor4 (a b c d : El) : xor (xor a b) (xor c d) = xor (xor a c) (xor b d) := by
  rw [xor_assoc, xor_assoc, ← xor_assoc b c d, xor_comm b c, xor_assoc c b d]
theorem sm_xor (a f g : El) : ∀ i, sm a (xor f g) i = xor (sm a f i) (sm a g i)
  | 0 => by rw [sm, sm, sm, xor_zero]
  | i + 1 => by
    rw [sm, sm, sm, sm_xor a f g i]
    split
    · rw [pw_xor, xor4]
    · rfl
theorem sm_zero (a : El) : ∀ i, sm a zero i = zero
  | 0 => rfl
  | i + 1 => by
    rw [sm, sm_zero a i]
    split
    · rw [pw_zero, xor_zero]
    · rfl
theorem sm_T (a f : El) : ∀ i, sm a (T f) i = T (sm a f i)
  | 0 => by rw [sm, sm, T_zero]
  | i + 1 => by
    rw [sm, sm, sm_T a f i]
    split
    · rw [pw_T, T_xor]
    · rfl
theorem sm_pw (a f : El) (n : Nat) : ∀ i, sm a (pw f i) n = pw (sm a f n) i
  | 0 => rfl
  | i + 1 => by rw [pw, sm_T, sm_pw a f n i]; rfl
/-- Two factors turn places. -/
theorem sm_sm (a b c : El) (n : Nat) : ∀ i, sm a (sm b c i) n = sm b (sm a c n) i
  | 0 => sm_zero a n
  | i + 1 => by
    rw [sm, sm]
    split
    · rw [sm_xor, sm_sm a b c n i, sm_pw]
    · exact sm_sm a b c n i
theorem mul_left (a b c : El) : mul a (mul b c) = mul b (mul a c) := sm_sm a b c 128 128
/-! #### One -/
def ei (i : Nat) : El := if i < 64 then ⟨1 <<< UInt64.ofNat (63 - i), 0⟩ else ⟨0, 1 <<< UInt64.ofNat (127 - i)⟩
theorem T_ei : ∀ i, i < 127 → T (ei i) = ei (i + 1) := by
  have : ∀ i : Fin 127, T (ei i.val) = ei (i.val + 1) := by decide +kernel
  exact fun i h => this ⟨i, h⟩
theorem pw_one : ∀ i, i < 128 → pw one i = ei i
  | 0, _ => by decide
  | i + 1, h => by rw [pw, pw_one i (by omega), T_ei i (by omega)]
theorem bit_ei : ∀ i k, i < 128 → k < 128 → bit (ei i) k = if i = k then 1 else 0 := by
  have : ∀ i : Fin 128, ∀ k : Fin 128, bit (ei i.val) k.val = if i.val = k.val then 1 else 0 := by decide +kernel
  exact fun i k h g => this ⟨i, h⟩ ⟨k, g⟩
theorem shr_xor (x y m : UInt64) : (x ^^^ y) >>> m = (x >>> m) ^^^ (y >>> m) := by
  apply UInt64.toBitVec_inj.1; simp only [UInt64.toBitVec_shiftRight, UInt64.toBitVec_xor]
  ext i; simp
theorem bit_xor (a b : El) (k : Nat) : bit (xor a b) k = bit a k ^^^ bit b k := by
  rw [bit, bit, bit]
  split
  · show ((a.hi ^^^ b.hi) >>> _) &&& 1 = _; rw [shr_xor, and_xor1]
  · show ((a.lo ^^^ b.lo) >>> _) &&& 1 = _; rw [shr_xor, and_xor1]
theorem bit_cases (a : El) (k : Nat) : bit a k = 0 ∨ bit a k = 1 := low_cases _
theorem bit_zero (k : Nat) : bit zero k = 0 := by
  rw [bit]; split <;> simp [zero]
theorem bit_sm (a : El) (k : Nat) (hk : k < 128) : ∀ n, n ≤ 128 → bit (sm a one n) k = if k < n then bit a k else 0
  | 0, _ => by rw [sm, bit_zero, if_neg (by omega)]
  | n + 1, h => by
    rw [sm]
    have ih := bit_sm a k hk n (by omega)
    have hb : bit (pw one n) k = if n = k then 1 else 0 := by rw [pw_one n (by omega), bit_ei n k (by omega) hk]
    by_cases hnk : n = k
    · subst hnk
      rw [if_neg (by omega)] at ih
      rw [if_pos rfl] at hb
      rw [show (if n < n + 1 then bit a n else 0) = bit a n from if_pos (by omega)]
      rcases bit_cases a n with e | e
      · rw [e, if_neg (by decide), ih]
      · rw [e, if_pos rfl, bit_xor, ih, hb]; rfl
    · rw [if_neg hnk] at hb
      have e1 : (if k < n + 1 then bit a k else 0) = if k < n then bit a k else 0 := by
        by_cases h1 : k < n
        · rw [if_pos h1, if_pos (by omega)]
        · rw [if_neg h1, if_neg (by omega)]
      rw [e1, ← ih]
      split
      · rw [bit_xor, hb, UInt64.xor_zero]
      · rfl
theorem u64_bits {x y : UInt64} (h : ∀ m, m < 64 → (x >>> UInt64.ofNat m) &&& 1 = (y >>> UInt64.ofNat m) &&& 1) : x = y := by
  have t : ∀ (z : UInt64) m, m < 64 → ((z >>> UInt64.ofNat m) &&& 1).toNat = (z.toNat >>> m) &&& 1 := by
    intro z m hm
    rw [UInt64.toNat_and, UInt64.toNat_shiftRight, UInt64.toNat_ofNat']
    rw [show m % 2 ^ 64 % 64 = m by omega]; rfl
  apply UInt64.toNat_inj.1
  apply Nat.eq_of_testBit_eq
  intro m
  rcases Nat.lt_or_ge m 64 with hm | hm
  · have := congrArg UInt64.toNat (h m hm)
    rw [t x m hm, t y m hm, Nat.and_one_is_mod, Nat.and_one_is_mod] at this
    rw [Nat.testBit, Nat.testBit, Nat.and_comm, Nat.and_one_is_mod, Nat.and_comm, Nat.and_one_is_mod, this]
  · have hx := x.toNat_lt
    have hy := y.toNat_lt
    rw [Nat.testBit_lt_two_pow (Nat.lt_of_lt_of_le hx (Nat.pow_le_pow_right (by decide) hm)), Nat.testBit_lt_two_pow (Nat.lt_of_lt_of_le hy (Nat.pow_le_pow_right (by decide) hm))]
theorem el_bits {a b : El} (h : ∀ k, k < 128 → bit a k = bit b k) : a = b := by
  apply ext'
  · apply u64_bits; intro m hm
    have := h (63 - m) (by omega)
    rw [bit, bit, if_pos (by omega), if_pos (by omega), show 63 - (63 - m) % 64 = m by omega] at this; exact this
  · apply u64_bits; intro m hm
    have := h (127 - m) (by omega)
    rw [bit, bit, if_neg (by omega), if_neg (by omega), show 63 - (127 - m) % 64 = m by omega] at this; exact this
theorem mul_one (a : El) : mul a one = a := el_bits fun k hk => by rw [mul, bit_sm a k hk 128 (by omega), if_pos hk]
theorem mul_comm (a b : El) : mul a b = mul b a := by
  have := mul_left a b one
  rwa [mul_one, mul_one] at this
end El
end Pv

set_option linter.all false
namespace Pv
open Go Go.RowKit

/-! ### Words of 64 bits -/
theorem wrap_u64n (n : Nat) : IntKind.wrap .u64 (n : Int) = ((n % 18446744073709551616 : Nat) : Int) := by
  simp [IntKind.wrap, IntKind.bits, IntKind.signed]
theorem mul64 (x y : UInt64) : IntKind.wrap .u64 ((x.toNat : Int) * (y.toNat : Int)) = ((x * y).toNat : Int) := by
  have : (x.toNat : Int) * (y.toNat : Int) = ((x.toNat * y.toNat : Nat) : Int) := by simp
  rw [this, wrap_u64n, UInt64.toNat_mul]
theorem wrap64 (x : UInt64) : IntKind.wrap .u64 (x.toNat : Int) = x.toNat := by
  rw [wrap_u64n, Nat.mod_eq_of_lt x.toNat_lt]
theorem xor64 (a b : UInt64) : bitsP .xor .u64 a.toNat b.toNat = ((a ^^^ b).toNat : Int) := by
  show IntKind.wrap .u64 (((BitVec.ofInt 64 (a.toNat : Int)) ^^^ (BitVec.ofInt 64 (b.toNat : Int))).toNat : Int) = _
  rw [ofInt_nat, ofInt_nat, BitVec.toNat_xor, BitVec.toNat_ofNat, BitVec.toNat_ofNat, Nat.mod_eq_of_lt a.toNat_lt, Nat.mod_eq_of_lt b.toNat_lt, ← UInt64.toNat_xor]
  exact wrap64 _
theorem and64 (a b : UInt64) : bitsP .and .u64 a.toNat b.toNat = ((a &&& b).toNat : Int) := by
  show IntKind.wrap .u64 (((BitVec.ofInt 64 (a.toNat : Int)) &&& (BitVec.ofInt 64 (b.toNat : Int))).toNat : Int) = _
  rw [ofInt_nat, ofInt_nat, BitVec.toNat_and, BitVec.toNat_ofNat, BitVec.toNat_ofNat, Nat.mod_eq_of_lt a.toNat_lt, Nat.mod_eq_of_lt b.toNat_lt, ← UInt64.toNat_and]
  exact wrap64 _
theorem or64 (a b : UInt64) : bitsP .or .u64 a.toNat b.toNat = ((a ||| b).toNat : Int) := by
  show IntKind.wrap .u64 (((BitVec.ofInt 64 (a.toNat : Int)) ||| (BitVec.ofInt 64 (b.toNat : Int))).toNat : Int) = _
  rw [ofInt_nat, ofInt_nat, BitVec.toNat_or, BitVec.toNat_ofNat, BitVec.toNat_ofNat, Nat.mod_eq_of_lt a.toNat_lt, Nat.mod_eq_of_lt b.toNat_lt, ← UInt64.toNat_or]
  exact wrap64 _
theorem shl64 (x : UInt64) (m : Nat) (h : m < 64) : shlP .u64 (x.toNat : Int) (m : Int) = ((x <<< UInt64.ofNat m).toNat : Int) := by
  have e : min ((m : Int)).toNat (IntKind.bits .u64) = m := by simp [IntKind.bits]; omega
  have e2 : (UInt64.ofNat m).toNat = m := by simp; omega
  simp only [shlP]
  rw [e, UInt64.toNat_shiftLeft, e2, Nat.mod_eq_of_lt h, Nat.shiftLeft_eq]
  have : (x.toNat : Int) * 2 ^ m = ((x.toNat * 2 ^ m : Nat) : Int) := by simp
  rw [this, wrap_u64n]
theorem shr64 (x : UInt64) (m : Nat) (h : m < 64) : shrP .u64 (x.toNat : Int) (m : Int) = ((x >>> UInt64.ofNat m).toNat : Int) := by
  have e : min ((m : Int)).toNat (IntKind.bits .u64) = m := by simp [IntKind.bits]; omega
  have e2 : (UInt64.ofNat m).toNat = m := by simp; omega
  simp only [shrP]
  rw [e, UInt64.toNat_shiftRight, e2, Nat.mod_eq_of_lt h, Nat.shiftRight_eq_div_pow]
  have e3 : (2 : Int) ^ m = ((2 ^ m : Nat) : Int) := by simp
  rw [e3, Int.fdiv_eq_ediv_of_nonneg _ (Int.natCast_nonneg _)]; rfl
theorem shl64_8 (x : UInt64) : shlP .u64 (x.toNat : Int) 8 = ((x <<< 8).toNat : Int) := shl64 x 8 (by decide)
theorem shl64_63 (x : UInt64) : shlP .u64 (x.toNat : Int) 63 = ((x <<< 63).toNat : Int) := shl64 x 63 (by decide)
theorem shr64_1 (x : UInt64) : shrP .u64 (x.toNat : Int) 1 = ((x >>> 1).toNat : Int) := shr64 x 1 (by decide)
theorem and64_1 (a : UInt64) : bitsP .and .u64 a.toNat 1 = ((a &&& 1).toNat : Int) := and64 a 1
theorem low64 (x : UInt64) : IntKind.wrap .u8 (x.toNat : Int) = (x.toUInt8.toNat : Int) := by
  have : IntKind.wrap .u8 ((x.toNat : Nat) : Int) = ((x.toNat % 256 : Nat) : Int) := by simp [IntKind.wrap, IntKind.bits, IntKind.signed]
  rw [this]; simp
theorem eq1_u64 (b : UInt64) : ((b.toNat : Int) == 1) = decide (b = 1) := by
  by_cases h : b = 1
  · subst h; rfl
  · rw [decide_eq_false h, beq_eq_false_iff_ne]
    intro h2; apply h; apply UInt64.toNat_inj.1; show b.toNat = 1; omega
/-- A block of two words. -/
theorem or64_b (x : UInt64) (b : UInt8) : bitsP .or .u64 x.toNat b.toNat = ((x ||| b.toUInt64).toNat : Int) := by
  rw [← or64]; simp
theorem mul64_e1 (x : UInt64) : IntKind.wrap .u64 ((x.toNat : Int) * 16212958658533785600) = ((x * 16212958658533785600).toNat : Int) := mul64 x 16212958658533785600
def elC (e : El) : List PV := [.int .u64 (e.hi.toNat : Int), .int .u64 (e.lo.toNat : Int)]
theorem elC_scalar (e : El) : (elC e).all scalarV = true := by simp [elC, scalarV]
theorem elC_ok (e : El) : (elC e).all cellOk = true := by simp [elC, cellOk]
theorem elC_len (e : El) : (elC e).length = 2 := rfl
theorem elC_at (e : El) {i : Nat} (h : i < 2) : (elC e)[i]? = some (.int .u64 (((if i = 0 then e.hi else e.lo).toNat : Nat) : Int)) := by
  match i, h with
  | 0, _ => rfl
  | 1, _ => rfl
theorem scs_el {n : Nat} {e : El} : Scs n (elC e) = True := eq_true (scs_scalars (elC_scalar e))
end Pv

set_option linter.all false
set_option maxHeartbeats 1000000
namespace Pv
open Go
/-! ### Blocks of bytes as elements: plain. -/
namespace El
def push (e : El) (i : Nat) (b : UInt8) : El := if i < 8 then ⟨(e.hi <<< 8) ||| b.toUInt64, e.lo⟩ else ⟨e.hi, (e.lo <<< 8) ||| b.toUInt64⟩
end El
/-- A block's first i bytes. -/
def elI (b : List UInt8) : Nat → El
  | 0 => El.zero
  | i + 1 => (elI b i).push i (b.getD i 0)
def elB (b : List UInt8) : El := elI b 16
def txB (e : El) (i : Nat) : UInt8 := ((if i < 8 then e.hi else e.lo) >>> UInt64.ofNat (56 - 8 * (i % 8))).toUInt8
def elT (e : El) : List UInt8 := (List.range 16).map (txB e)
theorem elT_len (e : El) : (elT e).length = 16 := by simp [elT]
theorem elT_at (e : El) {i : Nat} (h : i < 16) : (elT e)[i]? = some (txB e i) := by simp [elT, h]
/-- A row of bytes shifted by one bit. -/
def sb (v : List UInt8) (k : Nat) : UInt8 := if k = 0 then v.getD 0 0 >>> 1 else (v.getD k 0 >>> 1) ||| (v.getD (k - 1) 0 <<< 7)
/-! #### Hashes -/
def hstep (key x b : El) : El := El.mul (El.xor x b) key
def hsh (key x : El) (l : List UInt8) : Nat → El
  | 0 => x
  | j + 1 => hstep key (hsh key x l j) (elB ((l.drop (16 * j)).take 16))
def nb (n : Nat) : Nat := (n + 15) / 16
def fil (s : List UInt8) : List UInt8 := s ++ List.replicate ((16 - s.length % 16) % 16) 0
theorem fil_at (s : List UInt8) (j : Nat) (h : j < nb s.length) : ((fil s).drop (16 * j)).take 16 = (s.drop (16 * j)).take 16 ++ List.replicate (16 - min (s.length - 16 * j) 16) 0 := by
  rw [nb] at h
  rw [fil, List.drop_append_of_le_length (by omega), List.take_append, List.take_replicate, List.length_drop]
  congr 2; omega
def lenE (a b : Nat) : El := ⟨8 * UInt64.ofNat a, 8 * UInt64.ofNat b⟩
def ghs (key : El) (ad s : List UInt8) : El := hstep key (hsh key (hsh key El.zero (fil ad) (nb ad.length)) (fil s) (nb s.length)) (lenE ad.length s.length)
def ghashR (h ad s : List UInt8) : List UInt8 × Int := if h.length = 16 then (elT (ghs (elB h) ad s), 0) else ([], 10)
end Pv

set_option linter.all false
namespace Pv
open Go
theorem xorB_cancel : ∀ (a b : List UInt8), a.length ≤ b.length → xorB (xorB a b) b = a
  | [], b, _ => rfl
  | x :: a, [], h => by simp at h
  | x :: a, y :: b, h => by
    have := xorB_cancel a b (by simpa using h)
    simp only [xorB, List.zipWith_cons_cons] at this ⊢
    rw [this, UInt8.xor_assoc, UInt8.xor_self, UInt8.xor_zero]
/-! #### Tags -/
def zL (n : Nat) : List UInt8 := List.replicate n 0
theorem zL_len (n : Nat) : (zL n).length = n := by simp [zL]
end Pv

--nosplit
--keep2
namespace Pv
set_option maxRecDepth 20000
set_option maxHeartbeats 4000000
open Go Go.Proofs Go.RowKit
def tb60_5Gc1 : Tab := [[], [0], [], [2], [2, 3], [2, 3, 4], [2, 3, 4, 5], [], [], [7, 8], [7, 8, 9], [2, 3, 4, 5, 6, 7, 8, 9, 10], [0, 1, 2, 3, 4, 5, 6, 7, 8, 9, 10, 11], [0, 1, 2, 3, 4, 5, 6, 7, 8, 9, 10, 11, 12]]
def pl60_5Gc1 : Plan := [(0, true, []), (1, true, []), (2, true, []), (3, true, []), (4, true, []), (5, true, []), (6, true, []), (7, true, []), (8, true, []), (9, true, []), (10, true, []), (11, true, []), (12, true, []), (13, false, [])]
variable {w0 : World}

theorem tdivN (i k : Nat) (h : 0 < k) : Int.tdiv (i : Int) (k : Int) = ((i / k : Nat) : Int) := by rw [Int.tdiv_eq_ediv_of_nonneg (by omega)]; rfl
theorem tmodN (i k : Nat) (h : 0 < k) : Int.tmod (i : Int) (k : Int) = ((i % k : Nat) : Int) := by rw [Int.tmod_eq_emod_of_nonneg (by omega)]; rfl
theorem elI_next {b : List UInt8} {i : Nat} {c : UInt8} (h : b[i]? = some c) : elI b (i + 1) = (elI b i).push i c := by rw [elI, List.getD_eq_getElem?_getD, h]; rfl
theorem elementOf_ok (b : List UInt8) (hb : b.length = 16) : Fn (Cx w0) 60 [.str b] (.agg (elC (elB b))) := by
  refine fn_H ([Go.ResultVar.cell 2 124]) Tryz.func60 rfl rfl (by decide) fun ph hW Q hQ => ?_
  simp only [start, List.length_cons, List.length_nil, List.cons_append, List.nil_append, Nat.reduceAdd, Nat.reduceSub, List.replicate_succ, List.replicate_zero, Tryz.ntmps60]
  repeat' first | simp -implicitDefEqProofs (maxSteps := 400000) (disch := first | with_reducible rfl | omega | (simp only [wkH] <;> omega) | decide) only [wkAll, wkL, popO, wantedP, if_true, if_false, reduceIte, ne_eq, Nat.reduceAdd, Nat.reduceSub, Nat.reduceMul, Nat.reduceLeDiff, Nat.reduceLT, ofCells, ofCell, reduceCtorEq, Int.reduceLE, Int.reduceLT, Int.reduceToNat, Int.reduceAdd, Int.reduceSub, Int.reduceMul, Int.reduceNeg, Int.reduceBEq, Int.reduceBNe, Int.reduceEq, eqCell, eqCells, binP, unP, convP, lenP, builtinP, sliceDataP, unsafeStringP, appendT, appendS, appendP, copyP, srcP, mmsP, mmP, indexOp, indexAddrOp, sliceOp, bndsP, bndP, capw, capCut, loadOp, storeOp, loadP, fieldOp, fieldAddrOp, arrayAtOp, buildP, buildSliceP, makeSliceP, placeF, fillP, setL, PK.agg, isZero, gt_iff_lt, Nat.reducePow, Nat.reduceGT, reps, seg, wkN, if_pos, if_neg, tf3, Tryz.ze3, tf5, Tryz.ze5, tf9, Tryz.ze9, tf22, Tryz.ze22, tf124, Tryz.ze124, pl60_5Gc1] | refine w_drawnF (id := 5) tb60_5Gc1 pl60_5Gc1 21 (by kernel_rfl) (by kernel_rfl) (by simp) ?_
  refine w_loopH (α := Nat) ph ph.ob ph.ty (fun i => [.str b, .undef, .ptr ph.n 0, .ptr (ph.n + 1) 0, .undef, .int .i64 i, .undef, .undef, .undef, .undef, .undef, .undef, .undef, .undef, .undef, .undef, .undef, .undef, .undef, .undef, .undef, .undef, .undef]) (fun i => [some (.own [.int .u64 0, .int .u64 0]), some (.own (elC (elI b i)))]) (fun i => i ≤ 16) (fun i => 16 - i) 0 (by simp) (fun _ _ => by simp) (.eq (by simp [FadeTo]) rfl) ?_
  intro i hi K hK
  rcases Nat.lt_or_ge i 16 with hlt | hge
  · have hlt' : (i : Int) < 16 := by omega
    obtain ⟨c, hc⟩ := get_someW (show i < b.length by omega)
    have hnx := elI_next hc
    have hK1 := fun tm ph' => hK (i + 1) tm ph' (by omega) (by omega)
    rw [hnx] at hK1
    clear hK hnx
    generalize elI b i = e at *
    obtain ⟨x, y⟩ := e
    have d1 : Int.tdiv (i : Int) 8 = ((i / 8 : Nat) : Int) := tdivN i 8 (by decide)
    by_cases h8 : i < 8
    · rw [show i / 8 = 0 by omega] at d1
      rw [El.push, if_pos h8] at hK1
      simp only [elC] at *
      repeat' first | simp -implicitDefEqProofs (maxSteps := 400000) (disch := first | with_reducible rfl | omega | (simp only [wkH] <;> omega) | decide) only [wkAll, wkL, popO, wantedP, if_true, if_false, reduceIte, ne_eq, Nat.reduceAdd, Nat.reduceSub, Nat.reduceMul, Nat.reduceLeDiff, Nat.reduceLT, ofCells, ofCell, reduceCtorEq, Int.reduceLE, Int.reduceLT, Int.reduceToNat, Int.reduceAdd, Int.reduceSub, Int.reduceMul, Int.reduceNeg, Int.reduceBEq, Int.reduceBNe, Int.reduceEq, eqCell, eqCells, binP, unP, convP, lenP, builtinP, sliceDataP, unsafeStringP, appendT, appendS, appendP, copyP, srcP, mmsP, mmP, indexOp, indexAddrOp, sliceOp, bndsP, bndP, capw, capCut, loadOp, storeOp, loadP, fieldOp, fieldAddrOp, arrayAtOp, buildP, buildSliceP, makeSliceP, placeF, fillP, setL, PK.agg, isZero, gt_iff_lt, Nat.reducePow, Nat.reduceGT, reps, seg, wkN, if_pos, if_neg, tf3, Tryz.ze3, tf5, Tryz.ze5, tf9, Tryz.ze9, tf22, Tryz.ze22, tf124, Tryz.ze124, pl60_5Gc1, hlt', d1, hc, hb, or64_b, shl64_8] | refine w_drawnF (id := 5) tb60_5Gc1 pl60_5Gc1 21 (by kernel_rfl) (by kernel_rfl) (by simp) ?_
      exact hK1 _ _ (.eq (by simp [FadeTo]) rfl)
    · rw [show i / 8 = 1 by omega] at d1
      rw [El.push, if_neg h8] at hK1
      simp only [elC] at *
      repeat' first | simp -implicitDefEqProofs (maxSteps := 400000) (disch := first | with_reducible rfl | omega | (simp only [wkH] <;> omega) | decide) only [wkAll, wkL, popO, wantedP, if_true, if_false, reduceIte, ne_eq, Nat.reduceAdd, Nat.reduceSub, Nat.reduceMul, Nat.reduceLeDiff, Nat.reduceLT, ofCells, ofCell, reduceCtorEq, Int.reduceLE, Int.reduceLT, Int.reduceToNat, Int.reduceAdd, Int.reduceSub, Int.reduceMul, Int.reduceNeg, Int.reduceBEq, Int.reduceBNe, Int.reduceEq, eqCell, eqCells, binP, unP, convP, lenP, builtinP, sliceDataP, unsafeStringP, appendT, appendS, appendP, copyP, srcP, mmsP, mmP, indexOp, indexAddrOp, sliceOp, bndsP, bndP, capw, capCut, loadOp, storeOp, loadP, fieldOp, fieldAddrOp, arrayAtOp, buildP, buildSliceP, makeSliceP, placeF, fillP, setL, PK.agg, isZero, gt_iff_lt, Nat.reducePow, Nat.reduceGT, reps, seg, wkN, if_pos, if_neg, tf3, Tryz.ze3, tf5, Tryz.ze5, tf9, Tryz.ze9, tf22, Tryz.ze22, tf124, Tryz.ze124, pl60_5Gc1, hlt', d1, hc, hb, or64_b, shl64_8] | refine w_drawnF (id := 5) tb60_5Gc1 pl60_5Gc1 21 (by kernel_rfl) (by kernel_rfl) (by simp) ?_
      exact hK1 _ _ (.eq (by simp [FadeTo]) rfl)
  · have hge' : ¬ (i : Int) < 16 := by omega
    have : i = 16 := by omega
    subst this
    rw [show elI b 16 = elB b from rfl] at *
    generalize elB b = e at *
    obtain ⟨x, y⟩ := e
    simp only [elC] at *
    repeat' first | simp -implicitDefEqProofs (maxSteps := 400000) (disch := first | with_reducible rfl | omega | (simp only [wkH] <;> omega) | decide) only [wkAll, wkL, popO, wantedP, if_true, if_false, reduceIte, ne_eq, Nat.reduceAdd, Nat.reduceSub, Nat.reduceMul, Nat.reduceLeDiff, Nat.reduceLT, ofCells, ofCell, reduceCtorEq, Int.reduceLE, Int.reduceLT, Int.reduceToNat, Int.reduceAdd, Int.reduceSub, Int.reduceMul, Int.reduceNeg, Int.reduceBEq, Int.reduceBNe, Int.reduceEq, eqCell, eqCells, binP, unP, convP, lenP, builtinP, sliceDataP, unsafeStringP, appendT, appendS, appendP, copyP, srcP, mmsP, mmP, indexOp, indexAddrOp, sliceOp, bndsP, bndP, capw, capCut, loadOp, storeOp, loadP, fieldOp, fieldAddrOp, arrayAtOp, buildP, buildSliceP, makeSliceP, placeF, fillP, setL, PK.agg, isZero, gt_iff_lt, Nat.reducePow, Nat.reduceGT, reps, seg, wkN, if_pos, if_neg, tf3, Tryz.ze3, tf5, Tryz.ze5, tf9, Tryz.ze9, tf22, Tryz.ze22, tf124, Tryz.ze124, pl60_5Gc1, hge'] | refine w_drawnF (id := 5) tb60_5Gc1 pl60_5Gc1 21 (by kernel_rfl) (by kernel_rfl) (by simp) ?_
    refine hQ (by first | exact .inr rfl | exact .inl rfl) (by first | exact trivial | exact marks1) (by first | (simp -implicitDefEqProofs (maxSteps := 400000) (disch := first | with_reducible rfl | omega | (simp only [wkH] <;> omega) | decide) only [wkAll, wkL, popO, wantedP, if_true, if_false, reduceIte, ne_eq, Nat.reduceAdd, Nat.reduceSub, Nat.reduceMul, Nat.reduceLeDiff, Nat.reduceLT, ofCells, ofCell, reduceCtorEq, Int.reduceLE, Int.reduceLT, Int.reduceToNat, Int.reduceAdd, Int.reduceSub, Int.reduceMul, Int.reduceNeg, Int.reduceBEq, Int.reduceBNe, Int.reduceEq, eqCell, eqCells, loadOp, storeOp, loadP, setL, PK.agg, isZero, gt_iff_lt, Nat.reducePow, Nat.reduceGT, reps, seg, wkN, if_pos, if_neg, tf3, Tryz.ze3, tf5, Tryz.ze5, tf9, Tryz.ze9, tf22, Tryz.ze22, tf124, Tryz.ze124, pl60_5Gc1, resP, resPs, resP1]; rfl) | rfl) ⟨6, by repeat' first | exact frz_scalar rfl | apply frz_tuple | apply frz_agg | apply frz_fsl | apply frz_gsl (by omega) | exact frzs_nil | apply frzs_cons⟩ (by first | exact keepsH0 | exact keeps1 (by assumption)) (nw_eq ?_)
    rfl
theorem text_ok (e : El) : Fn (Cx w0) 64 [.agg (elC e)] (.str (elT e)) := by
  obtain ⟨Z, hZ⟩ : ∃ Z, Z = zL 16 := ⟨_, rfl⟩
  have hZl : Z.length = 16 := by rw [hZ]; rfl
  have hTl := elT_len e
  have hcl := elC_len e
  have hck := elC_ok e
  have hc2 : List.take 2 (elC e) = elC e := rfl
  refine fn_H ([Go.ResultVar.tmp 2]) Tryz.func64 rfl rfl (by decide) fun ph hW Q hQ => ?_
  simp only [start, List.length_cons, List.length_nil, List.cons_append, List.nil_append, Nat.reduceAdd, Nat.reduceSub, List.replicate_succ, List.replicate_zero, Tryz.ntmps64]
  repeat' first | simp -implicitDefEqProofs (maxSteps := 400000) (disch := first | with_reducible rfl | omega | (simp only [wkH] <;> omega) | decide) only [wkAll, wkL, popO, wantedP, if_true, if_false, reduceIte, ne_eq, Nat.reduceAdd, Nat.reduceSub, Nat.reduceMul, Nat.reduceLeDiff, Nat.reduceLT, ofCells, ofCell, reduceCtorEq, Int.reduceLE, Int.reduceLT, Int.reduceToNat, Int.reduceAdd, Int.reduceSub, Int.reduceMul, Int.reduceNeg, Int.reduceBEq, Int.reduceBNe, Int.reduceEq, eqCell, eqCells, binP, unP, convP, lenP, builtinP, sliceDataP, unsafeStringP, appendT, appendS, appendP, copyP, srcP, mmsP, mmP, indexOp, indexAddrOp, sliceOp, bndsP, bndP, capw, capCut, loadOp, storeOp, loadP, fieldOp, fieldAddrOp, arrayAtOp, buildP, buildSliceP, makeSliceP, placeF, fillP, setL, PK.agg, isZero, gt_iff_lt, Nat.reducePow, Nat.reduceGT, reps, seg, wkN, if_pos, if_neg, tf3, Tryz.ze3, tf5, Tryz.ze5, tf9, Tryz.ze9, tf22, Tryz.ze22, tf49, Tryz.ze49, tf120, Tryz.ze120, tf124, Tryz.ze124, hcl, hck, hc2]
  refine w_loopH (α := Nat) ph ph.ob ph.ty (fun i => [.undef, .ptr ph.n 0, .undef, .ptr (ph.n + 1) 0, .undef, .int .i64 i, .undef, .undef, .undef, .undef, .undef, .undef, .undef, .undef, .undef, .undef, .undef, .undef, .undef, .undef, .undef, .undef, .undef]) (fun i => [some (.own (elC e)), some (.own (bytesPV (midB (elT e) Z i)))]) (fun i => i ≤ 16) (fun i => 16 - i) 0 (by simp) (fun _ _ => by simp) (.eq (by simp [FadeTo]) (by rw [midB_0, hZ]; rfl)) ?_
  intro i hi K hK
  have hml := midB_len (m := elT e) (l := Z) (by omega) i
  rcases Nat.lt_or_ge i 16 with hlt | hge
  · have hlt' : (i : Int) < 16 := by omega
    have d1 : Int.tdiv (i : Int) 8 = ((i / 8 : Nat) : Int) := tdivN i 8 (by decide)
    have d2 : Int.tmod (i : Int) 8 = ((i % 8 : Nat) : Int) := tmodN i 8 (by decide)
    have d3 : 8 * ((i % 8 : Nat) : Int) = ((8 * (i % 8) : Nat) : Int) := by omega
    have d4 : (56 : Int) - ((8 * (i % 8) : Nat) : Int) = ((56 - 8 * (i % 8) : Nat) : Int) := by omega
    have d5 : ((i / 8 : Nat) : Int) < 2 := by omega
    have d6 : (0 : Int) ≤ ((56 - 8 * (i % 8) : Nat) : Int) := by omega
    have hc := elC_at e (i := i / 8) (by omega)
    obtain ⟨w, hw⟩ : ∃ w, w = (if i / 8 = 0 then e.hi else e.lo) := ⟨_, rfl⟩
    rw [← hw] at hc
    have s1 := shr64 w (56 - 8 * (i % 8)) (by omega)
    have ht := elT_at e hlt
    have hx : txB e i = (w >>> UInt64.ofNat (56 - 8 * (i % 8))).toUInt8 := by
      rw [txB, hw]; congr 2; split <;> split <;> first | rfl | omega
    rw [hx] at ht
    have hs := midB_set (m := elT e) (l := Z) (by omega) ht
    repeat' first | simp -implicitDefEqProofs (maxSteps := 400000) (disch := first | with_reducible rfl | omega | (simp only [wkH] <;> omega) | decide) only [wkAll, wkL, popO, wantedP, if_true, if_false, reduceIte, ne_eq, Nat.reduceAdd, Nat.reduceSub, Nat.reduceMul, Nat.reduceLeDiff, Nat.reduceLT, ofCells, ofCell, reduceCtorEq, Int.reduceLE, Int.reduceLT, Int.reduceToNat, Int.reduceAdd, Int.reduceSub, Int.reduceMul, Int.reduceNeg, Int.reduceBEq, Int.reduceBNe, Int.reduceEq, eqCell, eqCells, binP, unP, convP, lenP, builtinP, sliceDataP, unsafeStringP, appendT, appendS, appendP, copyP, srcP, mmsP, mmP, indexOp, indexAddrOp, sliceOp, bndsP, bndP, capw, capCut, loadOp, storeOp, loadP, fieldOp, fieldAddrOp, arrayAtOp, buildP, buildSliceP, makeSliceP, placeF, fillP, setL, PK.agg, isZero, gt_iff_lt, Nat.reducePow, Nat.reduceGT, reps, seg, wkN, if_pos, if_neg, tf3, Tryz.ze3, tf5, Tryz.ze5, tf9, Tryz.ze9, tf22, Tryz.ze22, tf49, Tryz.ze49, tf120, Tryz.ze120, tf124, Tryz.ze124, hlt', d1, d2, d3, d4, d5, d6, hc, hcl, s1, low64, hml, hZl, bytesPV_set, hs]
    exact hK (i + 1) _ _ (by omega) (by omega) (.eq (by simp [FadeTo]) rfl)
  · have hge' : ¬ (i : Int) < 16 := by omega
    have : i = 16 := by omega
    subst this
    rw [midB_all (by omega) (by omega)]
    have k4 : List.take 16 (bytesPV (elT e)) = bytesPV (elT e) := List.take_of_length_le (by rw [bytesPV_len]; omega)
    repeat' first | simp -implicitDefEqProofs (maxSteps := 400000) (disch := first | with_reducible rfl | omega | (simp only [wkH] <;> omega) | decide) only [wkAll, wkL, popO, wantedP, if_true, if_false, reduceIte, ne_eq, Nat.reduceAdd, Nat.reduceSub, Nat.reduceMul, Nat.reduceLeDiff, Nat.reduceLT, ofCells, ofCell, reduceCtorEq, Int.reduceLE, Int.reduceLT, Int.reduceToNat, Int.reduceAdd, Int.reduceSub, Int.reduceMul, Int.reduceNeg, Int.reduceBEq, Int.reduceBNe, Int.reduceEq, eqCell, eqCells, binP, unP, convP, lenP, builtinP, sliceDataP, unsafeStringP, appendT, appendS, appendP, copyP, srcP, mmsP, mmP, indexOp, indexAddrOp, sliceOp, bndsP, bndP, capw, capCut, loadOp, storeOp, loadP, fieldOp, fieldAddrOp, arrayAtOp, buildP, buildSliceP, makeSliceP, placeF, fillP, setL, PK.agg, isZero, gt_iff_lt, Nat.reducePow, Nat.reduceGT, reps, seg, wkN, if_pos, if_neg, tf3, Tryz.ze3, tf5, Tryz.ze5, tf9, Tryz.ze9, tf22, Tryz.ze22, tf49, Tryz.ze49, tf120, Tryz.ze120, tf124, Tryz.ze124, hge', k4, hTl, bytesX_bytesPV]
    refine hQ (by first | exact .inr rfl | exact .inl rfl) (by first | exact trivial | exact marks1) (by first | (simp -implicitDefEqProofs (maxSteps := 400000) (disch := first | with_reducible rfl | omega | (simp only [wkH] <;> omega) | decide) only [wkAll, wkL, popO, wantedP, if_true, if_false, reduceIte, ne_eq, Nat.reduceAdd, Nat.reduceSub, Nat.reduceMul, Nat.reduceLeDiff, Nat.reduceLT, ofCells, ofCell, reduceCtorEq, Int.reduceLE, Int.reduceLT, Int.reduceToNat, Int.reduceAdd, Int.reduceSub, Int.reduceMul, Int.reduceNeg, Int.reduceBEq, Int.reduceBNe, Int.reduceEq, eqCell, eqCells, loadOp, storeOp, loadP, setL, PK.agg, isZero, gt_iff_lt, Nat.reducePow, Nat.reduceGT, reps, seg, wkN, if_pos, if_neg, tf3, Tryz.ze3, tf5, Tryz.ze5, tf9, Tryz.ze9, tf22, Tryz.ze22, tf49, Tryz.ze49, tf120, Tryz.ze120, tf124, Tryz.ze124, resP, resPs, resP1]; rfl) | rfl) ⟨6, by repeat' first | exact frz_scalar rfl | apply frz_tuple | apply frz_agg | apply frz_fsl | apply frz_gsl (by omega) | exact frzs_nil | apply frzs_cons⟩ (by first | exact keepsH0 | exact keeps1 (by assumption)) (nw_eq ?_)
    rfl
theorem sm_pos {a f : El} {i : Nat} (h : El.bit a i = 1) : El.sm a f (i + 1) = El.xor (El.sm a f i) (El.pw f i) := by rw [El.sm, if_pos h]
theorem sm_neg {a f : El} {i : Nat} (h : ¬ El.bit a i = 1) : El.sm a f (i + 1) = El.sm a f i := by rw [El.sm, if_neg h]
theorem timesE_ok (e f : El) : Fn (Cx w0) 62 [.agg (elC e), .agg (elC f)] (.agg (elC (El.mul e f))) := by
  have hcl := elC_len e
  have hck := elC_ok e
  have hc2 : List.take 2 (elC e) = elC e := rfl
  have hcl' := elC_len f
  have hck' := elC_ok f
  have hc2' : List.take 2 (elC f) = elC f := rfl
  refine fn_H ([Go.ResultVar.cell 4 124]) Tryz.func62 rfl rfl (by decide) fun ph hW Q hQ => ?_
  simp only [start, List.length_cons, List.length_nil, List.cons_append, List.nil_append, Nat.reduceAdd, Nat.reduceSub, List.replicate_succ, List.replicate_zero, Tryz.ntmps62]
  repeat' first | simp -implicitDefEqProofs (maxSteps := 400000) (disch := first | with_reducible rfl | omega | (simp only [wkH] <;> omega) | decide) only [wkAll, wkL, popO, wantedP, if_true, if_false, reduceIte, ne_eq, Nat.reduceAdd, Nat.reduceSub, Nat.reduceMul, Nat.reduceLeDiff, Nat.reduceLT, ofCells, ofCell, reduceCtorEq, Int.reduceLE, Int.reduceLT, Int.reduceToNat, Int.reduceAdd, Int.reduceSub, Int.reduceMul, Int.reduceNeg, Int.reduceBEq, Int.reduceBNe, Int.reduceEq, eqCell, eqCells, binP, unP, convP, lenP, builtinP, sliceDataP, unsafeStringP, appendT, appendS, appendP, copyP, srcP, mmsP, mmP, indexOp, indexAddrOp, sliceOp, bndsP, bndP, capw, capCut, loadOp, storeOp, loadP, fieldOp, fieldAddrOp, arrayAtOp, buildP, buildSliceP, makeSliceP, placeF, fillP, setL, PK.agg, isZero, gt_iff_lt, Nat.reducePow, Nat.reduceGT, reps, seg, wkN, if_pos, if_neg, tf3, Tryz.ze3, tf22, Tryz.ze22, tf124, Tryz.ze124, hcl, hck, hc2, hcl', hck', hc2']
  refine w_loopH (α := Nat) ph ph.ob ph.ty (fun i => [.undef, .undef, .ptr ph.n 0, .ptr (ph.n + 1) 0, .ptr (ph.n + 2) 0, .ptr (ph.n + 3) 0, .undef, .undef, .int .i64 i, .undef, .undef, .undef, .undef, .undef, .undef, .undef, .undef, .undef, .undef, .undef, .undef, .undef, .undef, .undef, .undef, .undef, .undef, .undef, .undef, .undef, .undef, .undef, .undef, .undef, .undef, .undef, .undef, .undef, .undef, .undef, .undef, .undef, .undef, .undef, .undef, .undef, .undef, .undef, .undef, .undef, .undef, .undef, .undef, .undef, .undef]) (fun i => [some (.own (elC e)), some (.own (elC (El.pw f i))), some (.own [.int .u64 0, .int .u64 0]), some (.own (elC (El.sm e f i)))]) (fun i => i ≤ 128) (fun i => 128 - i) 0 (by simp) (fun _ _ => by simp) (.eq (by simp [FadeTo]) rfl) ?_
  intro i hi K hK
  rcases Nat.lt_or_ge i 128 with hlt | hge
  · have hlt' : (i : Int) < 128 := by omega
    have d1 : Int.tdiv (i : Int) 64 = ((i / 64 : Nat) : Int) := tdivN i 64 (by decide)
    have d2 : Int.tmod (i : Int) 64 = ((i % 64 : Nat) : Int) := tmodN i 64 (by decide)
    have d4 : (63 : Int) - ((i % 64 : Nat) : Int) = ((63 - i % 64 : Nat) : Int) := by omega
    have d5 : ((i / 64 : Nat) : Int) < 2 := by omega
    have d6 : (0 : Int) ≤ ((63 - i % 64 : Nat) : Int) := by omega
    have hc := elC_at e (i := i / 64) (by omega)
    obtain ⟨w, hw⟩ : ∃ w, w = (if i / 64 = 0 then e.hi else e.lo) := ⟨_, rfl⟩
    rw [← hw] at hc
    have s1 := shr64 w (63 - i % 64) (by omega)
    have hx : El.bit e i = (w >>> UInt64.ofNat (63 - i % 64)) &&& 1 := by
      rw [El.bit, hw]; congr 2; split <;> split <;> first | rfl | omega
    have e1 := eq1_u64 ((w >>> UInt64.ofNat (63 - i % 64)) &&& 1)
    have hK1 := fun tm ph' => hK (i + 1) tm ph' (by omega) (by omega)
    have hp : El.pw f (i + 1) = El.T (El.pw f i) := rfl
    rw [hp] at hK1
    by_cases hb : El.bit e i = 1
    · rw [sm_pos hb] at hK1
      rw [hx] at hb
      rw [decide_eq_true hb] at e1
      clear hK hp hx hw
      generalize elC e = Ce at *
      generalize El.pw f i = g at *
      generalize El.sm e f i = z at *
      obtain ⟨g0, g1⟩ := g
      obtain ⟨z0, z1⟩ := z
      have hC : ∀ a b : UInt64, elC ⟨a, b⟩ = [.int .u64 (a.toNat : Int), .int .u64 (b.toNat : Int)] := fun _ _ => rfl
      simp only [hC, El.T, El.xor] at hK1 ⊢
      repeat' first | simp -implicitDefEqProofs (maxSteps := 400000) (disch := first | with_reducible rfl | omega | (simp only [wkH] <;> omega) | decide) only [wkAll, wkL, popO, wantedP, if_true, if_false, reduceIte, ne_eq, Nat.reduceAdd, Nat.reduceSub, Nat.reduceMul, Nat.reduceLeDiff, Nat.reduceLT, ofCells, ofCell, reduceCtorEq, Int.reduceLE, Int.reduceLT, Int.reduceToNat, Int.reduceAdd, Int.reduceSub, Int.reduceMul, Int.reduceNeg, Int.reduceBEq, Int.reduceBNe, Int.reduceEq, eqCell, eqCells, binP, unP, convP, lenP, builtinP, sliceDataP, unsafeStringP, appendT, appendS, appendP, copyP, srcP, mmsP, mmP, indexOp, indexAddrOp, sliceOp, bndsP, bndP, capw, capCut, loadOp, storeOp, loadP, fieldOp, fieldAddrOp, arrayAtOp, buildP, buildSliceP, makeSliceP, placeF, fillP, setL, PK.agg, isZero, gt_iff_lt, Nat.reducePow, Nat.reduceGT, reps, seg, wkN, if_pos, if_neg, tf3, Tryz.ze3, tf22, Tryz.ze22, tf124, Tryz.ze124, hlt', d1, d2, d4, d5, d6, hc, hcl, s1, and64_1, e1, xor64, shr64_1, shl64_63, or64, mul64_e1]
      exact hK1 _ _ (.eq (by simp [FadeTo]) rfl)
    · rw [sm_neg hb] at hK1
      rw [hx] at hb
      rw [decide_eq_false hb] at e1
      clear hK hp hx hw
      generalize elC e = Ce at *
      generalize El.pw f i = g at *
      generalize El.sm e f i = z at *
      obtain ⟨g0, g1⟩ := g
      obtain ⟨z0, z1⟩ := z
      have hC : ∀ a b : UInt64, elC ⟨a, b⟩ = [.int .u64 (a.toNat : Int), .int .u64 (b.toNat : Int)] := fun _ _ => rfl
      simp only [hC, El.T] at hK1 ⊢
      repeat' first | simp -implicitDefEqProofs (maxSteps := 400000) (disch := first | with_reducible rfl | omega | (simp only [wkH] <;> omega) | decide) only [wkAll, wkL, popO, wantedP, if_true, if_false, reduceIte, ne_eq, Nat.reduceAdd, Nat.reduceSub, Nat.reduceMul, Nat.reduceLeDiff, Nat.reduceLT, ofCells, ofCell, reduceCtorEq, Int.reduceLE, Int.reduceLT, Int.reduceToNat, Int.reduceAdd, Int.reduceSub, Int.reduceMul, Int.reduceNeg, Int.reduceBEq, Int.reduceBNe, Int.reduceEq, eqCell, eqCells, binP, unP, convP, lenP, builtinP, sliceDataP, unsafeStringP, appendT, appendS, appendP, copyP, srcP, mmsP, mmP, indexOp, indexAddrOp, sliceOp, bndsP, bndP, capw, capCut, loadOp, storeOp, loadP, fieldOp, fieldAddrOp, arrayAtOp, buildP, buildSliceP, makeSliceP, placeF, fillP, setL, PK.agg, isZero, gt_iff_lt, Nat.reducePow, Nat.reduceGT, reps, seg, wkN, if_pos, if_neg, tf3, Tryz.ze3, tf22, Tryz.ze22, tf124, Tryz.ze124, hlt', d1, d2, d4, d5, d6, hc, hcl, s1, and64_1, e1, xor64, shr64_1, shl64_63, or64, mul64_e1]
      exact hK1 _ _ (.eq (by simp [FadeTo]) rfl)
  · have hge' : ¬ (i : Int) < 128 := by omega
    have : i = 128 := by omega
    subst this
    rw [show El.sm e f 128 = El.mul e f from rfl] at *
    generalize El.mul e f = z at *
    obtain ⟨z0, z1⟩ := z
    have hC : ∀ a b : UInt64, elC ⟨a, b⟩ = [.int .u64 (a.toNat : Int), .int .u64 (b.toNat : Int)] := fun _ _ => rfl
    simp only [hC] at *
    repeat' first | simp -implicitDefEqProofs (maxSteps := 400000) (disch := first | with_reducible rfl | omega | (simp only [wkH] <;> omega) | decide) only [wkAll, wkL, popO, wantedP, if_true, if_false, reduceIte, ne_eq, Nat.reduceAdd, Nat.reduceSub, Nat.reduceMul, Nat.reduceLeDiff, Nat.reduceLT, ofCells, ofCell, reduceCtorEq, Int.reduceLE, Int.reduceLT, Int.reduceToNat, Int.reduceAdd, Int.reduceSub, Int.reduceMul, Int.reduceNeg, Int.reduceBEq, Int.reduceBNe, Int.reduceEq, eqCell, eqCells, binP, unP, convP, lenP, builtinP, sliceDataP, unsafeStringP, appendT, appendS, appendP, copyP, srcP, mmsP, mmP, indexOp, indexAddrOp, sliceOp, bndsP, bndP, capw, capCut, loadOp, storeOp, loadP, fieldOp, fieldAddrOp, arrayAtOp, buildP, buildSliceP, makeSliceP, placeF, fillP, setL, PK.agg, isZero, gt_iff_lt, Nat.reducePow, Nat.reduceGT, reps, seg, wkN, if_pos, if_neg, tf3, Tryz.ze3, tf22, Tryz.ze22, tf124, Tryz.ze124, hge']
    refine hQ (by first | exact .inr rfl | exact .inl rfl) (by first | exact trivial | exact marks1) (by first | (simp -implicitDefEqProofs (maxSteps := 400000) (disch := first | with_reducible rfl | omega | (simp only [wkH] <;> omega) | decide) only [wkAll, wkL, popO, wantedP, if_true, if_false, reduceIte, ne_eq, Nat.reduceAdd, Nat.reduceSub, Nat.reduceMul, Nat.reduceLeDiff, Nat.reduceLT, ofCells, ofCell, reduceCtorEq, Int.reduceLE, Int.reduceLT, Int.reduceToNat, Int.reduceAdd, Int.reduceSub, Int.reduceMul, Int.reduceNeg, Int.reduceBEq, Int.reduceBNe, Int.reduceEq, eqCell, eqCells, loadOp, storeOp, loadP, setL, PK.agg, isZero, gt_iff_lt, Nat.reducePow, Nat.reduceGT, reps, seg, wkN, if_pos, if_neg, tf3, Tryz.ze3, tf22, Tryz.ze22, tf124, Tryz.ze124, resP, resPs, resP1]; rfl) | rfl) ⟨6, by repeat' first | exact frz_scalar rfl | apply frz_tuple | apply frz_agg | apply frz_fsl | apply frz_gsl (by omega) | exact frzs_nil | apply frzs_cons⟩ (by first | exact keepsH0 | exact keeps1 (by assumption)) (nw_eq ?_)
    rfl
end Pv

namespace Pv
open Go Go.RowKit
variable {X : Ctx} {G : Ghost} {ph : PH} {w : World} {ρ : Option Nat} {n0 : Nat} {Q : Exit → PSt → PH → Prop}
/-! ### Loops that hold ranges over functions: marks grow in number -/
def obD (ob : Nat → Option PObj) : List Nat → Nat → Option PObj
  | [] => ob
  | r :: rs => upF (obD ob rs) r (some .defd)
def FreshD (ob : Nat → Option PObj) : List Nat → Prop
  | [] => True
  | r :: rs => obD ob rs r = none ∧ FreshD ob rs
theorem marksD {b : PH} {l : List (Option Blk)} {ob : Nat → Option PObj} {ty : Nat → Option TypeId} : ∀ {rs : List Nat}, FreshD ob rs → Marks (H b l (obD ob rs) ty) rs
  | [], _ => trivial
  | r :: rs, h => by
    refine ⟨up_same, ?_⟩
    rw [h_setOb, obD, up_up, up_none h.1]
    exact marksD h.2
theorem shutD {b : PH} {l : List (Option Blk)} {ob : Nat → Option PObj} {ty : Nat → Option TypeId} : ∀ {rs : List Nat}, FreshD ob rs → (H b l (obD ob rs) ty).shut rs = H b l ob ty
  | [], _ => rfl
  | r :: rs, h => by
    show ((H b l (obD ob (r :: rs)) ty).setOb r none).shut rs = _
    rw [h_setOb, obD, up_up, up_none h.1]
    exact shutD h.2
theorem obscD {b : PH} (hb : WF b) {m : Nat} (hm : b.n ≤ m) : ∀ rs k o, obD b.ob rs k = some o → ObSc m o
  | [] => obsc0 hb hm
  | r :: rs => obsc_up (obscD hb hm rs) trivial
/-- **A loop** whose marks grow. -/
theorem w_loopM {α : Type} {c : Code} {tm : List PV} {ms0 : List Nat} (b : PH) (ty : Nat → Option TypeId) (ob : α → Nat → Option PObj) (ms : α → List Nat) (st : α → List PV) (hl : α → List (Option Blk)) (Inv : α → Prop) (μ : α → Nat) (a0 : α) (h0 : Inv a0) (hms : ms0 = ms a0) (hn : ∀ a, Inv a → n0 ≤ b.n + (hl a).length)
    (hi : HTo b (hl a0) (ob a0) ty (st a0) tm ph)
    (round : ∀ a, Inv a → ∀ K : PSt → PH → Prop, (∀ a' tm ph', Inv a' → μ a' < μ a → HTo b (hl a') (ob a') ty (st a') tm ph' → K ⟨tm, ms a'⟩ ph') → vc X ρ n0 c (PExit.seq K Q) ⟨st a, ms a⟩ (H b (hl a) (ob a) ty)) : vc X ρ n0 (.loop c) Q ⟨tm, ms0⟩ ph := by
  show PWp X ρ n0 (.loop c) Q ⟨tm, ms0⟩ ph
  refine PWp.weak (s' := ⟨st a0, ms0⟩) (ph' := H b (hl a0) (ob a0) ty) (hi.weak (hn _ h0)) rfl ?_
  refine pwp_loopN (I := fun j s' ph' => ∃ a, Inv a ∧ μ a = j ∧ HTo b (hl a) (ob a) ty (st a) s'.tm ph' ∧ s'.ms = ms a) (μ a0) ⟨a0, h0, rfl, .same (by
    clear hi round
    generalize st a0 = s
    induction s with
    | nil => trivial
    | cons p ps ih => exact ⟨.inr rfl, ih⟩), hms⟩ ?_
  rintro j s' ph' ⟨a, hI, rfl, hT, hm⟩
  refine PWp.weak (s' := ⟨st a, ms a⟩) (ph' := H b (hl a) (ob a) ty) (hT.weak (hn a hI)) hm.symm ?_
  refine vc_ok _ _ _ _ (round a hI _ ?_)
  intro a' tm' ph' h1 h2 h3
  exact ⟨μ a', h2, a', h1, rfl, h3, rfl⟩
end Pv
