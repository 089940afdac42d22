/- Part of the proof: the layer of pure values, or walks through functions (PvGcE, PvW64, PvGcB, PvSvE). -/
import Derived.Test.YtbocckencbkdeaaPvCxI
import Derived.Test.YtbocckencbkdeaaPvH
set_option linter.all false
set_option linter.all false
namespace Pv
/-! ### A field told by the powers of T: plain. -/
/-- A block as two numbers. -/
structure El where
  hi : UInt64
  lo : UInt64
deriving DecidableEq
namespace El
def xor (a b : El) : El := ⟨a.hi ^^^ b.hi, a.lo ^^^ b.lo⟩
def zero : El := ⟨0, 0⟩
def T (f : El) : El := ⟨(f.hi >>> 1) ^^^ ((f.lo &&& 1) * 16212958658533785600), (f.lo >>> 1) ||| (f.hi <<< 63)⟩
def bit (e : El) (i : Nat) : UInt64 := ((if i < 64 then e.hi else e.lo) >>> UInt64.ofNat (63 - i % 64)) &&& 1
def pw (f : El) : Nat → El
  | 0 => f
  | i + 1 => T (pw f i)
/-- The sum of the first i parts. -/
def sm (a f : El) : Nat → El
  | 0 => zero
  | i + 1 => if bit a i = 1 then xor (sm a f i) (pw f i) else sm a f i
def mul (a f : El) : El := sm a f 128
def one : El := ⟨9223372036854775808, 0⟩
theorem ext' {a b : El} (h : a.hi = b.hi) (l : a.lo = b.lo) : a = b := by cases a; cases b; simp_all
theorem xor_comm (a b : El) : xor a b = xor b a := ext' (UInt64.xor_comm ..) (UInt64.xor_comm ..)
theorem xor_assoc (a b c : El) : xor (xor a b) c = xor a (xor b c) := ext' (UInt64.xor_assoc ..) (UInt64.xor_assoc ..)
theorem xor_zero (a : El) : xor a zero = a := ext' (UInt64.xor_zero) (UInt64.xor_zero)
theorem zero_xor (a : El) : xor zero a = a := by rw [xor_comm, xor_zero]
theorem xor_self (a : El) : xor a a = zero := ext' (UInt64.xor_self) (UInt64.xor_self)
theorem low_cases (x : UInt64) : x &&& 1 = 0 ∨ x &&& 1 = 1 := by
  have h : (x &&& 1).toNat = x.toNat % 2 := by rw [UInt64.toNat_and]; exact Nat.and_one_is_mod _
  rcases Nat.mod_two_eq_zero_or_one x.toNat with e | e
  · left; apply UInt64.toNat_inj.1; rw [h, e]; rfl
  · right; apply UInt64.toNat_inj.1; rw [h, e]; rfl
theorem and_xor1 (x y : UInt64) : (x ^^^ y) &&& 1 = (x &&& 1) ^^^ (y &&& 1) := by
  apply UInt64.toBitVec_inj.1; simp only [UInt64.toBitVec_and, UInt64.toBitVec_xor]
  ext i; simp; cases x.toBitVec[i] <;> cases y.toBitVec[i] <;> simp
theorem low_mul (x y : UInt64) (c : UInt64) : ((x ^^^ y) &&& 1) * c = ((x &&& 1) * c) ^^^ ((y &&& 1) * c) := by
  rw [and_xor1]
  rcases low_cases x with h | h <;> rcases low_cases y with g | g <;> rw [h, g] <;> simp
theorem shr_xor1 (x y : UInt64) : (x ^^^ y) >>> 1 = (x >>> 1) ^^^ (y >>> 1) := by
  apply UInt64.toBitVec_inj.1; simp only [UInt64.toBitVec_shiftRight, UInt64.toBitVec_xor]
  ext i; simp
theorem or_shl (x y u v : UInt64) : ((x ^^^ y) >>> 1) ||| ((u ^^^ v) <<< 63) = ((x >>> 1) ||| (u <<< 63)) ^^^ ((y >>> 1) ||| (v <<< 63)) := by
  apply UInt64.toBitVec_inj.1; simp only [UInt64.toBitVec_shiftRight, UInt64.toBitVec_shiftLeft, UInt64.toBitVec_or, UInt64.toBitVec_xor]
  ext i hi
  simp
  rcases Nat.lt_or_ge i 63 with h | h
  · simp [h]
  · have : i = 63 := by omega
    subst this; simp
theorem T_xor (a b : El) : T (xor a b) = xor (T a) (T b) := by
  apply ext'
  · show ((a.hi ^^^ b.hi) >>> (1 : UInt64)) ^^^ (((a.lo ^^^ b.lo) &&& (1 : UInt64)) * (16212958658533785600 : UInt64)) = _
    rw [shr_xor1, low_mul]
    show _ = ((a.hi >>> (1 : UInt64)) ^^^ ((a.lo &&& (1 : UInt64)) * (16212958658533785600 : UInt64))) ^^^ ((b.hi >>> (1 : UInt64)) ^^^ ((b.lo &&& (1 : UInt64)) * (16212958658533785600 : UInt64)))
    ac_rfl
  · exact or_shl ..
theorem T_zero : T zero = zero := by decide
theorem pw_xor (a b : El) : ∀ i, pw (xor a b) i = xor (pw a i) (pw b i)
  | 0 => rfl
  | i + 1 => by rw [pw, pw_xor a b i, T_xor]; rfl
theorem pw_zero : ∀ i, pw zero i = zero
  | 0 => rfl
  | i + 1 => by rw [pw, pw_zero i, T_zero]
theorem pw_T (f : El) : ∀ i, pw (T f) i = T (pw f i)
  | 0 => rfl
  | i + 1 => by rw [pw, pw_T f i]; rfl
theorem xor4 (a b c d : El) : xor (xor a b) (xor c d) = xor (xor a c) (xor b d) := by
  rw [xor_assoc, xor_assoc, ← xor_assoc b c d, xor_comm b c, xor_assoc c b d]
theorem sm_xor (a f g : El) : ∀ i, sm a (xor f g) i = xor (sm a f i) (sm a g i)
  | 0 => by rw [sm, sm, sm, xor_zero]
  | i + 1 => by
    rw [sm, sm, sm, sm_xor a f g i]
    split
    · rw [pw_xor, xor4]
    · rfl
theorem sm_zero (a : El) : ∀ i, sm a zero i = zero
  | 0 => rfl
  | i + 1 => by
    rw [sm, sm_zero a i]
    split
    · rw [pw_zero, xor_zero]
    · rfl
theorem sm_T (a f : El) : ∀ i, sm a (T f) i = T (sm a f i)
  | 0 => by rw [sm, sm, T_zero]
  | i + 1 => by
    rw [sm, sm, sm_T a f i]
    split
    · rw [pw_T, T_xor]
    · rfl
theorem sm_pw (a f : El) (n : Nat) : ∀ i, sm a (pw f i) n = pw (sm a f n) i
  | 0 => rfl
  | i + 1 => by rw [pw, sm_T, sm_pw a f n i]; rfl
/-- Two factors turn places. -/
theorem sm_sm (a b c : El) (n : Nat) : ∀ i, sm a (sm b c i) n = sm b (sm a c n) i
  | 0 => sm_zero a n
  | i + 1 => by
    rw [sm, sm]
    split
    · rw [sm_xor, sm_sm a b c n i, sm_pw]
    · exact sm_sm a b c n i
theorem mul_left (a b c : El) : mul a (mul b c) = mul b (mul a c) := sm_sm a b c 128 128
/-! #### One -/
def ei (i : Nat) : El := if i < 64 then ⟨1 <<< UInt64.ofNat (63 - i), 0⟩ else ⟨0, 1 <<< UInt64.ofNat (127 - i)⟩
theorem T_ei : ∀ i, i < 127 → T (ei i) = ei (i + 1) := by
  have : ∀ i : Fin 127, T (ei i.val) = ei (i.val + 1) := by decide +kernel
  exact fun i h => this ⟨i, h⟩
theorem pw_one : ∀ i, i < 128 → pw one i = ei i
  | 0, _ => by decide
  | i + 1, h => by rw [pw, pw_one i (by omega), T_ei i (by omega)]
theorem bit_ei : ∀ i k, i < 128 → k < 128 → bit (ei i) k = if i = k then 1 else 0 := by
  have : ∀ i : Fin 128, ∀ k : Fin 128, bit (ei i.val) k.val = if i.val = k.val then 1 else 0 := by decide +kernel
  exact fun i k h g => this ⟨i, h⟩ ⟨k, g⟩
theorem shr_xor (x y m : UInt64) : (x ^^^ y) >>> m = (x >>> m) ^^^ (y >>> m) := by
  apply UInt64.toBitVec_inj.1; simp only [UInt64.toBitVec_shiftRight, UInt64.toBitVec_xor]
  ext i; simp
theorem bit_xor (a b : El) (k : Nat) : bit (xor a b) k = bit a k ^^^ bit b k := by
  rw [bit, bit, bit]
  split
  · show ((a.hi ^^^ b.hi) >>> _) &&& 1 = _; rw [shr_xor, and_xor1]
  · show ((a.lo ^^^ b.lo) >>> _) &&& 1 = _; rw [shr_xor, and_xor1]
theorem bit_cases (a : El) (k : Nat) : bit a k = 0 ∨ bit a k = 1 := low_cases _
theorem bit_zero (k : Nat) : bit zero k = 0 := by
  rw [bit]; split <;> simp [zero]
theorem bit_sm (a : El) (k : Nat) (hk : k < 128) : ∀ n, n ≤ 128 → bit (sm a one n) k = if k < n then bit a k else 0
  | 0, _ => by rw [sm, bit_zero, if_neg (by omega)]
  | n + 1, h => by
    rw [sm]
    have ih := bit_sm a k hk n (by omega)
    have hb : bit (pw one n) k = if n = k then 1 else 0 := by rw [pw_one n (by omega), bit_ei n k (by omega) hk]
    by_cases hnk : n = k
    · subst hnk
      rw [if_neg (by omega)] at ih
      rw [if_pos rfl] at hb
      rw [show (if n < n + 1 then bit a n else 0) = bit a n from if_pos (by omega)]
      rcases bit_cases a n with e | e
      · rw [e, if_neg (by decide), ih]
      · rw [e, if_pos rfl, bit_xor, ih, hb]; rfl
    · rw [if_neg hnk] at hb
      have e1 : (if k < n + 1 then bit a k else 0) = if k < n then bit a k else 0 := by
        by_cases h1 : k < n
        · rw [if_pos h1, if_pos (by omega)]
        · rw [if_neg h1, if_neg (by omega)]
      rw [e1, ← ih]
      split
      · rw [bit_xor, hb, UInt64.xor_zero]
      · rfl
theorem u64_bits {x y : UInt64} (h : ∀ m, m < 64 → (x >>> UInt64.ofNat m) &&& 1 = (y >>> UInt64.ofNat m) &&& 1) : x = y := by
  have t : ∀ (z : UInt64) m, m < 64 → ((z >>> UInt64.ofNat m) &&& 1).toNat = (z.toNat >>> m) &&& 1 := by
    intro z m hm
    rw [UInt64.toNat_and, UInt64.toNat_shiftRight, UInt64.toNat_ofNat']
    rw [show m % 2 ^ 64 % 64 = m by omega]; rfl
  apply UInt64.toNat_inj.1
  apply Nat.eq_of_testBit_eq
  intro m
  rcases Nat.lt_or_ge m 64 with hm | hm
  · have := congrArg UInt64.toNat (h m hm)
    rw [t x m hm, t y m hm, Nat.and_one_is_mod, Nat.and_one_is_mod] at this
    rw [Nat.testBit, Nat.testBit, Nat.and_comm, Nat.and_one_is_mod, Nat.and_comm, Nat.and_one_is_mod, this]
  · have hx := x.toNat_lt
    have hy := y.toNat_lt
    rw [Nat.testBit_lt_two_pow (Nat.lt_of_lt_of_le hx (Nat.pow_le_pow_right (by decide) hm)), Nat.testBit_lt_two_pow (Nat.lt_of_lt_of_le hy (Nat.pow_le_pow_right (by decide) hm))]
theorem el_bits {a b : El} (h : ∀ k, k < 128 → bit a k = bit b k) : a = b := by
  apply ext'
  · apply u64_bits; intro m hm
    have := h (63 - m) (by omega)
    rw [bit, bit, if_pos (by omega), if_pos (by omega), show 63 - (63 - m) % 64 = m by omega] at this; exact this
  · apply u64_bits; intro m hm
    have := h (127 - m) (by omega)
    rw [bit, bit, if_neg (by omega), if_neg (by omega), show 63 - (127 - m) % 64 = m by omega] at this; exact this
theorem mul_one (a : El) : mul a one = a := el_bits fun k hk => by rw [mul, bit_sm a k hk 128 (by omega), if_pos hk]
theorem mul_comm (a b : El) : mul a b = mul b a := by
  have := mul_left a b one
  rwa [mul_one, mul_one] at this
end El
end Pv

set_option linter.all false
namespace Pv
open Go Go.RowKit

/-! ### Words of 64 bits -/
theorem wrap_u64n (n : Nat) : IntKind.wrap .u64 (n : Int) = ((n % 18446744073709551616 : Nat) : Int) := by
  simp [IntKind.wrap, IntKind.bits, IntKind.signed]
theorem mul64 (x y : UInt64) : IntKind.wrap .u64 ((x.toNat : Int) * (y.toNat : Int)) = ((x * y).toNat : Int) := by
  have : (x.toNat : Int) * (y.toNat : Int) = ((x.toNat * y.toNat : Nat) : Int) := by simp
  rw [this, wrap_u64n, UInt64.toNat_mul]
theorem wrap64 (x : UInt64) : IntKind.wrap .u64 (x.toNat : Int) = x.toNat := by
  rw [wrap_u64n, Nat.mod_eq_of_lt x.toNat_lt]
theorem xor64 (a b : UInt64) : bitsP .xor .u64 a.toNat b.toNat = ((a ^^^ b).toNat : Int) := by
  show IntKind.wrap .u64 (((BitVec.ofInt 64 (a.toNat : Int)) ^^^ (BitVec.ofInt 64 (b.toNat : Int))).toNat : Int) = _
  rw [ofInt_nat, ofInt_nat, BitVec.toNat_xor, BitVec.toNat_ofNat, BitVec.toNat_ofNat, Nat.mod_eq_of_lt a.toNat_lt, Nat.mod_eq_of_lt b.toNat_lt, ← UInt64.toNat_xor]
  exact wrap64 _
theorem and64 (a b : UInt64) : bitsP .and .u64 a.toNat b.toNat = ((a &&& b).toNat : Int) := by
  show IntKind.wrap .u64 (((BitVec.ofInt 64 (a.toNat : Int)) &&& (BitVec.ofInt 64 (b.toNat : Int))).toNat : Int) = _
  rw [ofInt_nat, ofInt_nat, BitVec.toNat_and, BitVec.toNat_ofNat, BitVec.toNat_ofNat, Nat.mod_eq_of_lt a.toNat_lt, Nat.mod_eq_of_lt b.toNat_lt, ← UInt64.toNat_and]
  exact wrap64 _
theorem or64 (a b : UInt64) : bitsP .or .u64 a.toNat b.toNat = ((a ||| b).toNat : Int) := by
  show IntKind.wrap .u64 (((BitVec.ofInt 64 (a.toNat : Int)) ||| (BitVec.ofInt 64 (b.toNat : Int))).toNat : Int) = _
  rw [ofInt_nat, ofInt_nat, BitVec.toNat_or, BitVec.toNat_ofNat, BitVec.toNat_ofNat, Nat.mod_eq_of_lt a.toNat_lt, Nat.mod_eq_of_lt b.toNat_lt, ← UInt64.toNat_or]
  exact wrap64 _
theorem shl64 (x : UInt64) (m : Nat) (h : m < 64) : shlP .u64 (x.toNat : Int) (m : Int) = ((x <<< UInt64.ofNat m).toNat : Int) := by
  have e : min ((m : Int)).toNat (IntKind.bits .u64) = m := by simp [IntKind.bits]; omega
  have e2 : (UInt64.ofNat m).toNat = m := by simp; omega
  simp only [shlP]
  rw [e, UInt64.toNat_shiftLeft, e2, Nat.mod_eq_of_lt h, Nat.shiftLeft_eq]
  have : (x.toNat : Int) * 2 ^ m = ((x.toNat * 2 ^ m : Nat) : Int) := by simp
  rw [this, wrap_u64n]
theorem shr64 (x : UInt64) (m : Nat) (h : m < 64) : shrP .u64 (x.toNat : Int) (m : Int) = ((x >>> UInt64.ofNat m).toNat : Int) := by
  have e : min ((m : Int)).toNat (IntKind.bits .u64) = m := by simp [IntKind.bits]; omega
  have e2 : (UInt64.ofNat m).toNat = m := by simp; omega
  simp only [shrP]
  rw [e, UInt64.toNat_shiftRight, e2, Nat.mod_eq_of_lt h, Nat.shiftRight_eq_div_pow]
  have e3 : (2 : Int) ^ m = ((2 ^ m : Nat) : Int) := by simp
  rw [e3, Int.fdiv_eq_ediv_of_nonneg _ (Int.natCast_nonneg _)]; rfl
theorem shl64_8 (x : UInt64) : shlP .u64 (x.toNat : Int) 8 = ((x <<< 8).toNat : Int) := shl64 x 8 (by decide)
theorem shl64_63 (x : UInt64) : shlP .u64 (x.toNat : Int) 63 = ((x <<< 63).toNat : Int) := shl64 x 63 (by decide)
theorem shr64_1 (x : UInt64) : shrP .u64 (x.toNat : Int) 1 = ((x >>> 1).toNat : Int) := shr64 x 1 (by decide)
theorem and64_1 (a : UInt64) : bitsP .and .u64 a.toNat 1 = ((a &&& 1).toNat : Int) := and64 a 1
theorem low64 (x : UInt64) : IntKind.wrap .u8 (x.toNat : Int) = (x.toUInt8.toNat : Int) := by
  have : IntKind.wrap .u8 ((x.toNat : Nat) : Int) = ((x.toNat % 256 : Nat) : Int) := by simp [IntKind.wrap, IntKind.bits, IntKind.signed]
  rw [this]; simp
theorem eq1_u64 (b : UInt64) : ((b.toNat : Int) == 1) = decide (b = 1) := by
  by_cases h : b = 1
  · subst h; rfl
  · rw [decide_eq_false h, beq_eq_false_iff_ne]
    intro h2; apply h; apply UInt64.toNat_inj.1; show b.toNat = 1; omega
/-- A block of two words. -/
theorem or64_b (x : UInt64) (b : UInt8) : bitsP .or .u64 x.toNat b.toNat = ((x ||| b.toUInt64).toNat : Int) := by
  rw [← or64]; simp
theorem mul64_e1 (x : UInt64) : IntKind.wrap .u64 ((x.toNat : Int) * 16212958658533785600) = ((x * 16212958658533785600).toNat : Int) := mul64 x 16212958658533785600
def elC (e : El) : List PV := [.int .u64 (e.hi.toNat : Int), .int .u64 (e.lo.toNat : Int)]
theorem elC_scalar (e : El) : (elC e).all scalarV = true := by simp [elC, scalarV]
theorem elC_ok (e : El) : (elC e).all cellOk = true := by simp [elC, cellOk]
theorem elC_len (e : El) : (elC e).length = 2 := rfl
theorem elC_at (e : El) {i : Nat} (h : i < 2) : (elC e)[i]? = some (.int .u64 (((if i = 0 then e.hi else e.lo).toNat : Nat) : Int)) := by
  match i, h with
  | 0, _ => rfl
  | 1, _ => rfl
theorem scs_el {n : Nat} {e : El} : Scs n (elC e) = True := eq_true (scs_scalars (elC_scalar e))
end Pv

set_option linter.all false
set_option maxHeartbeats 1000000
namespace Pv
open Go
/-! ### Blocks of bytes as elements: plain. -/
namespace El
def push (e : El) (i : Nat) (b : UInt8) : El := if i < 8 then ⟨(e.hi <<< 8) ||| b.toUInt64, e.lo⟩ else ⟨e.hi, (e.lo <<< 8) ||| b.toUInt64⟩
end El
/-- A block's first i bytes. -/
def elI (b : List UInt8) : Nat → El
  | 0 => El.zero
  | i + 1 => (elI b i).push i (b.getD i 0)
def elB (b : List UInt8) : El := elI b 16
def txB (e : El) (i : Nat) : UInt8 := ((if i < 8 then e.hi else e.lo) >>> UInt64.ofNat (56 - 8 * (i % 8))).toUInt8
def elT (e : El) : List UInt8 := (List.range 16).map (txB e)
theorem elT_len (e : El) : (elT e).length = 16 := by simp [elT]
theorem elT_at (e : El) {i : Nat} (h : i < 16) : (elT e)[i]? = some (txB e i) := by simp [elT, h]
/-- A row of bytes shifted by one bit. -/
def sb (v : List UInt8) (k : Nat) : UInt8 := if k = 0 then v.getD 0 0 >>> 1 else (v.getD k 0 >>> 1) ||| (v.getD (k - 1) 0 <<< 7)
/-! #### Hashes -/
def hstep (key x b : El) : El := El.mul (El.xor x b) key
def hsh (key x : El) (l : List UInt8) : Nat → El
  | 0 => x
  | j + 1 => hstep key (hsh key x l j) (elB ((l.drop (16 * j)).take 16))
def nb (n : Nat) : Nat := (n + 15) / 16
def fil (s : List UInt8) : List UInt8 := s ++ List.replicate ((16 - s.length % 16) % 16) 0
theorem fil_at (s : List UInt8) (j : Nat) (h : j < nb s.length) : ((fil s).drop (16 * j)).take 16 = (s.drop (16 * j)).take 16 ++ List.replicate (16 - min (s.length - 16 * j) 16) 0 := by
  rw [nb] at h
  rw [fil, List.drop_append_of_le_length (by omega), List.take_append, List.take_replicate, List.length_drop]
  congr 2; omega
def lenE (a b : Nat) : El := ⟨8 * UInt64.ofNat a, 8 * UInt64.ofNat b⟩
def ghs (key : El) (ad s : List UInt8) : El := hstep key (hsh key (hsh key El.zero (fil ad) (nb ad.length)) (fil s) (nb s.length)) (lenE ad.length s.length)
def ghashR (h ad s : List UInt8) : List UInt8 × Int := if h.length = 16 then (elT (ghs (elB h) ad s), 0) else ([], 10)
end Pv

set_option linter.all false
namespace Pv
open Go
theorem xorB_cancel : ∀ (a b : List UInt8), a.length ≤ b.length → xorB (xorB a b) b = a
  | [], b, _ => rfl
  | x :: a, [], h => by simp at h
  | x :: a, y :: b, h => by
    have := xorB_cancel a b (by simpa using h)
    simp only [xorB, List.zipWith_cons_cons] at this ⊢
    rw [this, UInt8.xor_assoc, UInt8.xor_self, UInt8.xor_zero]
/-! #### Tags -/
def zL (n : Nat) : List UInt8 := List.replicate n 0
theorem zL_len (n : Nat) : (zL n).length = n := by simp [zL]
end Pv
