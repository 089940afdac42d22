/- Part of the proof: the layer of pure values, or walks through functions (PvGcE, PvW64, PvGcB, PvSvE, PvGc1, PvH6, PvShaR, PvGc2, PvOnceW, PvOnce, PvAe8). -/
import Derived.Test.YtbocckencbkdeaaGreatPvDrawF
import Derived.Test.YtbocckencbkdeaaGreatPvNum
import Derived.Test.YtbocckencbkdeaaGreatPvAe7
import Derived.Test.YtbocckencbkdeaaGreatPvH5
import Derived.Test.YtbocckencbkdeaaGreatPvAeT
import Derived.Shelf.Strings.Repeat
import Derived.Tactics
import Derived.Tactics2
import Derived.Defers
import Derived.Laws.Pointers
import Derived.Laws.LoneSync
import Derived.Laws.NewBlocks
import Derived.RegionTactic
import Derived.RegionCalls
import Derived.ChangeAlike
set_option linter.all false
set_option linter.all false
namespace Pv
/-! ### A field told by the powers of T: plain. -/
/-- A block as two numbers. -/
structure El where
  hi : UInt64
  lo : UInt64
deriving DecidableEq
namespace El
def xor (a b : El) : El := ⟨a.hi ^^^ b.hi, a.lo ^^^ b.lo⟩
def zero : El := ⟨0, 0⟩
def T (f : El) : El := ⟨(f.hi >>> 1) ^^^ ((f.lo &&& 1) * 16212958658533785600), (f.lo >>> 1) ||| (f.hi <<< 63)⟩
def bit (e : El) (i : Nat) : UInt64 := ((if i < 64 then e.hi else e.lo) >>> UInt64.ofNat (63 - i % 64)) &&& 1
def pw (f : El) : Nat → El
  | 0 => f
  | i + 1 => T (pw f i)
/-- The sum of the first i parts. -/
def sm (a f : El) : Nat → El
  | 0 => zero
  | i + 1 => if bit a i = 1 then xor (sm a f i) (pw f i) else sm a f i
def mul (a f : El) : El := sm a f 128
def one : El := ⟨9223372036854775808, 0⟩
theorem ext' {a b : El} (h : a.hi = b.hi) (l : a.lo = b.lo) : a = b := by cases a; cases b; simp_all
theorem xor_comm (a b : El) : xor a b = xor b a := ext' (UInt64.xor_comm ..) (UInt64.xor_comm ..)
theorem xor_assoc (a b c : El) : xor (xor a b) c = xor a (xor b c) := ext' (UInt64.xor_assoc ..) (UInt64.xor_assoc ..)
theorem xor_zero (a : El) : xor a zero = a := ext' (UInt64.xor_zero) (UInt64.xor_zero)
theorem zero_xor (a : El) : xor zero a = a := by rw [xor_comm, xor_zero]
theorem xor_self (a : El) : xor a a = zero := ext' (UInt64.xor_self) (UInt64.xor_self)
theorem low_cases (x : UInt64) : x &&& 1 = 0 ∨ x &&& 1 = 1 := by
  have h : (x &&& 1).toNat = x.toNat % 2 := by rw [UInt64.toNat_and]; exact Nat.and_one_is_mod _
  rcases Nat.mod_two_eq_zero_or_one x.toNat with e | e
  · left; apply UInt64.toNat_inj.1; rw [h, e]; rfl
  · right; apply UInt64.toNat_inj.1; rw [h, e]; rfl
theorem and_xor1 (x y : UInt64) : (x ^^^ y) &&& 1 = (x &&& 1) ^^^ (y &&& 1) := by
  apply UInt64.toBitVec_inj.1; simp only [UInt64.toBitVec_and, UInt64.toBitVec_xor]
  ext i; simp; cases x.toBitVec[i] <;> cases y.toBitVec[i] <;> simp
theorem low_mul (x y : UInt64) (c : UInt64) : ((x ^^^ y) &&& 1) * c = ((x &&& 1) * c) ^^^ ((y &&& 1) * c) := by
  rw [and_xor1]
  rcases low_cases x with h | h <;> rcases low_cases y with g | g <;> rw [h, g] <;> simp
theorem shr_xor1 (x y : UInt64) : (x ^^^ y) >>> 1 = (x >>> 1) ^^^ (y >>> 1) := by
  apply UInt64.toBitVec_inj.1; simp only [UInt64.toBitVec_shiftRight, UInt64.toBitVec_xor]
  ext i; simp
theorem or_shl (x y u v : UInt64) : ((x ^^^ y) >>> 1) ||| ((u ^^^ v) <<< 63) = ((x >>> 1) ||| (u <<< 63)) ^^^ ((y >>> 1) ||| (v <<< 63)) := by
  apply UInt64.toBitVec_inj.1; simp only [UInt64.toBitVec_shiftRight, UInt64.toBitVec_shiftLeft, UInt64.toBitVec_or, UInt64.toBitVec_xor]
  ext i hi
  simp
  rcases Nat.lt_or_ge i 63 with h | h
  · simp [h]
  · have : i = 63 := by omega
    subst this; simp
theorem T_xor (a b : El) : T (xor a b) = xor (T a) (T b) := by
  apply ext'
  · show ((a.hi ^^^ b.hi) >>> (1 : UInt64)) ^^^ (((a.lo ^^^ b.lo) &&& (1 : UInt64)) * (16212958658533785600 : UInt64)) = _
    rw [shr_xor1, low_mul]
    show _ = ((a.hi >>> (1 : UInt64)) ^^^ ((a.lo &&& (1 : UInt64)) * (16212958658533785600 : UInt64))) ^^^ ((b.hi >>> (1 : UInt64)) ^^^ ((b.lo &&& (1 : UInt64)) * (16212958658533785600 : UInt64)))
    ac_rfl
  · exact or_shl ..
theorem T_zero : T zero = zero := by decide
theorem pw_xor (a b : El) : ∀ i, pw (xor a b) i = xor (pw a i) (pw b i)
  | 0 => rfl
  | i + 1 => by rw [pw, pw_xor a b i, T_xor]; rfl
theorem pw_zero : ∀ i, pw zero i = zero
  | 0 => rfl
  | i + 1 => by rw [pw, pw_zero i, T_zero]
theorem pw_T (f : El) : ∀ i, pw (T f) i = T (pw f i)
  | 0 => rfl
  | i + 1 => by rw [pw, pw_T f i]; rfl
theorem xor4 (a b c d : El) : xor (xor a b) (xor c d) = xor (xor a c) (xor b d) := by
  rw [xor_assoc, xor_assoc, ← xor_assoc b c d, xor_comm b c, xor_assoc c b d]
theorem sm_xor (a f g : El) : ∀ i, sm a (xor f g) i = xor (sm a f i) (sm a g i)
  | 0 => by rw [sm, sm, sm, xor_zero]
  | i + 1 => by
    rw [sm, sm, sm, sm_xor a f g i]
    split
    · rw [pw_xor, xor4]
    · rfl
theorem sm_zero (a : El) : ∀ i, sm a zero i = zero
  | 0 => rfl
  | i + 1 => by
    rw [sm, sm_zero a i]
    split
    · rw [pw_zero, xor_zero]
    · rfl
theorem sm_T (a f : El) : ∀ i, sm a (T f) i = T (sm a f i)
  | 0 => by rw [sm, sm, T_zero]
  | i + 1 => by
    rw [sm, sm, sm_T a f i]
    split
    · rw [pw_T, T_xor]
    · rfl
theorem sm_pw (a f : El) (n : Nat) : ∀ i, sm a (pw f i) n = pw (sm a f n) i
  | 0 => rfl
  | i + 1 => by rw [pw, sm_T, sm_pw a f n i]; rfl
/-- Two factors turn places. -/
theorem sm_sm (a b c : El) (n : Nat) : ∀ i, sm a (sm b c i) n = sm b (sm a c n) i
  | 0 => sm_zero a n
  | i + 1 => by
    rw [sm, sm]
    split
    · rw [sm_xor, sm_sm a b c n i, sm_pw]
    · exact sm_sm a b c n i
theorem mul_left (a b c : El) : mul a (mul b c) = mul b (mul a c) := sm_sm a b c 128 128
/-! #### One -/
def ei (i : Nat) : El := if i < 64 then ⟨1 <<< UInt64.ofNat (63 - i), 0⟩ else ⟨0, 1 <<< UInt64.ofNat (127 - i)⟩
theorem T_ei : ∀ i, i < 127 → T (ei i) = ei (i + 1) := by
  have : ∀ i : Fin 127, T (ei i.val) = ei (i.val + 1) := by decide +kernel
  exact fun i h => this ⟨i, h⟩
theorem pw_one : ∀ i, i < 128 → pw one i = ei i
  | 0, _ => by decide
  | i + 1, h => by rw [pw, pw_one i (by omega), T_ei i (by omega)]
theorem bit_ei : ∀ i k, i < 128 → k < 128 → bit (ei i) k = if i = k then 1 else 0 := by
  have : ∀ i : Fin 128, ∀ k : Fin 128, bit (ei i.val) k.val = if i.val = k.val then 1 else 0 := by decide +kernel
  exact fun i k h g => this ⟨i, h⟩ ⟨k, g⟩
theorem shr_xor (x y m : UInt64) : (x ^^^ y) >>> m = (x >>> m) ^^^ (y >>> m) := by
  apply UInt64.toBitVec_inj.1; simp only [UInt64.toBitVec_shiftRight, UInt64.toBitVec_xor]
  ext i; simp
theorem bit_xor (a b : El) (k : Nat) : bit (xor a b) k = bit a k ^^^ bit b k := by
  rw [bit, bit, bit]
  split
  · show ((a.hi ^^^ b.hi) >>> _) &&& 1 = _; rw [shr_xor, and_xor1]
  · show ((a.lo ^^^ b.lo) >>> _) &&& 1 = _; rw [shr_xor, and_xor1]
theorem bit_cases (a : El) (k : Nat) : bit a k = 0 ∨ bit a k = 1 := low_cases _
theorem bit_zero (k : Nat) : bit zero k = 0 := by
  rw [bit]; split <;> simp [zero]
theorem bit_sm (a : El) (k : Nat) (hk : k < 128) : ∀ n, n ≤ 128 → bit (sm a one n) k = if k < n then bit a k else 0
  | 0, _ => by rw [sm, bit_zero, if_neg (by omega)]
  | n + 1, h => by
    rw [sm]
    have ih := bit_sm a k hk n (by omega)
    have hb : bit (pw one n) k = if n = k then 1 else 0 := by rw [pw_one n (by omega), bit_ei n k (by omega) hk]
    by_cases hnk : n = k
    · subst hnk
      rw [if_neg (by omega)] at ih
      rw [if_pos rfl] at hb
      rw [show (if n < n + 1 then bit a n else 0) = bit a n from if_pos (by omega)]
      rcases bit_cases a n with e | e
      · rw [e, if_neg (by decide), ih]
      · rw [e, if_pos rfl, bit_xor, ih, hb]; rfl
    · rw [if_neg hnk] at hb
      have e1 : (if k < n + 1 then bit a k else 0) = if k < n then bit a k else 0 := by
        by_cases h1 : k < n
        · rw [if_pos h1, if_pos (by omega)]
        · rw [if_neg h1, if_neg (by omega)]
      rw [e1, ← ih]
      split
      · rw [bit_xor, hb, UInt64.xor_zero]
      · rfl
theorem u64_bits {x y : UInt64} (h : ∀ m, m < 64 → (x >>> UInt64.ofNat m) &&& 1 = (y >>> UInt64.ofNat m) &&& 1) : x = y := by
  have t : ∀ (z : UInt64) m, m < 64 → ((z >>> UInt64.ofNat m) &&& 1).toNat = (z.toNat >>> m) &&& 1 := by
    intro z m hm
    rw [UInt64.toNat_and, UInt64.toNat_shiftRight, UInt64.toNat_ofNat']
    rw [show m % 2 ^ 64 % 64 = m by omega]; rfl
  apply UInt64.toNat_inj.1
  apply Nat.eq_of_testBit_eq
  intro m
  rcases Nat.lt_or_ge m 64 with hm | hm
  · have := congrArg UInt64.toNat (h m hm)
    rw [t x m hm, t y m hm, Nat.and_one_is_mod, Nat.and_one_is_mod] at this
    rw [Nat.testBit, Nat.testBit, Nat.and_comm, Nat.and_one_is_mod, Nat.and_comm, Nat.and_one_is_mod, this]
  · have hx := x.toNat_lt
    have hy := y.toNat_lt
    rw [Nat.testBit_lt_two_pow (Nat.lt_of_lt_of_le hx (Nat.pow_le_pow_right (by decide) hm)), Nat.testBit_lt_two_pow (Nat.lt_of_lt_of_le hy (Nat.pow_le_pow_right (by decide) hm))]
theorem el_bits {a b : El} (h : ∀ k, k < 128 → bit a k = bit b k) : a = b := by
  apply ext'
  · apply u64_bits; intro m hm
    have := h (63 - m) (by omega)
    rw [bit, bit, if_pos (by omega), if_pos (by omega), show 63 - (63 - m) % 64 = m by omega] at this; exact this
  · apply u64_bits; intro m hm
    have := h (127 - m) (by omega)
    rw [bit, bit, if_neg (by omega), if_neg (by omega), show 63 - (127 - m) % 64 = m by omega] at this; exact this
theorem mul_one (a : El) : mul a one = a := el_bits fun k hk => by rw [mul, bit_sm a k hk 128 (by omega), if_pos hk]
theorem mul_comm (a b : El) : mul a b = mul b a := by
  have := mul_left a b one
  rwa [mul_one, mul_one] at this
end El
end Pv

set_option linter.all false
namespace Pv
open Go Go.RowKit

end Pv

set_option linter.all false
set_option maxHeartbeats 1000000
namespace Pv
open Go
/-! ### Blocks of bytes as elements: plain. -/
namespace El
def push (e : El) (i : Nat) (b : UInt8) : El := if i < 8 then ⟨(e.hi <<< 8) ||| b.toUInt64, e.lo⟩ else ⟨e.hi, (e.lo <<< 8) ||| b.toUInt64⟩
end El
/-- A block's first i bytes. -/
def elI (b : List UInt8) : Nat → El
  | 0 => El.zero
  | i + 1 => (elI b i).push i (b.getD i 0)
def elB (b : List UInt8) : El := elI b 16
/-- A row of bytes shifted by one bit. -/
def sb (v : List UInt8) (k : Nat) : UInt8 := if k = 0 then v.getD 0 0 >>> 1 else (v.getD k 0 >>> 1) ||| (v.getD (k - 1) 0 <<< 7)
/-! #### Hashes -/
def hstep (key x b : El) : El := El.mul (El.xor x b) key
def hsh (key x : El) (l : List UInt8) : Nat → El
  | 0 => x
  | j + 1 => hstep key (hsh key x l j) (elB ((l.drop (16 * j)).take 16))
end Pv

set_option linter.all false
namespace Pv
open Go
/-! ### Doubling, tags and rows: plain. -/
def dbB (b : List UInt8) (k : Nat) : UInt8 := if k < 15 then (b.getD k 0 <<< 1) ||| (b.getD (k + 1) 0 >>> 7) else (b.getD k 0 <<< 1) ^^^ ((b.getD 0 0 >>> 7) * 0x87)
def dbl (b : List UInt8) : List UInt8 := (List.range 16).map (dbB b)
theorem dbl_len (b : List UInt8) : (dbl b).length = 16 := by simp [dbl]
theorem dbl_at (b : List UInt8) {k : Nat} (h : k < 16) : (dbl b)[k]? = some (dbB b k) := by simp [dbl, h]
theorem top_if (x : UInt8) : (x >>> 7) * 0x87 = if 128 ≤ x.toNat then (0x87 : UInt8) else 0 := byte_all (p := fun x => (x >>> 7) * 0x87 = if 128 ≤ x.toNat then (0x87 : UInt8) else 0) (by decide +kernel) x
theorem xorB_assoc : ∀ (a b c : List UInt8), xorB (xorB a b) c = xorB a (xorB b c)
  | [], b, c => rfl
  | _ :: _, [], c => rfl
  | _ :: _, _ :: _, [] => rfl
  | x :: a, y :: b, z :: c => by
    have := xorB_assoc a b c
    simp only [xorB, List.zipWith_cons_cons] at this ⊢
    rw [this, UInt8.xor_assoc]
theorem xorB_cancel : ∀ (a b : List UInt8), a.length ≤ b.length → xorB (xorB a b) b = a
  | [], b, _ => rfl
  | x :: a, [], h => by simp at h
  | x :: a, y :: b, h => by
    have := xorB_cancel a b (by simpa using h)
    simp only [xorB, List.zipWith_cons_cons] at this ⊢
    rw [this, UInt8.xor_assoc, UInt8.xor_self, UInt8.xor_zero]
theorem xorB_comm' : ∀ (a b : List UInt8), xorB a b = xorB b a
  | [], [] => rfl
  | [], _ :: _ => rfl
  | _ :: _, [] => rfl
  | x :: a, y :: b => by
    have := xorB_comm' a b
    simp only [xorB, List.zipWith_cons_cons] at this ⊢
    rw [this, UInt8.xor_comm]
/-! #### Tags -/
def zL (n : Nat) : List UInt8 := List.replicate n 0
theorem zL_len (n : Nat) : (zL n).length = n := by simp [zL]
def wholeL (s : List UInt8) : List UInt8 := s ++ [0x80] ++ zL (15 - s.length)
theorem whole_len {s : List UInt8} (h : s.length < 16) : (wholeL s).length = 16 := by simp [wholeL, zL]; omega
theorem whole_take {s : List UInt8} (h : s.length < 16) : (s ++ [0x80] ++ zL 16).take 16 = wholeL s := by
  rw [wholeL, List.take_append, List.take_of_length_le (by simp; omega), zL, zL, List.take_replicate]
  congr 2; simp; omega
def cmX (w s : List UInt8) : Nat → List UInt8
  | 0 => zL 16
  | j + 1 => encB w (xorB (cmX w s j) ((s.drop (16 * j)).take 16))
def cmN (s : List UInt8) : Nat := (s.length - 1) / 16
def cmK1 (w : List UInt8) : List UInt8 := dbl (encB w (zL 16))
def cmK2 (w : List UInt8) : List UInt8 := dbl (cmK1 w)
def cmR (s : List UInt8) : List UInt8 := s.drop (16 * cmN s)
theorem cmR_len (s : List UInt8) : (cmR s).length ≤ 16 := by rw [cmR, List.length_drop, cmN]; omega
/-- The last block, whole and masked. -/
def cmL (w r : List UInt8) : List UInt8 := if r.length = 16 then xorB r (cmK1 w) else xorB (wholeL r) (cmK2 w)
theorem cmL_len {w r : List UInt8} (h : r.length ≤ 16) : (cmL w r).length = 16 := by
  rw [cmL]; split
  · rename_i e; rw [xorB_len, e, cmK1, dbl_len]; rfl
  · rw [xorB_len, whole_len (by omega), cmK2, dbl_len]; rfl
def cmacL (w s : List UInt8) : List UInt8 := encB w (xorB (cmX w s (cmN s)) (cmL w (cmR s)))
/-! #### Rows -/
/-- The row's sum over the first i texts. -/
def rowD (w : List UInt8) (l : List (List UInt8)) : Nat → List UInt8
  | 0 => cmacL w (zL 16)
  | i + 1 => xorB (dbl (rowD w l i)) (cmacL w (l.getD i []))
def rowE (w d s : List UInt8) : List UInt8 := if s.length < 16 then cmacL w (xorB (wholeL s) (dbl d)) else cmacL w (s.take (s.length - 16) ++ xorB (s.drop (s.length - 16)) d)
def rowL (w : List UInt8) (l : List (List UInt8)) : List UInt8 := if l.length = 0 then cmacL w (zL 15 ++ [1]) else rowE w (rowD w l (l.length - 1)) (l.getD (l.length - 1) [])
/-- The counter block of a tag. -/
def maskV (v : List UInt8) : List UInt8 := (v.set 8 (v.getD 8 0 &&& 0x7f)).set 12 (v.getD 12 0 &&& 0x7f)
theorem maskV_len (v : List UInt8) : (maskV v).length = v.length := by simp [maskV]
end Pv

--nosplit
--keep2
namespace Pv
set_option maxRecDepth 20000
set_option maxHeartbeats 4000000
open Go Go.Proofs Go.RowKit
variable {w0 : World}

theorem tdivN (i k : Nat) (h : 0 < k) : Int.tdiv (i : Int) (k : Int) = ((i / k : Nat) : Int) := by rw [Int.tdiv_eq_ediv_of_nonneg (by omega)]; rfl
theorem tmodN (i k : Nat) (h : 0 < k) : Int.tmod (i : Int) (k : Int) = ((i % k : Nat) : Int) := by rw [Int.tmod_eq_emod_of_nonneg (by omega)]; rfl
end Pv

namespace Pv
open Go Go.RowKit
variable {X : Ctx} {G : Ghost} {ph : PH} {w : World} {ρ : Option Nat} {n0 : Nat} {Q : Exit → PSt → PH → Prop}
end Pv

namespace Go.Proofs
open Go.Shelf Go.RowKit
def Tryz.laysRepeat_ren : Go.Shelf.Ren := ⟨fun | 105 => 52 | 212 => 67 | 99 => 68 | 165 => 69 | 166 => 70 | 170 => 71 | 169 => 72 | 263 => 93 | 264 => 94 | 206 => 95 | 240 => 96 | 241 => 97 | 276 => 104 | 277 => 105 | n => n, fun | 9 => 9 | 3 => 3 | 4 => 4 | 20 => 20 | 0 => 0 | 46 => 65 | 109 => 88 | 5 => 5 | 72 => 92 | 76 => 96 | 51 => 116 | 146 => 139 | 53 => 31 | 148 => 141 | 70 => 90 | 37 => 30 | 75 => 95 | 127 => 143 | 164 => 147 | 80 => 99 | n => n, fun | n => n⟩
theorem Tryz.laysRepeat : Lays.n105 Tryz.prog Tryz.laysRepeat_ren where
  mixed := by kernel_rfl
  f99 := Tryz.func68.trans (congrArg some (by kernel_rfl))
  f105 := Tryz.func52.trans (congrArg some (by kernel_rfl))
  f165 := Tryz.func69.trans (congrArg some (by kernel_rfl))
  f166 := Tryz.func70.trans (congrArg some (by kernel_rfl))
  f169 := Tryz.func72.trans (congrArg some (by kernel_rfl))
  f170 := Tryz.func71.trans (congrArg some (by kernel_rfl))
  f206 := Tryz.func95.trans (congrArg some (by kernel_rfl))
  f212 := Tryz.func67.trans (congrArg some (by kernel_rfl))
  f240 := Tryz.func96.trans (congrArg some (by kernel_rfl))
  f241 := Tryz.func97.trans (congrArg some (by kernel_rfl))
  f263 := Tryz.func93.trans (congrArg some (by kernel_rfl))
  f264 := Tryz.func94.trans (congrArg some (by kernel_rfl))
  f276 := Tryz.func104.trans (congrArg some (by kernel_rfl))
  f277 := Tryz.func105.trans (congrArg some (by kernel_rfl))
  t0 := Tryz.underlying0
  a0 := Tryz.isAgg0
  z0 := Tryz.sizeOf0
  v0 := Tryz.zeroValue0
  t3 := Tryz.underlying3
  a3 := Tryz.isAgg3
  z3 := Tryz.sizeOf3
  v3 := Tryz.zeroValue3
  t4 := Tryz.underlying4
  a4 := Tryz.isAgg4
  z4 := Tryz.sizeOf4
  v4 := Tryz.zeroValue4
  t5 := Tryz.underlying5
  a5 := Tryz.isAgg5
  z5 := Tryz.sizeOf5
  v5 := Tryz.zeroValue5
  t9 := Tryz.underlying9
  a9 := Tryz.isAgg9
  z9 := Tryz.sizeOf9
  v9 := Tryz.zeroValue9
  t20 := Tryz.underlying20
  a20 := Tryz.isAgg20
  z20 := Tryz.sizeOf20
  v20 := Tryz.zeroValue20
  t37 := Tryz.underlying30
  a37 := Tryz.isAgg30
  z37 := Tryz.sizeOf30
  v37 := Tryz.zeroValue30
  t46 := Tryz.underlying65
  a46 := Tryz.isAgg65
  z46 := Tryz.sizeOf65
  v46 := Tryz.zeroValue65
  t51 := Tryz.underlying116
  a51 := Tryz.isAgg116
  z51 := Tryz.sizeOf116
  v51 := Tryz.zeroValue116
  t53 := Tryz.underlying31
  a53 := Tryz.isAgg31
  z53 := Tryz.sizeOf31
  v53 := Tryz.zeroValue31
  t70 := Tryz.underlying90
  a70 := Tryz.isAgg90
  z70 := Tryz.sizeOf90
  v70 := Tryz.zeroValue90
  t72 := Tryz.underlying92
  a72 := Tryz.isAgg92
  z72 := Tryz.sizeOf92
  v72 := Tryz.zeroValue92
  t75 := Tryz.underlying95
  a75 := Tryz.isAgg95
  z75 := Tryz.sizeOf95
  v75 := Tryz.zeroValue95
  t76 := Tryz.underlying96
  a76 := Tryz.isAgg96
  z76 := Tryz.sizeOf96
  v76 := Tryz.zeroValue96
  t109 := Tryz.underlying88
  a109 := Tryz.isAgg88
  z109 := Tryz.sizeOf88
  v109 := Tryz.zeroValue88
  t127 := Tryz.underlying143
  a127 := Tryz.isAgg143
  z127 := Tryz.sizeOf143
  v127 := Tryz.zeroValue143
  t146 := Tryz.underlying139
  a146 := Tryz.isAgg139
  z146 := Tryz.sizeOf139
  v146 := Tryz.zeroValue139
  t148 := Tryz.underlying141
  a148 := Tryz.isAgg141
  z148 := Tryz.sizeOf141
  v148 := Tryz.zeroValue141
  t164 := Tryz.underlying147
  a164 := Tryz.isAgg147
  z164 := Tryz.sizeOf147
  v164 := Tryz.zeroValue147
theorem Tryz.extraRepeat : Builder.Extra Tryz.prog Tryz.laysRepeat_ren where
  sizeBuilder := by kernel_rfl
  liesBuilder := by kernel_rfl
  t5 := Tryz.laysRepeat.t5
  a5 := Tryz.laysRepeat.a5
  z5 := Tryz.laysRepeat.z5
  v5 := Tryz.laysRepeat.v5
  infoByte := by kernel_rfl
  cellsByte := by kernel_rfl
  sizeByte := by kernel_rfl
  neB5 := by decide
end Go.Proofs
namespace Pv
open Go Go.Proofs Go.RowKit
variable {w0 : World}
theorem repeatL_byte (b : UInt8) : ∀ n, Lib.repeatL [b] n = List.replicate n b
  | 0 => rfl
  | n + 1 => by rw [Lib.repeatL, repeatL_byte b n]; rfl
/-- strings.Repeat of one byte. -/
theorem repeat_ok (b : UInt8) (n : Nat) (hn : n ≤ 2 ^ 40) : Fn (Cx w0) 52 [.str [b], .int .i64 n] (.str (List.replicate n b)) := by
  refine fn_of_calls Tryz.func52 (by kernel_rfl) (by kernel_rfl) ?_
  intro G w rargs hr
  cases hr with
  | cons _ v1 _ _ h1 h2 =>
    cases h2 with
    | cons _ v2 _ _ h3 h4 =>
      cases h4
      cases h1 with
      | str _ t ht =>
        cases h3
        have hsz : t.size = 1 := by
          show t.data.size = 1
          rw [← Array.length_toList, ht]; rfl
        refine (Any.strings_Repeat Tryz.laysRepeat Tryz.extraRepeat t n w (by omega) (by rw [hsz]; omega)).mono fun e w' ⟨he, hw⟩ => ⟨⟨_, he, ?_⟩, hw⟩
        refine .str _ _ ?_
        rw [ht, repeatL_byte]
end Pv

--nosplit
--keep2
namespace Pv
set_option maxRecDepth 20000
set_option maxHeartbeats 4000000
open Go Go.Proofs Go.RowKit
variable {w0 : World}

theorem ne16_t {n : Nat} (h : n ≠ 16) : ((n : Int) != 16) = true := by rw [bne_iff_ne]; omega
theorem ne16_f {n : Nat} (h : n = 16) : ((n : Int) != 16) = false := by rw [bne_eq_false_iff_eq]; omega
end Pv

/-! ### sync.Once, at the machine -/
namespace Go.Proofs.OnceW
open Go Go.Proofs

theorem disable (w : World) : (callFunc 126 #[]).run Tryz.prog w = .ok (.value (.tuple #[])) w := run_call_mark0 Tryz.func126 (by kernel_rfl) (by kernel_rfl) (by kernel_rfl) .disable (by kernel_rfl) w
theorem enable (w : World) : (callFunc 128 #[]).run Tryz.prog w = .ok (.value (.tuple #[])) w := run_call_mark0 Tryz.func128 (by kernel_rfl) (by kernel_rfl) (by kernel_rfl) .enable (by kernel_rfl) w
theorem acquire (a : Addr) (w : World) : (callFunc 129 #[.pointer (some a)]).run Tryz.prog w = .ok (.value (.tuple #[])) w := run_call_marked Tryz.func129 (by kernel_rfl) (by kernel_rfl) (by kernel_rfl) .acquire (by kernel_rfl) a w
theorem releaseMerge (a : Addr) (w : World) : (callFunc 131 #[.pointer (some a)]).run Tryz.prog w = .ok (.value (.tuple #[])) w := run_call_marked Tryz.func131 (by kernel_rfl) (by kernel_rfl) (by kernel_rfl) .releaseMerge (by kernel_rfl) a w

set_option maxRecDepth 100000 in
set_option maxHeartbeats 1600000 in
theorem store_deferred (a : Addr) (x : Value) (u : FrameMode) (w : World) (hc : w.cell? a = some x) (hz : w.frozen? a = false) :
    CallsD Tryz.prog 116 #[.pointer (some a), .bool true] u w fun e u' w' => u' = u ∧ (e = .returned (.tuple #[]) ∧ w' = w.drew.setCell a (.int .u32 1)) := by
  have hc' : w.drew.cell? a = some x := by go_simp
  have hz' : w.drew.frozen? a = false := by go_simp
  have hst := run_call_store (P := Tryz.prog) Tryz.func124 (by kernel_rfl) (by kernel_rfl) (by kernel_rfl) (by kernel_rfl) (k := .u32) (y := 1) hc' hz'
  go_enter_d Tryz.func116, Tryz.ntmps116
  go_wp2
  go_region_calls
  all_goals (go_end0; exact ⟨rfl, rfl⟩)

set_option maxRecDepth 100000 in
set_option maxHeartbeats 1600000 in
theorem unlock_deferred (a : Addr) (u : FrameMode) (w : World) (hc : w.cell? a = some (.int .i32 1)) (hz : w.frozen? a = false) :
    CallsD Tryz.prog 115 #[.pointer (some a)] u w fun e u' w' => u' = u ∧ (e = .returned (.tuple #[]) ∧ w' = w.setCell a (.int .i32 0)) := by
  have hd := disable
  have he := enable
  have hr := releaseMerge
  have hadd := run_call_add (P := Tryz.prog) Tryz.func132 (by kernel_rfl) (by kernel_rfl) (by kernel_rfl) .i32 (by kernel_rfl) (y := -1) (s := 0) hc hz (by simp [go_sem]; rfl)
  have hcv := run_convert_to_unsafe (P := Tryz.prog) (src := 171) (dst := 147) Tryz.underlying171 Tryz.underlying147 (by kernel_rfl) hc
  go_enter_d Tryz.func115, Tryz.ntmps115
  go_wp2
  go_end0
  go_wp2
  go_end0
  exact ⟨rfl, rfl⟩

set_option maxRecDepth 100000 in
set_option maxHeartbeats 1600000 in
theorem lock_free (a : Addr) (w : World) (hc : w.cell? a = some (.int .i32 0)) (hz : w.frozen? a = false) :
    Calls Tryz.prog 114 #[.pointer (some a)] w fun e w' => e = .returned (.tuple #[]) ∧ w' = w.setCell a (.int .i32 1) := by
  have hd := disable
  have he := enable
  have ha := acquire
  have hcas := run_call_cas_hit (P := Tryz.prog) Tryz.func127 (by kernel_rfl) (by kernel_rfl) (by kernel_rfl) .i32 (by kernel_rfl) (y := 1) hc hz
  have hc' : (w.setCell a (.int .i32 1)).cell? a = some (.int .i32 1) := World.cell?_setCell_same w a _ hc
  have hcv := run_convert_to_unsafe (P := Tryz.prog) (src := 171) (dst := 147) Tryz.underlying171 Tryz.underlying147 (by kernel_rfl) hc'
  go_enter Tryz.func114, Tryz.ntmps114
  go_wp2
  first | go_end0 | (simp only [Exit.inBlock, Exit.then]; refine bodyPost_ret (results_none rfl _ _ _) rfl ?_) | refine bodyPost_ret (results_none rfl _ _ _) rfl ?_
  go_wp2
  go_end0
  exact ⟨rfl, rfl⟩

/-- What holds of the world behind the function that Do calls. -/
structure Behind (b off : Nat) (K : World → Prop) (w : World) : Prop where
  k : K w
  h0 : w.cell? ⟨b, off, none⟩ = some (.int .u32 0)
  h1 : w.cell? ⟨b, off + 1, none⟩ = some (.int .i32 1)
  f0 : w.frozen? ⟨b, off, none⟩ = false
  f1 : w.frozen? ⟨b, off + 1, none⟩ = false

set_option maxRecDepth 100000 in
set_option maxHeartbeats 1600000 in
theorem slow_any (b off : Nat) (caps : Array Value) (w : World) (K : World → Prop)
    (h0 : w.cell? ⟨b, off, none⟩ = some (.int .u32 0)) (h1 : w.cell? ⟨b, off + 1, none⟩ = some (.int .i32 0))
    (f0 : w.frozen? ⟨b, off, none⟩ = false) (f1 : w.frozen? ⟨b, off + 1, none⟩ = false)
    (hg : Calls Tryz.prog 100 caps (w.setCell ⟨b, off + 1, none⟩ (.int .i32 1)) fun e w' => e = .returned (.tuple #[]) ∧ Behind b off K w') :
    Calls Tryz.prog 107 #[.pointer (some ⟨b, off, none⟩), .func (.func 100) #[] caps] w fun e w' => e = .returned (.tuple #[]) ∧
      ∃ w1, Behind b off K w1 ∧ w' = (w1.drew.setCell ⟨b, off, none⟩ (.int .u32 1)).setCell ⟨b, off + 1, none⟩ (.int .i32 0) := by
  have hl := run_call_load (P := Tryz.prog) Tryz.func113 (by kernel_rfl) (by kernel_rfl) (by kernel_rfl) .u32 (by kernel_rfl) (w := w.setCell ⟨b, off + 1, none⟩ (.int .i32 1)) (a := ⟨b, off, none⟩) (x := 0) ((World.cell?_setCell_other _ ⟨b, off + 1, none⟩ ⟨b, off, none⟩ _ (by simp)).trans h0)
  have hnot : ∀ (x : Bool) (w : World), (Op.unary .not (.bool x)).run Tryz.prog w = .ok (.bool (!x)) w := fun _ _ => rfl
  go_enter_defers Tryz.func107, Tryz.ntmps107
  go_wp2_with (first | (go_at_call 114; refine (lock_free ⟨b, off + 1, none⟩ _ (by go_simp) (by go_simp)).mono ?_; rintro e w' ⟨rfl, rfl⟩) | (go_at_call 100; refine hg.mono ?_; rintro e w1 ⟨rfl, hw1⟩) | (go_at_call 106; go_in))
  -- the two deferred calls, the last laid first
  refine leaves_cons (f := 116) (args := #[.pointer (some ⟨b, off, none⟩), .bool true]) (by simp) (by simp [go_sem]) ?_
  refine (store_deferred ⟨b, off, none⟩ (.int .u32 0) .returning _ hw1.h0 hw1.f0).mono ?_
  rintro e u' w'' ⟨rfl, rfl, rfl⟩
  refine leaves_cons (f := 115) (args := #[.pointer (some ⟨b, off + 1, none⟩)]) (by simp [settle]) (by simp [go_sem]) ?_
  refine (unlock_deferred ⟨b, off + 1, none⟩ _ _ ?_ ?_).mono ?_
  · refine (World.cell?_setCell_other _ ⟨b, off, none⟩ ⟨b, off + 1, none⟩ _ (by simp)).trans ?_
    rw [World.cell?_drew]; exact hw1.h1
  · simp [hw1.f1]
  rintro e u' w'' ⟨rfl, rfl, rfl⟩
  simp [Leaves, settle, results, Tryz.results107]
  exact ⟨w1, hw1, rfl⟩

set_option maxRecDepth 100000 in
set_option maxHeartbeats 1600000 in
/-- '(*sync.Once).Do', not yet done, the lock free. -/
theorem do_first (b off : Nat) (caps : Array Value) (w : World) (K : World → Prop)
    (h0 : w.cell? ⟨b, off, none⟩ = some (.int .u32 0)) (h1 : w.cell? ⟨b, off + 1, none⟩ = some (.int .i32 0))
    (f0 : w.frozen? ⟨b, off, none⟩ = false) (f1 : w.frozen? ⟨b, off + 1, none⟩ = false)
    (hg : Calls Tryz.prog 100 caps (w.setCell ⟨b, off + 1, none⟩ (.int .i32 1)) fun e w' => e = .returned (.tuple #[]) ∧ Behind b off K w') :
    Calls Tryz.prog 99 #[.pointer (some ⟨b, off, none⟩), .func (.func 100) #[] caps] w fun e w' => e = .returned (.tuple #[]) ∧
      ∃ w1, Behind b off K w1 ∧ w' = (w1.drew.setCell ⟨b, off, none⟩ (.int .u32 1)).setCell ⟨b, off + 1, none⟩ (.int .i32 0) := by
  have hl := run_call_load (P := Tryz.prog) Tryz.func113 (by kernel_rfl) (by kernel_rfl) (by kernel_rfl) .u32 (by kernel_rfl) h0
  have hnot : ∀ (x : Bool) (w : World), (Op.unary .not (.bool x)).run Tryz.prog w = .ok (.bool (!x)) w := fun _ _ => rfl
  go_enter Tryz.func99, Tryz.ntmps99
  go_wp2_with (first | (go_at_call 107; refine (slow_any b off caps _ K h0 h1 f0 f1 hg).mono ?_; rintro e w' ⟨rfl, w1, hw1, rfl⟩) | (go_at_call 106; go_in))
  go_end0
  exact ⟨rfl, w1, hw1, rfl⟩

set_option maxRecDepth 100000 in
set_option maxHeartbeats 1600000 in
/-- '(*sync.Once).Do', done already: the function is not called. -/
theorem do_done (a : Addr) (fv : Value) (w : World) (h0 : w.cell? a = some (.int .u32 1)) :
    Calls Tryz.prog 99 #[.pointer (some a), fv] w fun e w' => e = .returned (.tuple #[]) ∧ w' = w := by
  have hl := run_call_load (P := Tryz.prog) Tryz.func113 (by kernel_rfl) (by kernel_rfl) (by kernel_rfl) .u32 (by kernel_rfl) h0
  have hnot : ∀ (x : Bool) (w : World), (Op.unary .not (.bool x)).run Tryz.prog w = .ok (.bool (!x)) w := fun _ _ => rfl
  go_enter Tryz.func99, Tryz.ntmps99
  go_wp2
  go_end0
  exact ⟨rfl, rfl⟩
end Go.Proofs.OnceW

namespace Pv
open Go Go.Proofs Go.RowKit
variable {w0 : World}

/-! ### sync.Once, told of heaps -/
theorem PH.put_put (ph : PH) (p : Nat) (c d : List PV) : (ph.put p c).put p d = ph.put p d := by simp [PH.put]
theorem own_free {G : Ghost} {X : Ctx} {w : World} {L : Loc} {cells : List PV} {vals : List Value} {cs : Array Value} {e : TypeId} {fz : Nat × Nat} (o : OwnRel X G w L cells vals cs e fz) {k : Nat} (hk : k < vals.length) : w.frozen? ⟨L.b, L.o + k, none⟩ = false := by
  simp only [World.frozen?, o.hb]
  have := o.fr k (by have := o.lt; omega)
  simp only [Bool.and_eq_false_iff, decide_eq_false_iff_not]
  by_cases hx : fz.1 ≤ L.o + k
  · exact .inr fun hy => this ⟨hx, hy⟩
  · exact .inl hx
theorem cell_int {G : Ghost} {vals : List Value} {cells : List PV} (h : RVs G cells vals) {j : Nat} {k : IntKind} {n : Int} (hj : cells[j]? = some (.int k n)) : vals[j]? = some (.int k n) := by
  obtain ⟨v, h1, h2⟩ := h.get j _ hj
  cases h2; exact h1

theorem once_first {ph ph2 : PH} {p o : Nat} {cells cells2 : List PV} {caps : List PV} (hp : ph.get p = some cells) (h0 : cells[o]? = some (.int .u32 0)) (h1 : cells[o + 1]? = some (.int .i32 0))
    (hg : Eff (Cx w0) 100 caps (ph.put p (cells.set (o + 1) (.int .i32 1))) (.tuple []) ph2) (hp2 : ph2.get p = some cells2) (k0 : cells2[o]? = some (.int .u32 0)) (k1 : cells2[o + 1]? = some (.int .i32 1)) (hn : ph2.n = ph.n) :
    Eff (Cx w0) 99 [.ptr p o, .func 100 [] caps] ph (.tuple []) (ph2.put p ((cells2.set o (.int .u32 1)).set (o + 1) (.int .i32 0))) := by
  intro G w rargs hr ha
  have hpn := PH.get_lt hp
  obtain ⟨L, vals, cs, e, fz, hL, ow⟩ := hr.own p cells hp
  cases ha with
  | cons _ a _ aas ha1 ha2 =>
  cases ha2 with
  | cons _ b _ bs hb1 hb2 =>
  cases hb2
  cases ha1 with
  | ptr _ _ L' hL' =>
  rw [hL] at hL'; cases hL'
  cases hb1 with
  | func _ _ _ rf rc hrf hrc =>
  cases hrf
  have v0 := cell_int ow.rv h0
  have v1 := cell_int ow.rv h1
  have c0 := ow.cell v0
  have c1 := ow.cell v1
  have l0 := (List.getElem?_eq_some_iff.1 v0).1
  have l1 := (List.getElem?_eq_some_iff.1 v1).1
  have f0 := own_free ow l0
  have f1 := own_free ow l1
  have hr1 := (hr.store1 hp hL (k := o + 1) (c := .int .i32 1) (v := .int .i32 1) (by rw [ow.rv.length]; exact l1) (.int _ _) rfl).2
  have ea : L.o + (o + 1) = L.o + o + 1 := (Nat.add_assoc _ _ _).symm
  rw [ea] at c1 f1 hr1
  refine .inr ⟨w, run_enter (P := Tryz.prog) Tryz.func99 rfl (by kernel_rfl), ?_⟩
  have hgc : Calls Tryz.prog 100 rc.toArray (w.setCell ⟨L.b, L.o + o + 1, none⟩ (.int .i32 1)) fun e w' => e = .returned (.tuple #[]) ∧
      Go.Proofs.OnceW.Behind L.b (L.o + o) (fun w' => ∃ G', LeN ph.n G G' ∧ Rel (Cx w0) G' ph2 w') w' := by
    have hen := run_enter (P := Tryz.prog) (w := w.setCell ⟨L.b, L.o + o + 1, none⟩ (.int .i32 1)) (args := rc.toArray) Tryz.func100 rfl (by kernel_rfl)
    rcases hg G _ rc hr1 hrc with ⟨v, w', he, _⟩ | ⟨w', he, hc⟩
    · have := hen.symm.trans he; cases this
    · have := hen.symm.trans he
      cases this
      refine hc.mono ?_
      intro e w' he
      cases e with
      | returned v =>
        obtain ⟨G', pv, ph', g1, g2, g3, g4, rfl, rfl⟩ := he
        have hv : v = .tuple #[] := by
          cases g3 with | tuple _ vs h => cases h; rfl
        subst hv
        rw [PH.n_put] at g1
        obtain ⟨L2, vals2, cs2, e2, fz2, hL2, ow2⟩ := g2.own p cells2 hp2
        have := g1.l p L hpn hL
        rw [hL2] at this; cases this
        have u0 := cell_int ow2.rv k0
        have u1 := cell_int ow2.rv k1
        have d1 := ow2.cell u1
        have e1 := own_free ow2 (List.getElem?_eq_some_iff.1 u1).1
        rw [ea] at d1 e1
        exact ⟨rfl, ⟨⟨G', g1, g2⟩, ow2.cell u0, d1, own_free ow2 (List.getElem?_eq_some_iff.1 u0).1, e1⟩⟩
      | _ => exact he.elim
  refine (Go.Proofs.OnceW.do_first L.b (L.o + o) rc.toArray w _ c0 c1 f0 f1 hgc).mono ?_
  rintro e w' ⟨rfl, w1, hw1, rfl⟩
  obtain ⟨G', g1, g2⟩ := hw1.k
  have hL2 := g1.l p L hpn hL
  have hd := g2.drew
  obtain ⟨_, vals2, _, _, _, hL3, ow2⟩ := g2.own p cells2 hp2
  rw [hL2] at hL3; cases hL3
  have hl2 := ow2.rv.length
  have m0 := (List.getElem?_eq_some_iff.1 k0).1
  have m1 := (List.getElem?_eq_some_iff.1 k1).1
  have s1 := (hd.store1 hp2 hL2 (k := o) (c := .int .u32 1) (v := .int .u32 1) m0 (.int _ _) rfl).2
  have hp3 : (ph2.put p (cells2.set o (.int .u32 1))).get p = some (cells2.set o (.int .u32 1)) := by rw [PH.get_put (PH.get_lt hp2), if_pos rfl]
  have s2 := (s1.store1 hp3 hL2 (k := o + 1) (c := .int .i32 0) (v := .int .i32 0) (by rw [List.length_set]; exact m1) (.int _ _) rfl).2
  rw [ea, PH.put_put] at s2
  exact ⟨G', .tuple [], _, g1, s2, .tuple [] [] .nil, by rw [PH.n_put, hn]; exact Nat.le_refl _, rfl, rfl⟩

theorem once_done {ph : PH} {p o : Nat} {cells : List PV} {f : PV} (hp : ph.get p = some cells) (h0 : cells[o]? = some (.int .u32 1)) :
    Eff (Cx w0) 99 [.ptr p o, f] ph (.tuple []) ph := by
  intro G w rargs hr ha
  obtain ⟨L, vals, cs, e, fz, hL, ow⟩ := hr.own p cells hp
  cases ha with
  | cons _ a _ aas ha1 ha2 =>
  cases ha2 with
  | cons _ b _ bs hb1 hb2 =>
  cases hb2
  cases ha1 with
  | ptr _ _ L' hL' =>
  rw [hL] at hL'; cases hL'
  have c0 := ow.cell (cell_int ow.rv h0)
  refine .inr ⟨w, run_enter (P := Tryz.prog) Tryz.func99 rfl (by kernel_rfl), ?_⟩
  refine (Go.Proofs.OnceW.do_done ⟨L.b, L.o + o, none⟩ _ w c0).mono ?_
  rintro e w' ⟨rfl, rfl⟩
  exact ⟨G, .tuple [], ph, .refl _ _, hr, .tuple [] [] .nil, Nat.le_refl _, rfl, rfl⟩
end Pv

--nosplit
--keep2
namespace Pv
set_option maxRecDepth 20000
set_option maxHeartbeats 4000000
open Go Go.Proofs Go.RowKit
variable {w0 : World}

/-- A cipher: fresh (b false), or ready. -/
def ciC (key : List UInt8) (b : Bool) : List PV := if b then cC key 1 0 tabL (.fsl 16 (key.length / 4 + 7) (bytesPV (wordsL key))) else cC key 0 0 (tabI 0) .nilsl
theorem ciC_t (key : List UInt8) : ciC key true = cC key 1 0 tabL (.fsl 16 (key.length / 4 + 7) (bytesPV (wordsL key))) := rfl
theorem ciC_f (key : List UInt8) : ciC key false = cC key 0 0 (tabI 0) .nilsl := rfl
theorem cC_setd {key : List UInt8} {d s d' : Int} {T : List UInt8} {r : PV} : (cC key d s T r).set 1 (.int .u32 d') = cC key d' s T r := rfl
theorem cC_sets {key : List UInt8} {d s s' : Int} {T : List UInt8} {r : PV} : (cC key d s T r).set 2 (.int .i32 s') = cC key d s' T r := rfl
theorem ciC_scs {key : List UInt8} {b : Bool} {n : Nat} : Scs n (ciC key b) := by
  cases b
  · exact cC_scs trivial
  · exact cC_scs (scs_scalars (bytesPV_scalar _))

theorem readyF_ok (ph : PH) (q p : Nat) (key : List UInt8) (hk : goodK key) (hp : ph.get p = some [.ptr q 0]) (h : ph.get q = some (cC key 0 1 (tabI 0) .nilsl)) :
    Eff (Cx w0) 100 [.ptr p 0] ph (.tuple []) (ph.put q (cC key 0 1 tabL (.fsl 16 (key.length / 4 + 7) (bytesPV (wordsL key))))) := by
  have hq := PH.get_lt h
  have hpn := PH.get_lt hp
  have hne : p ≠ q := by
    rintro rfl
    rw [hp] at h
    have := congrArg (Option.map List.length) h
    simp [cC_len, tabI_len] at this
  have t1 := tables8_ok (w0 := w0) ph q key 0 1 .nilsl rfl h
  obtain ⟨B, hB⟩ : ∃ B, B = ph.put q (cC key 0 1 tabL .nilsl) := ⟨_, rfl⟩
  rw [← hB] at t1
  have hBn : B.n = ph.n := by rw [hB]; exact PH.n_put ..
  have hBq : B.get q = some (cC key 0 1 tabL .nilsl) := by rw [hB]; exact get_putS _ hq
  have hBp : B.get p = some [.ptr q 0] := by rw [hB, get_putO _ hq hne]; exact hp
  have t2 := schedule8_ok (w0 := w0) B q key 0 1 hk hBq
  have hBB : B.put q (cC key 0 1 tabL (.fsl 16 (key.length / 4 + 7) (bytesPV (wordsL key)))) = ph.put q (cC key 0 1 tabL (.fsl 16 (key.length / 4 + 7) (bytesPV (wordsL key)))) := by rw [hB, put_putS]
  rw [hBB] at t2
  obtain ⟨D, hD⟩ : ∃ D, D = ph.put q (cC key 0 1 tabL (.fsl 16 (key.length / 4 + 7) (bytesPV (wordsL key)))) := ⟨_, rfl⟩
  rw [← hD] at t2 ⊢
  have hDn : D.n = ph.n := by rw [hD]; exact PH.n_put ..
  have hDw : WF ph → WF D := fun hW => hD ▸ hW.put hq (cC_scs (scs_scalars (bytesPV_scalar _)))
  refine eff_of ([]) Tryz.func100 rfl rfl (by decide) hDn hDw fun hW Q hQ => ?_
  simp only [start, List.length_cons, List.length_nil, List.cons_append, List.nil_append, Nat.reduceAdd, Nat.reduceSub, List.replicate_succ, List.replicate_zero, Tryz.ntmps100]
  rw [show H ph [] ph.ob ph.ty = ph from h_start ph]
  repeat' first | simp -implicitDefEqProofs (maxSteps := 400000) (disch := first | with_reducible rfl | omega | (simp only [wkH] <;> omega) | decide) only [wkAll, wkL, popO, wantedP, if_true, if_false, reduceIte, ne_eq, Nat.reduceAdd, Nat.reduceSub, Nat.reduceMul, Nat.reduceLeDiff, Nat.reduceLT, ofCells, ofCell, reduceCtorEq, Int.reduceLE, Int.reduceLT, Int.reduceToNat, Int.reduceAdd, Int.reduceSub, Int.reduceMul, Int.reduceNeg, Int.reduceBEq, Int.reduceBNe, Int.reduceEq, eqCell, eqCells, binP, unP, convP, lenP, builtinP, sliceDataP, unsafeStringP, appendT, appendS, appendP, copyP, srcP, mmsP, mmP, indexOp, indexAddrOp, sliceOp, bndsP, bndP, capw, capCut, loadOp, storeOp, loadP, fieldOp, fieldAddrOp, arrayAtOp, buildP, buildSliceP, makeSliceP, placeF, fillP, setL, PK.agg, isZero, gt_iff_lt, Nat.reducePow, Nat.reduceGT, reps, seg, wkN, if_pos, if_neg, tf82, Tryz.ze82, hp, hBp] | refine w_eff t1 ?_ | refine w_eff t2 ?_
  exact hQ (.inl rfl) trivial rfl ⟨6, frz_tuple frzs_nil⟩ (Keeps.refl D) (nw_eq rfl)

/-- A cipher is made ready. -/
theorem ready8_ok (ph : PH) (q : Nat) (key : List UInt8) (b : Bool) (hk : goodK key) (h : ph.get q = some (ciC key b)) :
    Eff (Cx w0) 87 [.ptr q 0] ph (.tuple []) (ph.put q (ciC key true)) := by
  have hq := PH.get_lt h
  refine eff_of ([]) Tryz.func87 rfl rfl (by decide) (PH.n_put ..) (fun hW => hW.put hq ciC_scs) fun hW Q hQ => ?_
  simp only [start, List.length_cons, List.length_nil, List.cons_append, List.nil_append, Nat.reduceAdd, Nat.reduceSub, List.replicate_succ, List.replicate_zero, Tryz.ntmps87]
  cases b
  · rw [ciC_f] at h
    obtain ⟨B, hB⟩ : ∃ B, B = H ph [some (.own [.ptr q 0])] ph.ob ph.ty := ⟨_, rfl⟩
    have hBq : B.get q = some (cC key 0 0 (tabI 0) .nilsl) := by rw [hB, h_getlt hq]; exact h
    have hBn : B.n = ph.n + 1 := by rw [hB, h_n]; rfl
    have hqB : q < B.n := by omega
    obtain ⟨B1, hB1⟩ : ∃ B1, B1 = B.put q (cC key 0 1 (tabI 0) .nilsl) := ⟨_, rfl⟩
    have hB1p : B1.get ph.n = some [.ptr q 0] := by rw [hB1, get_putO _ hqB (by omega), hB, h_get0]; rfl
    have hB1q : B1.get q = some (cC key 0 1 (tabI 0) .nilsl) := by rw [hB1]; exact get_putS _ hqB
    have hg := readyF_ok (w0 := w0) B1 q ph.n key hk hB1p hB1q
    have hB1n : B1.n = B.n := by rw [hB1]; exact PH.n_put ..
    have hB12 : B1.put q (cC key 0 1 tabL (.fsl 16 (key.length / 4 + 7) (bytesPV (wordsL key)))) = B.put q (cC key 0 1 tabL (.fsl 16 (key.length / 4 + 7) (bytesPV (wordsL key)))) := by rw [hB1, put_putS]
    rw [hB12] at hg
    have on := once_first (w0 := w0) (ph := B) (ph2 := B.put q (cC key 0 1 tabL (.fsl 16 (key.length / 4 + 7) (bytesPV (wordsL key))))) (p := q) (o := 1) (caps := [.ptr ph.n 0]) hBq cC_1 cC_2 (by rw [cC_sets, ← hB1]; exact hg) (get_putS _ hqB) cC_1 cC_2 (PH.n_put ..)
    rw [cC_setd, cC_sets, put_putS, ← ciC_t] at on
    have hEnd : B.put q (ciC key true) = H (ph.put q (ciC key true)) [some (.own [.ptr q 0])] ph.ob ph.ty := by rw [hB, h_putlt hq]
    rw [hEnd, hB] at on
    repeat' first | simp -implicitDefEqProofs (maxSteps := 400000) (disch := first | with_reducible rfl | omega | (simp only [wkH] <;> omega) | decide) only [wkAll, wkL, popO, wantedP, if_true, if_false, reduceIte, ne_eq, Nat.reduceAdd, Nat.reduceSub, Nat.reduceMul, Nat.reduceLeDiff, Nat.reduceLT, ofCells, ofCell, reduceCtorEq, Int.reduceLE, Int.reduceLT, Int.reduceToNat, Int.reduceAdd, Int.reduceSub, Int.reduceMul, Int.reduceNeg, Int.reduceBEq, Int.reduceBNe, Int.reduceEq, eqCell, eqCells, binP, unP, convP, lenP, builtinP, sliceDataP, unsafeStringP, appendT, appendS, appendP, copyP, srcP, mmsP, mmP, indexOp, indexAddrOp, sliceOp, bndsP, bndP, capw, capCut, loadOp, storeOp, loadP, fieldOp, fieldAddrOp, arrayAtOp, buildP, buildSliceP, makeSliceP, placeF, fillP, setL, PK.agg, isZero, gt_iff_lt, Nat.reducePow, Nat.reduceGT, reps, seg, wkN, if_pos, if_neg, tf1, Tryz.ze1, tf5, Tryz.ze5, tf9, Tryz.ze9, tf21, Tryz.ze21, tf82, Tryz.ze82, tf86, Tryz.ze86, tf116, Tryz.ze116, tf118, Tryz.ze118, tf120, Tryz.ze120, tf122, Tryz.ze122, tf124, Tryz.ze124, tf125, Tryz.ze125, tf126, Tryz.ze126, tf127, Tryz.ze127, tf129, Tryz.ze129] | refine w_eff on ?_
    exact hQ (.inl rfl) trivial rfl ⟨6, frz_tuple frzs_nil⟩ (keepsH (fun _ _ h => h) fun _ _ => rfl) (nw_eq rfl)
  · have hBq : (H ph [some (.own [.ptr q 0])] ph.ob ph.ty).get q = some (ciC key true) := by rw [h_getlt hq]; exact h
    have on := once_done (w0 := w0) (p := q) (o := 1) (f := .func 100 [] [.ptr ph.n 0]) hBq (by rw [ciC_t]; exact cC_1)
    rw [put_self h] at hQ
    repeat' first | simp -implicitDefEqProofs (maxSteps := 400000) (disch := first | with_reducible rfl | omega | (simp only [wkH] <;> omega) | decide) only [wkAll, wkL, popO, wantedP, if_true, if_false, reduceIte, ne_eq, Nat.reduceAdd, Nat.reduceSub, Nat.reduceMul, Nat.reduceLeDiff, Nat.reduceLT, ofCells, ofCell, reduceCtorEq, Int.reduceLE, Int.reduceLT, Int.reduceToNat, Int.reduceAdd, Int.reduceSub, Int.reduceMul, Int.reduceNeg, Int.reduceBEq, Int.reduceBNe, Int.reduceEq, eqCell, eqCells, binP, unP, convP, lenP, builtinP, sliceDataP, unsafeStringP, appendT, appendS, appendP, copyP, srcP, mmsP, mmP, indexOp, indexAddrOp, sliceOp, bndsP, bndP, capw, capCut, loadOp, storeOp, loadP, fieldOp, fieldAddrOp, arrayAtOp, buildP, buildSliceP, makeSliceP, placeF, fillP, setL, PK.agg, isZero, gt_iff_lt, Nat.reducePow, Nat.reduceGT, reps, seg, wkN, if_pos, if_neg, tf1, Tryz.ze1, tf5, Tryz.ze5, tf9, Tryz.ze9, tf21, Tryz.ze21, tf82, Tryz.ze82, tf86, Tryz.ze86, tf116, Tryz.ze116, tf118, Tryz.ze118, tf120, Tryz.ze120, tf122, Tryz.ze122, tf124, Tryz.ze124, tf125, Tryz.ze125, tf126, Tryz.ze126, tf127, Tryz.ze127, tf129, Tryz.ze129] | refine w_eff on ?_
    exact hQ (.inl rfl) trivial rfl ⟨6, frz_tuple frzs_nil⟩ keepsH0 (nw_eq rfl)
end Pv
