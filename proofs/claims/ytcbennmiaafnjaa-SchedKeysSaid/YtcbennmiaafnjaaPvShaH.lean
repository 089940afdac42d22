/- Part of the proof: the layer of pure values, or walks through functions (PvShaH). -/
import Derived.Test.YtcbennmiaafnjaaPvBits
set_option linter.all false
namespace Pv
open Go

/-! ### Chapter 6: hashes of texts, in plain Lean -/
/-- Whole blocks taken, n of them. -/
def feedN : Nat → List UInt32 → List UInt8 → List UInt32 × List UInt8
  | 0, h, s => (h, s)
  | n + 1, h, s => feedN n (blockW h (s.take 64)) (s.drop 64)
def feed (h : List UInt32) (s : List UInt8) : List UInt32 × List UInt8 := feedN (s.length / 64) h s
structure HS where
  h : List UInt32
  left : List UInt8
  n : UInt64
def hsC (x : HS) : List PV := wC x.h ++ [.str x.left, .int .u64 (x.n.toNat : Int)]
def writeH (x : HS) (s : List UInt8) : HS := ⟨(feed x.h (x.left ++ s)).1, (feed x.h (x.left ++ s)).2, x.n + UInt64.ofNat s.length⟩
def newH : HS := ⟨shaH0, [], 0⟩
def fitH (x : HS) : Bool := decide (x.left.length < 64) && decide (x.left.length = x.n.toNat % 64)
def be8 (n : UInt64) : List UInt8 := (List.range 8).map fun i => (n >>> UInt64.ofNat (56 - 8 * i)).toUInt8
def endH (x : HS) : List UInt8 := 0x80 :: (List.replicate ((119 - x.left.length) % 64) (0 : UInt8) ++ be8 (x.n <<< 3))
def be4 (x : UInt32) : List UInt8 := [(x >>> 24).toUInt8, (x >>> 16).toUInt8, (x >>> 8).toUInt8, x.toUInt8]
def sumH (x : HS) : List UInt8 := (writeH x (endH x)).h.flatMap be4
def shaOf (s : List UInt8) : List UInt8 := sumH (writeH newH s)
def maskL (key : List UInt8) (c : UInt8) : List UInt8 := (key ++ List.replicate (64 - key.length) 0).map (· ^^^ c)
def keyL (key : List UInt8) : List UInt8 := if 64 < key.length then shaOf key else key
def macL (key s : List UInt8) : List UInt8 := shaOf (maskL (keyL key) 0x5c ++ shaOf (maskL (keyL key) 0x36 ++ s))

theorem feed_lt (h : List UInt32) (s : List UInt8) (hs : s.length < 64) : feed h s = (h, s) := by
  rw [feed, Nat.div_eq_of_lt hs, feedN]
theorem feed_step (h : List UInt32) (s : List UInt8) (hs : 64 ≤ s.length) : feed h s = feed (blockW h (s.take 64)) (s.drop 64) := by
  have e : s.length / 64 = (s.drop 64).length / 64 + 1 := by rw [List.length_drop]; omega
  rw [feed, e, feedN, ← feed]
theorem feedN_len : ∀ (n : Nat) (h : List UInt32) (s : List UInt8), h.length = 8 → (feedN n h s).1.length = 8 ∧ (feedN n h s).2.length = s.length - 64 * n
  | 0, h, s, hl => ⟨hl, by simp [feedN]⟩
  | n + 1, h, s, hl => by
    have := feedN_len n (blockW h (s.take 64)) (s.drop 64) (blockW_len hl _)
    rw [feedN]
    refine ⟨this.1, ?_⟩
    rw [this.2, List.length_drop]; omega
theorem feed_len (h : List UInt32) (s : List UInt8) (hl : h.length = 8) : (feed h s).1.length = 8 ∧ (feed h s).2.length = s.length % 64 := by
  have := feedN_len (s.length / 64) h s hl
  refine ⟨this.1, ?_⟩
  rw [feed, this.2]; omega
theorem feed_append : ∀ (n : Nat) (h : List UInt32) (a b : List UInt8), a.length ≤ n → feed (feed h a).1 ((feed h a).2 ++ b) = feed h (a ++ b)
  | 0, h, a, b, ha => by
    have : a = [] := List.length_eq_zero_iff.1 (by omega)
    subst this; rw [feed_lt h [] (by simp)]
  | n + 1, h, a, b, ha => by
    rcases Nat.lt_or_ge a.length 64 with h1 | h1
    · rw [feed_lt h a h1]
    · rw [feed_step h a h1, feed_step h (a ++ b) (by simp; omega), feed_append n _ _ _ (by rw [List.length_drop]; omega)]
      rw [List.take_append_of_le_length h1, List.drop_append_of_le_length h1]
theorem ofNat64_add (a b : Nat) : UInt64.ofNat a + UInt64.ofNat b = UInt64.ofNat (a + b) := by
  apply UInt64.toNat_inj.1; simp [UInt64.toNat_add]
theorem write_write (x : HS) (a b : List UInt8) : writeH (writeH x a) b = writeH x (a ++ b) := by
  simp only [writeH, feed_append _ _ _ _ (Nat.le_refl _), List.append_assoc, List.length_append, UInt64.add_assoc, ofNat64_add]
theorem write_nil (x : HS) (h : x.left.length < 64) : writeH x [] = x := by
  obtain ⟨h1, l, n⟩ := x
  simp only [writeH, List.append_nil]
  rw [feed_lt _ _ h]
  simp
theorem write_len (x : HS) (s : List UInt8) (h : x.h.length = 8) : (writeH x s).h.length = 8 ∧ (writeH x s).left.length = (x.left.length + s.length) % 64 := by
  have := feed_len x.h (x.left ++ s) h
  rw [List.length_append] at this
  exact this
theorem fitH_iff (x : HS) : fitH x = true ↔ x.left.length < 64 ∧ x.left.length = x.n.toNat % 64 := by simp [fitH]
theorem fit_write (x : HS) (s : List UInt8) (h : x.h.length = 8) (hf : fitH x = true) : fitH (writeH x s) = true := by
  rw [fitH_iff] at hf ⊢
  rw [(write_len x s h).2]
  refine ⟨Nat.mod_lt _ (by decide), ?_⟩
  show _ = (x.n + UInt64.ofNat s.length).toNat % 64
  rw [UInt64.toNat_add, UInt64.toNat_ofNat']
  omega
theorem fit_new : fitH newH = true := by decide
theorem flat_len : ∀ (l : List UInt32), (l.flatMap be4).length = 4 * l.length
  | [] => rfl
  | a :: l => by rw [List.flatMap_cons, List.length_append, flat_len l]; simp [be4]; omega
theorem sum_len (x : HS) (h : x.h.length = 8) : (sumH x).length = 32 := by
  rw [sumH, flat_len, (write_len x _ h).1]
theorem of_len (s : List UInt8) : (shaOf s).length = 32 := sum_len _ (write_len newH s rfl).1
theorem mac_len (k s : List UInt8) : (macL k s).length = 32 := of_len _
theorem keyL_len (k : List UInt8) : (keyL k).length ≤ 64 := by
  rw [keyL]; split
  · rw [of_len]; decide
  · omega
theorem maskL_len (k : List UInt8) (c : UInt8) (h : k.length ≤ 64) : (maskL k c).length = 64 := by simp [maskL]; omega
theorem maskL_zeros (k : List UInt8) (c : UInt8) (n : Nat) (h : k.length + n ≤ 64) : maskL (k ++ List.replicate n 0) c = maskL k c := by
  rw [maskL, maskL, List.append_assoc, List.replicate_append_replicate]
  congr 3
  rw [List.length_append, List.length_replicate]; omega
theorem mac_zeros (k s : List UInt8) (n : Nat) (h : k.length + n ≤ 64) : macL (k ++ List.replicate n 0) s = macL k s := by
  have e1 : keyL (k ++ List.replicate n 0) = k ++ List.replicate n 0 := by rw [keyL, if_neg (by simp; omega)]
  have e2 : keyL k = k := by rw [keyL, if_neg (by omega)]
  rw [macL, macL, e1, e2, maskL_zeros _ _ _ h, maskL_zeros _ _ _ h]

/-! ### Cells of a hash -/
theorem hsC_len (x : HS) (h : x.h.length = 8) : (hsC x).length = 10 := by simp [hsC, wC_len, h]
theorem hsC_ok (x : HS) : (hsC x).all scalarV = true := by simp [hsC, wC_scalar, scalarV]
theorem hsC_cok (x : HS) : (hsC x).all cellOk = true := by simp [hsC, wC_ok, cellOk]

/-! ### Words of 64 bits -/
theorem wrap_u64 (n : Nat) : IntKind.wrap .u64 (n : Int) = ((n % 18446744073709551616 : Nat) : Int) := by
  simp [IntKind.wrap, IntKind.bits, IntKind.signed]
theorem add64n (x : UInt64) (n : Nat) : IntKind.wrap .u64 ((x.toNat : Int) + (n : Int)) = ((x + UInt64.ofNat n).toNat : Int) := by
  have : (x.toNat : Int) + (n : Int) = ((x.toNat + n : Nat) : Int) := by omega
  rw [this, wrap_u64, UInt64.toNat_add, UInt64.toNat_ofNat']
  congr 1; omega
theorem shl64 (x : UInt64) (m : Nat) (h : m < 64) : shlP .u64 (x.toNat : Int) (m : Int) = ((x <<< UInt64.ofNat m).toNat : Int) := by
  have e : min ((m : Int)).toNat (IntKind.bits .u64) = m := by simp [IntKind.bits]; omega
  have e2 : (UInt64.ofNat m).toNat = m := by simp; omega
  simp only [shlP]
  rw [e, UInt64.toNat_shiftLeft, e2, Nat.mod_eq_of_lt h, Nat.shiftLeft_eq]
  have : (x.toNat : Int) * 2 ^ m = ((x.toNat * 2 ^ m : Nat) : Int) := by simp
  rw [this, wrap_u64]
theorem shr64 (x : UInt64) (m : Nat) (h : m < 64) : shrP .u64 (x.toNat : Int) (m : Int) = ((x >>> UInt64.ofNat m).toNat : Int) := by
  have e : min ((m : Int)).toNat (IntKind.bits .u64) = m := by simp [IntKind.bits]; omega
  have e2 : (UInt64.ofNat m).toNat = m := by simp; omega
  simp only [shrP]
  rw [e, UInt64.toNat_shiftRight, e2, Nat.mod_eq_of_lt h, Nat.shiftRight_eq_div_pow]
  have e3 : (2 : Int) ^ m = ((2 ^ m : Nat) : Int) := by simp
  rw [e3, Int.fdiv_eq_ediv_of_nonneg _ (Int.natCast_nonneg _)]; rfl
theorem low64 (x : UInt64) : IntKind.wrap .u8 (x.toNat : Int) = (x.toUInt8.toNat : Int) := by
  have : IntKind.wrap .u8 ((x.toNat : Nat) : Int) = ((x.toNat % 256 : Nat) : Int) := by simp [IntKind.wrap, IntKind.bits, IntKind.signed]
  rw [this]; simp

/-! ### The example's digests, by Lean itself -/
def digitL (c : UInt8) : UInt8 := if 97 ≤ c then c - 97 + 10 else c - 48
def hexL : List UInt8 → List UInt8
  | a :: b :: r => (digitL a <<< 4 ||| digitL b) :: hexL r
  | _ => []
end Pv
