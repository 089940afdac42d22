/- Part of the proof: the layer of pure values, or a walk through a function (PvShaS). -/
import Derived.Test.YthegpibaoikoeaaPvW32
set_option linter.all false
namespace Pv
open Go

/-! ### Chapter 6: SHA-256 -/
def shaK : List UInt32 := [0x428a2f98, 0x71374491, 0xb5c0fbcf, 0xe9b5dba5, 0x3956c25b, 0x59f111f1, 0x923f82a4, 0xab1c5ed5, 0xd807aa98, 0x12835b01, 0x243185be, 0x550c7dc3, 0x72be5d74, 0x80deb1fe, 0x9bdc06a7, 0xc19bf174, 0xe49b69c1, 0xefbe4786, 0x0fc19dc6, 0x240ca1cc, 0x2de92c6f, 0x4a7484aa, 0x5cb0a9dc, 0x76f988da, 0x983e5152, 0xa831c66d, 0xb00327c8, 0xbf597fc7, 0xc6e00bf3, 0xd5a79147, 0x06ca6351, 0x14292967, 0x27b70a85, 0x2e1b2138, 0x4d2c6dfc, 0x53380d13, 0x650a7354, 0x766a0abb, 0x81c2c92e, 0x92722c85, 0xa2bfe8a1, 0xa81a664b, 0xc24b8b70, 0xc76c51a3, 0xd192e819, 0xd6990624, 0xf40e3585, 0x106aa070, 0x19a4c116, 0x1e376c08, 0x2748774c, 0x34b0bcb5, 0x391c0cb3, 0x4ed8aa4a, 0x5b9cca4f, 0x682e6ff3, 0x748f82ee, 0x78a5636f, 0x84c87814, 0x8cc70208, 0x90befffa, 0xa4506ceb, 0xbef9a3f7, 0xc67178f2]
def shaH0 : List UInt32 := [0x6a09e667, 0xbb67ae85, 0x3c6ef372, 0xa54ff53a, 0x510e527f, 0x9b05688c, 0x1f83d9ab, 0x5be0cd19]

/-- Big-endian words of a text's bytes: n bytes from i on. -/
def beW (s : List UInt8) (i : Nat) : Nat → UInt32
  | 0 => 0
  | n + 1 => (beW s i n <<< 8) ||| (s.getD (i + n) 0).toUInt32
def sig0 (a : UInt32) : UInt32 := rotr a 7 ^^^ rotr a 18 ^^^ (a >>> 3)
def sig1 (b : UInt32) : UInt32 := rotr b 17 ^^^ rotr b 19 ^^^ (b >>> 10)
def nextW (s : List UInt8) (w : List UInt32) : UInt32 :=
  if w.length < 16 then beW s (4 * w.length) 4
  else w.getD (w.length - 16) 0 + w.getD (w.length - 7) 0 + sig0 (w.getD (w.length - 15) 0) + sig1 (w.getD (w.length - 2) 0)
def schedL (s : List UInt8) : Nat → List UInt32
  | 0 => []
  | i + 1 => schedL s i ++ [nextW s (schedL s i)]
theorem schedL_len (s : List UInt8) : ∀ i, (schedL s i).length = i
  | 0 => rfl
  | i + 1 => by simp [schedL, schedL_len s i]

/-- One round; k and w: the round's words. -/
def roundL (h : List UInt32) (k w : UInt32) : List UInt32 :=
  let a := h.getD 0 0; let b := h.getD 1 0; let c := h.getD 2 0; let e := h.getD 4 0; let f := h.getD 5 0; let g := h.getD 6 0
  let t := h.getD 7 0 + (rotr e 6 ^^^ rotr e 11 ^^^ rotr e 25) + ((e &&& f) ^^^ (~~~ e &&& g)) + k + w
  let u := (rotr a 2 ^^^ rotr a 13 ^^^ rotr a 22) + ((a &&& b) ^^^ (a &&& c) ^^^ (b &&& c))
  [t + u, a, b, c, h.getD 3 0 + t, e, f, g]
def roundsL (h : List UInt32) (s : List UInt8) : Nat → List UInt32
  | 0 => h
  | i + 1 => roundL (roundsL h s i) (shaK.getD i 0) ((schedL s 64).getD i 0)
theorem roundsL_len {h : List UInt32} (hl : h.length = 8) (s : List UInt8) : ∀ i, (roundsL h s i).length = 8
  | 0 => hl
  | i + 1 => rfl
/-- What a block makes of eight words. -/
def blockW (h : List UInt32) (s : List UInt8) : List UInt32 := List.zipWith (· + ·) (roundsL h s 64) h
def blockL (h : List UInt32) (s : List UInt8) : List UInt32 × Int := if s.length = 64 then (blockW h s, 0) else (List.replicate 8 0, 10)
theorem blockW_len {h : List UInt32} (hl : h.length = 8) (s : List UInt8) : (blockW h s).length = 8 := by simp [blockW, roundsL_len hl, hl]

theorem ch_eq (e f g : UInt32) : g ^^^ (e &&& (f ^^^ g)) = (e &&& f) ^^^ (~~~ e &&& g) := by
  apply UInt32.toBitVec_inj.1
  simp only [UInt32.toBitVec_xor, UInt32.toBitVec_and, UInt32.toBitVec_not]
  apply BitVec.eq_of_getLsbD_eq
  intro i hi
  simp only [BitVec.getLsbD_xor, BitVec.getLsbD_and, BitVec.getLsbD_not, hi, decide_true, Bool.true_and]
  cases e.toBitVec.getLsbD i <;> cases f.toBitVec.getLsbD i <;> cases g.toBitVec.getLsbD i <;> rfl
theorem maj_eq (a b c : UInt32) : (a &&& b) ||| (c &&& (a ||| b)) = (a &&& b) ^^^ (a &&& c) ^^^ (b &&& c) := by
  apply UInt32.toBitVec_inj.1
  simp only [UInt32.toBitVec_xor, UInt32.toBitVec_and, UInt32.toBitVec_or]
  apply BitVec.eq_of_getLsbD_eq
  intro i hi
  simp only [BitVec.getLsbD_xor, BitVec.getLsbD_and, BitVec.getLsbD_or]
  cases a.toBitVec.getLsbD i <;> cases b.toBitVec.getLsbD i <;> cases c.toBitVec.getLsbD i <;> rfl

/-- A list of eight. -/
theorem eight {α : Type} {l : List α} (h : l.length = 8) : ∃ a b c d e f g i, l = [a, b, c, d, e, f, g, i] := by
  match l, h with
  | [a, b, c, d, e, f, g, i], _ => exact ⟨a, b, c, d, e, f, g, i, rfl⟩
end Pv
