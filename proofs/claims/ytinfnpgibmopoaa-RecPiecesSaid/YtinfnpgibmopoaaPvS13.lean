/- Part of the proof: the layer of pure values, or a walk through a function (PvS13). -/
import Derived.Test.YtinfnpgibmopoaaPvLoop
set_option linter.all false
namespace Pv
open Go

/-! ### Records, as lists of bytes -/
def knownB (k : Int) : Bool := decide (21 ≤ k ∧ k ≤ 23)
def mostI (k : Int) : Int := if k = 23 then 16640 else 16384
def headL (k n : Int) : List UInt8 := [u8 k, 3, 3, u8 (n / 256), u8 n]
def frameL (k : Int) (b : List UInt8) : List UInt8 × Int :=
  if knownB k = false then ([], 23) else if (b.length : Int) > mostI k then ([], 12) else (headL k b.length ++ b, 0)

/-- A byte of a text, as a number. -/
def byteI (s : List UInt8) (i : Nat) : Int := (s.getD i 0).toNat
theorem byteI_get {s : List UInt8} {i : Nat} (h : i < s.length) : s[i]? = some (s.getD i 0) := by
  rw [List.getD_eq_getElem?_getD, List.getElem?_eq_getElem h]; rfl

/-- How many bytes a record has, as far as its head is there; and why not. -/
def lengthL (s : List UInt8) : Int × Int :=
  if s.length = 0 then (0, 11) else if knownB (byteI s 0) = false then (0, 23)
  else if s.length = 1 then (0, 11) else if byteI s 1 ≠ 3 then (0, 10)
  else if s.length = 2 then (0, 11) else if byteI s 2 ≠ 3 then (0, 10)
  else if s.length = 3 then (0, 11) else if byteI s 3 * 256 > mostI (byteI s 0) then (0, 12)
  else if s.length = 4 then (0, 11) else if byteI s 3 * 256 + byteI s 4 > mostI (byteI s 0) then (0, 12)
  else (byteI s 3 * 256 + byteI s 4, 0)

def unframeL (s : List UInt8) : (Int × List UInt8) × List UInt8 × Int :=
  if (lengthL s).2 ≠ 0 then ((0, []), [], (lengthL s).2)
  else if (s.length : Int) < 5 + (lengthL s).1 then ((0, []), [], 11)
  else ((byteI s 0, (s.drop 5).take (lengthL s).1.toNat), s.drop (5 + (lengthL s).1.toNat), 0)

/-! ### Pieces -/
def pieceL (s : List UInt8) (i : Nat) : List UInt8 := (s.drop (i * 16384)).take 16384
/-- How many. -/
def piecesN (s : List UInt8) : Nat := (s.length + 16383) / 16384
def recC (k : Int) (b : List UInt8) : List PV := [.int .i64 k, .str b]
def recsC (k : Int) (s : List UInt8) (n : Nat) : List PV := (List.range n).flatMap fun i => recC k (pieceL s i)

theorem recsC_succ (k : Int) (s : List UInt8) (n : Nat) : recsC k s (n + 1) = recsC k s n ++ recC k (pieceL s n) := by
  simp [recsC, List.range_succ]
theorem recsC_len (k : Int) (s : List UInt8) (n : Nat) : (recsC k s n).length = n * 2 := by
  induction n with
  | zero => rfl
  | succ n ih => rw [recsC_succ, List.length_append, ih]; simp [recC]; omega
theorem recsC_ok (k : Int) (s : List UInt8) (n : Nat) : (recsC k s n).all scalarV = true := by
  induction n with
  | zero => rfl
  | succ n ih => rw [recsC_succ, List.all_append, ih]; rfl
theorem piecesN_lt (s : List UInt8) (i : Nat) : i < piecesN s ↔ i * 16384 < s.length := by unfold piecesN; omega
end Pv
