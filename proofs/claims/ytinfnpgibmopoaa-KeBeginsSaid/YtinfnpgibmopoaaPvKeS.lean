/- Part of the proof: the layer of pure values, or a walk through a function (PvKeS). -/
import Derived.Test.YtinfnpgibmopoaaPvNum
import Derived.Test.YtinfnpgibmopoaaPvH
import Derived.Test.YtinfnpgibmopoaaPvBits
set_option linter.all false
namespace Pv
open Go

/-! ### Rows -/
theorem rows_drop {α : Type} (f : α → List PV) (n : Nat) (hf : ∀ a, (f a).length = n) : ∀ (l : List α) (i : Nat) (r : α), l[i]? = some r → (l.flatMap f).drop (i * n) = f r ++ (l.drop (i + 1)).flatMap f
  | [], i, r, h => by simp at h
  | a :: l, 0, r, h => by simp at h; subst h; simp
  | a :: l, i + 1, r, h => by
    simp only [List.getElem?_cons_succ] at h
    rw [List.flatMap_cons, Nat.add_mul, Nat.one_mul, Nat.add_comm, ← List.drop_drop, ← hf a, List.drop_left, hf a]
    exact rows_drop f n hf l i r h

theorem rows_len {α : Type} (f : α → List PV) (n : Nat) (hf : ∀ a, (f a).length = n) (l : List α) : (l.flatMap f).length = l.length * n := by
  induction l with
  | nil => simp
  | cons a l ih => simp [ih, hf, Nat.add_mul]; omega

def intsC (l : List Int) : List PV := l.map (.int .i64 ·)
theorem intsC_drop (l : List Int) (i : Nat) (n : Int) (h : l[i]? = some n) : (intsC l).drop i = .int .i64 n :: intsC (l.drop (i + 1)) := by
  obtain ⟨hi, rfl⟩ := List.getElem?_eq_some_iff.1 h
  unfold intsC
  rw [← List.map_drop, List.drop_eq_getElem_cons hi, List.map_cons, List.map_drop]
theorem intsC_len (l : List Int) : (intsC l).length = l.length := by simp [intsC]
theorem intsC_ok (l : List Int) : (intsC l).all scalarV = true := by simp [intsC, scalarV]
theorem intsC_append (l m : List Int) : intsC (l ++ m) = intsC l ++ intsC m := by simp [intsC]

theorem get_some {α : Type} {l : List α} {i : Nat} (h : i < l.length) : ∃ r, l[i]? = some r := ⟨_, List.getElem?_eq_getElem h⟩
theorem take_snoc {α : Type} {l : List α} {i : Nat} {r : α} (h : l[i]? = some r) : l.take (i + 1) = l.take i ++ [r] := by
  obtain ⟨hi, rfl⟩ := List.getElem?_eq_some_iff.1 h
  exact List.take_succ_eq_append_getElem hi

/-! ### Chapter 18 -/
structure KR where
  c : Bool
  k : Int
  b : List UInt8
  deriving DecidableEq

def krC (r : KR) : List PV := [.bool r.c, .int .i64 r.k, .str r.b]
def krsC (l : List KR) : List PV := l.flatMap krC
theorem krsC_drop (l : List KR) (i : Nat) (r : KR) (h : l[i]? = some r) : (krsC l).drop (i * 3) = .bool r.c :: .int .i64 r.k :: .str r.b :: krsC (l.drop (i + 1)) := by
  rw [krsC, rows_drop krC 3 (fun _ => rfl) l i r h]; rfl
theorem krsC_len (l : List KR) : (krsC l).length = l.length * 3 := rows_len krC 3 (fun _ => rfl) l
theorem krsC_snoc (l : List KR) (r : KR) : krsC (l ++ [r]) = krsC l ++ krC r := by simp [krsC]
theorem krsC_ok (l : List KR) : (krsC l).all scalarV = true := by
  induction l with
  | nil => rfl
  | cons r l ih => simp [krsC, krC, scalarV] at ih ⊢; try exact ih

def twoL (n : Int) : List UInt8 := [u8 (n / 256), u8 n]

def pairOk (n : Int) : Bool := decide (0 ≤ n) && decide (n < 65536)
def pairsL (l : List Int) : List UInt8 × Int := if l.length > 512 then ([], 18) else if l.all pairOk then (l.flatMap twoL, 0) else ([], 13)

def encR (r : KR) : List UInt8 := twoL (r.k + if r.c then 32768 else 0) ++ twoL r.b.length ++ r.b
/-- The first thing that may not be of a record: 0: nothing. -/
def badR (r : KR) : Int := if r.k < 0 ∨ 32768 ≤ r.k then 13 else if r.b.length > 1024 then 12 else 0
def badL : List KR → Int
  | [] => 0
  | r :: l => if badR r = 0 then badL l else badR r
def writeL (l : List KR) : List UInt8 × Int := if badL l ≠ 0 then ([], badL l) else if (l.flatMap encR).length > 2048 then ([], 12) else (l.flatMap encR, 0)

theorem u8_fold (n : Int) : UInt8.ofNat (n % 256).toNat = u8 n := rfl
theorem twoL_len (n : Int) : (twoL n).length = 2 := rfl
theorem twoLs_len (l : List Int) : (l.flatMap twoL).length = l.length * 2 := by
  induction l with
  | nil => rfl
  | cons a l ih => simp [ih, twoL]; omega

theorem take_eq_step {α : Type} {a b : List α} {i : Nat} {x : α} (h : a.take i = b.take i) (ha : a[i]? = some x) (hb : b[i]? = some x) : a.take (i + 1) = b.take (i + 1) := by
  rw [take_snoc ha, take_snoc hb, h]
theorem get_ne {α : Type} {a b : List α} {i : Nat} {x y : α} (ha : a[i]? = some x) (hb : b[i]? = some y) (h : x ≠ y) : a ≠ b := by
  rintro rfl; rw [ha] at hb; cases hb; exact h rfl

def findL (l : List KR) (k : Int) : List KR := l.filter fun r => decide (r.k = k)
def unkR (r : KR) : Bool := r.c && (decide (r.k < 0) || decide (8 ≤ r.k))
def idxL {α : Type} (p : α → Bool) (l : List α) : Int := match l.findIdx? p with | some i => i | none => -1

theorem idxL_found {α : Type} {p : α → Bool} {l : List α} {i : Nat} {r : α} (h : (l.take i).any p = false) (hr : l[i]? = some r) (hp : p r = true) : idxL p l = i := by
  obtain ⟨hi, rfl⟩ := List.getElem?_eq_some_iff.1 hr
  have : l.findIdx? p = some i := by
    rw [List.findIdx?_eq_some_iff_getElem]
    refine ⟨hi, hp, fun j hj => ?_⟩
    rw [List.any_eq_false] at h
    have := h l[j] (by rw [List.mem_take_iff_getElem]; exact ⟨j, by omega, rfl⟩)
    simpa using this
  simp [idxL, this]
theorem idxL_none {α : Type} {p : α → Bool} {l : List α} (h : l.any p = false) : idxL p l = -1 := by
  have : l.findIdx? p = none := by
    rw [List.findIdx?_eq_none_iff]; rw [List.any_eq_false] at h; intro x hx; simpa using h x hx
  simp [idxL, this]
theorem scs_krs {n : Nat} {l : List KR} : Scs n (krsC l) = True := eq_true (scs_scalars (krsC_ok l))
theorem scs_ints {n : Nat} {l : List Int} : Scs n (intsC l) = True := eq_true (scs_scalars (intsC_ok l))
theorem find_snoc {l : List KR} {i : Nat} {r : KR} (k : Int) (h : l[i]? = some r) : findL (l.take (i + 1)) k = findL (l.take i) k ++ if r.k = k then [r] else [] := by
  rw [take_snoc h, findL, List.filter_append]; simp only [List.filter_cons, List.filter_nil]; split <;> simp_all [findL]
theorem find_le (l : List KR) (i : Nat) (k : Int) : (findL (l.take i) k).length ≤ i := by
  have := List.length_filter_le (fun r : KR => decide (r.k = k)) (l.take i)
  unfold findL; simp at this ⊢; omega

def kr0 : KR := ⟨false, 0, []⟩
/-- The record that a text begins with; 'at_': where it stands. -/
def oneT (at_ : Nat) : List UInt8 → KR × Int
  | b0 :: b1 :: b2 :: b3 :: r =>
    let k := b0.toNat * 256 + b1.toNat
    let n := b2.toNat * 256 + b3.toNat
    if n > 1024 ∨ at_ + 4 + n > 2048 then (kr0, 12)
    else if k % 32768 = 0 ∧ (k < 32768 ∨ 0 < n) then (kr0, 10)
    else if r.length < n then (kr0, 11)
    else (⟨decide (32768 ≤ k), ((k % 32768 : Nat) : Int), r.take n⟩, 0)
  | _ => (kr0, 11)
theorem four {s : List UInt8} (h : ¬ s.length < 4) : ∃ b0 b1 b2 b3 r, s = b0 :: b1 :: b2 :: b3 :: r := by
  match s with
  | [] => simp at h
  | [_] => simp at h
  | [_, _] => simp at h
  | [_, _, _] => simp at h
  | b0 :: b1 :: b2 :: b3 :: r => exact ⟨_, _, _, _, _, rfl⟩
theorem oneT_short {at_ : Nat} {s : List UInt8} (h : s.length < 4) : oneT at_ s = (kr0, 11) := by
  match s with
  | [] => rfl
  | [_] => rfl
  | [_, _] => rfl
  | [_, _, _] => rfl
  | b0 :: b1 :: b2 :: b3 :: r => simp at h; omega
theorem take_all {α : Type} {l : List α} {n : Nat} (h : l.length ≤ n) : l.take n = l := List.take_of_length_le h
theorem num_or (a b : UInt8) : bitsP .or .i64 ((a.toNat : Int) * 256) b.toNat = ((a.toNat * 256 + b.toNat : Nat) : Int) := by rw [or_bytes]; omega
theorem num_lt (a b : UInt8) : a.toNat * 256 + b.toNat < 65536 := by have := a.toNat_lt; have := b.toNat_lt; omega
theorem num_and (a b : UInt8) : bitsP .and .i64 ((a.toNat * 256 + b.toNat : Nat) : Int) 32768 = if 32768 ≤ a.toNat * 256 + b.toNat then 32768 else 0 := by
  have h := num_lt a b
  have := and_i64 (a.toNat * 256 + b.toNat) 32768 (by omega) (by decide)
  rw [bit15 _ h] at this
  rw [show ((32768 : Nat) : Int) = 32768 from rfl] at this
  rw [this]; split <;> rfl
theorem num_nand (a b : UInt8) : bitsP .andNot .i64 ((a.toNat * 256 + b.toNat : Nat) : Int) 32768 = (((a.toNat * 256 + b.toNat) % 32768 : Nat) : Int) := nbit15 _ (num_lt a b)
theorem num_crit (a b : UInt8) : (bitsP .and .i64 ((a.toNat * 256 + b.toNat : Nat) : Int) 32768 != 0) = decide (32768 ≤ a.toNat * 256 + b.toNat) := by
  rw [num_and]; split <;> simp [*]
end Pv
