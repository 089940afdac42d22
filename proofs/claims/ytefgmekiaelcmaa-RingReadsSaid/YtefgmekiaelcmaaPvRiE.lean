/- Part of the proof: the layer of pure values, or walks through functions (PvRiE). -/
import Derived.Test.YtefgmekiaelcmaaPvRi5
import Derived.Test.YtefgmekiaelcmaaPvShaH
set_option linter.all false
namespace Pv
open Go

/-! ### Rings as bytes -/
/-- A time as a number without a sign. -/
def kM (k : RK) : Nat := (IntKind.wrap .u64 k.made).toNat
theorem kM_eq (k : RK) : IntKind.wrap .u64 k.made = (kM k : Int) := by
  have : 0 ≤ IntKind.wrap .u64 k.made := by simp [IntKind.wrap, IntKind.bits, IntKind.signed]; omega
  rw [kM]; omega
def encK (k : RK) : List UInt8 := beL (kM k) 8 ++ k.key
def encH (L : List RK) (nx : UInt32) : List UInt8 := beL nx.toNat 4 ++ beL L.length 1
def encA (L : List RK) (nx : UInt32) (i : Nat) : List UInt8 := encH L nx ++ (L.take i).flatMap encK
def encB (L : List RK) (nx : UInt32) : List UInt8 := encH L nx ++ L.flatMap encK
def encG (L : List RK) (nx : UInt32) : List UInt8 × Int := if fitG L nx = true then (encB L nx ++ shaOf (encB L nx), 0) else ([], 10)
theorem encH_len (L : List RK) (nx : UInt32) : (encH L nx).length = 5 := by simp [encH, beL_len]
theorem encK_len {k : RK} (h : k.key.length = 32) : (encK k).length = 40 := by simp [encK, beL_len, h]
theorem encF_len : ∀ {L : List RK}, (∀ k ∈ L, k.key.length = 32) → (L.flatMap encK).length = 40 * L.length
  | [], _ => rfl
  | k :: L, h => by rw [List.flatMap_cons, List.length_append, encK_len (h k (by simp)), encF_len fun x hx => h x (List.mem_cons_of_mem _ hx), List.length_cons]; omega
theorem encA_len {L : List RK} (h : ∀ k ∈ L, k.key.length = 32) {nx : UInt32} {i : Nat} (hi : i ≤ L.length) : (encA L nx i).length = 5 + 40 * i := by
  rw [encA, List.length_append, encH_len, encF_len fun k hk => h k (List.mem_of_mem_take hk), List.length_take, Nat.min_eq_left hi]
theorem encA_succ {L : List RK} {nx : UInt32} {i : Nat} {k : RK} (h : L[i]? = some k) : encA L nx (i + 1) = encA L nx i ++ encK k := by
  rw [encA, takeR h, List.flatMap_append, encA, List.append_assoc]; simp
theorem encA_all (L : List RK) (nx : UInt32) : encA L nx L.length = encB L nx := by rw [encA, List.take_length, encB]
theorem encA_zero (L : List RK) (nx : UInt32) : encA L nx 0 = encH L nx := by simp [encA]
theorem FitP.keys {L : List RK} {nx : UInt32} (h : FitP L nx) : ∀ k ∈ L, k.key.length = 32 := fun k hk => by
  obtain ⟨i, hi, rfl⟩ := List.getElem_of_mem hk
  exact (h i L[i] (List.getElem?_eq_getElem hi)).1

/-! ### Bytes as rings -/
/-- The i-th key, its Id apart. -/
def rawK (S : List UInt8) (i : Nat) : RK := ⟨0, (S.drop (40 * i + 8)).take 32, IntKind.wrap .i64 (valN ((S.drop (40 * i)).take 8) : Nat)⟩
def rawL (S : List UInt8) (n : Nat) : List RK := (List.range n).map (rawK S)
def idK (S : List UInt8) (nx : UInt32) (n i : Nat) : RK := { rawK S i with id := nx - UInt32.ofNat (n - i) }
/-- The keys of which j have their Ids. -/
def midL (S : List UInt8) (nx : UInt32) (n j : Nat) : List RK := (List.range n).map fun i => if i < j then idK S nx n i else rawK S i
def decL (S : List UInt8) (nx : UInt32) (n : Nat) : List RK := (List.range n).map (idK S nx n)
def decG (s : List UInt8) : (List RK × UInt32) × Int :=
  match s[4]? with
  | none => (([], 0), 11)
  | some b =>
    if b.toNat < 1 ∨ 8 < b.toNat ∨ s.length ≠ 37 + 40 * b.toNat then (([], 0), 10)
    else if shaOf (s.take (5 + 40 * b.toNat)) ≠ s.drop (5 + 40 * b.toNat) then (([], 0), 10)
    else if fitG (decL ((s.drop 5).take (40 * b.toNat)) (UInt32.ofNat (valN (s.take 4))) b.toNat) (UInt32.ofNat (valN (s.take 4))) = true then
      ((decL ((s.drop 5).take (40 * b.toNat)) (UInt32.ofNat (valN (s.take 4))) b.toNat, UInt32.ofNat (valN (s.take 4))), 0)
    else (([], 0), 10)
theorem rawL_len (S : List UInt8) (n : Nat) : (rawL S n).length = n := by simp [rawL]
theorem decL_len (S : List UInt8) (nx : UInt32) (n : Nat) : (decL S nx n).length = n := by simp [decL]
theorem midL_len (S : List UInt8) (nx : UInt32) (n j : Nat) : (midL S nx n j).length = n := by simp [midL]
theorem rawL_succ (S : List UInt8) (n : Nat) : rawL S (n + 1) = rawL S n ++ [rawK S n] := by simp [rawL, List.range_succ]
theorem decL_take (S : List UInt8) (nx : UInt32) (n i : Nat) (h : i < n) : (decL S nx n).take (i + 1) = (decL S nx n).take i ++ [idK S nx n i] := takeR (by simp [decL, h])
theorem midL_0 (S : List UInt8) (nx : UInt32) (n : Nat) : midL S nx n 0 = rawL S n := by simp [midL, rawL]
theorem midL_all (S : List UInt8) (nx : UInt32) (n : Nat) : midL S nx n n = decL S nx n := by
  unfold midL decL; apply List.map_congr_left; intro i hi; rw [if_pos (List.mem_range.1 hi)]
theorem midL_at (S : List UInt8) (nx : UInt32) (n j : Nat) (h : j < n) : (midL S nx n j)[j]? = some (rawK S j) := by simp [midL, h]
theorem midL_set (S : List UInt8) (nx : UInt32) (n j : Nat) (h : j < n) : (midL S nx n j).set j (idK S nx n j) = midL S nx n (j + 1) := by
  apply List.ext_getElem
  · simp [midL]
  · intro i h1 h2
    rw [List.getElem_set]
    simp only [midL, List.getElem_map, List.getElem_range]
    by_cases hm : j = i
    · subst hm; simp
    · rw [if_neg hm]
      by_cases hi : i < j
      · rw [if_pos hi, if_pos (by omega)]
      · rw [if_neg hi, if_neg (by omega)]
/-- A cell of a row of keys anew. -/
theorem rksC_setid : ∀ (l : List RK) (j : Nat) (k : RK) (v : UInt32), l[j]? = some k → (rksC l).set (j * 3) (.int .u32 (v.toNat : Int)) = rksC (l.set j { k with id := v })
  | [], _, _, _, h => by simp at h
  | a :: l, 0, k, v, h => by simp at h; subst h; rfl
  | a :: l, j + 1, k, v, h => by
    simp only [List.getElem?_cons_succ] at h
    have e : rksC (a :: l) = rkC a ++ rksC l := rfl
    rw [e, show (j + 1) * 3 = 3 + j * 3 by omega, List.set_append_right _ _ (by simp [rkC]), show 3 + j * 3 - (rkC a).length = j * 3 by simp [rkC], rksC_setid l j k v h]; rfl
theorem cut_in (s : List UInt8) (n i a m : Nat) (h : 40 * i + a + m ≤ 40 * n) : (((s.drop 5).take (40 * n)).drop (40 * i + a)).take m = (s.drop (5 + 40 * i + a)).take m := by
  rw [List.drop_take, List.take_take, List.drop_drop, Nat.min_eq_left (by omega), Nat.add_assoc]
end Pv
