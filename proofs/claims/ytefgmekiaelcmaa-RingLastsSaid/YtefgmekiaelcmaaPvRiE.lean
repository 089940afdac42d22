/- Part of the proof: the layer of pure values, or walks through functions (PvRiE, PvRi9, PvH3). -/
import Derived.Test.YtefgmekiaelcmaaPvRi5
import Derived.Test.YtefgmekiaelcmaaPvShaH
import Derived.Test.YtefgmekiaelcmaaPvRi8
import Derived.Test.YtefgmekiaelcmaaPvEntry2
set_option linter.all false
namespace Pv
open Go

/-! ### Rings as bytes -/
/-- A time as a number without a sign. -/
def kM (k : RK) : Nat := (IntKind.wrap .u64 k.made).toNat
theorem kM_eq (k : RK) : IntKind.wrap .u64 k.made = (kM k : Int) := by
  have : 0 ≤ IntKind.wrap .u64 k.made := by simp [IntKind.wrap, IntKind.bits, IntKind.signed]; omega
  rw [kM]; omega
theorem kM_lt (k : RK) : kM k < 2 ^ 64 := by
  rw [kM]; simp [IntKind.wrap, IntKind.bits, IntKind.signed]; omega
def encK (k : RK) : List UInt8 := beL (kM k) 8 ++ k.key
def encH (L : List RK) (nx : UInt32) : List UInt8 := beL nx.toNat 4 ++ beL L.length 1
def encA (L : List RK) (nx : UInt32) (i : Nat) : List UInt8 := encH L nx ++ (L.take i).flatMap encK
def encB (L : List RK) (nx : UInt32) : List UInt8 := encH L nx ++ L.flatMap encK
def encG (L : List RK) (nx : UInt32) : List UInt8 × Int := if fitG L nx = true then (encB L nx ++ shaOf (encB L nx), 0) else ([], 10)
theorem encH_len (L : List RK) (nx : UInt32) : (encH L nx).length = 5 := by simp [encH, beL_len]
theorem encK_len {k : RK} (h : k.key.length = 32) : (encK k).length = 40 := by simp [encK, beL_len, h]
theorem encF_len : ∀ {L : List RK}, (∀ k ∈ L, k.key.length = 32) → (L.flatMap encK).length = 40 * L.length
  | [], _ => rfl
  | k :: L, h => by rw [List.flatMap_cons, List.length_append, encK_len (h k (by simp)), encF_len fun x hx => h x (List.mem_cons_of_mem _ hx), List.length_cons]; omega
theorem encA_len {L : List RK} (h : ∀ k ∈ L, k.key.length = 32) {nx : UInt32} {i : Nat} (hi : i ≤ L.length) : (encA L nx i).length = 5 + 40 * i := by
  rw [encA, List.length_append, encH_len, encF_len fun k hk => h k (List.mem_of_mem_take hk), List.length_take, Nat.min_eq_left hi]
theorem encA_succ {L : List RK} {nx : UInt32} {i : Nat} {k : RK} (h : L[i]? = some k) : encA L nx (i + 1) = encA L nx i ++ encK k := by
  rw [encA, takeR h, List.flatMap_append, encA, List.append_assoc]; simp
theorem encA_all (L : List RK) (nx : UInt32) : encA L nx L.length = encB L nx := by rw [encA, List.take_length, encB]
theorem encA_zero (L : List RK) (nx : UInt32) : encA L nx 0 = encH L nx := by simp [encA]
theorem encB_len {L : List RK} (h : ∀ k ∈ L, k.key.length = 32) {nx : UInt32} : (encB L nx).length = 5 + 40 * L.length := by
  rw [← encA_all, encA_len h (Nat.le_refl _)]
theorem FitP.keys {L : List RK} {nx : UInt32} (h : FitP L nx) : ∀ k ∈ L, k.key.length = 32 := fun k hk => by
  obtain ⟨i, hi, rfl⟩ := List.getElem_of_mem hk
  exact (h i L[i] (List.getElem?_eq_getElem hi)).1

/-! ### Bytes as rings -/
/-- The i-th key, its Id apart. -/
def rawK (S : List UInt8) (i : Nat) : RK := ⟨0, (S.drop (40 * i + 8)).take 32, IntKind.wrap .i64 (valN ((S.drop (40 * i)).take 8) : Nat)⟩
def rawL (S : List UInt8) (n : Nat) : List RK := (List.range n).map (rawK S)
def idK (S : List UInt8) (nx : UInt32) (n i : Nat) : RK := { rawK S i with id := nx - UInt32.ofNat (n - i) }
/-- The keys of which j have their Ids. -/
def midL (S : List UInt8) (nx : UInt32) (n j : Nat) : List RK := (List.range n).map fun i => if i < j then idK S nx n i else rawK S i
def decL (S : List UInt8) (nx : UInt32) (n : Nat) : List RK := (List.range n).map (idK S nx n)
def decG (s : List UInt8) : (List RK × UInt32) × Int :=
  match s[4]? with
  | none => (([], 0), 11)
  | some b =>
    if b.toNat < 1 ∨ 8 < b.toNat ∨ s.length ≠ 37 + 40 * b.toNat then (([], 0), 10)
    else if shaOf (s.take (5 + 40 * b.toNat)) ≠ s.drop (5 + 40 * b.toNat) then (([], 0), 10)
    else if fitG (decL ((s.drop 5).take (40 * b.toNat)) (UInt32.ofNat (valN (s.take 4))) b.toNat) (UInt32.ofNat (valN (s.take 4))) = true then
      ((decL ((s.drop 5).take (40 * b.toNat)) (UInt32.ofNat (valN (s.take 4))) b.toNat, UInt32.ofNat (valN (s.take 4))), 0)
    else (([], 0), 10)
theorem rawL_len (S : List UInt8) (n : Nat) : (rawL S n).length = n := by simp [rawL]
theorem decL_len (S : List UInt8) (nx : UInt32) (n : Nat) : (decL S nx n).length = n := by simp [decL]
theorem midL_len (S : List UInt8) (nx : UInt32) (n j : Nat) : (midL S nx n j).length = n := by simp [midL]
theorem rawL_succ (S : List UInt8) (n : Nat) : rawL S (n + 1) = rawL S n ++ [rawK S n] := by simp [rawL, List.range_succ]
theorem decL_take (S : List UInt8) (nx : UInt32) (n i : Nat) (h : i < n) : (decL S nx n).take (i + 1) = (decL S nx n).take i ++ [idK S nx n i] := takeR (by simp [decL, h])
theorem midL_0 (S : List UInt8) (nx : UInt32) (n : Nat) : midL S nx n 0 = rawL S n := by simp [midL, rawL]
theorem midL_all (S : List UInt8) (nx : UInt32) (n : Nat) : midL S nx n n = decL S nx n := by
  unfold midL decL; apply List.map_congr_left; intro i hi; rw [if_pos (List.mem_range.1 hi)]
theorem midL_at (S : List UInt8) (nx : UInt32) (n j : Nat) (h : j < n) : (midL S nx n j)[j]? = some (rawK S j) := by simp [midL, h]
theorem midL_set (S : List UInt8) (nx : UInt32) (n j : Nat) (h : j < n) : (midL S nx n j).set j (idK S nx n j) = midL S nx n (j + 1) := by
  apply List.ext_getElem
  · simp [midL]
  · intro i h1 h2
    rw [List.getElem_set]
    simp only [midL, List.getElem_map, List.getElem_range]
    by_cases hm : j = i
    · subst hm; simp
    · rw [if_neg hm]
      by_cases hi : i < j
      · rw [if_pos hi, if_pos (by omega)]
      · rw [if_neg hi, if_neg (by omega)]
/-- A cell of a row of keys anew. -/
theorem rksC_setid : ∀ (l : List RK) (j : Nat) (k : RK) (v : UInt32), l[j]? = some k → (rksC l).set (j * 3) (.int .u32 (v.toNat : Int)) = rksC (l.set j { k with id := v })
  | [], _, _, _, h => by simp at h
  | a :: l, 0, k, v, h => by simp at h; subst h; rfl
  | a :: l, j + 1, k, v, h => by
    simp only [List.getElem?_cons_succ] at h
    have e : rksC (a :: l) = rkC a ++ rksC l := rfl
    rw [e, show (j + 1) * 3 = 3 + j * 3 by omega, List.set_append_right _ _ (by simp [rkC]), show 3 + j * 3 - (rkC a).length = j * 3 by simp [rkC], rksC_setid l j k v h]; rfl
theorem cut_in (s : List UInt8) (n i a m : Nat) (h : 40 * i + a + m ≤ 40 * n) : (((s.drop 5).take (40 * n)).drop (40 * i + a)).take m = (s.drop (5 + 40 * i + a)).take m := by
  rw [List.drop_take, List.take_take, List.drop_drop, Nat.min_eq_left (by omega), Nat.add_assoc]
end Pv

namespace Pv
set_option maxRecDepth 20000
set_option maxHeartbeats 4000000
open Go Go.Proofs Go.RowKit
def tb10_4Ri9 : Tab := [[], [0], [0, 1], [0, 1, 2], [], [4], [4, 5], [4, 5, 6], [0, 1, 2, 3, 4, 5, 6, 7], [0, 1, 2, 3, 4, 5, 6, 7, 8], [0, 1, 2, 3, 4, 5, 6, 7, 8, 9]]
def pl10_4Ri9 : Plan := [(0, true, []), (1, true, []), (2, true, []), (4, true, []), (5, true, []), (6, true, []), (7, true, []), (3, false, [4, 5, 6, 7]), (8, false, []), (9, true, []), (10, false, [])]
def tb10_8Ri9 : Tab := [[], [0], [0, 1], [0, 1, 2], [], [4], [0, 1, 2, 3, 4, 5], [0, 1, 2, 3, 4, 5, 6]]
def pl10_8Ri9 : Plan := [(0, true, []), (1, true, []), (2, true, []), (4, true, []), (5, true, []), (3, false, [4, 5]), (6, true, []), (7, false, [])]
variable {w0 : World}

theorem enc24_ok (L : List RK) (nx : UInt32) (hL : L.length < 2 ^ 63) (hk : ∀ k ∈ L, k.key.length < 2 ^ 63) : Fn (Cx w0) 10 [.agg (rgC L nx)] (.tuple [.str (encG L nx).1, .int .i64 (encG L nx).2]) := by
  have ft := fit24_ok (w0 := w0) L nx hL hk
  simp only [rgC] at ft ⊢
  cases hf : fitG L nx
  · rw [hf] at ft
    rw [encG, if_neg (by rw [hf]; decide)]
    refine fn_H ([Go.ResultVar.tmp 2, Go.ResultVar.tmp 3]) Try.func10 rfl rfl (by decide) fun ph hW Q hQ => ?_
    simp only [start, List.length_cons, List.length_nil, List.cons_append, List.nil_append, Nat.reduceAdd, Nat.reduceSub, List.replicate_succ, List.replicate_zero, Try.ntmps10]
    repeat' first
      | simp -implicitDefEqProofs (maxSteps := 400000) (disch := first | with_reducible rfl | omega | (simp only [h_n, PH.n_push, PH.n_put, List.length_cons, List.length_nil] <;> omega) | decide) only [wkAll, wkL, popO, wantedP, if_true, if_false, reduceIte, ne_eq, Nat.reduceAdd, Nat.reduceSub, Nat.reduceMul, Nat.reduceLeDiff, Nat.reduceLT, ofCells, ofCell, reduceCtorEq, Int.reduceLE, Int.reduceLT, Int.reduceToNat, Int.reduceAdd, Int.reduceSub, Int.reduceMul, Int.reduceNeg, Int.reduceBEq, Int.reduceBNe, Int.reduceEq, eqCell, eqCells, binP, unP, convP, lenP, builtinP, sliceDataP, unsafeStringP, appendT, appendS, appendP, copyP, srcP, mmsP, mmP, indexOp, indexAddrOp, sliceOp, bndsP, bndP, capw, capCut, loadOp, storeOp, loadP, fieldOp, fieldAddrOp, arrayAtOp, buildP, buildSliceP, makeSliceP, placeF, fillP, setL, PK.agg, isZero, gt_iff_lt, Nat.reducePow, Nat.reduceGT, reps, seg, wkN, if_pos, if_neg, tf2, Try.ze2, tf3, Try.ze3, tf4, Try.ze4, tf5, Try.ze5, tf9, Try.ze9, tf22, Try.ze22, tf23, Try.ze23, tf25, Try.ze25, tf44, Try.ze44, tf52, Try.ze52, tf59, Try.ze59, tf60, Try.ze60, tf62, Try.ze62, pl10_4Ri9, pl10_8Ri9]
      | refine w_pure (ft) ?_
      | refine w_dec (fun _ => ?_) (fun _ => ?_)
      | refine w_eqc (fun _ => ?_) (fun _ => ?_)
      | refine w_neqc (fun _ => ?_) (fun _ => ?_)
      | refine w_nneqc (fun _ => ?_) (fun _ => ?_)
      | ((first | refine w_split (fun h => ?_) (fun h => ?_) | refine d_split (fun h => ?_) (fun h => ?_) | refine w_csplit (fun h => ?_) (fun h => ?_)) <;> (try simp only [wkS] at h) <;> (have h2 := h) <;> (try simp only [wkT, ne_eq] at h2) <;> (try simp only [h]))
      | refine w_drawnF (id := 4) tb10_4Ri9 pl10_4Ri9 21 (by kernel_rfl) (by kernel_rfl) (by simp) ?_
      | refine w_drawnF (id := 8) tb10_8Ri9 pl10_8Ri9 36 (by kernel_rfl) (by kernel_rfl) (by simp) ?_
    refine hQ (by first | exact .inr rfl | exact .inl rfl) (by first | exact trivial | exact marks1) (by first | (simp -implicitDefEqProofs (maxSteps := 400000) (disch := first | with_reducible rfl | omega | (simp only [h_n, PH.n_push, PH.n_put, List.length_cons, List.length_nil] <;> omega) | decide) only [wkAll, wkL, popO, wantedP, if_true, if_false, reduceIte, ne_eq, Nat.reduceAdd, Nat.reduceSub, Nat.reduceMul, Nat.reduceLeDiff, Nat.reduceLT, ofCells, ofCell, reduceCtorEq, Int.reduceLE, Int.reduceLT, Int.reduceToNat, Int.reduceAdd, Int.reduceSub, Int.reduceMul, Int.reduceNeg, Int.reduceBEq, Int.reduceBNe, Int.reduceEq, eqCell, eqCells, binP, unP, convP, lenP, builtinP, sliceDataP, unsafeStringP, appendT, appendS, appendP, copyP, srcP, mmsP, mmP, indexOp, indexAddrOp, sliceOp, bndsP, bndP, capw, capCut, loadOp, storeOp, loadP, fieldOp, fieldAddrOp, arrayAtOp, buildP, buildSliceP, makeSliceP, placeF, fillP, setL, PK.agg, isZero, gt_iff_lt, Nat.reducePow, Nat.reduceGT, reps, seg, wkN, if_pos, if_neg, tf2, Try.ze2, tf3, Try.ze3, tf4, Try.ze4, tf5, Try.ze5, tf9, Try.ze9, tf22, Try.ze22, tf23, Try.ze23, tf25, Try.ze25, tf44, Try.ze44, tf52, Try.ze52, tf59, Try.ze59, tf60, Try.ze60, tf62, Try.ze62, pl10_4Ri9, pl10_8Ri9, resP, resPs, resP1]; rfl) | rfl) ⟨6, by repeat' first | exact frz_scalar rfl | apply frz_tuple | apply frz_agg | apply frz_fsl | apply frz_gsl (by omega) | exact frzs_nil | apply frzs_cons⟩ (by first | exact keepsH0 | exact keeps1 (by assumption) | exact keepsH (fun _ _ h => h) (fun p hp => by simp only [upF]; (repeat rw [if_neg (by omega)])) | exact keeps1t (by assumption) (fun p hp => by simp only [upF]; (repeat rw [if_neg (by omega)])) | (subst hT; exact keepsH (fun _ _ h => h) fun _ _ => rfl)) (nw_eq ?_)
    rfl
  · rw [hf] at ft
    obtain ⟨f1, f2, fP⟩ := (fitG_iffP L nx).1 hf
    rw [encG, if_pos hf]
    have n1 := number24_ok (w0 := w0) nx.toNat 4 (by decide)
    have n2 := number24_ok (w0 := w0) L.length 1 (by decide)
    have wx : IntKind.wrap .u64 (nx.toNat : Int) = (nx.toNat : Int) := by have := nx.toNat_lt; exact IntWalk.u64_in _ (by omega)
    have wl : IntKind.wrap .u64 (L.length : Int) = (L.length : Int) := IntWalk.u64_in _ (by omega)
    have l1 := beL_len nx.toNat 4
    have l2 := beL_len L.length 1
    have l4 := encH_len L nx
    have hh : beL nx.toNat 4 ++ beL L.length 1 = encH L nx := rfl
    refine fn_H ([Go.ResultVar.tmp 2, Go.ResultVar.tmp 3]) Try.func10 rfl rfl (by decide) fun ph hW Q hQ => ?_
    simp only [start, List.length_cons, List.length_nil, List.cons_append, List.nil_append, Nat.reduceAdd, Nat.reduceSub, List.replicate_succ, List.replicate_zero, Try.ntmps10]
    repeat' first
      | simp -implicitDefEqProofs (maxSteps := 400000) (disch := first | with_reducible rfl | omega | (simp only [h_n, PH.n_push, PH.n_put, List.length_cons, List.length_nil] <;> omega) | decide) only [wkAll, wkL, popO, wantedP, if_true, if_false, reduceIte, ne_eq, Nat.reduceAdd, Nat.reduceSub, Nat.reduceMul, Nat.reduceLeDiff, Nat.reduceLT, ofCells, ofCell, reduceCtorEq, Int.reduceLE, Int.reduceLT, Int.reduceToNat, Int.reduceAdd, Int.reduceSub, Int.reduceMul, Int.reduceNeg, Int.reduceBEq, Int.reduceBNe, Int.reduceEq, eqCell, eqCells, binP, unP, convP, lenP, builtinP, sliceDataP, unsafeStringP, appendT, appendS, appendP, copyP, srcP, mmsP, mmP, indexOp, indexAddrOp, sliceOp, bndsP, bndP, capw, capCut, loadOp, storeOp, loadP, fieldOp, fieldAddrOp, arrayAtOp, buildP, buildSliceP, makeSliceP, placeF, fillP, setL, PK.agg, isZero, gt_iff_lt, Nat.reducePow, Nat.reduceGT, reps, seg, wkN, if_pos, if_neg, tf2, Try.ze2, tf3, Try.ze3, tf4, Try.ze4, tf5, Try.ze5, tf9, Try.ze9, tf22, Try.ze22, tf23, Try.ze23, tf25, Try.ze25, tf44, Try.ze44, tf52, Try.ze52, tf59, Try.ze59, tf60, Try.ze60, tf62, Try.ze62, pl10_4Ri9, pl10_8Ri9, wx, wl, l1, l2, hh]
      | refine w_pure (ft) ?_
      | refine w_pure (n1) ?_
      | refine w_pure (n2) ?_
      | refine w_dec (fun _ => ?_) (fun _ => ?_)
      | refine w_eqc (fun _ => ?_) (fun _ => ?_)
      | refine w_neqc (fun _ => ?_) (fun _ => ?_)
      | refine w_nneqc (fun _ => ?_) (fun _ => ?_)
      | ((first | refine w_split (fun h => ?_) (fun h => ?_) | refine d_split (fun h => ?_) (fun h => ?_) | refine w_csplit (fun h => ?_) (fun h => ?_)) <;> (try simp only [wkS] at h) <;> (have h2 := h) <;> (try simp only [wkT, ne_eq] at h2) <;> (try simp only [h]))
      | refine w_drawnF (id := 4) tb10_4Ri9 pl10_4Ri9 21 (by kernel_rfl) (by kernel_rfl) (by simp) ?_
      | refine w_drawnF (id := 8) tb10_8Ri9 pl10_8Ri9 36 (by kernel_rfl) (by kernel_rfl) (by simp) ?_
    refine w_growC 1 5 [some (.own [.fsl 3 L.length (rksC L), .int .u32 nx.toNat]), some (.own (bldC false (ph.n + 1) (ph.n + 2) []))] (by simp [NilB, NilL, bldC, adP, bytesPV]) ?_
    refine w_eff (bldW_ok _ (ph.n + 1) (ph.n + 2) false [] (encH L nx) (by rw [h_get]; rfl) (by rw [h_gro]; rfl) (by rw [h_ty, up_same]) (by rw [l4]; decide)) ?_
    repeat' first
      | simp -implicitDefEqProofs (maxSteps := 400000) (disch := first | with_reducible rfl | omega | (simp only [h_n, PH.n_push, PH.n_put, List.length_cons, List.length_nil] <;> omega) | decide) only [wkAll, wkL, popO, wantedP, if_true, if_false, reduceIte, ne_eq, Nat.reduceAdd, Nat.reduceSub, Nat.reduceMul, Nat.reduceLeDiff, Nat.reduceLT, ofCells, ofCell, reduceCtorEq, Int.reduceLE, Int.reduceLT, Int.reduceToNat, Int.reduceAdd, Int.reduceSub, Int.reduceMul, Int.reduceNeg, Int.reduceBEq, Int.reduceBNe, Int.reduceEq, eqCell, eqCells, binP, unP, convP, lenP, builtinP, sliceDataP, unsafeStringP, appendT, appendS, appendP, copyP, srcP, mmsP, mmP, indexOp, indexAddrOp, sliceOp, bndsP, bndP, capw, capCut, loadOp, storeOp, loadP, fieldOp, fieldAddrOp, arrayAtOp, buildP, buildSliceP, makeSliceP, placeF, fillP, setL, PK.agg, isZero, gt_iff_lt, Nat.reducePow, Nat.reduceGT, reps, seg, wkN, if_pos, if_neg, tf2, Try.ze2, tf3, Try.ze3, tf4, Try.ze4, tf5, Try.ze5, tf9, Try.ze9, tf22, Try.ze22, tf23, Try.ze23, tf25, Try.ze25, tf44, Try.ze44, tf52, Try.ze52, tf59, Try.ze59, tf60, Try.ze60, tf62, Try.ze62, pl10_4Ri9, pl10_8Ri9]
      | refine w_dec (fun _ => ?_) (fun _ => ?_)
      | refine w_eqc (fun _ => ?_) (fun _ => ?_)
      | refine w_neqc (fun _ => ?_) (fun _ => ?_)
      | refine w_nneqc (fun _ => ?_) (fun _ => ?_)
      | ((first | refine w_split (fun h => ?_) (fun h => ?_) | refine d_split (fun h => ?_) (fun h => ?_) | refine w_csplit (fun h => ?_) (fun h => ?_)) <;> (try simp only [wkS] at h) <;> (have h2 := h) <;> (try simp only [wkT, ne_eq] at h2) <;> (try simp only [h]))
      | refine w_drawnF (id := 4) tb10_4Ri9 pl10_4Ri9 21 (by kernel_rfl) (by kernel_rfl) (by simp) ?_
      | refine w_drawnF (id := 8) tb10_8Ri9 pl10_8Ri9 36 (by kernel_rfl) (by kernel_rfl) (by simp) ?_
    refine w_loopH (α := Nat) ph ph.ob _ (fun i => [.undef, .ptr ph.n 0, .undef, .undef, .ptr (ph.n + 1) 0, .undef, .undef, .undef, .undef, .undef, .undef, .undef, .undef, .undef, .undef, .undef, .undef, .undef, .undef, .undef, .undef, .undef, .fsl 3 L.length (rksC L), .int .i64 L.length, .int .i64 i, .undef, .undef, .undef, .undef, .undef, .undef, .undef, .undef, .undef, .undef, .undef, .undef, .undef, .undef, .undef, .undef]) (fun i => [some (.own [.fsl 3 L.length (rksC L), .int .u32 nx.toNat]), some (.own (bldC true (ph.n + 1) (ph.n + 2) (encA L nx i))), some (.grow 1 (encA L nx i).length 5)]) (fun i => i ≤ L.length) (fun i => L.length - i) 0 (by simp) (fun _ _ => by simp) (.eq (by simp [FadeTo, encA_zero]) rfl) ?_
    intro i hi K hK
    have hal := encA_len fP.keys (nx := nx) hi
    have hty : ∀ p e, upF ph.ty (ph.n + 1) (some 62) p = some e → p < ph.n + 3 := by
      intro p e h
      simp only [upF] at h
      split at h
      · omega
      · have := hW.ty p e h; omega
    rcases Nat.lt_or_ge i L.length with h | h
    · obtain ⟨k, hr⟩ := getR h
      have hd := rksC_drop L i k hr
      have hlt : (i : Int) < L.length := by omega
      have n3 := number24_ok (w0 := w0) (kM k) 8 (by decide)
      have l3 := beL_len (kM k) 8
      have hkl := (fP i k hr).1
      have hkm := kM_eq k
      have hs : encA L nx (i + 1) = encA L nx i ++ encK k := encA_succ hr
      have hke : beL (kM k) 8 ++ k.key = encK k := rfl
      have hkl2 := encK_len hkl
      have hal2 := encA_len fP.keys (nx := nx) (i := i + 1) (by omega)
      repeat' first
        | simp -implicitDefEqProofs (maxSteps := 400000) (disch := first | with_reducible rfl | omega | (simp only [h_n, PH.n_push, PH.n_put, List.length_cons, List.length_nil] <;> omega) | decide) only [wkAll, wkL, popO, wantedP, if_true, if_false, reduceIte, ne_eq, Nat.reduceAdd, Nat.reduceSub, Nat.reduceMul, Nat.reduceLeDiff, Nat.reduceLT, ofCells, ofCell, reduceCtorEq, Int.reduceLE, Int.reduceLT, Int.reduceToNat, Int.reduceAdd, Int.reduceSub, Int.reduceMul, Int.reduceNeg, Int.reduceBEq, Int.reduceBNe, Int.reduceEq, eqCell, eqCells, binP, unP, convP, lenP, builtinP, sliceDataP, unsafeStringP, appendT, appendS, appendP, copyP, srcP, mmsP, mmP, indexOp, indexAddrOp, sliceOp, bndsP, bndP, capw, capCut, loadOp, storeOp, loadP, fieldOp, fieldAddrOp, arrayAtOp, buildP, buildSliceP, makeSliceP, placeF, fillP, setL, PK.agg, isZero, gt_iff_lt, Nat.reducePow, Nat.reduceGT, reps, seg, wkN, if_pos, if_neg, tf2, Try.ze2, tf3, Try.ze3, tf4, Try.ze4, tf5, Try.ze5, tf9, Try.ze9, tf22, Try.ze22, tf23, Try.ze23, tf25, Try.ze25, tf44, Try.ze44, tf52, Try.ze52, tf59, Try.ze59, tf60, Try.ze60, tf62, Try.ze62, pl10_4Ri9, pl10_8Ri9, hlt, hd, l3, hkl, hkm, hke]
        | refine w_pure (n3) ?_
        | refine w_dec (fun _ => ?_) (fun _ => ?_)
        | refine w_eqc (fun _ => ?_) (fun _ => ?_)
        | refine w_neqc (fun _ => ?_) (fun _ => ?_)
        | refine w_nneqc (fun _ => ?_) (fun _ => ?_)
        | ((first | refine w_split (fun h => ?_) (fun h => ?_) | refine d_split (fun h => ?_) (fun h => ?_) | refine w_csplit (fun h => ?_) (fun h => ?_)) <;> (try simp only [wkS] at h) <;> (have h2 := h) <;> (try simp only [wkT, ne_eq] at h2) <;> (try simp only [h]))
        | refine w_drawnF (id := 4) tb10_4Ri9 pl10_4Ri9 21 (by kernel_rfl) (by kernel_rfl) (by simp) ?_
        | refine w_drawnF (id := 8) tb10_8Ri9 pl10_8Ri9 36 (by kernel_rfl) (by kernel_rfl) (by simp) ?_
      refine w_eff (bldW_ok _ (ph.n + 1) (ph.n + 2) true (encA L nx i) (encK k) (by rw [h_get]; rfl) (by rw [h_gro]; rfl) (by rw [h_ty, up_same]) (by rw [hal, hkl2]; omega)) ?_
      rw [← List.length_append, ← hs]
      repeat' first
        | simp -implicitDefEqProofs (maxSteps := 400000) (disch := first | with_reducible rfl | omega | (simp only [h_n, PH.n_push, PH.n_put, List.length_cons, List.length_nil] <;> omega) | decide) only [wkAll, wkL, popO, wantedP, if_true, if_false, reduceIte, ne_eq, Nat.reduceAdd, Nat.reduceSub, Nat.reduceMul, Nat.reduceLeDiff, Nat.reduceLT, ofCells, ofCell, reduceCtorEq, Int.reduceLE, Int.reduceLT, Int.reduceToNat, Int.reduceAdd, Int.reduceSub, Int.reduceMul, Int.reduceNeg, Int.reduceBEq, Int.reduceBNe, Int.reduceEq, eqCell, eqCells, binP, unP, convP, lenP, builtinP, sliceDataP, unsafeStringP, appendT, appendS, appendP, copyP, srcP, mmsP, mmP, indexOp, indexAddrOp, sliceOp, bndsP, bndP, capw, capCut, loadOp, storeOp, loadP, fieldOp, fieldAddrOp, arrayAtOp, buildP, buildSliceP, makeSliceP, placeF, fillP, setL, PK.agg, isZero, gt_iff_lt, Nat.reducePow, Nat.reduceGT, reps, seg, wkN, if_pos, if_neg, tf2, Try.ze2, tf3, Try.ze3, tf4, Try.ze4, tf5, Try.ze5, tf9, Try.ze9, tf22, Try.ze22, tf23, Try.ze23, tf25, Try.ze25, tf44, Try.ze44, tf52, Try.ze52, tf59, Try.ze59, tf60, Try.ze60, tf62, Try.ze62, pl10_4Ri9, pl10_8Ri9]
        | refine w_dec (fun _ => ?_) (fun _ => ?_)
        | refine w_eqc (fun _ => ?_) (fun _ => ?_)
        | refine w_neqc (fun _ => ?_) (fun _ => ?_)
        | refine w_nneqc (fun _ => ?_) (fun _ => ?_)
        | ((first | refine w_split (fun h => ?_) (fun h => ?_) | refine d_split (fun h => ?_) (fun h => ?_) | refine w_csplit (fun h => ?_) (fun h => ?_)) <;> (try simp only [wkS] at h) <;> (have h2 := h) <;> (try simp only [wkT, ne_eq] at h2) <;> (try simp only [h]))
        | refine w_drawnF (id := 4) tb10_4Ri9 pl10_4Ri9 21 (by kernel_rfl) (by kernel_rfl) (by simp) ?_
        | refine w_drawnF (id := 8) tb10_8Ri9 pl10_8Ri9 36 (by kernel_rfl) (by kernel_rfl) (by simp) ?_
      refine hK (i + 1) _ _ (by omega) (by omega) (.cut [_] hW (by simp [FadeTo]) rfl (by simp [scs_cons, scs_nil, sc_ptr, sc_fsl, sc_int, sc_undef, scs_rks]) (by simp [scs_bld, scs_cons, scs_nil, sc_fsl, sc_int, scs_rks]) (h4 := .inr hty))
    · have hge : ¬ (i : Int) < L.length := by omega
      have : i = L.length := by omega
      subst this
      rw [encA_all] at hal ⊢
      have so := of_ok (w0 := w0) (encB L nx) (by omega)
      have sl := of_len (encB L nx)
      generalize shaOf (encB L nx) = D at *
      generalize encB L nx = B at *
      repeat' first
        | simp -implicitDefEqProofs (maxSteps := 400000) (disch := first | with_reducible rfl | omega | (simp only [h_n, PH.n_push, PH.n_put, List.length_cons, List.length_nil] <;> omega) | decide) only [wkAll, wkL, popO, wantedP, if_true, if_false, reduceIte, ne_eq, Nat.reduceAdd, Nat.reduceSub, Nat.reduceMul, Nat.reduceLeDiff, Nat.reduceLT, ofCells, ofCell, reduceCtorEq, Int.reduceLE, Int.reduceLT, Int.reduceToNat, Int.reduceAdd, Int.reduceSub, Int.reduceMul, Int.reduceNeg, Int.reduceBEq, Int.reduceBNe, Int.reduceEq, eqCell, eqCells, binP, unP, convP, lenP, builtinP, sliceDataP, unsafeStringP, appendT, appendS, appendP, copyP, srcP, mmsP, mmP, indexOp, indexAddrOp, sliceOp, bndsP, bndP, capw, capCut, loadOp, storeOp, loadP, fieldOp, fieldAddrOp, arrayAtOp, buildP, buildSliceP, makeSliceP, placeF, fillP, setL, PK.agg, isZero, gt_iff_lt, Nat.reducePow, Nat.reduceGT, reps, seg, wkN, if_pos, if_neg, tf2, Try.ze2, tf3, Try.ze3, tf4, Try.ze4, tf5, Try.ze5, tf9, Try.ze9, tf22, Try.ze22, tf23, Try.ze23, tf25, Try.ze25, tf44, Try.ze44, tf52, Try.ze52, tf59, Try.ze59, tf60, Try.ze60, tf62, Try.ze62, pl10_4Ri9, pl10_8Ri9, hge]
        | refine w_dec (fun _ => ?_) (fun _ => ?_)
        | refine w_eqc (fun _ => ?_) (fun _ => ?_)
        | refine w_neqc (fun _ => ?_) (fun _ => ?_)
        | refine w_nneqc (fun _ => ?_) (fun _ => ?_)
        | ((first | refine w_split (fun h => ?_) (fun h => ?_) | refine d_split (fun h => ?_) (fun h => ?_) | refine w_csplit (fun h => ?_) (fun h => ?_)) <;> (try simp only [wkS] at h) <;> (have h2 := h) <;> (try simp only [wkT, ne_eq] at h2) <;> (try simp only [h]))
        | refine w_drawnF (id := 4) tb10_4Ri9 pl10_4Ri9 21 (by kernel_rfl) (by kernel_rfl) (by simp) ?_
        | refine w_drawnF (id := 8) tb10_8Ri9 pl10_8Ri9 36 (by kernel_rfl) (by kernel_rfl) (by simp) ?_
      refine w_eff (bldS_ok _ (ph.n + 1) (ph.n + 2) true B (by rw [h_get]; rfl) (by rw [h_gro]; rfl) (by omega)) ?_
      repeat' first
        | simp -implicitDefEqProofs (maxSteps := 400000) (disch := first | with_reducible rfl | omega | (simp only [h_n, PH.n_push, PH.n_put, List.length_cons, List.length_nil] <;> omega) | decide) only [wkAll, wkL, popO, wantedP, if_true, if_false, reduceIte, ne_eq, Nat.reduceAdd, Nat.reduceSub, Nat.reduceMul, Nat.reduceLeDiff, Nat.reduceLT, ofCells, ofCell, reduceCtorEq, Int.reduceLE, Int.reduceLT, Int.reduceToNat, Int.reduceAdd, Int.reduceSub, Int.reduceMul, Int.reduceNeg, Int.reduceBEq, Int.reduceBNe, Int.reduceEq, eqCell, eqCells, binP, unP, convP, lenP, builtinP, sliceDataP, unsafeStringP, appendT, appendS, appendP, copyP, srcP, mmsP, mmP, indexOp, indexAddrOp, sliceOp, bndsP, bndP, capw, capCut, loadOp, storeOp, loadP, fieldOp, fieldAddrOp, arrayAtOp, buildP, buildSliceP, makeSliceP, placeF, fillP, setL, PK.agg, isZero, gt_iff_lt, Nat.reducePow, Nat.reduceGT, reps, seg, wkN, if_pos, if_neg, tf2, Try.ze2, tf3, Try.ze3, tf4, Try.ze4, tf5, Try.ze5, tf9, Try.ze9, tf22, Try.ze22, tf23, Try.ze23, tf25, Try.ze25, tf44, Try.ze44, tf52, Try.ze52, tf59, Try.ze59, tf60, Try.ze60, tf62, Try.ze62, pl10_4Ri9, pl10_8Ri9]
        | refine w_dec (fun _ => ?_) (fun _ => ?_)
        | refine w_eqc (fun _ => ?_) (fun _ => ?_)
        | refine w_neqc (fun _ => ?_) (fun _ => ?_)
        | refine w_nneqc (fun _ => ?_) (fun _ => ?_)
        | ((first | refine w_split (fun h => ?_) (fun h => ?_) | refine d_split (fun h => ?_) (fun h => ?_) | refine w_csplit (fun h => ?_) (fun h => ?_)) <;> (try simp only [wkS] at h) <;> (have h2 := h) <;> (try simp only [wkT, ne_eq] at h2) <;> (try simp only [h]))
        | refine w_drawnF (id := 4) tb10_4Ri9 pl10_4Ri9 21 (by kernel_rfl) (by kernel_rfl) (by simp) ?_
        | refine w_drawnF (id := 8) tb10_8Ri9 pl10_8Ri9 36 (by kernel_rfl) (by kernel_rfl) (by simp) ?_
      refine w_eff (bldS_ok _ (ph.n + 1) (ph.n + 2) true B (by rw [h_get]; rfl) (by rw [h_gro]; rfl) (by omega)) ?_
      repeat' first
        | simp -implicitDefEqProofs (maxSteps := 400000) (disch := first | with_reducible rfl | omega | (simp only [h_n, PH.n_push, PH.n_put, List.length_cons, List.length_nil] <;> omega) | decide) only [wkAll, wkL, popO, wantedP, if_true, if_false, reduceIte, ne_eq, Nat.reduceAdd, Nat.reduceSub, Nat.reduceMul, Nat.reduceLeDiff, Nat.reduceLT, ofCells, ofCell, reduceCtorEq, Int.reduceLE, Int.reduceLT, Int.reduceToNat, Int.reduceAdd, Int.reduceSub, Int.reduceMul, Int.reduceNeg, Int.reduceBEq, Int.reduceBNe, Int.reduceEq, eqCell, eqCells, binP, unP, convP, lenP, builtinP, sliceDataP, unsafeStringP, appendT, appendS, appendP, copyP, srcP, mmsP, mmP, indexOp, indexAddrOp, sliceOp, bndsP, bndP, capw, capCut, loadOp, storeOp, loadP, fieldOp, fieldAddrOp, arrayAtOp, buildP, buildSliceP, makeSliceP, placeF, fillP, setL, PK.agg, isZero, gt_iff_lt, Nat.reducePow, Nat.reduceGT, reps, seg, wkN, if_pos, if_neg, tf2, Try.ze2, tf3, Try.ze3, tf4, Try.ze4, tf5, Try.ze5, tf9, Try.ze9, tf22, Try.ze22, tf23, Try.ze23, tf25, Try.ze25, tf44, Try.ze44, tf52, Try.ze52, tf59, Try.ze59, tf60, Try.ze60, tf62, Try.ze62, pl10_4Ri9, pl10_8Ri9, hal, sl]
        | refine w_pure (so) ?_
        | refine w_dec (fun _ => ?_) (fun _ => ?_)
        | refine w_eqc (fun _ => ?_) (fun _ => ?_)
        | refine w_neqc (fun _ => ?_) (fun _ => ?_)
        | refine w_nneqc (fun _ => ?_) (fun _ => ?_)
        | ((first | refine w_split (fun h => ?_) (fun h => ?_) | refine d_split (fun h => ?_) (fun h => ?_) | refine w_csplit (fun h => ?_) (fun h => ?_)) <;> (try simp only [wkS] at h) <;> (have h2 := h) <;> (try simp only [wkT, ne_eq] at h2) <;> (try simp only [h]))
        | refine w_drawnF (id := 4) tb10_4Ri9 pl10_4Ri9 21 (by kernel_rfl) (by kernel_rfl) (by simp) ?_
        | refine w_drawnF (id := 8) tb10_8Ri9 pl10_8Ri9 36 (by kernel_rfl) (by kernel_rfl) (by simp) ?_
      refine hQ (by first | exact .inr rfl | exact .inl rfl) (by first | exact trivial | exact marks1) (by first | (simp -implicitDefEqProofs (maxSteps := 400000) (disch := first | with_reducible rfl | omega | (simp only [h_n, PH.n_push, PH.n_put, List.length_cons, List.length_nil] <;> omega) | decide) only [wkAll, wkL, popO, wantedP, if_true, if_false, reduceIte, ne_eq, Nat.reduceAdd, Nat.reduceSub, Nat.reduceMul, Nat.reduceLeDiff, Nat.reduceLT, ofCells, ofCell, reduceCtorEq, Int.reduceLE, Int.reduceLT, Int.reduceToNat, Int.reduceAdd, Int.reduceSub, Int.reduceMul, Int.reduceNeg, Int.reduceBEq, Int.reduceBNe, Int.reduceEq, eqCell, eqCells, binP, unP, convP, lenP, builtinP, sliceDataP, unsafeStringP, appendT, appendS, appendP, copyP, srcP, mmsP, mmP, indexOp, indexAddrOp, sliceOp, bndsP, bndP, capw, capCut, loadOp, storeOp, loadP, fieldOp, fieldAddrOp, arrayAtOp, buildP, buildSliceP, makeSliceP, placeF, fillP, setL, PK.agg, isZero, gt_iff_lt, Nat.reducePow, Nat.reduceGT, reps, seg, wkN, if_pos, if_neg, tf2, Try.ze2, tf3, Try.ze3, tf4, Try.ze4, tf5, Try.ze5, tf9, Try.ze9, tf22, Try.ze22, tf23, Try.ze23, tf25, Try.ze25, tf44, Try.ze44, tf52, Try.ze52, tf59, Try.ze59, tf60, Try.ze60, tf62, Try.ze62, pl10_4Ri9, pl10_8Ri9, resP, resPs, resP1]; rfl) | rfl) ⟨6, by repeat' first | exact frz_scalar rfl | apply frz_tuple | apply frz_agg | apply frz_fsl | apply frz_gsl (by omega) | exact frzs_nil | apply frzs_cons⟩ (by first | exact keepsH0 | exact keeps1 (by assumption) | exact keepsH (fun _ _ h => h) (fun p hp => by simp only [upF]; (repeat rw [if_neg (by omega)])) | exact keeps1t (by assumption) (fun p hp => by simp only [upF]; (repeat rw [if_neg (by omega)])) | (subst hT; exact keepsH (fun _ _ h => h) fun _ _ => rfl)) (nw_eq ?_)
      rfl
end Pv

namespace Pv
open Go Go.RowKit
variable {X : Ctx} {G : Ghost} {ph : PH} {w : World} {ρ : Option Nat} {n0 : Nat} {Q : Exit → PSt → PH → Prop}

/-! ### A row of one's own that is only read from now on: blocks that hold it tell its cells -/
/-- Arguments, those within a struct too. -/
def FA2 (p : Nat) (cells : List PV) : List PV → List PV → Prop
  | [], [] => True
  | a :: az, b :: bs => (b = a ∨ (∃ off esz len cap, a = .sl p off esz len cap ∧ b = .fsl esz len (seg cells off (len * esz)) ∧ off + len * esz ≤ cells.length) ∨ ∃ c c', a = .agg c ∧ b = .agg c' ∧ FA p cells c c') ∧ FA2 p cells az bs
  | _, _ => False
def FB (p : Nat) (cells : List PV) : List (Option Blk) → List (Option Blk) → Prop
  | [], [] => True
  | x :: xs, y :: ys => (y = x ∨ ∃ c c', x = some (.own c) ∧ y = some (.own c') ∧ FA p cells c c') ∧ FB p cells xs ys
  | _, _ => False
theorem FA2.rvs (h : Rel X G ph w) {p : Nat} {cells : List PV} {L : Loc} (hp : ph.get p = some cells) (hL : G.l[p]? = some L) : ∀ {az bs : List PV} {rs : List Value}, FA2 p cells az bs → RVs G az rs → RVs (G.frzB w L.b) bs rs
  | [], [], _, _, hr => by cases hr; exact .nil
  | a :: az, b :: bs, _, hf, hr => by
    obtain ⟨h1, h2⟩ := hf
    cases hr with
    | cons _ r _ rs ha hs =>
      refine .cons _ _ _ _ ?_ (FA2.rvs h hp hL h2 hs)
      rcases h1 with rfl | ⟨off, esz, len, cap, rfl, rfl, hle⟩ | ⟨c, c', rfl, rfl, h3⟩
      · exact ha.mono (le_frzB _ _ _)
      · exact rv_frz h hp hL ha hle
      · cases ha with
        | agg _ vals hv => exact .agg _ _ (h3.rvs h hp hL hv)
  | [], _ :: _, _, hf, _ => hf.elim
  | _ :: _, [], _, hf, _ => hf.elim
theorem FB.at {p : Nat} {cells : List PV} : ∀ {l l' : List (Option Blk)}, FB p cells l l' → l'.length = l.length ∧ ∀ k : Nat, (l'[k]? = l[k]?) ∨ ∃ c c', l[k]? = some (some (.own c)) ∧ l'[k]? = some (some (.own c')) ∧ FA p cells c c'
  | [], [], _ => ⟨rfl, fun _ => .inl rfl⟩
  | x :: xs, y :: ys, h => by
    obtain ⟨h1, h2⟩ := h
    obtain ⟨h3, h4⟩ := h2.at
    refine ⟨by simp [h3], fun k => ?_⟩
    cases k with
    | zero =>
      rcases h1 with rfl | ⟨c, c', rfl, rfl, h⟩
      · exact .inl rfl
      · exact .inr ⟨c, c', rfl, rfl, h⟩
    | succ k => simpa using h4 k
  | [], _ :: _, h => h.elim
  | _ :: _, [], h => h.elim

theorem Rel.frzC {b : PH} {l l' : List (Option Blk)} {ob : Nat → Option PObj} {ty : Nat → Option TypeId} {k : Nat} {cells : List PV} {L : Loc} (hr : Rel X G (H b l ob ty) w) (hk : l[k]? = some (some (.own cells))) (hL : G.l[b.n + k]? = some L) (h2 : FB (b.n + k) cells (l.set k none) l') :
    Rel X (G.frzB w L.b) (H b l' ob ty) w := by
  have hpk : (H b l ob ty).get (b.n + k) = some cells := by rw [h_get, hk]; rfl
  have hp := hr.frzB hpk hL
  rw [show (H b l ob ty).kill (b.n + k) = H b (l.set k none) ob ty from h_kill] at hp
  obtain ⟨h3, h4⟩ := h2.at
  have hgen : ∀ (p : Nat) (hp : ¬ p < b.n), ∃ k, p = b.n + k := fun p hp => ⟨p - b.n, by omega⟩
  have hget : ∀ p c', (H b l' ob ty).get p = some c' → ∃ c, (H b (l.set k none) ob ty).get p = some c := by
    intro p c' hc
    by_cases hpb : p < b.n
    · exact ⟨c', by rw [h_getlt hpb] at hc ⊢; exact hc⟩
    · obtain ⟨j, rfl⟩ := hgen p hpb
      rcases h4 j with h5 | ⟨c, d, h5, h6, h7⟩
      · exact ⟨c', by rw [h_get] at hc ⊢; rw [← h5]; exact hc⟩
      · exact ⟨c, by rw [h_get, h5]; rfl⟩
  refine ⟨by rw [hp.len]; simp [H, h3], hp.below, ?_, ?_, hp.fz, ?_, hp.ob, hp.ty, ?_⟩
  · intro p c' hc
    by_cases hpb : p < b.n
    · have hc2 : (H b (l.set k none) ob ty).get p = some c' := by rw [h_getlt hpb] at hc ⊢; exact hc
      exact hp.own p c' hc2
    · obtain ⟨j, rfl⟩ := hgen p hpb
      rcases h4 j with h5 | ⟨c, d, h5, h6, h7⟩
      · have hc2 : (H b (l.set k none) ob ty).get (b.n + j) = some c' := by rw [h_get] at hc ⊢; rw [← h5]; exact hc
        exact hp.own _ c' hc2
      · rw [h_get, h6] at hc
        cases hc
        have hjk : j ≠ k := by
          rintro rfl
          have hlt : j < l.length := (List.getElem?_eq_some_iff.1 hk).1
          rw [List.getElem?_set, if_pos rfl, if_pos hlt] at h5
          cases h5
        have hc0 : (H b l ob ty).get (b.n + j) = some c := by
          rw [h_get]; rw [List.getElem?_set, if_neg (Ne.symm hjk)] at h5; rw [h5]; rfl
        obtain ⟨M, vals, cs, e', fz, hM, o⟩ := hr.own _ c hc0
        exact ⟨M, vals, cs, e', fz, hM, ⟨h7.rvs hr hpk hL o.rv, o.lt, o.ge, o.hb, o.sz, o.fr, o.at_, o.one⟩⟩
  · intro p q c d L M hpq hp' hq hL hM
    obtain ⟨c0, hc0⟩ := hget p c hp'
    obtain ⟨d0, hd0⟩ := hget q d hq
    exact hp.disj p q _ _ L M hpq hc0 hd0 hL hM
  · intro a v p c L hv hp' hL
    obtain ⟨c0, hc0⟩ := hget p c hp'
    exact hp.fdisj a v p _ L hv hc0 hL
  · refine hp.grow.step rfl (Nat.le_refl _) (fun p r hr => ?_) (fun _ _ => rfl) (fun _ _ h => .inl h) fun q c L hc hL => by
      obtain ⟨c0, hc0⟩ := hget q c hc
      exact .inl ⟨c0, hc0, hL⟩
    by_cases hpb : p < b.n
    · rw [h_grolt hpb] at hr ⊢; exact hr
    · obtain ⟨j, rfl⟩ := hgen p hpb
      rw [h_gro] at hr ⊢
      rcases h4 j with h5 | ⟨c, d, h5, h6, h7⟩
      · rw [← h5]; exact hr
      · rw [h6] at hr; cases hr

/-- A call: block k is only read from now on. -/
theorem w_frzC {f : FuncId} {args args' : List PV} {K : PV → PH → Prop} {b : PH} {l l' : List (Option Blk)} {ob : Nat → Option PObj} {ty : Nat → Option TypeId} (k : Nat) (cells : List PV) (hk : l[k]? = some (some (.own cells))) (ha : FA2 (b.n + k) cells args args') (hb : FB (b.n + k) cells (l.set k none) l')
    (h : PCalls X f args' (H b l' ob ty) K) : PCalls X f args (H b l ob ty) K := by
  intro G w rargs hr hv
  have hpk : (H b l ob ty).get (b.n + k) = some cells := by rw [h_get, hk]; rfl
  obtain ⟨L, hL⟩ : ∃ L, G.l[b.n + k]? = some L := ⟨_, List.getElem?_eq_getElem (by rw [hr.lenN]; exact PH.get_lt hpk)⟩
  have hr' := hr.frzC hk hL hb
  have hv' := ha.rvs hr hpk hL hv
  have hn : (H b l' ob ty).n = (H b l ob ty).n := by rw [h_n, h_n, hb.at.1, List.length_set]
  have key : ∀ v w', CPost X (H b l' ob ty).n (G.frzB w L.b) K v w' → CPost X (H b l ob ty).n G K v w' := by
    rintro v w' ⟨G2, pv, ph', h1, h2, h3, h4, h5⟩
    rw [hn] at h1 h4
    exact ⟨G2, pv, ph', ((le_frzB G w L.b).n _).trans h1, h2, h3, h4, h5⟩
  rcases h _ w rargs hr' hv' with ⟨v, w', e, hc⟩ | ⟨w', e, hc⟩
  · exact .inl ⟨v, w', e, key _ _ hc⟩
  · refine .inr ⟨w', e, Calls.mono hc ?_⟩
    intro e w he
    cases e with
    | returned v => exact key _ _ he
    | _ => exact he

theorem FB.refl {p : Nat} {cells : List PV} : ∀ {l : List (Option Blk)}, FB p cells l l
  | [] => trivial
  | _ :: _ => ⟨.inl rfl, FB.refl⟩
theorem FB.set {p : Nat} {cells c c' : List PV} : ∀ {l : List (Option Blk)} {j : Nat}, l[j]? = some (some (.own c)) → FA p cells c c' → FB p cells l (l.set j (some (.own c')))
  | [], _, h, _ => by simp at h
  | x :: xs, 0, h, hf => by simp at h; subst h; exact ⟨.inr ⟨c, c', rfl, rfl, hf⟩, FB.refl⟩
  | x :: xs, j + 1, h, hf => by simp only [List.getElem?_cons_succ] at h; exact ⟨.inl rfl, FB.set h hf⟩

/-- A round's end, nothing dropped. -/
theorem HTo.cut0 {b : PH} {l : List (Option Blk)} {ob ob' : Nat → Option PObj} {ty ty' : Nat → Option TypeId} {st tm : List PV} {ph' : PH} (hb : WF b) (h : FadeTo tm st) (e : ph' = H b l ob' ty') (h1 : Scs (b.n + l.length) st)
    (h2 : ∀ x ∈ l, ∀ c, x = some (Blk.own c) → Scs (b.n + l.length) c) (ho : ∀ r o, ob r = some o → ob' r = some o := by exact fun _ _ h => h) (ht : ∀ p e, ty p = some e → ty' p = some e := by exact fun _ _ h => h)
    (h3 : ob = b.ob ∨ ∀ r o, ob r = some o → ObSc (b.n + l.length) o := by exact .inl rfl) (h4 : ty = b.ty ∨ ∀ p e, ty p = some e → p < b.n + l.length := by exact .inl rfl) : HTo b l ob ty st tm ph' :=
  HTo.cut [] hb h (by rw [e, List.append_nil]) h1 h2 ho ht h3 h4
end Pv
