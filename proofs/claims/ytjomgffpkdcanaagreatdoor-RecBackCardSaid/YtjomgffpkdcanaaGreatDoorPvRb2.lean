/- Part of the proof: the layer of pure values, or walks through functions (PvRb2, PvOnceW, PvShelf, PvOnce, PvRb0, PvNbH). -/
import Derived.Test.YtjomgffpkdcanaaGreatDoorPvH2
import Derived.Test.YtjomgffpkdcanaaGreatDoorPvDrawP
import Derived.Tactics
import Derived.Tactics2
import Derived.Defers
import Derived.Laws.Pointers
import Derived.Laws.LoneSync
import Derived.Laws.NewBlocks
import Derived.RegionTactic
import Derived.RegionCalls
import Derived.ChangeAlike
import Derived.Test.YtjomgffpkdcanaaGreatDoorPvH
import Derived.Test.YtjomgffpkdcanaaGreatDoorPvNum
import Derived.Test.YtjomgffpkdcanaaGreatDoorPvOpsE
set_option linter.all false
--nosplit
--keep2
namespace Pv
set_option maxRecDepth 20000
set_option maxHeartbeats 4000000
open Go Go.Proofs Go.RowKit
def tb6_3Rb2 : Tab := [[], [0], [0, 1], [], [3], [3, 4], [0, 1, 2, 3, 4, 5], [0, 1, 2, 3, 4, 5, 6]]
def pl6_3Rb2 : Plan := [(0, true, []), (1, true, []), (2, true, []), (3, true, []), (4, true, []), (5, false, [0, 1, 2]), (6, true, []), (7, false, [])]
def tb6_5Rb2 : Tab := [[], [0], [], [2], [2, 3], [0, 1, 2, 3, 4], [], [6], [0, 1, 2, 3, 4, 5, 6, 7], [0, 1, 2, 3, 4, 5, 6, 7, 8], [0, 1, 2, 3, 4, 5, 6, 7, 8, 9]]
def pl6_5Rb2 : Plan := [(0, true, []), (1, true, []), (2, true, []), (3, true, []), (4, true, []), (6, true, []), (7, true, []), (5, false, [6, 7]), (8, true, []), (9, false, []), (10, false, [])]
def tb7_6Rb2 : Tab := [[], [0], [0, 1], [], [], [4], [3, 4, 5], [0, 1, 2, 3, 4, 5, 6], [], [], [9], [8, 9, 10], [0, 1, 2, 3, 4, 5, 6, 7], [0, 1, 2, 3, 4, 5, 6, 7, 8, 9, 10, 11, 12], [0, 1, 2, 3, 4, 5, 6, 7, 8, 9, 10, 11, 12, 13]]
def pl7_6Rb2 : Plan := [(0, true, []), (1, true, []), (2, true, []), (3, true, []), (4, true, []), (5, true, []), (6, true, []), (7, true, []), (8, true, []), (9, true, []), (10, true, []), (11, true, []), (12, false, [8, 9, 10, 11]), (13, false, []), (14, false, [])]
variable {w0 : World}

def frameL (k : Int) (b : List UInt8) : List UInt8 × Int := if knB k = false then ([], 23) else if mostL k < (b.length : Int) then ([], 12) else (headL k b.length ++ b, 0)
theorem recFrame_ok (k : Int) (b : List UInt8) (hb : b.length < 2 ^ 50) : Fn (Cx w0) 6 [.agg [.int .i64 k, .str b]] (.tuple [.str (frameL k b).1, .int .i64 (frameL k b).2]) := by
  have tk := recKnown_ok (w0 := w0) k
  have tm := recMost_ok (w0 := w0) k
  have th := recHead_ok (w0 := w0) k b.length (by omega)
  cases h1 : knB k with
  | false =>
    rw [h1] at tk
    rw [show frameL k b = ([], 23) by rw [frameL, if_pos h1]]
    refine fn_H ([Go.ResultVar.tmp 2, Go.ResultVar.tmp 3]) Tryz.func6 rfl rfl (by decide) fun ph hW Q hQ => ?_
    simp only [start, List.length_cons, List.length_nil, List.cons_append, List.nil_append, Nat.reduceAdd, Nat.reduceSub, List.replicate_succ, List.replicate_zero, Tryz.ntmps6]
    repeat' first | simp -implicitDefEqProofs (maxSteps := 400000) (disch := first | with_reducible rfl | omega | (simp only [wkH] <;> omega) | decide) only [wkAll, wkL, popO, wantedP, if_true, if_false, reduceIte, ne_eq, Nat.reduceAdd, Nat.reduceSub, Nat.reduceMul, Nat.reduceLeDiff, Nat.reduceLT, ofCells, ofCell, reduceCtorEq, Int.reduceLE, Int.reduceLT, Int.reduceToNat, Int.reduceAdd, Int.reduceSub, Int.reduceMul, Int.reduceNeg, Int.reduceBEq, Int.reduceBNe, Int.reduceEq, eqCell, eqCells, binP, unP, convP, lenP, builtinP, sliceDataP, unsafeStringP, appendT, appendS, appendP, copyP, srcP, mmsP, mmP, indexOp, indexAddrOp, sliceOp, bndsP, bndP, capw, capCut, loadOp, storeOp, loadP, fieldOp, fieldAddrOp, arrayAtOp, buildP, buildSliceP, makeSliceP, placeF, fillP, setL, PK.agg, isZero, gt_iff_lt, Nat.reducePow, Nat.reduceGT, reps, seg, wkN, if_pos, if_neg, tf3, Tryz.ze3, tf4, Tryz.ze4, tf9, Tryz.ze9, tf26, Tryz.ze26, pl6_3Rb2, pl6_5Rb2] | refine w_pure (tk) ?_ | refine w_drawnF (id := 3) tb6_3Rb2 pl6_3Rb2 17 (by kernel_rfl) (by kernel_rfl) (by simp) ?_ | refine w_drawnF (id := 5) tb6_5Rb2 pl6_5Rb2 26 (by kernel_rfl) (by kernel_rfl) (by simp) ?_
    refine hQ (by first | exact .inr rfl | exact .inl rfl) (by first | exact trivial | exact marks1) (by first | (simp -implicitDefEqProofs (maxSteps := 400000) (disch := first | with_reducible rfl | omega | (simp only [wkH] <;> omega) | decide) only [wkAll, wkL, popO, wantedP, if_true, if_false, reduceIte, ne_eq, Nat.reduceAdd, Nat.reduceSub, Nat.reduceMul, Nat.reduceLeDiff, Nat.reduceLT, ofCells, ofCell, reduceCtorEq, Int.reduceLE, Int.reduceLT, Int.reduceToNat, Int.reduceAdd, Int.reduceSub, Int.reduceMul, Int.reduceNeg, Int.reduceBEq, Int.reduceBNe, Int.reduceEq, eqCell, eqCells, loadOp, storeOp, loadP, setL, PK.agg, isZero, gt_iff_lt, Nat.reducePow, Nat.reduceGT, reps, seg, wkN, if_pos, if_neg, tf3, Tryz.ze3, tf4, Tryz.ze4, tf9, Tryz.ze9, tf26, Tryz.ze26, pl6_3Rb2, pl6_5Rb2, resP, resPs, resP1]; rfl) | rfl) ⟨6, by repeat' first | exact frz_scalar rfl | apply frz_tuple | apply frz_agg | apply frz_fsl | apply frz_gsl (by omega) | exact frzs_nil | apply frzs_cons⟩ (by first | exact keepsH0 | exact keeps1 (by assumption)) (nw_eq ?_)
    rfl
  | true =>
    rw [h1] at tk
    by_cases h2 : mostL k < (b.length : Int)
    · rw [show frameL k b = ([], 12) by rw [frameL, if_neg (by simp [h1]), if_pos h2]]
      refine fn_H ([Go.ResultVar.tmp 2, Go.ResultVar.tmp 3]) Tryz.func6 rfl rfl (by decide) fun ph hW Q hQ => ?_
      simp only [start, List.length_cons, List.length_nil, List.cons_append, List.nil_append, Nat.reduceAdd, Nat.reduceSub, List.replicate_succ, List.replicate_zero, Tryz.ntmps6]
      repeat' first | simp -implicitDefEqProofs (maxSteps := 400000) (disch := first | with_reducible rfl | omega | (simp only [wkH] <;> omega) | decide) only [wkAll, wkL, popO, wantedP, if_true, if_false, reduceIte, ne_eq, Nat.reduceAdd, Nat.reduceSub, Nat.reduceMul, Nat.reduceLeDiff, Nat.reduceLT, ofCells, ofCell, reduceCtorEq, Int.reduceLE, Int.reduceLT, Int.reduceToNat, Int.reduceAdd, Int.reduceSub, Int.reduceMul, Int.reduceNeg, Int.reduceBEq, Int.reduceBNe, Int.reduceEq, eqCell, eqCells, binP, unP, convP, lenP, builtinP, sliceDataP, unsafeStringP, appendT, appendS, appendP, copyP, srcP, mmsP, mmP, indexOp, indexAddrOp, sliceOp, bndsP, bndP, capw, capCut, loadOp, storeOp, loadP, fieldOp, fieldAddrOp, arrayAtOp, buildP, buildSliceP, makeSliceP, placeF, fillP, setL, PK.agg, isZero, gt_iff_lt, Nat.reducePow, Nat.reduceGT, reps, seg, wkN, if_pos, if_neg, tf3, Tryz.ze3, tf4, Tryz.ze4, tf9, Tryz.ze9, tf26, Tryz.ze26, pl6_3Rb2, pl6_5Rb2, h2, gt_iff_lt] | refine w_pure (tk) ?_ | refine w_pure (tm) ?_ | refine w_drawnF (id := 3) tb6_3Rb2 pl6_3Rb2 17 (by kernel_rfl) (by kernel_rfl) (by simp) ?_ | refine w_drawnF (id := 5) tb6_5Rb2 pl6_5Rb2 26 (by kernel_rfl) (by kernel_rfl) (by simp) ?_
      refine hQ (by first | exact .inr rfl | exact .inl rfl) (by first | exact trivial | exact marks1) (by first | (simp -implicitDefEqProofs (maxSteps := 400000) (disch := first | with_reducible rfl | omega | (simp only [wkH] <;> omega) | decide) only [wkAll, wkL, popO, wantedP, if_true, if_false, reduceIte, ne_eq, Nat.reduceAdd, Nat.reduceSub, Nat.reduceMul, Nat.reduceLeDiff, Nat.reduceLT, ofCells, ofCell, reduceCtorEq, Int.reduceLE, Int.reduceLT, Int.reduceToNat, Int.reduceAdd, Int.reduceSub, Int.reduceMul, Int.reduceNeg, Int.reduceBEq, Int.reduceBNe, Int.reduceEq, eqCell, eqCells, loadOp, storeOp, loadP, setL, PK.agg, isZero, gt_iff_lt, Nat.reducePow, Nat.reduceGT, reps, seg, wkN, if_pos, if_neg, tf3, Tryz.ze3, tf4, Tryz.ze4, tf9, Tryz.ze9, tf26, Tryz.ze26, pl6_3Rb2, pl6_5Rb2, resP, resPs, resP1]; rfl) | rfl) ⟨6, by repeat' first | exact frz_scalar rfl | apply frz_tuple | apply frz_agg | apply frz_fsl | apply frz_gsl (by omega) | exact frzs_nil | apply frzs_cons⟩ (by first | exact keepsH0 | exact keeps1 (by assumption)) (nw_eq ?_)
      rfl
    · rw [show frameL k b = (headL k b.length ++ b, 0) by rw [frameL, if_neg (by simp [h1]), if_neg h2]]
      have hhl : (headL k b.length).length = 5 := rfl
      generalize headL k b.length = hd at *
      have hfit : (hd.length + b.length ≤ 9223372036854775807) = True := by simp; omega
      refine fn_H ([Go.ResultVar.tmp 2, Go.ResultVar.tmp 3]) Tryz.func6 rfl rfl (by decide) fun ph hW Q hQ => ?_
      simp only [start, List.length_cons, List.length_nil, List.cons_append, List.nil_append, Nat.reduceAdd, Nat.reduceSub, List.replicate_succ, List.replicate_zero, Tryz.ntmps6]
      repeat' first | simp -implicitDefEqProofs (maxSteps := 400000) (disch := first | with_reducible rfl | omega | (simp only [wkH] <;> omega) | decide) only [wkAll, wkL, popO, wantedP, if_true, if_false, reduceIte, ne_eq, Nat.reduceAdd, Nat.reduceSub, Nat.reduceMul, Nat.reduceLeDiff, Nat.reduceLT, ofCells, ofCell, reduceCtorEq, Int.reduceLE, Int.reduceLT, Int.reduceToNat, Int.reduceAdd, Int.reduceSub, Int.reduceMul, Int.reduceNeg, Int.reduceBEq, Int.reduceBNe, Int.reduceEq, eqCell, eqCells, binP, unP, convP, lenP, builtinP, sliceDataP, unsafeStringP, appendT, appendS, appendP, copyP, srcP, mmsP, mmP, indexOp, indexAddrOp, sliceOp, bndsP, bndP, capw, capCut, loadOp, storeOp, loadP, fieldOp, fieldAddrOp, arrayAtOp, buildP, buildSliceP, makeSliceP, placeF, fillP, setL, PK.agg, isZero, gt_iff_lt, Nat.reducePow, Nat.reduceGT, reps, seg, wkN, if_pos, if_neg, tf3, Tryz.ze3, tf4, Tryz.ze4, tf9, Tryz.ze9, tf26, Tryz.ze26, pl6_3Rb2, pl6_5Rb2, h2, hfit, gt_iff_lt] | refine w_pure (tk) ?_ | refine w_pure (tm) ?_ | refine w_pure (th) ?_ | refine w_drawnF (id := 3) tb6_3Rb2 pl6_3Rb2 17 (by kernel_rfl) (by kernel_rfl) (by simp) ?_ | refine w_drawnF (id := 5) tb6_5Rb2 pl6_5Rb2 26 (by kernel_rfl) (by kernel_rfl) (by simp) ?_
      refine hQ (by first | exact .inr rfl | exact .inl rfl) (by first | exact trivial | exact marks1) (by first | (simp -implicitDefEqProofs (maxSteps := 400000) (disch := first | with_reducible rfl | omega | (simp only [wkH] <;> omega) | decide) only [wkAll, wkL, popO, wantedP, if_true, if_false, reduceIte, ne_eq, Nat.reduceAdd, Nat.reduceSub, Nat.reduceMul, Nat.reduceLeDiff, Nat.reduceLT, ofCells, ofCell, reduceCtorEq, Int.reduceLE, Int.reduceLT, Int.reduceToNat, Int.reduceAdd, Int.reduceSub, Int.reduceMul, Int.reduceNeg, Int.reduceBEq, Int.reduceBNe, Int.reduceEq, eqCell, eqCells, loadOp, storeOp, loadP, setL, PK.agg, isZero, gt_iff_lt, Nat.reducePow, Nat.reduceGT, reps, seg, wkN, if_pos, if_neg, tf3, Tryz.ze3, tf4, Tryz.ze4, tf9, Tryz.ze9, tf26, Tryz.ze26, pl6_3Rb2, pl6_5Rb2, resP, resPs, resP1]; rfl) | rfl) ⟨6, by repeat' first | exact frz_scalar rfl | apply frz_tuple | apply frz_agg | apply frz_fsl | apply frz_gsl (by omega) | exact frzs_nil | apply frzs_cons⟩ (by first | exact keepsH0 | exact keeps1 (by assumption)) (nw_eq ?_)
      rfl
theorem recLen_ok (k h l : UInt8) (t : List UInt8) (hk : knB (k.toNat : Int) = true) (hn : ((h.toNat * 256 + l.toNat : Nat) : Int) ≤ mostL (k.toNat : Int)) (ht : t.length < 2 ^ 50) : Fn (Cx w0) 14 [.str (k :: 3 :: 3 :: h :: l :: t)] (.tuple [.int .i64 ((h.toNat * 256 + l.toNat : Nat) : Int), .int .i64 0]) := by
  have tk := recKnown_ok (w0 := w0) (k.toNat : Int)
  have tm := recMost_ok (w0 := w0) (k.toNat : Int)
  rw [hk] at tk
  have hn1 : ¬ mostL (k.toNat : Int) < ((h.toNat : Int) * 256) := by omega
  have hn2 : ¬ mostL (k.toNat : Int) < (((h.toNat * 256 + l.toNat : Nat) : Int)) := by omega
  have hor := num_or h l
  obtain ⟨s, hs⟩ : ∃ s, s = k :: 3 :: 3 :: h :: l :: t := ⟨_, rfl⟩
  rw [← hs]
  have hsl : s.length = t.length + 5 := by rw [hs]; simp
  have hmin : (if (5 : Int) < (s.length : Int) then (5 : Int) else (s.length : Int)).toNat = 5 := by split <;> omega
  have h5 : (5 : Int) ≤ (s.length : Int) := by omega
  have h5n : 5 ≤ s.length := by omega
  have htk : s.take 5 = [k, 3, 3, h, l] := by rw [hs]; rfl
  have g0 : s[0]? = some k := by rw [hs]; rfl
  have g3 : s[3]? = some h := by rw [hs]; rfl
  have l0 : (0 : Int) < (s.length : Int) := by omega
  have l3 : (3 : Int) < (s.length : Int) := by omega
  clear hs
  refine fn_H ([Go.ResultVar.tmp 2, Go.ResultVar.tmp 3]) Tryz.func14 rfl rfl (by decide) fun ph hW Q hQ => ?_
  simp only [start, List.length_cons, List.length_nil, List.cons_append, List.nil_append, Nat.reduceAdd, Nat.reduceSub, List.replicate_succ, List.replicate_zero, Tryz.ntmps14]
  repeat' first | simp -implicitDefEqProofs (maxSteps := 400000) (disch := first | with_reducible rfl | omega | (simp only [wkH] <;> omega) | decide) only [wkAll, wkL, popO, wantedP, if_true, if_false, reduceIte, ne_eq, Nat.reduceAdd, Nat.reduceSub, Nat.reduceMul, Nat.reduceLeDiff, Nat.reduceLT, ofCells, ofCell, reduceCtorEq, Int.reduceLE, Int.reduceLT, Int.reduceToNat, Int.reduceAdd, Int.reduceSub, Int.reduceMul, Int.reduceNeg, Int.reduceBEq, Int.reduceBNe, Int.reduceEq, eqCell, eqCells, binP, unP, convP, lenP, builtinP, sliceDataP, unsafeStringP, appendT, appendS, appendP, copyP, srcP, mmsP, mmP, indexOp, indexAddrOp, sliceOp, bndsP, bndP, capw, capCut, loadOp, storeOp, loadP, fieldOp, fieldAddrOp, arrayAtOp, buildP, buildSliceP, makeSliceP, placeF, fillP, setL, PK.agg, isZero, gt_iff_lt, Nat.reducePow, Nat.reduceGT, reps, seg, wkN, if_pos, if_neg, tf3, Tryz.ze3, tf4, Tryz.ze4, tf5, Tryz.ze5, tf9, Tryz.ze9, tf49, Tryz.ze49, h5, h5n, hmin, htk]
  refine w_unr 6 ?_
  have h33 : UInt8.toNat 3 = 3 := rfl
  have h34 : ((3 : Nat) : Int) = 3 := rfl
  repeat' first | simp -implicitDefEqProofs (maxSteps := 400000) (disch := first | with_reducible rfl | omega | (simp only [wkH] <;> omega) | decide) only [wkAll, wkL, popO, wantedP, if_true, if_false, reduceIte, ne_eq, Nat.reduceAdd, Nat.reduceSub, Nat.reduceMul, Nat.reduceLeDiff, Nat.reduceLT, ofCells, ofCell, reduceCtorEq, Int.reduceLE, Int.reduceLT, Int.reduceToNat, Int.reduceAdd, Int.reduceSub, Int.reduceMul, Int.reduceNeg, Int.reduceBEq, Int.reduceBNe, Int.reduceEq, eqCell, eqCells, binP, unP, convP, lenP, builtinP, sliceDataP, unsafeStringP, appendT, appendS, appendP, copyP, srcP, mmsP, mmP, indexOp, indexAddrOp, sliceOp, bndsP, bndP, capw, capCut, loadOp, storeOp, loadP, fieldOp, fieldAddrOp, arrayAtOp, buildP, buildSliceP, makeSliceP, placeF, fillP, setL, PK.agg, isZero, gt_iff_lt, Nat.reducePow, Nat.reduceGT, reps, seg, wkN, if_pos, if_neg, tf3, Tryz.ze3, tf4, Tryz.ze4, tf5, Tryz.ze5, tf9, Tryz.ze9, tf49, Tryz.ze49, unr_succ, g0, g3, l0, l3, hn1, hn2, hor, h33, h34, bne_self_eq_false, gt_iff_lt] | refine w_pure (tk) ?_ | refine w_pure (tm) ?_
  refine hQ (by first | exact .inr rfl | exact .inl rfl) (by first | exact trivial | exact marks1) (by first | (simp -implicitDefEqProofs (maxSteps := 400000) (disch := first | with_reducible rfl | omega | (simp only [wkH] <;> omega) | decide) only [wkAll, wkL, popO, wantedP, if_true, if_false, reduceIte, ne_eq, Nat.reduceAdd, Nat.reduceSub, Nat.reduceMul, Nat.reduceLeDiff, Nat.reduceLT, ofCells, ofCell, reduceCtorEq, Int.reduceLE, Int.reduceLT, Int.reduceToNat, Int.reduceAdd, Int.reduceSub, Int.reduceMul, Int.reduceNeg, Int.reduceBEq, Int.reduceBNe, Int.reduceEq, eqCell, eqCells, loadOp, storeOp, loadP, setL, PK.agg, isZero, gt_iff_lt, Nat.reducePow, Nat.reduceGT, reps, seg, wkN, if_pos, if_neg, tf3, Tryz.ze3, tf4, Tryz.ze4, tf5, Tryz.ze5, tf9, Tryz.ze9, tf49, Tryz.ze49, resP, resPs, resP1]; rfl) | rfl) ⟨6, by repeat' first | exact frz_scalar rfl | apply frz_tuple | apply frz_agg | apply frz_fsl | apply frz_gsl (by omega) | exact frzs_nil | apply frzs_cons⟩ (by first | exact keepsH0 | exact keeps1 (by assumption)) (nw_eq ?_)
  rfl
theorem recLenA_ok : Fn (Cx w0) 14 [.str [23, 3, 4]] (.tuple [.int .i64 0, .int .i64 10]) := by
  have tk := recKnown_ok (w0 := w0) ((23 : Nat) : Int)
  rw [show knB ((23 : Nat) : Int) = true from rfl] at tk
  obtain ⟨s, hs⟩ : ∃ s : List UInt8, s = [23, 3, 4] := ⟨_, rfl⟩
  rw [← hs]
  have hsl : s.length = 3 := by rw [hs]; rfl
  have hmin : (if (5 : Int) < (s.length : Int) then (5 : Int) else (s.length : Int)).toNat = 3 := by rw [hsl]; rfl
  have h5 : ¬ (5 : Int) < (s.length : Int) := by omega
  have htk : s.take 3 = [23, 3, 4] := by rw [hs]; rfl
  clear hs
  refine fn_H ([Go.ResultVar.tmp 2, Go.ResultVar.tmp 3]) Tryz.func14 rfl rfl (by decide) fun ph hW Q hQ => ?_
  simp only [start, List.length_cons, List.length_nil, List.cons_append, List.nil_append, Nat.reduceAdd, Nat.reduceSub, List.replicate_succ, List.replicate_zero, Tryz.ntmps14]
  repeat' first | simp -implicitDefEqProofs (maxSteps := 400000) (disch := first | with_reducible rfl | omega | (simp only [wkH] <;> omega) | decide) only [wkAll, wkL, popO, wantedP, if_true, if_false, reduceIte, ne_eq, Nat.reduceAdd, Nat.reduceSub, Nat.reduceMul, Nat.reduceLeDiff, Nat.reduceLT, ofCells, ofCell, reduceCtorEq, Int.reduceLE, Int.reduceLT, Int.reduceToNat, Int.reduceAdd, Int.reduceSub, Int.reduceMul, Int.reduceNeg, Int.reduceBEq, Int.reduceBNe, Int.reduceEq, eqCell, eqCells, binP, unP, convP, lenP, builtinP, sliceDataP, unsafeStringP, appendT, appendS, appendP, copyP, srcP, mmsP, mmP, indexOp, indexAddrOp, sliceOp, bndsP, bndP, capw, capCut, loadOp, storeOp, loadP, fieldOp, fieldAddrOp, arrayAtOp, buildP, buildSliceP, makeSliceP, placeF, fillP, setL, PK.agg, isZero, gt_iff_lt, Nat.reducePow, Nat.reduceGT, reps, seg, wkN, if_pos, if_neg, tf3, Tryz.ze3, tf4, Tryz.ze4, tf5, Tryz.ze5, tf9, Tryz.ze9, tf49, Tryz.ze49, h5, hmin, hsl, htk]
  refine w_unr 6 ?_
  have h33 : UInt8.toNat 3 = 3 := rfl
  have h34 : ((3 : Nat) : Int) = 3 := rfl
  have h43 : UInt8.toNat 4 = 4 := rfl
  have h44 : (((4 : Nat) : Int) != 3) = true := rfl
  have h23 : UInt8.toNat 23 = 23 := rfl
  repeat' first | simp -implicitDefEqProofs (maxSteps := 400000) (disch := first | with_reducible rfl | omega | (simp only [wkH] <;> omega) | decide) only [wkAll, wkL, popO, wantedP, if_true, if_false, reduceIte, ne_eq, Nat.reduceAdd, Nat.reduceSub, Nat.reduceMul, Nat.reduceLeDiff, Nat.reduceLT, ofCells, ofCell, reduceCtorEq, Int.reduceLE, Int.reduceLT, Int.reduceToNat, Int.reduceAdd, Int.reduceSub, Int.reduceMul, Int.reduceNeg, Int.reduceBEq, Int.reduceBNe, Int.reduceEq, eqCell, eqCells, binP, unP, convP, lenP, builtinP, sliceDataP, unsafeStringP, appendT, appendS, appendP, copyP, srcP, mmsP, mmP, indexOp, indexAddrOp, sliceOp, bndsP, bndP, capw, capCut, loadOp, storeOp, loadP, fieldOp, fieldAddrOp, arrayAtOp, buildP, buildSliceP, makeSliceP, placeF, fillP, setL, PK.agg, isZero, gt_iff_lt, Nat.reducePow, Nat.reduceGT, reps, seg, wkN, if_pos, if_neg, tf3, Tryz.ze3, tf4, Tryz.ze4, tf5, Tryz.ze5, tf9, Tryz.ze9, tf49, Tryz.ze49, unr_succ, h23, h33, h34, h43, h44, bne_self_eq_false, gt_iff_lt] | refine w_pure (tk) ?_
  refine hQ (by first | exact .inr rfl | exact .inl rfl) (by first | exact trivial | exact marks1) (by first | (simp -implicitDefEqProofs (maxSteps := 400000) (disch := first | with_reducible rfl | omega | (simp only [wkH] <;> omega) | decide) only [wkAll, wkL, popO, wantedP, if_true, if_false, reduceIte, ne_eq, Nat.reduceAdd, Nat.reduceSub, Nat.reduceMul, Nat.reduceLeDiff, Nat.reduceLT, ofCells, ofCell, reduceCtorEq, Int.reduceLE, Int.reduceLT, Int.reduceToNat, Int.reduceAdd, Int.reduceSub, Int.reduceMul, Int.reduceNeg, Int.reduceBEq, Int.reduceBNe, Int.reduceEq, eqCell, eqCells, loadOp, storeOp, loadP, setL, PK.agg, isZero, gt_iff_lt, Nat.reducePow, Nat.reduceGT, reps, seg, wkN, if_pos, if_neg, tf3, Tryz.ze3, tf4, Tryz.ze4, tf5, Tryz.ze5, tf9, Tryz.ze9, tf49, Tryz.ze49, resP, resPs, resP1]; rfl) | rfl) ⟨6, by repeat' first | exact frz_scalar rfl | apply frz_tuple | apply frz_agg | apply frz_fsl | apply frz_gsl (by omega) | exact frzs_nil | apply frzs_cons⟩ (by first | exact keepsH0 | exact keeps1 (by assumption)) (nw_eq ?_)
  rfl
theorem recUnframe_ok (K : Int) (b more : List UInt8) (hk : knB K = true) (hn : (b.length : Int) ≤ mostL K) (hm : more.length < 2 ^ 48) : Fn (Cx w0) 7 [.str (headL K b.length ++ b ++ more)] (.tuple [.agg [.int .i64 K, .str b], .str more, .int .i64 0]) := by
  have hK : ((u8 K).toNat : Int) = K := by rcases knB_cases hk with rfl | rfl | rfl <;> rfl
  have hml : mostL K ≤ 16640 := by unfold mostL; split <;> omega
  have hN : ((u8 ((b.length : Int) / 256)).toNat * 256 + (u8 (b.length : Int)).toNat : Nat) = b.length := by
    have h1 := u8_toNat ((b.length : Int) / 256)
    have h2 := u8_toNat (b.length : Int)
    omega
  have tl := recLen_ok (w0 := w0) (u8 K) (u8 ((b.length : Int) / 256)) (u8 (b.length : Int)) (b ++ more) (by rw [hK]; exact hk) (by rw [hN, hK]; exact hn) (by rw [List.length_append]; omega)
  rw [hN] at tl
  have hse : (u8 K :: 3 :: 3 :: u8 ((b.length : Int) / 256) :: u8 (b.length : Int) :: (b ++ more)) = headL K b.length ++ b ++ more := by simp [headL]
  rw [hse] at tl
  obtain ⟨s, hs⟩ : ∃ s, s = headL K b.length ++ b ++ more := ⟨_, rfl⟩
  rw [← hs] at tl ⊢
  have hsl : s.length = 5 + b.length + more.length := by rw [hs]; simp [headL]; omega
  have g0 : s[0]? = some (u8 K) := by rw [hs]; rfl
  have g5 : s.drop 5 = b ++ more := by rw [hs]; rfl
  have g5n : s.drop (5 + b.length) = more := by rw [← List.drop_drop, g5]; simp
  have l0 : (0 : Int) < (s.length : Int) := by omega
  have c0 : ¬ (s.length : Int) < 5 + (b.length : Int) := by omega
  clear hs hse
  refine fn_H ([Go.ResultVar.cell 2 26, Go.ResultVar.tmp 3, Go.ResultVar.tmp 4]) Tryz.func7 rfl rfl (by decide) fun ph hW Q hQ => ?_
  simp only [start, List.length_cons, List.length_nil, List.cons_append, List.nil_append, Nat.reduceAdd, Nat.reduceSub, List.replicate_succ, List.replicate_zero, Tryz.ntmps7]
  have e1 : IntKind.wrap .i64 K = K := IntWalk.i64_in _ (by rcases knB_cases hk with rfl | rfl | rfl <;> decide)
  have e2 : (5 + (b.length : Int)).toNat = 5 + b.length := by omega
  have e3 : List.take (5 + b.length - 5) (List.drop 5 s) = b := by rw [g5, Nat.add_sub_cancel_left]; simp
  have e4 : List.take (s.length - (5 + b.length)) more = more := List.take_of_length_le (by omega)
  repeat' first | simp -implicitDefEqProofs (maxSteps := 400000) (disch := first | with_reducible rfl | omega | (simp only [wkH] <;> omega) | decide) only [wkAll, wkL, popO, wantedP, if_true, if_false, reduceIte, ne_eq, Nat.reduceAdd, Nat.reduceSub, Nat.reduceMul, Nat.reduceLeDiff, Nat.reduceLT, ofCells, ofCell, reduceCtorEq, Int.reduceLE, Int.reduceLT, Int.reduceToNat, Int.reduceAdd, Int.reduceSub, Int.reduceMul, Int.reduceNeg, Int.reduceBEq, Int.reduceBNe, Int.reduceEq, eqCell, eqCells, binP, unP, convP, lenP, builtinP, sliceDataP, unsafeStringP, appendT, appendS, appendP, copyP, srcP, mmsP, mmP, indexOp, indexAddrOp, sliceOp, bndsP, bndP, capw, capCut, loadOp, storeOp, loadP, fieldOp, fieldAddrOp, arrayAtOp, buildP, buildSliceP, makeSliceP, placeF, fillP, setL, PK.agg, isZero, gt_iff_lt, Nat.reducePow, Nat.reduceGT, reps, seg, wkN, if_pos, if_neg, tf3, Tryz.ze3, tf5, Tryz.ze5, tf9, Tryz.ze9, tf26, Tryz.ze26, tf29, Tryz.ze29, pl7_6Rb2, c0, g0, l0, hK, e1, e2, e3, e4, g5n] | refine w_pure (tl) ?_ | refine w_drawnF (id := 6) tb7_6Rb2 pl7_6Rb2 36 (by kernel_rfl) (by kernel_rfl) (by simp) ?_
  refine hQ (by first | exact .inr rfl | exact .inl rfl) (by first | exact trivial | exact marks1) (by first | (simp -implicitDefEqProofs (maxSteps := 400000) (disch := first | with_reducible rfl | omega | (simp only [wkH] <;> omega) | decide) only [wkAll, wkL, popO, wantedP, if_true, if_false, reduceIte, ne_eq, Nat.reduceAdd, Nat.reduceSub, Nat.reduceMul, Nat.reduceLeDiff, Nat.reduceLT, ofCells, ofCell, reduceCtorEq, Int.reduceLE, Int.reduceLT, Int.reduceToNat, Int.reduceAdd, Int.reduceSub, Int.reduceMul, Int.reduceNeg, Int.reduceBEq, Int.reduceBNe, Int.reduceEq, eqCell, eqCells, loadOp, storeOp, loadP, setL, PK.agg, isZero, gt_iff_lt, Nat.reducePow, Nat.reduceGT, reps, seg, wkN, if_pos, if_neg, tf3, Tryz.ze3, tf5, Tryz.ze5, tf9, Tryz.ze9, tf26, Tryz.ze26, tf29, Tryz.ze29, pl7_6Rb2, resP, resPs, resP1]; rfl) | rfl) ⟨6, by repeat' first | exact frz_scalar rfl | apply frz_tuple | apply frz_agg | apply frz_fsl | apply frz_gsl (by omega) | exact frzs_nil | apply frzs_cons⟩ (by first | exact keepsH0 | exact keeps1 (by assumption)) (nw_eq ?_)
  rfl
end Pv

/-! ### sync.Once, at the machine -/
namespace Go.Proofs.OnceW
open Go Go.Proofs

theorem disable (w : World) : (callFunc 105 #[]).run Tryz.prog w = .ok (.value (.tuple #[])) w := run_call_mark0 Tryz.func105 (by kernel_rfl) (by kernel_rfl) (by kernel_rfl) .disable (by kernel_rfl) w
theorem enable (w : World) : (callFunc 107 #[]).run Tryz.prog w = .ok (.value (.tuple #[])) w := run_call_mark0 Tryz.func107 (by kernel_rfl) (by kernel_rfl) (by kernel_rfl) .enable (by kernel_rfl) w
theorem acquire (a : Addr) (w : World) : (callFunc 108 #[.pointer (some a)]).run Tryz.prog w = .ok (.value (.tuple #[])) w := run_call_marked Tryz.func108 (by kernel_rfl) (by kernel_rfl) (by kernel_rfl) .acquire (by kernel_rfl) a w
theorem releaseMerge (a : Addr) (w : World) : (callFunc 110 #[.pointer (some a)]).run Tryz.prog w = .ok (.value (.tuple #[])) w := run_call_marked Tryz.func110 (by kernel_rfl) (by kernel_rfl) (by kernel_rfl) .releaseMerge (by kernel_rfl) a w

set_option maxRecDepth 100000 in
set_option maxHeartbeats 1600000 in
theorem store_deferred (a : Addr) (x : Value) (u : FrameMode) (w : World) (hc : w.cell? a = some x) (hz : w.frozen? a = false) :
    CallsD Tryz.prog 96 #[.pointer (some a), .bool true] u w fun e u' w' => u' = u ∧ (e = .returned (.tuple #[]) ∧ w' = w.drew.setCell a (.int .u32 1)) := by
  have hc' : w.drew.cell? a = some x := by go_simp
  have hz' : w.drew.frozen? a = false := by go_simp
  have hst := run_call_store (P := Tryz.prog) Tryz.func103 (by kernel_rfl) (by kernel_rfl) (by kernel_rfl) (by kernel_rfl) (k := .u32) (y := 1) hc' hz'
  go_enter_d Tryz.func96, Tryz.ntmps96
  go_wp2
  go_region_calls
  all_goals (go_end0; exact ⟨rfl, rfl⟩)

set_option maxRecDepth 100000 in
set_option maxHeartbeats 1600000 in
theorem unlock_deferred (a : Addr) (u : FrameMode) (w : World) (hc : w.cell? a = some (.int .i32 1)) (hz : w.frozen? a = false) :
    CallsD Tryz.prog 95 #[.pointer (some a)] u w fun e u' w' => u' = u ∧ (e = .returned (.tuple #[]) ∧ w' = w.setCell a (.int .i32 0)) := by
  have hd := disable
  have he := enable
  have hr := releaseMerge
  have hadd := run_call_add (P := Tryz.prog) Tryz.func111 (by kernel_rfl) (by kernel_rfl) (by kernel_rfl) .i32 (by kernel_rfl) (y := -1) (s := 0) hc hz (by simp [go_sem]; rfl)
  have hcv := run_convert_to_unsafe (P := Tryz.prog) (src := 184) (dst := 114) Tryz.underlying184 Tryz.underlying114 (by kernel_rfl) hc
  go_enter_d Tryz.func95, Tryz.ntmps95
  go_wp2
  go_end0
  go_wp2
  go_end0
  exact ⟨rfl, rfl⟩

set_option maxRecDepth 100000 in
set_option maxHeartbeats 1600000 in
theorem lock_free (a : Addr) (w : World) (hc : w.cell? a = some (.int .i32 0)) (hz : w.frozen? a = false) :
    Calls Tryz.prog 94 #[.pointer (some a)] w fun e w' => e = .returned (.tuple #[]) ∧ w' = w.setCell a (.int .i32 1) := by
  have hd := disable
  have he := enable
  have ha := acquire
  have hcas := run_call_cas_hit (P := Tryz.prog) Tryz.func106 (by kernel_rfl) (by kernel_rfl) (by kernel_rfl) .i32 (by kernel_rfl) (y := 1) hc hz
  have hc' : (w.setCell a (.int .i32 1)).cell? a = some (.int .i32 1) := World.cell?_setCell_same w a _ hc
  have hcv := run_convert_to_unsafe (P := Tryz.prog) (src := 184) (dst := 114) Tryz.underlying184 Tryz.underlying114 (by kernel_rfl) hc'
  go_enter Tryz.func94, Tryz.ntmps94
  go_wp2
  first | go_end0 | (simp only [Exit.inBlock, Exit.then]; refine bodyPost_ret (results_none rfl _ _ _) rfl ?_) | refine bodyPost_ret (results_none rfl _ _ _) rfl ?_
  go_wp2
  go_end0
  exact ⟨rfl, rfl⟩

/-- What holds of the world behind the function that Do calls. -/
structure Behind (b off : Nat) (K : World → Prop) (w : World) : Prop where
  k : K w
  h0 : w.cell? ⟨b, off, none⟩ = some (.int .u32 0)
  h1 : w.cell? ⟨b, off + 1, none⟩ = some (.int .i32 1)
  f0 : w.frozen? ⟨b, off, none⟩ = false
  f1 : w.frozen? ⟨b, off + 1, none⟩ = false

set_option maxRecDepth 100000 in
set_option maxHeartbeats 1600000 in
theorem slow_any (b off : Nat) (caps : Array Value) (w : World) (K : World → Prop)
    (h0 : w.cell? ⟨b, off, none⟩ = some (.int .u32 0)) (h1 : w.cell? ⟨b, off + 1, none⟩ = some (.int .i32 0))
    (f0 : w.frozen? ⟨b, off, none⟩ = false) (f1 : w.frozen? ⟨b, off + 1, none⟩ = false)
    (hg : Calls Tryz.prog 81 caps (w.setCell ⟨b, off + 1, none⟩ (.int .i32 1)) fun e w' => e = .returned (.tuple #[]) ∧ Behind b off K w') :
    Calls Tryz.prog 87 #[.pointer (some ⟨b, off, none⟩), .func (.func 81) #[] caps] w fun e w' => e = .returned (.tuple #[]) ∧
      ∃ w1, Behind b off K w1 ∧ w' = (w1.drew.setCell ⟨b, off, none⟩ (.int .u32 1)).setCell ⟨b, off + 1, none⟩ (.int .i32 0) := by
  have hl := run_call_load (P := Tryz.prog) Tryz.func93 (by kernel_rfl) (by kernel_rfl) (by kernel_rfl) .u32 (by kernel_rfl) (w := w.setCell ⟨b, off + 1, none⟩ (.int .i32 1)) (a := ⟨b, off, none⟩) (x := 0) ((World.cell?_setCell_other _ ⟨b, off + 1, none⟩ ⟨b, off, none⟩ _ (by simp)).trans h0)
  have hnot : ∀ (x : Bool) (w : World), (Op.unary .not (.bool x)).run Tryz.prog w = .ok (.bool (!x)) w := fun _ _ => rfl
  go_enter_defers Tryz.func87, Tryz.ntmps87
  go_wp2_with (first | (go_at_call 94; refine (lock_free ⟨b, off + 1, none⟩ _ (by go_simp) (by go_simp)).mono ?_; rintro e w' ⟨rfl, rfl⟩) | (go_at_call 81; refine hg.mono ?_; rintro e w1 ⟨rfl, hw1⟩) | (go_at_call 86; go_in))
  -- the two deferred calls, the last laid first
  refine leaves_cons (f := 96) (args := #[.pointer (some ⟨b, off, none⟩), .bool true]) (by simp) (by simp [go_sem]) ?_
  refine (store_deferred ⟨b, off, none⟩ (.int .u32 0) .returning _ hw1.h0 hw1.f0).mono ?_
  rintro e u' w'' ⟨rfl, rfl, rfl⟩
  refine leaves_cons (f := 95) (args := #[.pointer (some ⟨b, off + 1, none⟩)]) (by simp [settle]) (by simp [go_sem]) ?_
  refine (unlock_deferred ⟨b, off + 1, none⟩ _ _ ?_ ?_).mono ?_
  · refine (World.cell?_setCell_other _ ⟨b, off, none⟩ ⟨b, off + 1, none⟩ _ (by simp)).trans ?_
    rw [World.cell?_drew]; exact hw1.h1
  · simp [hw1.f1]
  rintro e u' w'' ⟨rfl, rfl, rfl⟩
  simp [Leaves, settle, results, Tryz.results87]
  exact ⟨w1, hw1, rfl⟩

set_option maxRecDepth 100000 in
set_option maxHeartbeats 1600000 in
/-- '(*sync.Once).Do', not yet done, the lock free. -/
theorem do_first (b off : Nat) (caps : Array Value) (w : World) (K : World → Prop)
    (h0 : w.cell? ⟨b, off, none⟩ = some (.int .u32 0)) (h1 : w.cell? ⟨b, off + 1, none⟩ = some (.int .i32 0))
    (f0 : w.frozen? ⟨b, off, none⟩ = false) (f1 : w.frozen? ⟨b, off + 1, none⟩ = false)
    (hg : Calls Tryz.prog 81 caps (w.setCell ⟨b, off + 1, none⟩ (.int .i32 1)) fun e w' => e = .returned (.tuple #[]) ∧ Behind b off K w') :
    Calls Tryz.prog 80 #[.pointer (some ⟨b, off, none⟩), .func (.func 81) #[] caps] w fun e w' => e = .returned (.tuple #[]) ∧
      ∃ w1, Behind b off K w1 ∧ w' = (w1.drew.setCell ⟨b, off, none⟩ (.int .u32 1)).setCell ⟨b, off + 1, none⟩ (.int .i32 0) := by
  have hl := run_call_load (P := Tryz.prog) Tryz.func93 (by kernel_rfl) (by kernel_rfl) (by kernel_rfl) .u32 (by kernel_rfl) h0
  have hnot : ∀ (x : Bool) (w : World), (Op.unary .not (.bool x)).run Tryz.prog w = .ok (.bool (!x)) w := fun _ _ => rfl
  go_enter Tryz.func80, Tryz.ntmps80
  go_wp2_with (first | (go_at_call 87; refine (slow_any b off caps _ K h0 h1 f0 f1 hg).mono ?_; rintro e w' ⟨rfl, w1, hw1, rfl⟩) | (go_at_call 86; go_in))
  go_end0
  exact ⟨rfl, w1, hw1, rfl⟩

set_option maxRecDepth 100000 in
set_option maxHeartbeats 1600000 in
/-- '(*sync.Once).Do', done already: the function is not called. -/
theorem do_done (a : Addr) (fv : Value) (w : World) (h0 : w.cell? a = some (.int .u32 1)) :
    Calls Tryz.prog 80 #[.pointer (some a), fv] w fun e w' => e = .returned (.tuple #[]) ∧ w' = w := by
  have hl := run_call_load (P := Tryz.prog) Tryz.func93 (by kernel_rfl) (by kernel_rfl) (by kernel_rfl) .u32 (by kernel_rfl) h0
  have hnot : ∀ (x : Bool) (w : World), (Op.unary .not (.bool x)).run Tryz.prog w = .ok (.bool (!x)) w := fun _ _ => rfl
  go_enter Tryz.func80, Tryz.ntmps80
  go_wp2
  go_end0
  exact ⟨rfl, rfl⟩
end Go.Proofs.OnceW

namespace Pv
open Go Go.RowKit
variable {X : Ctx} {G : Ghost} {ph : PH} {w w' : World}

/-! ### Contracts of the kit's shelf, told as functions of their arguments -/
theorem hb_below (h : Below w.heap.size w w') {k : Nat} {o : Obj} (hk : w.heap[k]? = some o) : w'.heap[k]? = some o := by
  have : k < w.heap.size := by
    rcases Nat.lt_or_ge k w.heap.size with h1 | h1
    · exact h1
    · rw [Array.getElem?_eq_none h1] at hk; cases hk
  rw [h.block k this]; exact hk
theorem cell_below (h : Below w.heap.size w w') {a : Addr} {v : Value} (hc : w.cell? a = some v) : w'.cell? a = some v := by
  have : w'.heap[a.block]? = w.heap[a.block]? := by
    rcases Nat.lt_or_ge a.block w.heap.size with h1 | h1
    · exact h.block _ h1
    · exfalso
      unfold World.cell? at hc
      rw [Array.getElem?_eq_none h1] at hc
      cases hc
  unfold World.cell? at hc ⊢
  rw [this]; exact hc
theorem Rel.below_w (h : Rel X G ph w) (hb : Below w.heap.size w w') : Rel X G ph w' := by
  have hX : X.B ≤ w.heap.size := h.below.size
  refine ⟨h.len, h.below.trans (hb.mono hX), ?_, h.disj, ?_, h.fdisj, ?_, ?_, ?_⟩
  · intro p cells hp
    obtain ⟨L, vals, cs, e, fz, hL, o⟩ := h.own p cells hp
    exact ⟨L, vals, cs, e, fz, hL, ⟨o.rv, o.lt, o.ge, hb_below hb o.hb, o.sz, o.fr, o.at_, o.one⟩⟩
  · intro a v ha
    exact ⟨(h.fz a v ha).1, cell_below hb (h.fz a v ha).2⟩
  · intro r o hr
    obtain ⟨h1, h2⟩ := h.ob r o hr
    refine ⟨h1, ?_⟩
    cases o with
    | loop l =>
      obtain ⟨rt, k1, k2⟩ := h2
      exact ⟨rt, k1, hb_below hb k2⟩
    | defd => exact hb_below hb h2
  · intro p e hp
    obtain ⟨L, cs, fz, k1, k2, k3⟩ := h.ty p e hp
    exact ⟨L, cs, fz, k1, k2, hb_below hb k3⟩
  · refine ⟨?_, h.grow.disj, h.grow.new⟩
    intro p sz top e hg
    obtain ⟨x, o⟩ := h.grow.own p sz top e hg
    refine ⟨x, o.loc, o.max, o.nil, ?_⟩
    intro a rcap hx
    have r := o.row a rcap hx
    obtain ⟨cs, fz, k1, k2⟩ := r.hb
    exact ⟨r.sp, r.ge, r.le, r.off, ⟨cs, fz, hb_below hb k1, k2⟩, r.ff, r.own⟩

theorem fn_of_calls {f : FuncId} {fn : Func} {args : List PV} {v : PV} (hf : X.P.funcs[f]? = some fn) (hb : fn.body.isSome = true) (hnm : (fn.name == "runtime.NumGoroutine") = false)
    (h : ∀ (G : Ghost) (w : World) (rargs : List Value), RVs G args rargs → Calls X.P f rargs.toArray w fun e w' => (∃ u, e = .returned u ∧ RV G v u) ∧ Below w.heap.size w w') : Fn X f args v := by
  intro ph G w rargs hr ha
  refine .inr ⟨w, run_enter (P := X.P) (w := w) (args := rargs.toArray) hf hb hnm, (h G w rargs ha).mono ?_⟩
  rintro e w' ⟨⟨u, rfl, hu⟩, hbl⟩
  exact ⟨G, v, ph, (LeN.refl _ _), hr.below_w hbl, hu, Nat.le_refl _, rfl, rfl⟩
end Pv

namespace Pv
open Go Go.Proofs Go.RowKit
variable {w0 : World}

/-! ### sync.Once, told of heaps -/
theorem PH.put_put (ph : PH) (p : Nat) (c d : List PV) : (ph.put p c).put p d = ph.put p d := by simp [PH.put]
theorem own_free {G : Ghost} {X : Ctx} {w : World} {L : Loc} {cells : List PV} {vals : List Value} {cs : Array Value} {e : TypeId} {fz : Nat × Nat} (o : OwnRel X G w L cells vals cs e fz) {k : Nat} (hk : k < vals.length) : w.frozen? ⟨L.b, L.o + k, none⟩ = false := by
  simp only [World.frozen?, o.hb]
  have := o.fr k (by have := o.lt; omega)
  simp only [Bool.and_eq_false_iff, decide_eq_false_iff_not]
  by_cases hx : fz.1 ≤ L.o + k
  · exact .inr fun hy => this ⟨hx, hy⟩
  · exact .inl hx
theorem cell_int {G : Ghost} {vals : List Value} {cells : List PV} (h : RVs G cells vals) {j : Nat} {k : IntKind} {n : Int} (hj : cells[j]? = some (.int k n)) : vals[j]? = some (.int k n) := by
  obtain ⟨v, h1, h2⟩ := h.get j _ hj
  cases h2; exact h1

theorem once_first {ph ph2 : PH} {p o : Nat} {cells cells2 : List PV} {caps : List PV} (hp : ph.get p = some cells) (h0 : cells[o]? = some (.int .u32 0)) (h1 : cells[o + 1]? = some (.int .i32 0))
    (hg : Eff (Cx w0) 81 caps (ph.put p (cells.set (o + 1) (.int .i32 1))) (.tuple []) ph2) (hp2 : ph2.get p = some cells2) (k0 : cells2[o]? = some (.int .u32 0)) (k1 : cells2[o + 1]? = some (.int .i32 1)) (hn : ph2.n = ph.n) :
    Eff (Cx w0) 80 [.ptr p o, .func 81 [] caps] ph (.tuple []) (ph2.put p ((cells2.set o (.int .u32 1)).set (o + 1) (.int .i32 0))) := by
  intro G w rargs hr ha
  have hpn := PH.get_lt hp
  obtain ⟨L, vals, cs, e, fz, hL, ow⟩ := hr.own p cells hp
  cases ha with
  | cons _ a _ aas ha1 ha2 =>
  cases ha2 with
  | cons _ b _ bs hb1 hb2 =>
  cases hb2
  cases ha1 with
  | ptr _ _ L' hL' =>
  rw [hL] at hL'; cases hL'
  cases hb1 with
  | func _ _ _ rf rc hrf hrc =>
  cases hrf
  have v0 := cell_int ow.rv h0
  have v1 := cell_int ow.rv h1
  have c0 := ow.cell v0
  have c1 := ow.cell v1
  have l0 := (List.getElem?_eq_some_iff.1 v0).1
  have l1 := (List.getElem?_eq_some_iff.1 v1).1
  have f0 := own_free ow l0
  have f1 := own_free ow l1
  have hr1 := (hr.store1 hp hL (k := o + 1) (c := .int .i32 1) (v := .int .i32 1) (by rw [ow.rv.length]; exact l1) (.int _ _) rfl).2
  have ea : L.o + (o + 1) = L.o + o + 1 := (Nat.add_assoc _ _ _).symm
  rw [ea] at c1 f1 hr1
  refine .inr ⟨w, run_enter (P := Tryz.prog) Tryz.func80 rfl (by kernel_rfl), ?_⟩
  have hgc : Calls Tryz.prog 81 rc.toArray (w.setCell ⟨L.b, L.o + o + 1, none⟩ (.int .i32 1)) fun e w' => e = .returned (.tuple #[]) ∧
      Go.Proofs.OnceW.Behind L.b (L.o + o) (fun w' => ∃ G', LeN ph.n G G' ∧ Rel (Cx w0) G' ph2 w') w' := by
    have hen := run_enter (P := Tryz.prog) (w := w.setCell ⟨L.b, L.o + o + 1, none⟩ (.int .i32 1)) (args := rc.toArray) Tryz.func81 rfl (by kernel_rfl)
    rcases hg G _ rc hr1 hrc with ⟨v, w', he, _⟩ | ⟨w', he, hc⟩
    · have := hen.symm.trans he; cases this
    · have := hen.symm.trans he
      cases this
      refine hc.mono ?_
      intro e w' he
      cases e with
      | returned v =>
        obtain ⟨G', pv, ph', g1, g2, g3, g4, rfl, rfl⟩ := he
        have hv : v = .tuple #[] := by
          cases g3 with | tuple _ vs h => cases h; rfl
        subst hv
        rw [PH.n_put] at g1
        obtain ⟨L2, vals2, cs2, e2, fz2, hL2, ow2⟩ := g2.own p cells2 hp2
        have := g1.l p L hpn hL
        rw [hL2] at this; cases this
        have u0 := cell_int ow2.rv k0
        have u1 := cell_int ow2.rv k1
        have d1 := ow2.cell u1
        have e1 := own_free ow2 (List.getElem?_eq_some_iff.1 u1).1
        rw [ea] at d1 e1
        exact ⟨rfl, ⟨⟨G', g1, g2⟩, ow2.cell u0, d1, own_free ow2 (List.getElem?_eq_some_iff.1 u0).1, e1⟩⟩
      | _ => exact he.elim
  refine (Go.Proofs.OnceW.do_first L.b (L.o + o) rc.toArray w _ c0 c1 f0 f1 hgc).mono ?_
  rintro e w' ⟨rfl, w1, hw1, rfl⟩
  obtain ⟨G', g1, g2⟩ := hw1.k
  have hL2 := g1.l p L hpn hL
  have hd := g2.drew
  obtain ⟨_, vals2, _, _, _, hL3, ow2⟩ := g2.own p cells2 hp2
  rw [hL2] at hL3; cases hL3
  have hl2 := ow2.rv.length
  have m0 := (List.getElem?_eq_some_iff.1 k0).1
  have m1 := (List.getElem?_eq_some_iff.1 k1).1
  have s1 := (hd.store1 hp2 hL2 (k := o) (c := .int .u32 1) (v := .int .u32 1) m0 (.int _ _) rfl).2
  have hp3 : (ph2.put p (cells2.set o (.int .u32 1))).get p = some (cells2.set o (.int .u32 1)) := by rw [PH.get_put (PH.get_lt hp2), if_pos rfl]
  have s2 := (s1.store1 hp3 hL2 (k := o + 1) (c := .int .i32 0) (v := .int .i32 0) (by rw [List.length_set]; exact m1) (.int _ _) rfl).2
  rw [ea, PH.put_put] at s2
  exact ⟨G', .tuple [], _, g1, s2, .tuple [] [] .nil, by rw [PH.n_put, hn]; exact Nat.le_refl _, rfl, rfl⟩

theorem once_done {ph : PH} {p o : Nat} {cells : List PV} {f : PV} (hp : ph.get p = some cells) (h0 : cells[o]? = some (.int .u32 1)) :
    Eff (Cx w0) 80 [.ptr p o, f] ph (.tuple []) ph := by
  intro G w rargs hr ha
  obtain ⟨L, vals, cs, e, fz, hL, ow⟩ := hr.own p cells hp
  cases ha with
  | cons _ a _ aas ha1 ha2 =>
  cases ha2 with
  | cons _ b _ bs hb1 hb2 =>
  cases hb2
  cases ha1 with
  | ptr _ _ L' hL' =>
  rw [hL] at hL'; cases hL'
  have c0 := ow.cell (cell_int ow.rv h0)
  refine .inr ⟨w, run_enter (P := Tryz.prog) Tryz.func80 rfl (by kernel_rfl), ?_⟩
  refine (Go.Proofs.OnceW.do_done ⟨L.b, L.o + o, none⟩ _ w c0).mono ?_
  rintro e w' ⟨rfl, rfl⟩
  exact ⟨G, .tuple [], ph, .refl _ _, hr, .tuple [] [] .nil, Nat.le_refl _, rfl, rfl⟩
end Pv

--nosplit
--keep2
namespace Pv
set_option maxRecDepth 20000
set_option maxHeartbeats 4000000
open Go Go.Proofs Go.RowKit
variable {w0 : World}

/-! ### sync/atomic, told of heaps -/
theorem store64_ok {ph : PH} {p o : Nat} {cells : List PV} {x y : Int} (hp : ph.get p = some cells) (h0 : cells[o]? = some (.int .u64 x)) :
    Eff (Cx w0) 41 [.ptr p o, .int .u64 y] ph (.tuple []) (ph.put p (cells.set o (.int .u64 y))) := by
  intro G w rargs hr ha
  obtain ⟨L, vals, cs, e, fz, hL, ow⟩ := hr.own p cells hp
  cases ha with
  | cons _ a _ aas ha1 ha2 =>
  cases ha2 with
  | cons _ b _ bs hb1 hb2 =>
  cases hb2
  cases ha1 with
  | ptr _ _ L' hL' =>
  rw [hL] at hL'; cases hL'
  cases hb1
  have v0 := cell_int ow.rv h0
  have c0 := ow.cell v0
  have l0 := (List.getElem?_eq_some_iff.1 v0).1
  have f0 := own_free ow l0
  have hr1 := (hr.store1 hp hL (k := o) (c := .int .u64 y) (v := .int .u64 y) (by rw [ow.rv.length]; exact l0) (.int _ _) rfl).2
  refine .inl ⟨_, _, run_call_store (P := Tryz.prog) Tryz.func41 (by kernel_rfl) (by kernel_rfl) (by kernel_rfl) (by kernel_rfl) (k := .u64) (y := y) c0 f0, ?_⟩
  exact ⟨G, .tuple [], _, .refl _ _, hr1, .tuple [] [] .nil, by rw [PH.n_put]; exact Nat.le_refl _, rfl, rfl⟩
theorem add64_ok {ph : PH} {p o : Nat} {cells : List PV} {x s : Int} (hp : ph.get p = some cells) (h0 : cells[o]? = some (.int .u64 x)) (hs : IntKind.wrap .u64 (x + 1) = s) :
    Eff (Cx w0) 51 [.ptr p o, .int .u64 1] ph (.int .u64 s) (ph.put p (cells.set o (.int .u64 s))) := by
  intro G w rargs hr ha
  obtain ⟨L, vals, cs, e, fz, hL, ow⟩ := hr.own p cells hp
  cases ha with
  | cons _ a _ aas ha1 ha2 =>
  cases ha2 with
  | cons _ b _ bs hb1 hb2 =>
  cases hb2
  cases ha1 with
  | ptr _ _ L' hL' =>
  rw [hL] at hL'; cases hL'
  cases hb1
  have v0 := cell_int ow.rv h0
  have c0 := ow.cell v0
  have l0 := (List.getElem?_eq_some_iff.1 v0).1
  have f0 := own_free ow l0
  have hr1 := (hr.store1 hp hL (k := o) (c := .int .u64 s) (v := .int .u64 s) (by rw [ow.rv.length]; exact l0) (.int _ _) rfl).2
  refine .inl ⟨_, _, run_call_add (P := Tryz.prog) Tryz.func51 (by kernel_rfl) (by kernel_rfl) (by kernel_rfl) .u64 (by kernel_rfl) (y := 1) (s := s) c0 f0 (by rw [← hs]; simp [go_sem]), ?_⟩
  exact ⟨G, .int .u64 s, _, .refl _ _, hr1, .int _ _, by rw [PH.n_put]; exact Nat.le_refl _, rfl, rfl⟩
end Pv

namespace Pv
open Go Go.RowKit

theorem bytesPV_setb (l : List UInt8) (i : Nat) (b : UInt8) : (bytesPV l).set i (.int .u8 (b.toNat : Int)) = bytesPV (l.set i b) := by simp [bytesPV, List.map_set]
theorem wrap_u8n (n : Nat) : IntKind.wrap .u8 (n : Int) = ((UInt8.ofNat n).toNat : Int) := by
  simp [IntKind.wrap, IntKind.bits, IntKind.signed]
end Pv
