/- Part of the proof: the layer of pure values, or walks through functions (PvGc7, PvEntry, PvEntry2, PvEntry3, PvAe14, PvAe15). -/
import Derived.Test.YtbocckencbkdeaaGreatPvGc6
import Derived.Test.YtbocckencbkdeaaGreatPvNum
import Derived.ProofKit
import Derived.Carry
import Derived.SizedLaws
import Derived.ChangeArms
import Derived.Test.YtbocckencbkdeaaGreatPvAe13
set_option linter.all false
--nosplit
--keep2
namespace Pv
set_option maxRecDepth 20000
set_option maxHeartbeats 4000000
open Go Go.Proofs Go.RowKit
def tb12_11Gc7 : Tab := [[], [], [], [1, 2], [0, 1, 2, 3], [0, 1, 2, 3, 4], [0, 1, 2, 3, 4, 5]]
def pl12_11Gc7 : Plan := [(0, true, []), (1, true, []), (2, true, []), (3, true, []), (4, false, []), (5, false, []), (6, false, [])]
def tb12_9Gc7 : Tab := [[], [], [], [], [2, 3], [0, 1, 2, 3, 4], [], [], [6, 7], [0, 1, 2, 3, 4, 5, 6, 7, 8], [0, 1, 2, 3, 4, 5, 6, 7, 8, 9], [0, 1, 2, 3, 4, 5, 6, 7, 8, 9, 10]]
def pl12_9Gc7 : Plan := [(0, true, []), (1, true, []), (2, true, []), (3, true, []), (4, true, []), (6, true, []), (7, true, []), (8, true, []), (5, false, [6, 7, 8]), (9, false, []), (10, true, []), (11, false, [])]
variable {w0 : World}

theorem gcSeal_ok (key nonce ad s : List UInt8) (had : ad.length < 2 ^ 50) : Fn (Cx w0) 10 [.str key, .str nonce, .str ad, .str s] (.tuple [.str (sealG key nonce ad s).1, .int .i64 (sealG key nonce ad s).2]) := by
  by_cases hk : goodK key
  · by_cases hn : nonce.length = 12
    · have bg := gcBegin_ok (w0 := w0) key nonce hk hn
      by_cases hl : 65536 < s.length
      · rw [show sealG key nonce ad s = ([], 12) by rw [sealG, if_neg (by simpa using hk), if_neg (by simpa using hn), if_pos hl]]
        have hl' : (65536 : Int) < (s.length : Int) := by omega
        refine fn_H ([Go.ResultVar.tmp 8, Go.ResultVar.tmp 9]) Tryz.func10 rfl rfl (by decide) fun ph hW Q hQ => ?_
        simp only [start, List.length_cons, List.length_nil, List.cons_append, List.nil_append, Nat.reduceAdd, Nat.reduceSub, List.replicate_succ, List.replicate_zero, Tryz.ntmps10]
        repeat' first
        | simp -implicitDefEqProofs (maxSteps := 400000) (disch := first | with_reducible rfl | omega | (simp only [h_n, PH.n_push, PH.n_put, List.length_cons, List.length_nil] <;> omega) | decide) only [wkAll, wkL, popO, wantedP, if_true, if_false, reduceIte, ne_eq, Nat.reduceAdd, Nat.reduceSub, Nat.reduceMul, Nat.reduceLeDiff, Nat.reduceLT, ofCells, ofCell, reduceCtorEq, Int.reduceLE, Int.reduceLT, Int.reduceToNat, Int.reduceAdd, Int.reduceSub, Int.reduceMul, Int.reduceNeg, Int.reduceBEq, Int.reduceBNe, Int.reduceEq, eqCell, eqCells, binP, unP, convP, lenP, builtinP, sliceDataP, unsafeStringP, appendT, appendS, appendP, copyP, srcP, mmsP, mmP, indexOp, indexAddrOp, sliceOp, bndsP, bndP, capw, capCut, loadOp, storeOp, loadP, fieldOp, fieldAddrOp, arrayAtOp, buildP, buildSliceP, makeSliceP, placeF, fillP, setL, PK.agg, isZero, gt_iff_lt, Nat.reducePow, Nat.reduceGT, reps, seg, wkN, if_pos, if_neg, tf3, Tryz.ze3, tf9, Tryz.ze9, tf24, Tryz.ze24, tf46, Tryz.ze46, gt_iff_lt, hl']
        | refine w_pure (bg) ?_
        refine hQ (by first | exact .inr rfl | exact .inl rfl) (by first | exact trivial | exact marks1) (by first | (simp -implicitDefEqProofs (maxSteps := 400000) (disch := first | with_reducible rfl | omega | (simp only [h_n, PH.n_push, PH.n_put, List.length_cons, List.length_nil] <;> omega) | decide) only [wkAll, wkL, popO, wantedP, if_true, if_false, reduceIte, ne_eq, Nat.reduceAdd, Nat.reduceSub, Nat.reduceMul, Nat.reduceLeDiff, Nat.reduceLT, ofCells, ofCell, reduceCtorEq, Int.reduceLE, Int.reduceLT, Int.reduceToNat, Int.reduceAdd, Int.reduceSub, Int.reduceMul, Int.reduceNeg, Int.reduceBEq, Int.reduceBNe, Int.reduceEq, eqCell, eqCells, binP, unP, convP, lenP, builtinP, sliceDataP, unsafeStringP, appendT, appendS, appendP, copyP, srcP, mmsP, mmP, indexOp, indexAddrOp, sliceOp, bndsP, bndP, capw, capCut, loadOp, storeOp, loadP, fieldOp, fieldAddrOp, arrayAtOp, buildP, buildSliceP, makeSliceP, placeF, fillP, setL, PK.agg, isZero, gt_iff_lt, Nat.reducePow, Nat.reduceGT, reps, seg, wkN, if_pos, if_neg, tf3, Tryz.ze3, tf9, Tryz.ze9, tf24, Tryz.ze24, tf46, Tryz.ze46, resP, resPs, resP1]; rfl) | rfl) ⟨6, by repeat' first | exact frz_scalar rfl | apply frz_tuple | apply frz_agg | apply frz_fsl | apply frz_gsl (by omega) | exact frzs_nil | apply frzs_cons⟩ (by first | exact keepsH0 | exact keeps1 (by assumption)) (nw_eq ?_)
        rfl
      · rw [show sealG key nonce ad s = (gcS (wordsL key) nonce s ++ gcT (wordsL key) nonce ad (gcS (wordsL key) nonce s), 0) by rw [sealG, if_neg (by simpa using hk), if_neg (by simpa using hn), if_neg hl]]
        have hl' : ¬ (65536 : Int) < (s.length : Int) := by omega
        have hw := words16 hk
        have st := gcStream_ok (w0 := w0) key nonce (gcH (wordsL key)) (gcM (wordsL key) nonce) s hk hn (by omega)
        have hsl := gcS_len hw hn s
        have tg := gcTag_ok (w0 := w0) key nonce (gcH (wordsL key)) (gcM (wordsL key) nonce) ad (gcS (wordsL key) nonce s) (gcH_len hw) (gcM_len hw hn) had (by omega)
        have htl := gcT_len hw hn ad (gcS (wordsL key) nonce s)
        rw [show xorB (elT (ghs (elB (gcH (wordsL key))) ad (gcS (wordsL key) nonce s))) (gcM (wordsL key) nonce) = gcT (wordsL key) nonce ad (gcS (wordsL key) nonce s) from rfl] at tg
        generalize gcT (wordsL key) nonce ad (gcS (wordsL key) nonce s) = t at *
        generalize gcS (wordsL key) nonce s = c at *
        generalize gcH (wordsL key) = h1 at *
        generalize gcM (wordsL key) nonce = m1 at *
        have hcat : (c.length + t.length ≤ 9223372036854775807) = True := by rw [eq_iff_iff, iff_true]; omega
        refine fn_H ([Go.ResultVar.tmp 8, Go.ResultVar.tmp 9]) Tryz.func10 rfl rfl (by decide) fun ph hW Q hQ => ?_
        simp only [start, List.length_cons, List.length_nil, List.cons_append, List.nil_append, Nat.reduceAdd, Nat.reduceSub, List.replicate_succ, List.replicate_zero, Tryz.ntmps10]
        repeat' first
        | simp -implicitDefEqProofs (maxSteps := 400000) (disch := first | with_reducible rfl | omega | (simp only [h_n, PH.n_push, PH.n_put, List.length_cons, List.length_nil] <;> omega) | decide) only [wkAll, wkL, popO, wantedP, if_true, if_false, reduceIte, ne_eq, Nat.reduceAdd, Nat.reduceSub, Nat.reduceMul, Nat.reduceLeDiff, Nat.reduceLT, ofCells, ofCell, reduceCtorEq, Int.reduceLE, Int.reduceLT, Int.reduceToNat, Int.reduceAdd, Int.reduceSub, Int.reduceMul, Int.reduceNeg, Int.reduceBEq, Int.reduceBNe, Int.reduceEq, eqCell, eqCells, binP, unP, convP, lenP, builtinP, sliceDataP, unsafeStringP, appendT, appendS, appendP, copyP, srcP, mmsP, mmP, indexOp, indexAddrOp, sliceOp, bndsP, bndP, capw, capCut, loadOp, storeOp, loadP, fieldOp, fieldAddrOp, arrayAtOp, buildP, buildSliceP, makeSliceP, placeF, fillP, setL, PK.agg, isZero, gt_iff_lt, Nat.reducePow, Nat.reduceGT, reps, seg, wkN, if_pos, if_neg, tf3, Tryz.ze3, tf9, Tryz.ze9, tf24, Tryz.ze24, tf46, Tryz.ze46, gt_iff_lt, hl', hcat]
        | refine w_pure (bg) ?_
        | refine w_pure (st) ?_
        | refine w_pure (tg) ?_
        refine hQ (by first | exact .inr rfl | exact .inl rfl) (by first | exact trivial | exact marks1) (by first | (simp -implicitDefEqProofs (maxSteps := 400000) (disch := first | with_reducible rfl | omega | (simp only [h_n, PH.n_push, PH.n_put, List.length_cons, List.length_nil] <;> omega) | decide) only [wkAll, wkL, popO, wantedP, if_true, if_false, reduceIte, ne_eq, Nat.reduceAdd, Nat.reduceSub, Nat.reduceMul, Nat.reduceLeDiff, Nat.reduceLT, ofCells, ofCell, reduceCtorEq, Int.reduceLE, Int.reduceLT, Int.reduceToNat, Int.reduceAdd, Int.reduceSub, Int.reduceMul, Int.reduceNeg, Int.reduceBEq, Int.reduceBNe, Int.reduceEq, eqCell, eqCells, binP, unP, convP, lenP, builtinP, sliceDataP, unsafeStringP, appendT, appendS, appendP, copyP, srcP, mmsP, mmP, indexOp, indexAddrOp, sliceOp, bndsP, bndP, capw, capCut, loadOp, storeOp, loadP, fieldOp, fieldAddrOp, arrayAtOp, buildP, buildSliceP, makeSliceP, placeF, fillP, setL, PK.agg, isZero, gt_iff_lt, Nat.reducePow, Nat.reduceGT, reps, seg, wkN, if_pos, if_neg, tf3, Tryz.ze3, tf9, Tryz.ze9, tf24, Tryz.ze24, tf46, Tryz.ze46, resP, resPs, resP1]; rfl) | rfl) ⟨6, by repeat' first | exact frz_scalar rfl | apply frz_tuple | apply frz_agg | apply frz_fsl | apply frz_gsl (by omega) | exact frzs_nil | apply frzs_cons⟩ (by first | exact keepsH0 | exact keeps1 (by assumption)) (nw_eq ?_)
        rfl
    · rw [show sealG key nonce ad s = ([], 10) by rw [sealG, if_neg (by simpa using hk), if_pos hn]]
      have bg := gcBegin_no (w0 := w0) key nonce 10 (.inr ⟨hk, hn, rfl⟩)
      refine fn_H ([Go.ResultVar.tmp 8, Go.ResultVar.tmp 9]) Tryz.func10 rfl rfl (by decide) fun ph hW Q hQ => ?_
      simp only [start, List.length_cons, List.length_nil, List.cons_append, List.nil_append, Nat.reduceAdd, Nat.reduceSub, List.replicate_succ, List.replicate_zero, Tryz.ntmps10]
      repeat' first
      | simp -implicitDefEqProofs (maxSteps := 400000) (disch := first | with_reducible rfl | omega | (simp only [h_n, PH.n_push, PH.n_put, List.length_cons, List.length_nil] <;> omega) | decide) only [wkAll, wkL, popO, wantedP, if_true, if_false, reduceIte, ne_eq, Nat.reduceAdd, Nat.reduceSub, Nat.reduceMul, Nat.reduceLeDiff, Nat.reduceLT, ofCells, ofCell, reduceCtorEq, Int.reduceLE, Int.reduceLT, Int.reduceToNat, Int.reduceAdd, Int.reduceSub, Int.reduceMul, Int.reduceNeg, Int.reduceBEq, Int.reduceBNe, Int.reduceEq, eqCell, eqCells, binP, unP, convP, lenP, builtinP, sliceDataP, unsafeStringP, appendT, appendS, appendP, copyP, srcP, mmsP, mmP, indexOp, indexAddrOp, sliceOp, bndsP, bndP, capw, capCut, loadOp, storeOp, loadP, fieldOp, fieldAddrOp, arrayAtOp, buildP, buildSliceP, makeSliceP, placeF, fillP, setL, PK.agg, isZero, gt_iff_lt, Nat.reducePow, Nat.reduceGT, reps, seg, wkN, if_pos, if_neg, tf3, Tryz.ze3, tf9, Tryz.ze9, tf24, Tryz.ze24, tf46, Tryz.ze46]
      | refine w_pure (bg) ?_
      refine hQ (by first | exact .inr rfl | exact .inl rfl) (by first | exact trivial | exact marks1) (by first | (simp -implicitDefEqProofs (maxSteps := 400000) (disch := first | with_reducible rfl | omega | (simp only [h_n, PH.n_push, PH.n_put, List.length_cons, List.length_nil] <;> omega) | decide) only [wkAll, wkL, popO, wantedP, if_true, if_false, reduceIte, ne_eq, Nat.reduceAdd, Nat.reduceSub, Nat.reduceMul, Nat.reduceLeDiff, Nat.reduceLT, ofCells, ofCell, reduceCtorEq, Int.reduceLE, Int.reduceLT, Int.reduceToNat, Int.reduceAdd, Int.reduceSub, Int.reduceMul, Int.reduceNeg, Int.reduceBEq, Int.reduceBNe, Int.reduceEq, eqCell, eqCells, binP, unP, convP, lenP, builtinP, sliceDataP, unsafeStringP, appendT, appendS, appendP, copyP, srcP, mmsP, mmP, indexOp, indexAddrOp, sliceOp, bndsP, bndP, capw, capCut, loadOp, storeOp, loadP, fieldOp, fieldAddrOp, arrayAtOp, buildP, buildSliceP, makeSliceP, placeF, fillP, setL, PK.agg, isZero, gt_iff_lt, Nat.reducePow, Nat.reduceGT, reps, seg, wkN, if_pos, if_neg, tf3, Tryz.ze3, tf9, Tryz.ze9, tf24, Tryz.ze24, tf46, Tryz.ze46, resP, resPs, resP1]; rfl) | rfl) ⟨6, by repeat' first | exact frz_scalar rfl | apply frz_tuple | apply frz_agg | apply frz_fsl | apply frz_gsl (by omega) | exact frzs_nil | apply frzs_cons⟩ (by first | exact keepsH0 | exact keeps1 (by assumption)) (nw_eq ?_)
      rfl
  · rw [show sealG key nonce ad s = ([], 13) by rw [sealG, if_pos hk]]
    have bg := gcBegin_no (w0 := w0) key nonce 13 (.inl ⟨hk, rfl⟩)
    refine fn_H ([Go.ResultVar.tmp 8, Go.ResultVar.tmp 9]) Tryz.func10 rfl rfl (by decide) fun ph hW Q hQ => ?_
    simp only [start, List.length_cons, List.length_nil, List.cons_append, List.nil_append, Nat.reduceAdd, Nat.reduceSub, List.replicate_succ, List.replicate_zero, Tryz.ntmps10]
    repeat' first
    | simp -implicitDefEqProofs (maxSteps := 400000) (disch := first | with_reducible rfl | omega | (simp only [h_n, PH.n_push, PH.n_put, List.length_cons, List.length_nil] <;> omega) | decide) only [wkAll, wkL, popO, wantedP, if_true, if_false, reduceIte, ne_eq, Nat.reduceAdd, Nat.reduceSub, Nat.reduceMul, Nat.reduceLeDiff, Nat.reduceLT, ofCells, ofCell, reduceCtorEq, Int.reduceLE, Int.reduceLT, Int.reduceToNat, Int.reduceAdd, Int.reduceSub, Int.reduceMul, Int.reduceNeg, Int.reduceBEq, Int.reduceBNe, Int.reduceEq, eqCell, eqCells, binP, unP, convP, lenP, builtinP, sliceDataP, unsafeStringP, appendT, appendS, appendP, copyP, srcP, mmsP, mmP, indexOp, indexAddrOp, sliceOp, bndsP, bndP, capw, capCut, loadOp, storeOp, loadP, fieldOp, fieldAddrOp, arrayAtOp, buildP, buildSliceP, makeSliceP, placeF, fillP, setL, PK.agg, isZero, gt_iff_lt, Nat.reducePow, Nat.reduceGT, reps, seg, wkN, if_pos, if_neg, tf3, Tryz.ze3, tf9, Tryz.ze9, tf24, Tryz.ze24, tf46, Tryz.ze46]
    | refine w_pure (bg) ?_
    refine hQ (by first | exact .inr rfl | exact .inl rfl) (by first | exact trivial | exact marks1) (by first | (simp -implicitDefEqProofs (maxSteps := 400000) (disch := first | with_reducible rfl | omega | (simp only [h_n, PH.n_push, PH.n_put, List.length_cons, List.length_nil] <;> omega) | decide) only [wkAll, wkL, popO, wantedP, if_true, if_false, reduceIte, ne_eq, Nat.reduceAdd, Nat.reduceSub, Nat.reduceMul, Nat.reduceLeDiff, Nat.reduceLT, ofCells, ofCell, reduceCtorEq, Int.reduceLE, Int.reduceLT, Int.reduceToNat, Int.reduceAdd, Int.reduceSub, Int.reduceMul, Int.reduceNeg, Int.reduceBEq, Int.reduceBNe, Int.reduceEq, eqCell, eqCells, binP, unP, convP, lenP, builtinP, sliceDataP, unsafeStringP, appendT, appendS, appendP, copyP, srcP, mmsP, mmP, indexOp, indexAddrOp, sliceOp, bndsP, bndP, capw, capCut, loadOp, storeOp, loadP, fieldOp, fieldAddrOp, arrayAtOp, buildP, buildSliceP, makeSliceP, placeF, fillP, setL, PK.agg, isZero, gt_iff_lt, Nat.reducePow, Nat.reduceGT, reps, seg, wkN, if_pos, if_neg, tf3, Tryz.ze3, tf9, Tryz.ze9, tf24, Tryz.ze24, tf46, Tryz.ze46, resP, resPs, resP1]; rfl) | rfl) ⟨6, by repeat' first | exact frz_scalar rfl | apply frz_tuple | apply frz_agg | apply frz_fsl | apply frz_gsl (by omega) | exact frzs_nil | apply frzs_cons⟩ (by first | exact keepsH0 | exact keeps1 (by assumption)) (nw_eq ?_)
    rfl
theorem gcOpen_ok (key nonce ad s : List UInt8) (had : ad.length < 2 ^ 50) (hs0 : s.length < 2 ^ 50) : Fn (Cx w0) 12 [.str key, .str nonce, .str ad, .str s] (.tuple [.str (openG key nonce ad s).1, .int .i64 (openG key nonce ad s).2]) := by
  by_cases hk : goodK key
  · by_cases hn : nonce.length = 12
    · have bg := gcBegin_ok (w0 := w0) key nonce hk hn
      by_cases hs : s.length < 16
      · rw [show openG key nonce ad s = ([], 11) by rw [openG, if_neg (by simpa using hk), if_neg (by simpa using hn), if_pos hs]]
        have hl' : (s.length : Int) - 16 < 0 := by omega
        refine fn_H ([Go.ResultVar.tmp 8, Go.ResultVar.tmp 9]) Tryz.func12 rfl rfl (by decide) fun ph hW Q hQ => ?_
        simp only [start, List.length_cons, List.length_nil, List.cons_append, List.nil_append, Nat.reduceAdd, Nat.reduceSub, List.replicate_succ, List.replicate_zero, Tryz.ntmps12]
        repeat' first
        | simp -implicitDefEqProofs (maxSteps := 400000) (disch := first | with_reducible rfl | omega | (simp only [h_n, PH.n_push, PH.n_put, List.length_cons, List.length_nil] <;> omega) | decide) only [wkAll, wkL, popO, wantedP, if_true, if_false, reduceIte, ne_eq, Nat.reduceAdd, Nat.reduceSub, Nat.reduceMul, Nat.reduceLeDiff, Nat.reduceLT, ofCells, ofCell, reduceCtorEq, Int.reduceLE, Int.reduceLT, Int.reduceToNat, Int.reduceAdd, Int.reduceSub, Int.reduceMul, Int.reduceNeg, Int.reduceBEq, Int.reduceBNe, Int.reduceEq, eqCell, eqCells, binP, unP, convP, lenP, builtinP, sliceDataP, unsafeStringP, appendT, appendS, appendP, copyP, srcP, mmsP, mmP, indexOp, indexAddrOp, sliceOp, bndsP, bndP, capw, capCut, loadOp, storeOp, loadP, fieldOp, fieldAddrOp, arrayAtOp, buildP, buildSliceP, makeSliceP, placeF, fillP, setL, PK.agg, isZero, gt_iff_lt, Nat.reducePow, Nat.reduceGT, reps, seg, wkN, if_pos, if_neg, tf3, Tryz.ze3, tf4, Tryz.ze4, tf9, Tryz.ze9, tf24, Tryz.ze24, tf46, Tryz.ze46, pl12_9Gc7, pl12_11Gc7, gt_iff_lt, hl']
        | refine w_pure (bg) ?_
        | refine w_drawnF (id := 9) tb12_9Gc7 pl12_9Gc7 44 (by kernel_rfl) (by kernel_rfl) (by simp) ?_
        | refine w_drawnF (id := 11) tb12_11Gc7 pl12_11Gc7 49 (by kernel_rfl) (by kernel_rfl) (by simp) ?_
        refine hQ (by first | exact .inr rfl | exact .inl rfl) (by first | exact trivial | exact marks1) (by first | (simp -implicitDefEqProofs (maxSteps := 400000) (disch := first | with_reducible rfl | omega | (simp only [h_n, PH.n_push, PH.n_put, List.length_cons, List.length_nil] <;> omega) | decide) only [wkAll, wkL, popO, wantedP, if_true, if_false, reduceIte, ne_eq, Nat.reduceAdd, Nat.reduceSub, Nat.reduceMul, Nat.reduceLeDiff, Nat.reduceLT, ofCells, ofCell, reduceCtorEq, Int.reduceLE, Int.reduceLT, Int.reduceToNat, Int.reduceAdd, Int.reduceSub, Int.reduceMul, Int.reduceNeg, Int.reduceBEq, Int.reduceBNe, Int.reduceEq, eqCell, eqCells, binP, unP, convP, lenP, builtinP, sliceDataP, unsafeStringP, appendT, appendS, appendP, copyP, srcP, mmsP, mmP, indexOp, indexAddrOp, sliceOp, bndsP, bndP, capw, capCut, loadOp, storeOp, loadP, fieldOp, fieldAddrOp, arrayAtOp, buildP, buildSliceP, makeSliceP, placeF, fillP, setL, PK.agg, isZero, gt_iff_lt, Nat.reducePow, Nat.reduceGT, reps, seg, wkN, if_pos, if_neg, tf3, Tryz.ze3, tf4, Tryz.ze4, tf9, Tryz.ze9, tf24, Tryz.ze24, tf46, Tryz.ze46, pl12_9Gc7, pl12_11Gc7, resP, resPs, resP1]; rfl) | rfl) ⟨6, by repeat' first | exact frz_scalar rfl | apply frz_tuple | apply frz_agg | apply frz_fsl | apply frz_gsl (by omega) | exact frzs_nil | apply frzs_cons⟩ (by first | exact keepsH0 | exact keeps1 (by assumption)) (nw_eq ?_)
        rfl
      · obtain ⟨n, hns⟩ : ∃ n, n = s.length - 16 := ⟨_, rfl⟩
        have n1 : (s.length : Int) - 16 = (n : Int) := by omega
        have n2 : ¬ (n : Int) < 0 := by omega
        have n0 : IntKind.wrap .i64 (n : Int) = n := IntWalk.i64_in _ (by omega)
        by_cases hl : 65552 < s.length
        · rw [show openG key nonce ad s = ([], 12) by rw [openG, if_neg (by simpa using hk), if_neg (by simpa using hn), if_neg hs, if_pos hl]]
          have hl' : (65536 : Int) < (n : Int) := by omega
          refine fn_H ([Go.ResultVar.tmp 8, Go.ResultVar.tmp 9]) Tryz.func12 rfl rfl (by decide) fun ph hW Q hQ => ?_
          simp only [start, List.length_cons, List.length_nil, List.cons_append, List.nil_append, Nat.reduceAdd, Nat.reduceSub, List.replicate_succ, List.replicate_zero, Tryz.ntmps12]
          repeat' first
          | simp -implicitDefEqProofs (maxSteps := 400000) (disch := first | with_reducible rfl | omega | (simp only [h_n, PH.n_push, PH.n_put, List.length_cons, List.length_nil] <;> omega) | decide) only [wkAll, wkL, popO, wantedP, if_true, if_false, reduceIte, ne_eq, Nat.reduceAdd, Nat.reduceSub, Nat.reduceMul, Nat.reduceLeDiff, Nat.reduceLT, ofCells, ofCell, reduceCtorEq, Int.reduceLE, Int.reduceLT, Int.reduceToNat, Int.reduceAdd, Int.reduceSub, Int.reduceMul, Int.reduceNeg, Int.reduceBEq, Int.reduceBNe, Int.reduceEq, eqCell, eqCells, binP, unP, convP, lenP, builtinP, sliceDataP, unsafeStringP, appendT, appendS, appendP, copyP, srcP, mmsP, mmP, indexOp, indexAddrOp, sliceOp, bndsP, bndP, capw, capCut, loadOp, storeOp, loadP, fieldOp, fieldAddrOp, arrayAtOp, buildP, buildSliceP, makeSliceP, placeF, fillP, setL, PK.agg, isZero, gt_iff_lt, Nat.reducePow, Nat.reduceGT, reps, seg, wkN, if_pos, if_neg, tf3, Tryz.ze3, tf4, Tryz.ze4, tf9, Tryz.ze9, tf24, Tryz.ze24, tf46, Tryz.ze46, pl12_9Gc7, pl12_11Gc7, gt_iff_lt, n1, n0, n2, hl']
          | refine w_pure (bg) ?_
          | refine w_drawnF (id := 9) tb12_9Gc7 pl12_9Gc7 44 (by kernel_rfl) (by kernel_rfl) (by simp) ?_
          | refine w_drawnF (id := 11) tb12_11Gc7 pl12_11Gc7 49 (by kernel_rfl) (by kernel_rfl) (by simp) ?_
          refine hQ (by first | exact .inr rfl | exact .inl rfl) (by first | exact trivial | exact marks1) (by first | (simp -implicitDefEqProofs (maxSteps := 400000) (disch := first | with_reducible rfl | omega | (simp only [h_n, PH.n_push, PH.n_put, List.length_cons, List.length_nil] <;> omega) | decide) only [wkAll, wkL, popO, wantedP, if_true, if_false, reduceIte, ne_eq, Nat.reduceAdd, Nat.reduceSub, Nat.reduceMul, Nat.reduceLeDiff, Nat.reduceLT, ofCells, ofCell, reduceCtorEq, Int.reduceLE, Int.reduceLT, Int.reduceToNat, Int.reduceAdd, Int.reduceSub, Int.reduceMul, Int.reduceNeg, Int.reduceBEq, Int.reduceBNe, Int.reduceEq, eqCell, eqCells, binP, unP, convP, lenP, builtinP, sliceDataP, unsafeStringP, appendT, appendS, appendP, copyP, srcP, mmsP, mmP, indexOp, indexAddrOp, sliceOp, bndsP, bndP, capw, capCut, loadOp, storeOp, loadP, fieldOp, fieldAddrOp, arrayAtOp, buildP, buildSliceP, makeSliceP, placeF, fillP, setL, PK.agg, isZero, gt_iff_lt, Nat.reducePow, Nat.reduceGT, reps, seg, wkN, if_pos, if_neg, tf3, Tryz.ze3, tf4, Tryz.ze4, tf9, Tryz.ze9, tf24, Tryz.ze24, tf46, Tryz.ze46, pl12_9Gc7, pl12_11Gc7, resP, resPs, resP1]; rfl) | rfl) ⟨6, by repeat' first | exact frz_scalar rfl | apply frz_tuple | apply frz_agg | apply frz_fsl | apply frz_gsl (by omega) | exact frzs_nil | apply frzs_cons⟩ (by first | exact keepsH0 | exact keeps1 (by assumption)) (nw_eq ?_)
          rfl
        · have hl' : ¬ (65536 : Int) < (n : Int) := by omega
          have n3 : (n : Int) ≤ (s.length : Int) := by omega
          have n4 : n ≤ s.length := by omega
          have hw := words16 hk
          have hcl : (s.take n).length = n := by rw [List.length_take]; omega
          have hdl : (s.drop n).length = 16 := by rw [List.length_drop]; omega
          have hdt : (s.drop n).take (s.length - n) = s.drop n := List.take_of_length_le (by rw [List.length_drop]; exact Nat.le_refl _)
          have st := gcStream_ok (w0 := w0) key nonce (gcH (wordsL key)) (gcM (wordsL key) nonce) (s.take n) hk hn (by omega)
          have tg := gcTag_ok (w0 := w0) key nonce (gcH (wordsL key)) (gcM (wordsL key) nonce) ad (s.take n) (gcH_len hw) (gcM_len hw hn) had (by omega)
          have htl := gcT_len hw hn ad (s.take n)
          rw [show xorB (elT (ghs (elB (gcH (wordsL key))) ad (s.take n))) (gcM (wordsL key) nonce) = gcT (wordsL key) nonce ad (s.take n) from rfl] at tg
          have al := alike_ok (w0 := w0) (gcT (wordsL key) nonce ad (s.take n)) (s.drop n) (by omega) (by omega)
          have hop : openG key nonce ad s = if gcT (wordsL key) nonce ad (s.take n) = s.drop n then (gcS (wordsL key) nonce (s.take n), 0) else ([], 17) := by
            rw [openG, if_neg (by simpa using hk), if_neg (by simpa using hn), if_neg hs, if_neg hl, hns]
          rw [hop]
          generalize gcT (wordsL key) nonce ad (s.take n) = t at *
          generalize gcS (wordsL key) nonce (s.take n) = c at *
          generalize gcH (wordsL key) = h1 at *
          generalize gcM (wordsL key) nonce = m1 at *
          by_cases ht : t = s.drop n
          · rw [if_pos ht]
            rw [decide_eq_true ht] at al
            refine fn_H ([Go.ResultVar.tmp 8, Go.ResultVar.tmp 9]) Tryz.func12 rfl rfl (by decide) fun ph hW Q hQ => ?_
            simp only [start, List.length_cons, List.length_nil, List.cons_append, List.nil_append, Nat.reduceAdd, Nat.reduceSub, List.replicate_succ, List.replicate_zero, Tryz.ntmps12]
            repeat' first
            | simp -implicitDefEqProofs (maxSteps := 400000) (disch := first | with_reducible rfl | omega | (simp only [h_n, PH.n_push, PH.n_put, List.length_cons, List.length_nil] <;> omega) | decide) only [wkAll, wkL, popO, wantedP, if_true, if_false, reduceIte, ne_eq, Nat.reduceAdd, Nat.reduceSub, Nat.reduceMul, Nat.reduceLeDiff, Nat.reduceLT, ofCells, ofCell, reduceCtorEq, Int.reduceLE, Int.reduceLT, Int.reduceToNat, Int.reduceAdd, Int.reduceSub, Int.reduceMul, Int.reduceNeg, Int.reduceBEq, Int.reduceBNe, Int.reduceEq, eqCell, eqCells, binP, unP, convP, lenP, builtinP, sliceDataP, unsafeStringP, appendT, appendS, appendP, copyP, srcP, mmsP, mmP, indexOp, indexAddrOp, sliceOp, bndsP, bndP, capw, capCut, loadOp, storeOp, loadP, fieldOp, fieldAddrOp, arrayAtOp, buildP, buildSliceP, makeSliceP, placeF, fillP, setL, PK.agg, isZero, gt_iff_lt, Nat.reducePow, Nat.reduceGT, reps, seg, wkN, if_pos, if_neg, tf3, Tryz.ze3, tf4, Tryz.ze4, tf9, Tryz.ze9, tf24, Tryz.ze24, tf46, Tryz.ze46, pl12_9Gc7, pl12_11Gc7, gt_iff_lt, n1, n0, n2, n3, n4, hl', hdt]
            | refine w_pure (bg) ?_
            | refine w_pure (tg) ?_
            | refine w_pure (al) ?_
            | refine w_pure (st) ?_
            | refine w_drawnF (id := 9) tb12_9Gc7 pl12_9Gc7 44 (by kernel_rfl) (by kernel_rfl) (by simp) ?_
            | refine w_drawnF (id := 11) tb12_11Gc7 pl12_11Gc7 49 (by kernel_rfl) (by kernel_rfl) (by simp) ?_
            refine hQ (by first | exact .inr rfl | exact .inl rfl) (by first | exact trivial | exact marks1) (by first | (simp -implicitDefEqProofs (maxSteps := 400000) (disch := first | with_reducible rfl | omega | (simp only [h_n, PH.n_push, PH.n_put, List.length_cons, List.length_nil] <;> omega) | decide) only [wkAll, wkL, popO, wantedP, if_true, if_false, reduceIte, ne_eq, Nat.reduceAdd, Nat.reduceSub, Nat.reduceMul, Nat.reduceLeDiff, Nat.reduceLT, ofCells, ofCell, reduceCtorEq, Int.reduceLE, Int.reduceLT, Int.reduceToNat, Int.reduceAdd, Int.reduceSub, Int.reduceMul, Int.reduceNeg, Int.reduceBEq, Int.reduceBNe, Int.reduceEq, eqCell, eqCells, binP, unP, convP, lenP, builtinP, sliceDataP, unsafeStringP, appendT, appendS, appendP, copyP, srcP, mmsP, mmP, indexOp, indexAddrOp, sliceOp, bndsP, bndP, capw, capCut, loadOp, storeOp, loadP, fieldOp, fieldAddrOp, arrayAtOp, buildP, buildSliceP, makeSliceP, placeF, fillP, setL, PK.agg, isZero, gt_iff_lt, Nat.reducePow, Nat.reduceGT, reps, seg, wkN, if_pos, if_neg, tf3, Tryz.ze3, tf4, Tryz.ze4, tf9, Tryz.ze9, tf24, Tryz.ze24, tf46, Tryz.ze46, pl12_9Gc7, pl12_11Gc7, resP, resPs, resP1]; rfl) | rfl) ⟨6, by repeat' first | exact frz_scalar rfl | apply frz_tuple | apply frz_agg | apply frz_fsl | apply frz_gsl (by omega) | exact frzs_nil | apply frzs_cons⟩ (by first | exact keepsH0 | exact keeps1 (by assumption)) (nw_eq ?_)
            rfl
          · rw [if_neg ht]
            rw [decide_eq_false ht] at al
            refine fn_H ([Go.ResultVar.tmp 8, Go.ResultVar.tmp 9]) Tryz.func12 rfl rfl (by decide) fun ph hW Q hQ => ?_
            simp only [start, List.length_cons, List.length_nil, List.cons_append, List.nil_append, Nat.reduceAdd, Nat.reduceSub, List.replicate_succ, List.replicate_zero, Tryz.ntmps12]
            repeat' first
            | simp -implicitDefEqProofs (maxSteps := 400000) (disch := first | with_reducible rfl | omega | (simp only [h_n, PH.n_push, PH.n_put, List.length_cons, List.length_nil] <;> omega) | decide) only [wkAll, wkL, popO, wantedP, if_true, if_false, reduceIte, ne_eq, Nat.reduceAdd, Nat.reduceSub, Nat.reduceMul, Nat.reduceLeDiff, Nat.reduceLT, ofCells, ofCell, reduceCtorEq, Int.reduceLE, Int.reduceLT, Int.reduceToNat, Int.reduceAdd, Int.reduceSub, Int.reduceMul, Int.reduceNeg, Int.reduceBEq, Int.reduceBNe, Int.reduceEq, eqCell, eqCells, binP, unP, convP, lenP, builtinP, sliceDataP, unsafeStringP, appendT, appendS, appendP, copyP, srcP, mmsP, mmP, indexOp, indexAddrOp, sliceOp, bndsP, bndP, capw, capCut, loadOp, storeOp, loadP, fieldOp, fieldAddrOp, arrayAtOp, buildP, buildSliceP, makeSliceP, placeF, fillP, setL, PK.agg, isZero, gt_iff_lt, Nat.reducePow, Nat.reduceGT, reps, seg, wkN, if_pos, if_neg, tf3, Tryz.ze3, tf4, Tryz.ze4, tf9, Tryz.ze9, tf24, Tryz.ze24, tf46, Tryz.ze46, pl12_9Gc7, pl12_11Gc7, gt_iff_lt, n1, n0, n2, n3, n4, hl', hdt]
            | refine w_pure (bg) ?_
            | refine w_pure (tg) ?_
            | refine w_pure (al) ?_
            | refine w_pure (st) ?_
            | refine w_drawnF (id := 9) tb12_9Gc7 pl12_9Gc7 44 (by kernel_rfl) (by kernel_rfl) (by simp) ?_
            | refine w_drawnF (id := 11) tb12_11Gc7 pl12_11Gc7 49 (by kernel_rfl) (by kernel_rfl) (by simp) ?_
            refine hQ (by first | exact .inr rfl | exact .inl rfl) (by first | exact trivial | exact marks1) (by first | (simp -implicitDefEqProofs (maxSteps := 400000) (disch := first | with_reducible rfl | omega | (simp only [h_n, PH.n_push, PH.n_put, List.length_cons, List.length_nil] <;> omega) | decide) only [wkAll, wkL, popO, wantedP, if_true, if_false, reduceIte, ne_eq, Nat.reduceAdd, Nat.reduceSub, Nat.reduceMul, Nat.reduceLeDiff, Nat.reduceLT, ofCells, ofCell, reduceCtorEq, Int.reduceLE, Int.reduceLT, Int.reduceToNat, Int.reduceAdd, Int.reduceSub, Int.reduceMul, Int.reduceNeg, Int.reduceBEq, Int.reduceBNe, Int.reduceEq, eqCell, eqCells, binP, unP, convP, lenP, builtinP, sliceDataP, unsafeStringP, appendT, appendS, appendP, copyP, srcP, mmsP, mmP, indexOp, indexAddrOp, sliceOp, bndsP, bndP, capw, capCut, loadOp, storeOp, loadP, fieldOp, fieldAddrOp, arrayAtOp, buildP, buildSliceP, makeSliceP, placeF, fillP, setL, PK.agg, isZero, gt_iff_lt, Nat.reducePow, Nat.reduceGT, reps, seg, wkN, if_pos, if_neg, tf3, Tryz.ze3, tf4, Tryz.ze4, tf9, Tryz.ze9, tf24, Tryz.ze24, tf46, Tryz.ze46, pl12_9Gc7, pl12_11Gc7, resP, resPs, resP1]; rfl) | rfl) ⟨6, by repeat' first | exact frz_scalar rfl | apply frz_tuple | apply frz_agg | apply frz_fsl | apply frz_gsl (by omega) | exact frzs_nil | apply frzs_cons⟩ (by first | exact keepsH0 | exact keeps1 (by assumption)) (nw_eq ?_)
            rfl
    · rw [show openG key nonce ad s = ([], 10) by rw [openG, if_neg (by simpa using hk), if_pos hn]]
      have bg := gcBegin_no (w0 := w0) key nonce 10 (.inr ⟨hk, hn, rfl⟩)
      refine fn_H ([Go.ResultVar.tmp 8, Go.ResultVar.tmp 9]) Tryz.func12 rfl rfl (by decide) fun ph hW Q hQ => ?_
      simp only [start, List.length_cons, List.length_nil, List.cons_append, List.nil_append, Nat.reduceAdd, Nat.reduceSub, List.replicate_succ, List.replicate_zero, Tryz.ntmps12]
      repeat' first
      | simp -implicitDefEqProofs (maxSteps := 400000) (disch := first | with_reducible rfl | omega | (simp only [h_n, PH.n_push, PH.n_put, List.length_cons, List.length_nil] <;> omega) | decide) only [wkAll, wkL, popO, wantedP, if_true, if_false, reduceIte, ne_eq, Nat.reduceAdd, Nat.reduceSub, Nat.reduceMul, Nat.reduceLeDiff, Nat.reduceLT, ofCells, ofCell, reduceCtorEq, Int.reduceLE, Int.reduceLT, Int.reduceToNat, Int.reduceAdd, Int.reduceSub, Int.reduceMul, Int.reduceNeg, Int.reduceBEq, Int.reduceBNe, Int.reduceEq, eqCell, eqCells, binP, unP, convP, lenP, builtinP, sliceDataP, unsafeStringP, appendT, appendS, appendP, copyP, srcP, mmsP, mmP, indexOp, indexAddrOp, sliceOp, bndsP, bndP, capw, capCut, loadOp, storeOp, loadP, fieldOp, fieldAddrOp, arrayAtOp, buildP, buildSliceP, makeSliceP, placeF, fillP, setL, PK.agg, isZero, gt_iff_lt, Nat.reducePow, Nat.reduceGT, reps, seg, wkN, if_pos, if_neg, tf3, Tryz.ze3, tf4, Tryz.ze4, tf9, Tryz.ze9, tf24, Tryz.ze24, tf46, Tryz.ze46, pl12_9Gc7, pl12_11Gc7]
      | refine w_pure (bg) ?_
      | refine w_drawnF (id := 9) tb12_9Gc7 pl12_9Gc7 44 (by kernel_rfl) (by kernel_rfl) (by simp) ?_
      | refine w_drawnF (id := 11) tb12_11Gc7 pl12_11Gc7 49 (by kernel_rfl) (by kernel_rfl) (by simp) ?_
      refine hQ (by first | exact .inr rfl | exact .inl rfl) (by first | exact trivial | exact marks1) (by first | (simp -implicitDefEqProofs (maxSteps := 400000) (disch := first | with_reducible rfl | omega | (simp only [h_n, PH.n_push, PH.n_put, List.length_cons, List.length_nil] <;> omega) | decide) only [wkAll, wkL, popO, wantedP, if_true, if_false, reduceIte, ne_eq, Nat.reduceAdd, Nat.reduceSub, Nat.reduceMul, Nat.reduceLeDiff, Nat.reduceLT, ofCells, ofCell, reduceCtorEq, Int.reduceLE, Int.reduceLT, Int.reduceToNat, Int.reduceAdd, Int.reduceSub, Int.reduceMul, Int.reduceNeg, Int.reduceBEq, Int.reduceBNe, Int.reduceEq, eqCell, eqCells, binP, unP, convP, lenP, builtinP, sliceDataP, unsafeStringP, appendT, appendS, appendP, copyP, srcP, mmsP, mmP, indexOp, indexAddrOp, sliceOp, bndsP, bndP, capw, capCut, loadOp, storeOp, loadP, fieldOp, fieldAddrOp, arrayAtOp, buildP, buildSliceP, makeSliceP, placeF, fillP, setL, PK.agg, isZero, gt_iff_lt, Nat.reducePow, Nat.reduceGT, reps, seg, wkN, if_pos, if_neg, tf3, Tryz.ze3, tf4, Tryz.ze4, tf9, Tryz.ze9, tf24, Tryz.ze24, tf46, Tryz.ze46, pl12_9Gc7, pl12_11Gc7, resP, resPs, resP1]; rfl) | rfl) ⟨6, by repeat' first | exact frz_scalar rfl | apply frz_tuple | apply frz_agg | apply frz_fsl | apply frz_gsl (by omega) | exact frzs_nil | apply frzs_cons⟩ (by first | exact keepsH0 | exact keeps1 (by assumption)) (nw_eq ?_)
      rfl
  · rw [show openG key nonce ad s = ([], 13) by rw [openG, if_pos hk]]
    have bg := gcBegin_no (w0 := w0) key nonce 13 (.inl ⟨hk, rfl⟩)
    refine fn_H ([Go.ResultVar.tmp 8, Go.ResultVar.tmp 9]) Tryz.func12 rfl rfl (by decide) fun ph hW Q hQ => ?_
    simp only [start, List.length_cons, List.length_nil, List.cons_append, List.nil_append, Nat.reduceAdd, Nat.reduceSub, List.replicate_succ, List.replicate_zero, Tryz.ntmps12]
    repeat' first
    | simp -implicitDefEqProofs (maxSteps := 400000) (disch := first | with_reducible rfl | omega | (simp only [h_n, PH.n_push, PH.n_put, List.length_cons, List.length_nil] <;> omega) | decide) only [wkAll, wkL, popO, wantedP, if_true, if_false, reduceIte, ne_eq, Nat.reduceAdd, Nat.reduceSub, Nat.reduceMul, Nat.reduceLeDiff, Nat.reduceLT, ofCells, ofCell, reduceCtorEq, Int.reduceLE, Int.reduceLT, Int.reduceToNat, Int.reduceAdd, Int.reduceSub, Int.reduceMul, Int.reduceNeg, Int.reduceBEq, Int.reduceBNe, Int.reduceEq, eqCell, eqCells, binP, unP, convP, lenP, builtinP, sliceDataP, unsafeStringP, appendT, appendS, appendP, copyP, srcP, mmsP, mmP, indexOp, indexAddrOp, sliceOp, bndsP, bndP, capw, capCut, loadOp, storeOp, loadP, fieldOp, fieldAddrOp, arrayAtOp, buildP, buildSliceP, makeSliceP, placeF, fillP, setL, PK.agg, isZero, gt_iff_lt, Nat.reducePow, Nat.reduceGT, reps, seg, wkN, if_pos, if_neg, tf3, Tryz.ze3, tf4, Tryz.ze4, tf9, Tryz.ze9, tf24, Tryz.ze24, tf46, Tryz.ze46, pl12_9Gc7, pl12_11Gc7]
    | refine w_pure (bg) ?_
    | refine w_drawnF (id := 9) tb12_9Gc7 pl12_9Gc7 44 (by kernel_rfl) (by kernel_rfl) (by simp) ?_
    | refine w_drawnF (id := 11) tb12_11Gc7 pl12_11Gc7 49 (by kernel_rfl) (by kernel_rfl) (by simp) ?_
    refine hQ (by first | exact .inr rfl | exact .inl rfl) (by first | exact trivial | exact marks1) (by first | (simp -implicitDefEqProofs (maxSteps := 400000) (disch := first | with_reducible rfl | omega | (simp only [h_n, PH.n_push, PH.n_put, List.length_cons, List.length_nil] <;> omega) | decide) only [wkAll, wkL, popO, wantedP, if_true, if_false, reduceIte, ne_eq, Nat.reduceAdd, Nat.reduceSub, Nat.reduceMul, Nat.reduceLeDiff, Nat.reduceLT, ofCells, ofCell, reduceCtorEq, Int.reduceLE, Int.reduceLT, Int.reduceToNat, Int.reduceAdd, Int.reduceSub, Int.reduceMul, Int.reduceNeg, Int.reduceBEq, Int.reduceBNe, Int.reduceEq, eqCell, eqCells, binP, unP, convP, lenP, builtinP, sliceDataP, unsafeStringP, appendT, appendS, appendP, copyP, srcP, mmsP, mmP, indexOp, indexAddrOp, sliceOp, bndsP, bndP, capw, capCut, loadOp, storeOp, loadP, fieldOp, fieldAddrOp, arrayAtOp, buildP, buildSliceP, makeSliceP, placeF, fillP, setL, PK.agg, isZero, gt_iff_lt, Nat.reducePow, Nat.reduceGT, reps, seg, wkN, if_pos, if_neg, tf3, Tryz.ze3, tf4, Tryz.ze4, tf9, Tryz.ze9, tf24, Tryz.ze24, tf46, Tryz.ze46, pl12_9Gc7, pl12_11Gc7, resP, resPs, resP1]; rfl) | rfl) ⟨6, by repeat' first | exact frz_scalar rfl | apply frz_tuple | apply frz_agg | apply frz_fsl | apply frz_gsl (by omega) | exact frzs_nil | apply frzs_cons⟩ (by first | exact keepsH0 | exact keeps1 (by assumption)) (nw_eq ?_)
    rfl
end Pv

namespace Pv
open Go Go.RowKit

/-! ### What an argument reads as -/
inductive FK where
  | int (k : IntKind)
  | bool
  | str
  | sl (row : List FK)

mutual
inductive OkC : FK → PV → Prop
  | int (k : IntKind) (n : Int) (h : (Lit.int k n).wf = true) : OkC (.int k) (.int k n)
  | bool (b : Bool) : OkC .bool (.bool b)
  | str (l : List UInt8) (h : l.length ≤ maxLen) : OkC .str (.str l)
  | sl (row : List FK) (len : Nat) (cells : List PV) (h : len ≤ maxLen) (hc : OkR row len cells) : OkC (.sl row) (.fsl row.length len cells)
inductive OkL : List FK → List PV → Prop
  | nil : OkL [] []
  | cons (k : FK) (ks : List FK) (p : PV) (ps : List PV) (h : OkC k p) (hs : OkL ks ps) : OkL (k :: ks) (p :: ps)
inductive OkR : List FK → Nat → List PV → Prop
  | nil (row : List FK) : OkR row 0 []
  | cons (row : List FK) (n : Nat) (c r : List PV) (h : OkL row c) (hr : OkR row n r) : OkR row (n + 1) (c ++ r)
end

theorem OkL.length {ks : List FK} {ps : List PV} (h : OkL ks ps) : ps.length = ks.length := by
  induction ks generalizing ps with
  | nil => cases h; rfl
  | cons k ks ih => cases h with | cons _ _ _ _ _ hs => simp [ih hs]

theorem OkR.length {row : List FK} {n : Nat} {ps : List PV} (h : OkR row n ps) : ps.length = n * row.length := by
  induction n generalizing ps with
  | zero => cases h; simp
  | succ n ih => cases h with | cons _ _ c r hc hr => rw [List.length_append, ih hr, hc.length, Nat.succ_mul, Nat.add_comm]

theorem OkL.append {a b : List FK} {ps qs : List PV} (h : OkL a ps) (k : OkL b qs) : OkL (a ++ b) (ps ++ qs) := by
  induction a generalizing ps with
  | nil => cases h; exact k
  | cons x a ih => cases h with | cons _ _ _ _ h1 h2 => exact .cons _ _ _ _ h1 (ih h2)

/-- All that there was, as it is. -/
noncomputable def G0 (w : World) : Ghost := { l := [], f := fun a => if a.spot = none then w.cell? a else none }

def PH0 : PH := { bl := [], ob := fun _ => none }

theorem rel0 {P : Program} (w : World) : Rel ⟨P, w⟩ (G0 w) PH0 w := by
  refine ⟨rfl, .refl _ _, fun p c h => by simp [PH0, PH.get] at h, fun p q c d L M _ h => by simp [PH0, PH.get] at h, ?_, fun a v p c L _ h => by simp [PH0, PH.get] at h, fun r o h => by simp [PH0] at h, fun p e h => by simp [PH0] at h, ⟨fun p s t e h => by simp [PH0, PH.gro] at h, fun p q s t e s' t' e' a ra b rb _ h => by simp [PH0, PH.gro] at h, fun p m x h => by simp [G0] at h⟩⟩
  intro a v h
  simp only [G0] at h
  split at h
  · rename_i hs; exact ⟨hs, h⟩
  · cases h

section
variable {H : Type} {enc : TypeId × Value → H} {P : Program} {w : World} {base : Nat} {spare : Nat → Bool} {held : Bool}

end

section
variable {H : Type} {enc : TypeId × Value → H} {P : Program} {w : World} {spare : Nat → Bool} {held : Bool} {t : TypeId} {v : Value} {d : DataW H} {ps : List MemPlace} {base : Nat} {ks : List FK}

end

/-- From what the body does to what the row asks for. -/
theorem enter {P : Program} {f : FuncId} {args : List PV} {W : World} {rargs : List Value} {b : Bool} {fn : Func} (hf : P.funcs[f]? = some fn) (hb : fn.body.isSome = true) (hnm : (fn.name == "runtime.NumGoroutine") = false) (h : Fn ⟨P, W⟩ f args (.bool b)) (ha : RVs (G0 W) args rargs) :
    Calls P f rargs.toArray W fun e W' => e = .returned (.bool b) ∧ Below W.heap.size W W' := by
  have hp := h PH0 (G0 W) W rargs (rel0 W) ha
  have hent := run_enter (P := P) (w := W) (args := rargs.toArray) hf hb hnm
  rw [hent] at hp
  rcases hp with ⟨v, w', e, -⟩ | ⟨w', e, hc⟩
  · cases e
  · cases e
    refine Calls.mono hc fun e W' he => ?_
    cases e with
    | returned u =>
      obtain ⟨G', pv, ph', -, hr, hv, -, rfl, rfl⟩ := he
      refine ⟨?_, hr.below⟩
      cases hv; rfl
    | panicked _ => exact he.elim
    | outgrown => exact he.elim
end Pv

namespace Pv
open Go Go.RowKit
variable {H : Type} {enc : TypeId × Value → H} {P : Program} {w : World} {spare : Nat → Bool} {held : Bool} {t : TypeId} {v : Value} {d : DataW H} {ps : List MemPlace} {base : Nat}

/-- A text among the arguments, with the bound that the form itself gives. -/
theorem open_str2 {ts : List TypeId} {ds : List (DataW H)} (hu : P.underlying t = some .string) (hv : Value.okWide P w .any base t v) (h : DataW.Trod enc P w 0 spare held t v d ps) (hsz : (DataW.weightsEach P ts ds).all (· ≤ reachBytes) = true) {j : Nat} (ht : ts[j]? = some t) (hd : ds[j]? = some d) :
    ∃ l, l.length < 2 ^ 47 ∧ RV (G0 w) (.str l) v := by
  obtain ⟨fuel, hf⟩ := h
  obtain ⟨s, rfl⟩ := Go.WideShapes.okWide_string hu hv
  obtain ⟨s', e1, e2, -⟩ := DataW.trod_string hu hf
  have e3 : s = s' := by simpa [Value.cells] using e1
  subst e3
  cases e2
  have := sized_string hsz ht hd
  exact ⟨s.data.toList, by have := reachBytes_lt; omega, .str _ _ rfl⟩
end Pv

namespace Pv
open Go Go.RowKit

section
variable {H : Type} {enc : TypeId × Value → H} {P : Program} {w : World} {spare : Nat → Bool} {held : Bool} {t : TypeId} {v : Value} {d : DataW H} {ps : List MemPlace} {base : Nat} {ks : List FK}
end

end Pv

--nosplit
--keep2
namespace Pv
set_option maxRecDepth 20000
set_option maxHeartbeats 4000000
open Go Go.Proofs Go.RowKit
variable {w0 : World}

theorem take_next {α : Type} {l : List α} {i : Nat} {x : α} (h : l[i]? = some x) : l.take (i + 1) = l.take i ++ [x] := by rw [List.take_add_one, h]; rfl
end Pv

--nosplit
--keep2
namespace Pv
set_option maxRecDepth 20000
set_option maxHeartbeats 4000000
open Go Go.Proofs Go.RowKit
variable {w0 : World}

end Pv
