/- Part of the proof: the layer of pure values, or walks through functions (PvGd1). -/
import Derived.Test.YtbocckencbkdeaaGreatPvGc8
import Derived.Test.YtbocckencbkdeaaGreatPvAe21
set_option linter.all false
--nosplit
--keep2
namespace Pv
set_option maxRecDepth 20000
set_option maxHeartbeats 4000000
open Go Go.Proofs Go.RowKit
def tb13_9Gd1 : Tab := [[], [], [], [], [0, 1, 2, 3], [], [], [6], [5, 6, 7], [0, 1, 2, 3, 4, 5, 6, 7, 8]]
def pl13_9Gd1 : Plan := [(0, true, []), (1, true, []), (2, true, []), (3, true, []), (5, true, []), (6, true, []), (7, true, []), (8, true, []), (4, false, [5, 6, 7, 8]), (9, true, [])]
variable {w0 : World}

theorem refSized9_ok (key nonce : List UInt8) : Fn (Cx w0) 29 [.str key, .str nonce] (.int .i64 (if ¬ goodK key then 13 else if nonce.length ≠ 12 then 10 else 0)) := by
  by_cases hk : goodK key
  · rw [if_neg (by simpa using hk)]
    obtain ⟨b1, b2, q1, q0, hbb⟩ : ∃ b1 b2 : Bool, ((key.length : Int) != 16) = b1 ∧ ((key.length : Int) != 32) = b2 ∧ (b1 && b2) = false := ⟨_, _, rfl, rfl, by rcases hk with h | h <;> simp [h]⟩
    by_cases hn : nonce.length = 12
    · rw [if_neg (by simpa using hn)]
      have q2 : ((nonce.length : Int) != 12) = false := by rw [bne_eq_false_iff_eq]; omega
      cases b1 <;> cases b2 <;> simp only [Bool.and_self, Bool.and_true, Bool.true_and, reduceCtorEq] at hbb
      all_goals
        refine fn_H ([Go.ResultVar.tmp 4]) Tryz.func29 rfl rfl (by decide) fun ph hW Q hQ => ?_
        simp only [start, List.length_cons, List.length_nil, List.cons_append, List.nil_append, Nat.reduceAdd, Nat.reduceSub, List.replicate_succ, List.replicate_zero, Tryz.ntmps29]
        repeat' first
        | simp -implicitDefEqProofs (maxSteps := 400000) (disch := first | with_reducible rfl | omega | (simp only [h_n, PH.n_push, PH.n_put, List.length_cons, List.length_nil] <;> omega) | decide) only [wkAll, wkL, popO, wantedP, if_true, if_false, reduceIte, ne_eq, Nat.reduceAdd, Nat.reduceSub, Nat.reduceMul, Nat.reduceLeDiff, Nat.reduceLT, ofCells, ofCell, reduceCtorEq, Int.reduceLE, Int.reduceLT, Int.reduceToNat, Int.reduceAdd, Int.reduceSub, Int.reduceMul, Int.reduceNeg, Int.reduceBEq, Int.reduceBNe, Int.reduceEq, eqCell, eqCells, binP, unP, convP, lenP, builtinP, sliceDataP, unsafeStringP, appendT, appendS, appendP, copyP, srcP, mmsP, mmP, indexOp, indexAddrOp, sliceOp, bndsP, bndP, capw, capCut, loadOp, storeOp, loadP, fieldOp, fieldAddrOp, arrayAtOp, buildP, buildSliceP, makeSliceP, placeF, fillP, setL, PK.agg, isZero, gt_iff_lt, Nat.reducePow, Nat.reduceGT, reps, seg, wkN, if_pos, if_neg, tf3, Tryz.ze3, tf9, Tryz.ze9, q1, q0, q2]
        refine hQ (by first | exact .inr rfl | exact .inl rfl) (by first | exact trivial | exact marks1) (by first | (simp -implicitDefEqProofs (maxSteps := 400000) (disch := first | with_reducible rfl | omega | (simp only [h_n, PH.n_push, PH.n_put, List.length_cons, List.length_nil] <;> omega) | decide) only [wkAll, wkL, popO, wantedP, if_true, if_false, reduceIte, ne_eq, Nat.reduceAdd, Nat.reduceSub, Nat.reduceMul, Nat.reduceLeDiff, Nat.reduceLT, ofCells, ofCell, reduceCtorEq, Int.reduceLE, Int.reduceLT, Int.reduceToNat, Int.reduceAdd, Int.reduceSub, Int.reduceMul, Int.reduceNeg, Int.reduceBEq, Int.reduceBNe, Int.reduceEq, eqCell, eqCells, binP, unP, convP, lenP, builtinP, sliceDataP, unsafeStringP, appendT, appendS, appendP, copyP, srcP, mmsP, mmP, indexOp, indexAddrOp, sliceOp, bndsP, bndP, capw, capCut, loadOp, storeOp, loadP, fieldOp, fieldAddrOp, arrayAtOp, buildP, buildSliceP, makeSliceP, placeF, fillP, setL, PK.agg, isZero, gt_iff_lt, Nat.reducePow, Nat.reduceGT, reps, seg, wkN, if_pos, if_neg, tf3, Tryz.ze3, tf9, Tryz.ze9, resP, resPs, resP1]; rfl) | rfl) ⟨6, by repeat' first | exact frz_scalar rfl | apply frz_tuple | apply frz_agg | apply frz_fsl | apply frz_gsl (by omega) | exact frzs_nil | apply frzs_cons⟩ (by first | exact keepsH0 | exact keeps1 (by assumption)) (nw_eq ?_)
        rfl
    · rw [if_pos hn]
      have q2 : ((nonce.length : Int) != 12) = true := by rw [bne_iff_ne]; omega
      cases b1 <;> cases b2 <;> simp only [Bool.and_self, Bool.and_true, Bool.true_and, reduceCtorEq] at hbb
      all_goals
        refine fn_H ([Go.ResultVar.tmp 4]) Tryz.func29 rfl rfl (by decide) fun ph hW Q hQ => ?_
        simp only [start, List.length_cons, List.length_nil, List.cons_append, List.nil_append, Nat.reduceAdd, Nat.reduceSub, List.replicate_succ, List.replicate_zero, Tryz.ntmps29]
        repeat' first
        | simp -implicitDefEqProofs (maxSteps := 400000) (disch := first | with_reducible rfl | omega | (simp only [h_n, PH.n_push, PH.n_put, List.length_cons, List.length_nil] <;> omega) | decide) only [wkAll, wkL, popO, wantedP, if_true, if_false, reduceIte, ne_eq, Nat.reduceAdd, Nat.reduceSub, Nat.reduceMul, Nat.reduceLeDiff, Nat.reduceLT, ofCells, ofCell, reduceCtorEq, Int.reduceLE, Int.reduceLT, Int.reduceToNat, Int.reduceAdd, Int.reduceSub, Int.reduceMul, Int.reduceNeg, Int.reduceBEq, Int.reduceBNe, Int.reduceEq, eqCell, eqCells, binP, unP, convP, lenP, builtinP, sliceDataP, unsafeStringP, appendT, appendS, appendP, copyP, srcP, mmsP, mmP, indexOp, indexAddrOp, sliceOp, bndsP, bndP, capw, capCut, loadOp, storeOp, loadP, fieldOp, fieldAddrOp, arrayAtOp, buildP, buildSliceP, makeSliceP, placeF, fillP, setL, PK.agg, isZero, gt_iff_lt, Nat.reducePow, Nat.reduceGT, reps, seg, wkN, if_pos, if_neg, tf3, Tryz.ze3, tf9, Tryz.ze9, q1, q0, q2]
        refine hQ (by first | exact .inr rfl | exact .inl rfl) (by first | exact trivial | exact marks1) (by first | (simp -implicitDefEqProofs (maxSteps := 400000) (disch := first | with_reducible rfl | omega | (simp only [h_n, PH.n_push, PH.n_put, List.length_cons, List.length_nil] <;> omega) | decide) only [wkAll, wkL, popO, wantedP, if_true, if_false, reduceIte, ne_eq, Nat.reduceAdd, Nat.reduceSub, Nat.reduceMul, Nat.reduceLeDiff, Nat.reduceLT, ofCells, ofCell, reduceCtorEq, Int.reduceLE, Int.reduceLT, Int.reduceToNat, Int.reduceAdd, Int.reduceSub, Int.reduceMul, Int.reduceNeg, Int.reduceBEq, Int.reduceBNe, Int.reduceEq, eqCell, eqCells, binP, unP, convP, lenP, builtinP, sliceDataP, unsafeStringP, appendT, appendS, appendP, copyP, srcP, mmsP, mmP, indexOp, indexAddrOp, sliceOp, bndsP, bndP, capw, capCut, loadOp, storeOp, loadP, fieldOp, fieldAddrOp, arrayAtOp, buildP, buildSliceP, makeSliceP, placeF, fillP, setL, PK.agg, isZero, gt_iff_lt, Nat.reducePow, Nat.reduceGT, reps, seg, wkN, if_pos, if_neg, tf3, Tryz.ze3, tf9, Tryz.ze9, resP, resPs, resP1]; rfl) | rfl) ⟨6, by repeat' first | exact frz_scalar rfl | apply frz_tuple | apply frz_agg | apply frz_fsl | apply frz_gsl (by omega) | exact frzs_nil | apply frzs_cons⟩ (by first | exact keepsH0 | exact keeps1 (by assumption)) (nw_eq ?_)
        rfl
  · rw [if_pos hk]
    obtain ⟨q1, q0⟩ := goodK_b hk
    refine fn_H ([Go.ResultVar.tmp 4]) Tryz.func29 rfl rfl (by decide) fun ph hW Q hQ => ?_
    simp only [start, List.length_cons, List.length_nil, List.cons_append, List.nil_append, Nat.reduceAdd, Nat.reduceSub, List.replicate_succ, List.replicate_zero, Tryz.ntmps29]
    repeat' first
    | simp -implicitDefEqProofs (maxSteps := 400000) (disch := first | with_reducible rfl | omega | (simp only [h_n, PH.n_push, PH.n_put, List.length_cons, List.length_nil] <;> omega) | decide) only [wkAll, wkL, popO, wantedP, if_true, if_false, reduceIte, ne_eq, Nat.reduceAdd, Nat.reduceSub, Nat.reduceMul, Nat.reduceLeDiff, Nat.reduceLT, ofCells, ofCell, reduceCtorEq, Int.reduceLE, Int.reduceLT, Int.reduceToNat, Int.reduceAdd, Int.reduceSub, Int.reduceMul, Int.reduceNeg, Int.reduceBEq, Int.reduceBNe, Int.reduceEq, eqCell, eqCells, binP, unP, convP, lenP, builtinP, sliceDataP, unsafeStringP, appendT, appendS, appendP, copyP, srcP, mmsP, mmP, indexOp, indexAddrOp, sliceOp, bndsP, bndP, capw, capCut, loadOp, storeOp, loadP, fieldOp, fieldAddrOp, arrayAtOp, buildP, buildSliceP, makeSliceP, placeF, fillP, setL, PK.agg, isZero, gt_iff_lt, Nat.reducePow, Nat.reduceGT, reps, seg, wkN, if_pos, if_neg, tf3, Tryz.ze3, tf9, Tryz.ze9, q1, q0]
    refine hQ (by first | exact .inr rfl | exact .inl rfl) (by first | exact trivial | exact marks1) (by first | (simp -implicitDefEqProofs (maxSteps := 400000) (disch := first | with_reducible rfl | omega | (simp only [h_n, PH.n_push, PH.n_put, List.length_cons, List.length_nil] <;> omega) | decide) only [wkAll, wkL, popO, wantedP, if_true, if_false, reduceIte, ne_eq, Nat.reduceAdd, Nat.reduceSub, Nat.reduceMul, Nat.reduceLeDiff, Nat.reduceLT, ofCells, ofCell, reduceCtorEq, Int.reduceLE, Int.reduceLT, Int.reduceToNat, Int.reduceAdd, Int.reduceSub, Int.reduceMul, Int.reduceNeg, Int.reduceBEq, Int.reduceBNe, Int.reduceEq, eqCell, eqCells, binP, unP, convP, lenP, builtinP, sliceDataP, unsafeStringP, appendT, appendS, appendP, copyP, srcP, mmsP, mmP, indexOp, indexAddrOp, sliceOp, bndsP, bndP, capw, capCut, loadOp, storeOp, loadP, fieldOp, fieldAddrOp, arrayAtOp, buildP, buildSliceP, makeSliceP, placeF, fillP, setL, PK.agg, isZero, gt_iff_lt, Nat.reducePow, Nat.reduceGT, reps, seg, wkN, if_pos, if_neg, tf3, Tryz.ze3, tf9, Tryz.ze9, resP, resPs, resP1]; rfl) | rfl) ⟨6, by repeat' first | exact frz_scalar rfl | apply frz_tuple | apply frz_agg | apply frz_fsl | apply frz_gsl (by omega) | exact frzs_nil | apply frzs_cons⟩ (by first | exact keepsH0 | exact keeps1 (by assumption)) (nw_eq ?_)
    rfl
theorem refTag9_ok (key nonce ad c : List UInt8) (hk : goodK key) (hn : nonce.length = 12) (had : ad.length < 2 ^ 40) (hc : c.length < 2 ^ 40) : Fn (Cx w0) 32 [.str key, .str nonce, .str ad, .str c] (.str (gcT (wordsL key) nonce ad c)) := by
  have hw := words16 hk
  have f0 := filled0_ok (w0 := w0)
  have e1 := refEncrypt_ok (w0 := w0) key (zL 16)
  rw [enc_good hk (zL_len 16)] at e1
  have e2 := refEncrypt_ok (w0 := w0) key (nonce ++ [0, 0, 0, 1])
  rw [enc_good hk (by rw [List.length_append, hn]; rfl)] at e2
  have h1 := gcH_len hw
  have h2 := gcM_len hw hn
  rw [gcT]
  rw [show encB (wordsL key) (zL 16) = gcH (wordsL key) from rfl] at e1
  rw [show encB (wordsL key) (nonce ++ [0, 0, 0, 1]) = gcM (wordsL key) nonce from rfl] at e2
  generalize gcH (wordsL key) = hh at *
  generalize gcM (wordsL key) nonce = mm at *
  have hs := refHash_ok (w0 := w0) hh ad c had hc
  rw [show ghashR hh ad c = (elT (ghs (elB hh) ad c), 0) from if_pos h1] at hs
  have hl := elT_len (ghs (elB hh) ad c)
  generalize elT (ghs (elB hh) ad c) = t at *
  have xx := refXor_ok (w0 := w0) t mm (by omega) (by omega)
  generalize xorB t mm = y at *
  generalize zL 16 = z at *
  refine fn_H ([Go.ResultVar.tmp 8]) Tryz.func32 rfl rfl (by decide) fun ph hW Q hQ => ?_
  simp only [start, List.length_cons, List.length_nil, List.cons_append, List.nil_append, Nat.reduceAdd, Nat.reduceSub, List.replicate_succ, List.replicate_zero, Tryz.ntmps32]
  repeat' first
  | simp -implicitDefEqProofs (maxSteps := 400000) (disch := first | with_reducible rfl | omega | (simp only [h_n, PH.n_push, PH.n_put, List.length_cons, List.length_nil] <;> omega) | decide) only [wkAll, wkL, popO, wantedP, if_true, if_false, reduceIte, ne_eq, Nat.reduceAdd, Nat.reduceSub, Nat.reduceMul, Nat.reduceLeDiff, Nat.reduceLT, ofCells, ofCell, reduceCtorEq, Int.reduceLE, Int.reduceLT, Int.reduceToNat, Int.reduceAdd, Int.reduceSub, Int.reduceMul, Int.reduceNeg, Int.reduceBEq, Int.reduceBNe, Int.reduceEq, eqCell, eqCells, binP, unP, convP, lenP, builtinP, sliceDataP, unsafeStringP, appendT, appendS, appendP, copyP, srcP, mmsP, mmP, indexOp, indexAddrOp, sliceOp, bndsP, bndP, capw, capCut, loadOp, storeOp, loadP, fieldOp, fieldAddrOp, arrayAtOp, buildP, buildSliceP, makeSliceP, placeF, fillP, setL, PK.agg, isZero, gt_iff_lt, Nat.reducePow, Nat.reduceGT, reps, seg, wkN, if_pos, if_neg, tf9, Tryz.ze9, hn]
  | refine w_pure (f0) ?_
  | refine w_pure (e1) ?_
  | refine w_pure (e2) ?_
  | refine w_pure (hs) ?_
  | refine w_pure (xx) ?_
  refine hQ (by first | exact .inr rfl | exact .inl rfl) (by first | exact trivial | exact marks1) (by first | (simp -implicitDefEqProofs (maxSteps := 400000) (disch := first | with_reducible rfl | omega | (simp only [h_n, PH.n_push, PH.n_put, List.length_cons, List.length_nil] <;> omega) | decide) only [wkAll, wkL, popO, wantedP, if_true, if_false, reduceIte, ne_eq, Nat.reduceAdd, Nat.reduceSub, Nat.reduceMul, Nat.reduceLeDiff, Nat.reduceLT, ofCells, ofCell, reduceCtorEq, Int.reduceLE, Int.reduceLT, Int.reduceToNat, Int.reduceAdd, Int.reduceSub, Int.reduceMul, Int.reduceNeg, Int.reduceBEq, Int.reduceBNe, Int.reduceEq, eqCell, eqCells, binP, unP, convP, lenP, builtinP, sliceDataP, unsafeStringP, appendT, appendS, appendP, copyP, srcP, mmsP, mmP, indexOp, indexAddrOp, sliceOp, bndsP, bndP, capw, capCut, loadOp, storeOp, loadP, fieldOp, fieldAddrOp, arrayAtOp, buildP, buildSliceP, makeSliceP, placeF, fillP, setL, PK.agg, isZero, gt_iff_lt, Nat.reducePow, Nat.reduceGT, reps, seg, wkN, if_pos, if_neg, tf9, Tryz.ze9, resP, resPs, resP1]; rfl) | rfl) ⟨6, by repeat' first | exact frz_scalar rfl | apply frz_tuple | apply frz_agg | apply frz_fsl | apply frz_gsl (by omega) | exact frzs_nil | apply frzs_cons⟩ (by first | exact keepsH0 | exact keeps1 (by assumption)) (nw_eq ?_)
  rfl
theorem refOpen9_ok (key nonce ad s : List UInt8) (had : ad.length < 2 ^ 40) (hs0 : s.length < 2 ^ 50) : Fn (Cx w0) 13 [.str key, .str nonce, .str ad, .str s] (.tuple [.str (openG key nonce ad s).1, .int .i64 (openG key nonce ad s).2]) := by
  have sz := refSized9_ok (w0 := w0) key nonce
  by_cases hk : goodK key
  · rw [if_neg (by simpa using hk)] at sz
    by_cases hn : nonce.length = 12
    · rw [if_neg (by simpa using hn)] at sz
      by_cases h16 : s.length < 16
      · rw [show openG key nonce ad s = ([], 11) by rw [openG, if_neg (by simpa using hk), if_neg (by simpa using hn), if_pos h16]]
        have hl' : (s.length : Int) < 16 := by omega
        refine fn_H ([Go.ResultVar.tmp 8, Go.ResultVar.tmp 9]) Tryz.func13 rfl rfl (by decide) fun ph hW Q hQ => ?_
        simp only [start, List.length_cons, List.length_nil, List.cons_append, List.nil_append, Nat.reduceAdd, Nat.reduceSub, List.replicate_succ, List.replicate_zero, Tryz.ntmps13]
        repeat' first
        | simp -implicitDefEqProofs (maxSteps := 400000) (disch := first | with_reducible rfl | omega | (simp only [h_n, PH.n_push, PH.n_put, List.length_cons, List.length_nil] <;> omega) | decide) only [wkAll, wkL, popO, wantedP, if_true, if_false, reduceIte, ne_eq, Nat.reduceAdd, Nat.reduceSub, Nat.reduceMul, Nat.reduceLeDiff, Nat.reduceLT, ofCells, ofCell, reduceCtorEq, Int.reduceLE, Int.reduceLT, Int.reduceToNat, Int.reduceAdd, Int.reduceSub, Int.reduceMul, Int.reduceNeg, Int.reduceBEq, Int.reduceBNe, Int.reduceEq, eqCell, eqCells, binP, unP, convP, lenP, builtinP, sliceDataP, unsafeStringP, appendT, appendS, appendP, copyP, srcP, mmsP, mmP, indexOp, indexAddrOp, sliceOp, bndsP, bndP, capw, capCut, loadOp, storeOp, loadP, fieldOp, fieldAddrOp, arrayAtOp, buildP, buildSliceP, makeSliceP, placeF, fillP, setL, PK.agg, isZero, gt_iff_lt, Nat.reducePow, Nat.reduceGT, reps, seg, wkN, if_pos, if_neg, tf3, Tryz.ze3, tf9, Tryz.ze9, pl13_9Gd1, gt_iff_lt, hl']
        | refine w_pure (sz) ?_
        | refine w_drawnF (id := 9) tb13_9Gd1 pl13_9Gd1 41 (by kernel_rfl) (by kernel_rfl) (by simp) ?_
        refine hQ (by first | exact .inr rfl | exact .inl rfl) (by first | exact trivial | exact marks1) (by first | (simp -implicitDefEqProofs (maxSteps := 400000) (disch := first | with_reducible rfl | omega | (simp only [h_n, PH.n_push, PH.n_put, List.length_cons, List.length_nil] <;> omega) | decide) only [wkAll, wkL, popO, wantedP, if_true, if_false, reduceIte, ne_eq, Nat.reduceAdd, Nat.reduceSub, Nat.reduceMul, Nat.reduceLeDiff, Nat.reduceLT, ofCells, ofCell, reduceCtorEq, Int.reduceLE, Int.reduceLT, Int.reduceToNat, Int.reduceAdd, Int.reduceSub, Int.reduceMul, Int.reduceNeg, Int.reduceBEq, Int.reduceBNe, Int.reduceEq, eqCell, eqCells, binP, unP, convP, lenP, builtinP, sliceDataP, unsafeStringP, appendT, appendS, appendP, copyP, srcP, mmsP, mmP, indexOp, indexAddrOp, sliceOp, bndsP, bndP, capw, capCut, loadOp, storeOp, loadP, fieldOp, fieldAddrOp, arrayAtOp, buildP, buildSliceP, makeSliceP, placeF, fillP, setL, PK.agg, isZero, gt_iff_lt, Nat.reducePow, Nat.reduceGT, reps, seg, wkN, if_pos, if_neg, tf3, Tryz.ze3, tf9, Tryz.ze9, pl13_9Gd1, resP, resPs, resP1]; rfl) | rfl) ⟨6, by repeat' first | exact frz_scalar rfl | apply frz_tuple | apply frz_agg | apply frz_fsl | apply frz_gsl (by omega) | exact frzs_nil | apply frzs_cons⟩ (by first | exact keepsH0 | exact keeps1 (by assumption)) (nw_eq ?_)
        rfl
      have n1 : ¬ (s.length : Int) < 16 := by omega
      by_cases hl : 65552 < s.length
      · rw [show openG key nonce ad s = ([], 12) by rw [openG, if_neg (by simpa using hk), if_neg (by simpa using hn), if_neg h16, if_pos hl]]
        have hl' : (65552 : Int) < (s.length : Int) := by omega
        refine fn_H ([Go.ResultVar.tmp 8, Go.ResultVar.tmp 9]) Tryz.func13 rfl rfl (by decide) fun ph hW Q hQ => ?_
        simp only [start, List.length_cons, List.length_nil, List.cons_append, List.nil_append, Nat.reduceAdd, Nat.reduceSub, List.replicate_succ, List.replicate_zero, Tryz.ntmps13]
        repeat' first
        | simp -implicitDefEqProofs (maxSteps := 400000) (disch := first | with_reducible rfl | omega | (simp only [h_n, PH.n_push, PH.n_put, List.length_cons, List.length_nil] <;> omega) | decide) only [wkAll, wkL, popO, wantedP, if_true, if_false, reduceIte, ne_eq, Nat.reduceAdd, Nat.reduceSub, Nat.reduceMul, Nat.reduceLeDiff, Nat.reduceLT, ofCells, ofCell, reduceCtorEq, Int.reduceLE, Int.reduceLT, Int.reduceToNat, Int.reduceAdd, Int.reduceSub, Int.reduceMul, Int.reduceNeg, Int.reduceBEq, Int.reduceBNe, Int.reduceEq, eqCell, eqCells, binP, unP, convP, lenP, builtinP, sliceDataP, unsafeStringP, appendT, appendS, appendP, copyP, srcP, mmsP, mmP, indexOp, indexAddrOp, sliceOp, bndsP, bndP, capw, capCut, loadOp, storeOp, loadP, fieldOp, fieldAddrOp, arrayAtOp, buildP, buildSliceP, makeSliceP, placeF, fillP, setL, PK.agg, isZero, gt_iff_lt, Nat.reducePow, Nat.reduceGT, reps, seg, wkN, if_pos, if_neg, tf3, Tryz.ze3, tf9, Tryz.ze9, pl13_9Gd1, gt_iff_lt, n1, hl']
        | refine w_pure (sz) ?_
        | refine w_drawnF (id := 9) tb13_9Gd1 pl13_9Gd1 41 (by kernel_rfl) (by kernel_rfl) (by simp) ?_
        refine hQ (by first | exact .inr rfl | exact .inl rfl) (by first | exact trivial | exact marks1) (by first | (simp -implicitDefEqProofs (maxSteps := 400000) (disch := first | with_reducible rfl | omega | (simp only [h_n, PH.n_push, PH.n_put, List.length_cons, List.length_nil] <;> omega) | decide) only [wkAll, wkL, popO, wantedP, if_true, if_false, reduceIte, ne_eq, Nat.reduceAdd, Nat.reduceSub, Nat.reduceMul, Nat.reduceLeDiff, Nat.reduceLT, ofCells, ofCell, reduceCtorEq, Int.reduceLE, Int.reduceLT, Int.reduceToNat, Int.reduceAdd, Int.reduceSub, Int.reduceMul, Int.reduceNeg, Int.reduceBEq, Int.reduceBNe, Int.reduceEq, eqCell, eqCells, binP, unP, convP, lenP, builtinP, sliceDataP, unsafeStringP, appendT, appendS, appendP, copyP, srcP, mmsP, mmP, indexOp, indexAddrOp, sliceOp, bndsP, bndP, capw, capCut, loadOp, storeOp, loadP, fieldOp, fieldAddrOp, arrayAtOp, buildP, buildSliceP, makeSliceP, placeF, fillP, setL, PK.agg, isZero, gt_iff_lt, Nat.reducePow, Nat.reduceGT, reps, seg, wkN, if_pos, if_neg, tf3, Tryz.ze3, tf9, Tryz.ze9, pl13_9Gd1, resP, resPs, resP1]; rfl) | rfl) ⟨6, by repeat' first | exact frz_scalar rfl | apply frz_tuple | apply frz_agg | apply frz_fsl | apply frz_gsl (by omega) | exact frzs_nil | apply frzs_cons⟩ (by first | exact keepsH0 | exact keeps1 (by assumption)) (nw_eq ?_)
        rfl
      · have hl' : ¬ (65552 : Int) < (s.length : Int) := by omega
        obtain ⟨n, hns⟩ : ∃ n, n = s.length - 16 := ⟨_, rfl⟩
        have n2 : (s.length : Int) - 16 = (n : Int) := by omega
        have n3 : (n : Int) ≤ (s.length : Int) := by omega
        have n4 : n ≤ s.length := by omega
        have hw := words16 hk
        have hj : (nonce ++ [0, 0, 0, 2]).length = 16 := by rw [List.length_append, hn]; rfl
        have htk : (s.take n).length = n := by rw [List.length_take]; omega
        have hdt : (s.drop n).take (s.length - n) = s.drop n := List.take_of_length_le (by rw [List.length_drop]; exact Nat.le_refl _)
        have st := refStream_ok (w0 := w0) key (nonce ++ [0, 0, 0, 2]) (n : Int)
        rw [str_good hk hj (by omega)] at st
        have hsl := strL_len hj hw n
        have xx := refXor_ok (w0 := w0) (s.take n) (strL (wordsL key) (nonce ++ [0, 0, 0, 2]) n) (by omega) (by omega)
        have hx : xorB (s.take n) (strL (wordsL key) (nonce ++ [0, 0, 0, 2]) n) = gcS (wordsL key) nonce (s.take n) := by rw [gcS, htk]
        rw [hx] at xx
        generalize strL (wordsL key) (nonce ++ [0, 0, 0, 2]) n = u at *
        have tg := refTag9_ok (w0 := w0) key nonce ad (s.take n) hk hn had (by omega)
        have hop : openG key nonce ad s = if gcT (wordsL key) nonce ad (s.take n) = s.drop n then (gcS (wordsL key) nonce (s.take n), 0) else ([], 17) := by
          rw [openG, if_neg (by simpa using hk), if_neg (by simpa using hn), if_neg h16, if_neg hl, hns]
        rw [hop]
        clear hx hop
        generalize gcT (wordsL key) nonce ad (s.take n) = t at *
        generalize gcS (wordsL key) nonce (s.take n) = c at *
        by_cases ht : t = s.drop n
        · rw [if_pos ht]
          have q : (t == s.drop n) = true := by rw [beq_iff_eq]; exact ht
          refine fn_H ([Go.ResultVar.tmp 8, Go.ResultVar.tmp 9]) Tryz.func13 rfl rfl (by decide) fun ph hW Q hQ => ?_
          simp only [start, List.length_cons, List.length_nil, List.cons_append, List.nil_append, Nat.reduceAdd, Nat.reduceSub, List.replicate_succ, List.replicate_zero, Tryz.ntmps13]
          repeat' first
          | simp -implicitDefEqProofs (maxSteps := 400000) (disch := first | with_reducible rfl | omega | (simp only [h_n, PH.n_push, PH.n_put, List.length_cons, List.length_nil] <;> omega) | decide) only [wkAll, wkL, popO, wantedP, if_true, if_false, reduceIte, ne_eq, Nat.reduceAdd, Nat.reduceSub, Nat.reduceMul, Nat.reduceLeDiff, Nat.reduceLT, ofCells, ofCell, reduceCtorEq, Int.reduceLE, Int.reduceLT, Int.reduceToNat, Int.reduceAdd, Int.reduceSub, Int.reduceMul, Int.reduceNeg, Int.reduceBEq, Int.reduceBNe, Int.reduceEq, eqCell, eqCells, binP, unP, convP, lenP, builtinP, sliceDataP, unsafeStringP, appendT, appendS, appendP, copyP, srcP, mmsP, mmP, indexOp, indexAddrOp, sliceOp, bndsP, bndP, capw, capCut, loadOp, storeOp, loadP, fieldOp, fieldAddrOp, arrayAtOp, buildP, buildSliceP, makeSliceP, placeF, fillP, setL, PK.agg, isZero, gt_iff_lt, Nat.reducePow, Nat.reduceGT, reps, seg, wkN, if_pos, if_neg, tf3, Tryz.ze3, tf9, Tryz.ze9, pl13_9Gd1, gt_iff_lt, n1, n2, n3, n4, hl', htk, hdt, hn, q]
          | refine w_pure (sz) ?_
          | refine w_pure (tg) ?_
          | refine w_pure (st) ?_
          | refine w_pure (xx) ?_
          | refine w_drawnF (id := 9) tb13_9Gd1 pl13_9Gd1 41 (by kernel_rfl) (by kernel_rfl) (by simp) ?_
          refine hQ (by first | exact .inr rfl | exact .inl rfl) (by first | exact trivial | exact marks1) (by first | (simp -implicitDefEqProofs (maxSteps := 400000) (disch := first | with_reducible rfl | omega | (simp only [h_n, PH.n_push, PH.n_put, List.length_cons, List.length_nil] <;> omega) | decide) only [wkAll, wkL, popO, wantedP, if_true, if_false, reduceIte, ne_eq, Nat.reduceAdd, Nat.reduceSub, Nat.reduceMul, Nat.reduceLeDiff, Nat.reduceLT, ofCells, ofCell, reduceCtorEq, Int.reduceLE, Int.reduceLT, Int.reduceToNat, Int.reduceAdd, Int.reduceSub, Int.reduceMul, Int.reduceNeg, Int.reduceBEq, Int.reduceBNe, Int.reduceEq, eqCell, eqCells, binP, unP, convP, lenP, builtinP, sliceDataP, unsafeStringP, appendT, appendS, appendP, copyP, srcP, mmsP, mmP, indexOp, indexAddrOp, sliceOp, bndsP, bndP, capw, capCut, loadOp, storeOp, loadP, fieldOp, fieldAddrOp, arrayAtOp, buildP, buildSliceP, makeSliceP, placeF, fillP, setL, PK.agg, isZero, gt_iff_lt, Nat.reducePow, Nat.reduceGT, reps, seg, wkN, if_pos, if_neg, tf3, Tryz.ze3, tf9, Tryz.ze9, pl13_9Gd1, resP, resPs, resP1]; rfl) | rfl) ⟨6, by repeat' first | exact frz_scalar rfl | apply frz_tuple | apply frz_agg | apply frz_fsl | apply frz_gsl (by omega) | exact frzs_nil | apply frzs_cons⟩ (by first | exact keepsH0 | exact keeps1 (by assumption)) (nw_eq ?_)
          rfl
        · rw [if_neg ht]
          have q : (t == s.drop n) = false := by rw [beq_eq_false_iff_ne]; exact ht
          refine fn_H ([Go.ResultVar.tmp 8, Go.ResultVar.tmp 9]) Tryz.func13 rfl rfl (by decide) fun ph hW Q hQ => ?_
          simp only [start, List.length_cons, List.length_nil, List.cons_append, List.nil_append, Nat.reduceAdd, Nat.reduceSub, List.replicate_succ, List.replicate_zero, Tryz.ntmps13]
          repeat' first
          | simp -implicitDefEqProofs (maxSteps := 400000) (disch := first | with_reducible rfl | omega | (simp only [h_n, PH.n_push, PH.n_put, List.length_cons, List.length_nil] <;> omega) | decide) only [wkAll, wkL, popO, wantedP, if_true, if_false, reduceIte, ne_eq, Nat.reduceAdd, Nat.reduceSub, Nat.reduceMul, Nat.reduceLeDiff, Nat.reduceLT, ofCells, ofCell, reduceCtorEq, Int.reduceLE, Int.reduceLT, Int.reduceToNat, Int.reduceAdd, Int.reduceSub, Int.reduceMul, Int.reduceNeg, Int.reduceBEq, Int.reduceBNe, Int.reduceEq, eqCell, eqCells, binP, unP, convP, lenP, builtinP, sliceDataP, unsafeStringP, appendT, appendS, appendP, copyP, srcP, mmsP, mmP, indexOp, indexAddrOp, sliceOp, bndsP, bndP, capw, capCut, loadOp, storeOp, loadP, fieldOp, fieldAddrOp, arrayAtOp, buildP, buildSliceP, makeSliceP, placeF, fillP, setL, PK.agg, isZero, gt_iff_lt, Nat.reducePow, Nat.reduceGT, reps, seg, wkN, if_pos, if_neg, tf3, Tryz.ze3, tf9, Tryz.ze9, pl13_9Gd1, gt_iff_lt, n1, n2, n3, n4, hl', htk, hdt, hn, q]
          | refine w_pure (sz) ?_
          | refine w_pure (tg) ?_
          | refine w_pure (st) ?_
          | refine w_pure (xx) ?_
          | refine w_drawnF (id := 9) tb13_9Gd1 pl13_9Gd1 41 (by kernel_rfl) (by kernel_rfl) (by simp) ?_
          refine hQ (by first | exact .inr rfl | exact .inl rfl) (by first | exact trivial | exact marks1) (by first | (simp -implicitDefEqProofs (maxSteps := 400000) (disch := first | with_reducible rfl | omega | (simp only [h_n, PH.n_push, PH.n_put, List.length_cons, List.length_nil] <;> omega) | decide) only [wkAll, wkL, popO, wantedP, if_true, if_false, reduceIte, ne_eq, Nat.reduceAdd, Nat.reduceSub, Nat.reduceMul, Nat.reduceLeDiff, Nat.reduceLT, ofCells, ofCell, reduceCtorEq, Int.reduceLE, Int.reduceLT, Int.reduceToNat, Int.reduceAdd, Int.reduceSub, Int.reduceMul, Int.reduceNeg, Int.reduceBEq, Int.reduceBNe, Int.reduceEq, eqCell, eqCells, binP, unP, convP, lenP, builtinP, sliceDataP, unsafeStringP, appendT, appendS, appendP, copyP, srcP, mmsP, mmP, indexOp, indexAddrOp, sliceOp, bndsP, bndP, capw, capCut, loadOp, storeOp, loadP, fieldOp, fieldAddrOp, arrayAtOp, buildP, buildSliceP, makeSliceP, placeF, fillP, setL, PK.agg, isZero, gt_iff_lt, Nat.reducePow, Nat.reduceGT, reps, seg, wkN, if_pos, if_neg, tf3, Tryz.ze3, tf9, Tryz.ze9, pl13_9Gd1, resP, resPs, resP1]; rfl) | rfl) ⟨6, by repeat' first | exact frz_scalar rfl | apply frz_tuple | apply frz_agg | apply frz_fsl | apply frz_gsl (by omega) | exact frzs_nil | apply frzs_cons⟩ (by first | exact keepsH0 | exact keeps1 (by assumption)) (nw_eq ?_)
          rfl
    · rw [if_pos hn] at sz
      rw [show openG key nonce ad s = ([], 10) by rw [openG, if_neg (by simpa using hk), if_pos hn]]
      refine fn_H ([Go.ResultVar.tmp 8, Go.ResultVar.tmp 9]) Tryz.func13 rfl rfl (by decide) fun ph hW Q hQ => ?_
      simp only [start, List.length_cons, List.length_nil, List.cons_append, List.nil_append, Nat.reduceAdd, Nat.reduceSub, List.replicate_succ, List.replicate_zero, Tryz.ntmps13]
      repeat' first
      | simp -implicitDefEqProofs (maxSteps := 400000) (disch := first | with_reducible rfl | omega | (simp only [h_n, PH.n_push, PH.n_put, List.length_cons, List.length_nil] <;> omega) | decide) only [wkAll, wkL, popO, wantedP, if_true, if_false, reduceIte, ne_eq, Nat.reduceAdd, Nat.reduceSub, Nat.reduceMul, Nat.reduceLeDiff, Nat.reduceLT, ofCells, ofCell, reduceCtorEq, Int.reduceLE, Int.reduceLT, Int.reduceToNat, Int.reduceAdd, Int.reduceSub, Int.reduceMul, Int.reduceNeg, Int.reduceBEq, Int.reduceBNe, Int.reduceEq, eqCell, eqCells, binP, unP, convP, lenP, builtinP, sliceDataP, unsafeStringP, appendT, appendS, appendP, copyP, srcP, mmsP, mmP, indexOp, indexAddrOp, sliceOp, bndsP, bndP, capw, capCut, loadOp, storeOp, loadP, fieldOp, fieldAddrOp, arrayAtOp, buildP, buildSliceP, makeSliceP, placeF, fillP, setL, PK.agg, isZero, gt_iff_lt, Nat.reducePow, Nat.reduceGT, reps, seg, wkN, if_pos, if_neg, tf3, Tryz.ze3, tf9, Tryz.ze9, pl13_9Gd1]
      | refine w_pure (sz) ?_
      | refine w_drawnF (id := 9) tb13_9Gd1 pl13_9Gd1 41 (by kernel_rfl) (by kernel_rfl) (by simp) ?_
      refine hQ (by first | exact .inr rfl | exact .inl rfl) (by first | exact trivial | exact marks1) (by first | (simp -implicitDefEqProofs (maxSteps := 400000) (disch := first | with_reducible rfl | omega | (simp only [h_n, PH.n_push, PH.n_put, List.length_cons, List.length_nil] <;> omega) | decide) only [wkAll, wkL, popO, wantedP, if_true, if_false, reduceIte, ne_eq, Nat.reduceAdd, Nat.reduceSub, Nat.reduceMul, Nat.reduceLeDiff, Nat.reduceLT, ofCells, ofCell, reduceCtorEq, Int.reduceLE, Int.reduceLT, Int.reduceToNat, Int.reduceAdd, Int.reduceSub, Int.reduceMul, Int.reduceNeg, Int.reduceBEq, Int.reduceBNe, Int.reduceEq, eqCell, eqCells, binP, unP, convP, lenP, builtinP, sliceDataP, unsafeStringP, appendT, appendS, appendP, copyP, srcP, mmsP, mmP, indexOp, indexAddrOp, sliceOp, bndsP, bndP, capw, capCut, loadOp, storeOp, loadP, fieldOp, fieldAddrOp, arrayAtOp, buildP, buildSliceP, makeSliceP, placeF, fillP, setL, PK.agg, isZero, gt_iff_lt, Nat.reducePow, Nat.reduceGT, reps, seg, wkN, if_pos, if_neg, tf3, Tryz.ze3, tf9, Tryz.ze9, pl13_9Gd1, resP, resPs, resP1]; rfl) | rfl) ⟨6, by repeat' first | exact frz_scalar rfl | apply frz_tuple | apply frz_agg | apply frz_fsl | apply frz_gsl (by omega) | exact frzs_nil | apply frzs_cons⟩ (by first | exact keepsH0 | exact keeps1 (by assumption)) (nw_eq ?_)
      rfl
  · rw [if_pos hk] at sz
    rw [show openG key nonce ad s = ([], 13) by rw [openG, if_pos hk]]
    refine fn_H ([Go.ResultVar.tmp 8, Go.ResultVar.tmp 9]) Tryz.func13 rfl rfl (by decide) fun ph hW Q hQ => ?_
    simp only [start, List.length_cons, List.length_nil, List.cons_append, List.nil_append, Nat.reduceAdd, Nat.reduceSub, List.replicate_succ, List.replicate_zero, Tryz.ntmps13]
    repeat' first
    | simp -implicitDefEqProofs (maxSteps := 400000) (disch := first | with_reducible rfl | omega | (simp only [h_n, PH.n_push, PH.n_put, List.length_cons, List.length_nil] <;> omega) | decide) only [wkAll, wkL, popO, wantedP, if_true, if_false, reduceIte, ne_eq, Nat.reduceAdd, Nat.reduceSub, Nat.reduceMul, Nat.reduceLeDiff, Nat.reduceLT, ofCells, ofCell, reduceCtorEq, Int.reduceLE, Int.reduceLT, Int.reduceToNat, Int.reduceAdd, Int.reduceSub, Int.reduceMul, Int.reduceNeg, Int.reduceBEq, Int.reduceBNe, Int.reduceEq, eqCell, eqCells, binP, unP, convP, lenP, builtinP, sliceDataP, unsafeStringP, appendT, appendS, appendP, copyP, srcP, mmsP, mmP, indexOp, indexAddrOp, sliceOp, bndsP, bndP, capw, capCut, loadOp, storeOp, loadP, fieldOp, fieldAddrOp, arrayAtOp, buildP, buildSliceP, makeSliceP, placeF, fillP, setL, PK.agg, isZero, gt_iff_lt, Nat.reducePow, Nat.reduceGT, reps, seg, wkN, if_pos, if_neg, tf3, Tryz.ze3, tf9, Tryz.ze9, pl13_9Gd1]
    | refine w_pure (sz) ?_
    | refine w_drawnF (id := 9) tb13_9Gd1 pl13_9Gd1 41 (by kernel_rfl) (by kernel_rfl) (by simp) ?_
    refine hQ (by first | exact .inr rfl | exact .inl rfl) (by first | exact trivial | exact marks1) (by first | (simp -implicitDefEqProofs (maxSteps := 400000) (disch := first | with_reducible rfl | omega | (simp only [h_n, PH.n_push, PH.n_put, List.length_cons, List.length_nil] <;> omega) | decide) only [wkAll, wkL, popO, wantedP, if_true, if_false, reduceIte, ne_eq, Nat.reduceAdd, Nat.reduceSub, Nat.reduceMul, Nat.reduceLeDiff, Nat.reduceLT, ofCells, ofCell, reduceCtorEq, Int.reduceLE, Int.reduceLT, Int.reduceToNat, Int.reduceAdd, Int.reduceSub, Int.reduceMul, Int.reduceNeg, Int.reduceBEq, Int.reduceBNe, Int.reduceEq, eqCell, eqCells, binP, unP, convP, lenP, builtinP, sliceDataP, unsafeStringP, appendT, appendS, appendP, copyP, srcP, mmsP, mmP, indexOp, indexAddrOp, sliceOp, bndsP, bndP, capw, capCut, loadOp, storeOp, loadP, fieldOp, fieldAddrOp, arrayAtOp, buildP, buildSliceP, makeSliceP, placeF, fillP, setL, PK.agg, isZero, gt_iff_lt, Nat.reducePow, Nat.reduceGT, reps, seg, wkN, if_pos, if_neg, tf3, Tryz.ze3, tf9, Tryz.ze9, pl13_9Gd1, resP, resPs, resP1]; rfl) | rfl) ⟨6, by repeat' first | exact frz_scalar rfl | apply frz_tuple | apply frz_agg | apply frz_fsl | apply frz_gsl (by omega) | exact frzs_nil | apply frzs_cons⟩ (by first | exact keepsH0 | exact keeps1 (by assumption)) (nw_eq ?_)
    rfl
end Pv
