/- Part of the proof: the layer of pure values, or walks through functions (PvWr8). -/
import Derived.Test.YtbocckencbkdeabDoorPvWr6
set_option linter.all false
--nosplit
--keep2
namespace Pv
set_option maxRecDepth 20000
set_option maxHeartbeats 4000000
open Go Go.Proofs Go.RowKit
def tb25_8Wr8 : Tab := [[], [0], [0, 1], [0, 1, 2], [], [4], [4, 5], [4, 5, 6], [4, 5, 6, 7], [], [9], [9, 10], [9, 10, 11], [], [13], [13, 14], [], [16], [16, 17], [], [19], [16, 17, 18, 19, 20], [], [0, 1, 2, 3, 4, 5, 6, 7, 8, 9, 10, 11, 12, 13, 14, 15, 16, 17, 18, 19, 20, 21, 22], [], [0, 1, 2, 3, 4, 5, 6, 7, 8, 9, 10, 11, 12, 13, 14, 15, 16, 17, 18, 19, 20, 21, 22, 23, 24]]
def pl25_8Wr8 : PT := (.mv 0 (.mv 1 (.mv 2 (.mv 3 (.mv 4 (.mv 5 (.mv 6 (.mv 7 (.mv 8 (.mv 9 (.mv 10 (.mv 11 (.mv 12 (.mv 13 (.mv 14 (.mv 15 (.mv 16 (.mv 17 (.mv 19 (.mv 20 (.mv 22 (.fx 18 [0, 1, 2, 3, 4, 5, 6, 7, 8, 9, 10, 11, 12, 13, 14, 15, 19, 20, 22] (.fx 21 [0, 1, 2, 3, 4, 5, 6, 7, 8, 9, 10, 11, 12, 13, 14, 15, 22] (.mv 23 (.fx 24 [0, 1, 2, 3, 4, 5, 6, 7, 8, 9, 10, 11, 12, 13, 14, 15, 22, 23] (.fx 25 [] .nil .no) .no)) (.fx 24 [0, 1, 2, 3, 4, 5, 6, 7, 8, 9, 10, 11, 12, 13, 14, 15, 19, 20, 22] (.fx 21 [0, 1, 2, 3, 4, 5, 6, 7, 8, 9, 10, 11, 12, 13, 14, 15, 22] (.mv 23 (.fx 25 [] .nil .no)) .no) .no)) (.fx 24 [0, 1, 2, 3, 4, 5, 6, 7, 8, 9, 10, 11, 12, 13, 14, 15, 16, 17, 19, 20, 22] (.fx 18 [0, 1, 2, 3, 4, 5, 6, 7, 8, 9, 10, 11, 12, 13, 14, 15, 19, 20, 22] (.fx 21 [0, 1, 2, 3, 4, 5, 6, 7, 8, 9, 10, 11, 12, 13, 14, 15, 22] (.mv 23 (.fx 25 [] .nil .no)) .no) .no) .no)))))))))))))))))))))))
variable {w0 : World}

theorem b_shr6 (b : UInt8) : shrP .u8 (b.toNat : Int) 6 = ((b.toNat / 64 : Nat) : Int) := by
  have h : ∀ n : Fin 256, shrP .u8 (n.val : Int) 6 = ((n.val / 64 : Nat) : Int) := by decide +kernel
  exact h ⟨b.toNat, b.toNat_lt⟩
theorem b_shr3 (b : UInt8) : shrP .u8 (b.toNat : Int) 3 = ((b.toNat / 8 : Nat) : Int) := by
  have h : ∀ n : Fin 256, shrP .u8 (n.val : Int) 3 = ((n.val / 8 : Nat) : Int) := by decide +kernel
  exact h ⟨b.toNat, b.toNat_lt⟩
theorem n_and7 (m : Nat) (hm : m < 256) : bitsP .and .u8 (m : Int) 7 = ((m % 8 : Nat) : Int) := by
  have h : ∀ n : Fin 256, bitsP .and .u8 (n.val : Int) 7 = ((n.val % 8 : Nat) : Int) := by decide +kernel
  exact h ⟨m, hm⟩
theorem b_i8 (b : UInt8) : IntKind.wrap .i8 (b.toNat : Int) = sgI b := by
  have h : ∀ n : Fin 256, IntKind.wrap .i8 (n.val : Int) = if 127 < n.val then (n.val : Int) - 256 else n.val := by decide +kernel
  exact h ⟨b.toNat, b.toNat_lt⟩
theorem sgI_i64 (b : UInt8) : IntKind.wrap .i64 (sgI b) = sgI b := by
  have := b.toNat_lt
  have h : -128 ≤ sgI b ∧ sgI b ≤ 127 := by unfold sgI; split <;> omega
  exact IntWalk.i64_in _ (by omega)
theorem valN_lt4 (s : List UInt8) (i : Nat) : valN ((s.drop i).take 4) < 4294967296 := by
  have h1 := valN_lt ((s.drop i).take 4)
  have h2 : ((s.drop i).take 4).length ≤ 4 := by rw [List.length_take]; omega
  have h3 : 256 ^ ((s.drop i).take 4).length ≤ 256 ^ 4 := Nat.pow_le_pow_right (by decide) h2
  have h4 : (256 : Nat) ^ 4 = 4294967296 := by decide
  omega
theorem getD_some {s : List UInt8} {i : Nat} (h : i < s.length) : s[i]? = some (s.getD i 0) := by
  rw [List.getD_eq_getElem?_getD, List.getElem?_eq_getElem h]; rfl
theorem refRead21_ok (s : List UInt8) (hs : s.length < 2 ^ 50) : Fn (Cx w0) 25 [.str s] (.tuple [.agg (pkC (readP s).1), .int .i64 (readP s).2]) := by
  by_cases h1 : s.length < 48
  · rw [show readP s = (pk0, 11) by rw [readP, if_pos h1]]
    have h1' : (s.length : Int) < 48 := by omega
    refine fn_H ([Go.ResultVar.cell 2 26, Go.ResultVar.tmp 3]) Tryd.func25 rfl rfl (by decide) fun ph hW Q hQ => ?_
    simp only [start, List.length_cons, List.length_nil, List.cons_append, List.nil_append, Nat.reduceAdd, Nat.reduceSub, List.replicate_succ, List.replicate_zero, Tryd.ntmps25]
    repeat' first | simp -implicitDefEqProofs (maxSteps := 400000) (disch := first | with_reducible rfl | omega | (simp only [wkH] <;> omega) | decide) only [wkAll, wkL, popO, wantedP, if_true, if_false, reduceIte, ne_eq, Nat.reduceAdd, Nat.reduceSub, Nat.reduceMul, Nat.reduceLeDiff, Nat.reduceLT, ofCells, ofCell, reduceCtorEq, Int.reduceLE, Int.reduceLT, Int.reduceToNat, Int.reduceAdd, Int.reduceSub, Int.reduceMul, Int.reduceNeg, Int.reduceBEq, Int.reduceBNe, Int.reduceEq, eqCell, eqCells, binP, unP, convP, lenP, builtinP, sliceDataP, unsafeStringP, appendT, appendS, appendP, copyP, srcP, mmsP, mmP, indexOp, indexAddrOp, sliceOp, bndsP, bndP, capw, capCut, loadOp, storeOp, loadP, fieldOp, fieldAddrOp, arrayAtOp, buildP, buildSliceP, makeSliceP, placeF, fillP, setL, PK.agg, isZero, gt_iff_lt, Nat.reducePow, Nat.reduceGT, reps, seg, wkN, if_pos, if_neg, t_nil, t_no, t_mv, t_fx, t_op, t_true, t_false, t_mvk, t_se0, t_se, and_true, tf3, Tryd.ze3, tf5, Tryd.ze5, tf9, Tryd.ze9, tf22, Tryd.ze22, tf23, Tryd.ze23, tf24, Tryd.ze24, tf26, Tryd.ze26, tf72, Tryd.ze72, pl25_8Wr8, h1'] | refine And.intro ?_ ?_ | refine w_drawnTF (id := 8) tb25_8Wr8 pl25_8Wr8 [0, 1, 2, 3, 4, 5, 6, 7, 8, 9, 10, 11, 12, 13, 14, 15, 16, 17, 18, 19, 20, 21, 22, 23, 24, 25] 49 (by kernel_rfl) (by kernel_rfl) (by simp) ?_
    refine hQ (by first | exact .inr rfl | exact .inl rfl) (by first | exact trivial | exact marks1) (by first | (simp -implicitDefEqProofs (maxSteps := 400000) (disch := first | with_reducible rfl | omega | (simp only [wkH] <;> omega) | decide) only [wkAll, wkL, popO, wantedP, if_true, if_false, reduceIte, ne_eq, Nat.reduceAdd, Nat.reduceSub, Nat.reduceMul, Nat.reduceLeDiff, Nat.reduceLT, ofCells, ofCell, reduceCtorEq, Int.reduceLE, Int.reduceLT, Int.reduceToNat, Int.reduceAdd, Int.reduceSub, Int.reduceMul, Int.reduceNeg, Int.reduceBEq, Int.reduceBNe, Int.reduceEq, eqCell, eqCells, loadOp, storeOp, loadP, setL, PK.agg, isZero, gt_iff_lt, Nat.reducePow, Nat.reduceGT, reps, seg, wkN, if_pos, if_neg, t_nil, t_no, t_mv, t_fx, t_op, t_true, t_false, t_mvk, t_se0, t_se, and_true, tf3, Tryd.ze3, tf5, Tryd.ze5, tf9, Tryd.ze9, tf22, Tryd.ze22, tf23, Tryd.ze23, tf24, Tryd.ze24, tf26, Tryd.ze26, tf72, Tryd.ze72, pl25_8Wr8, resP, resPs, resP1]; rfl) | rfl) ⟨6, by repeat' first | exact frz_scalar rfl | apply frz_tuple | apply frz_agg | apply frz_fsl | apply frz_gsl (by omega) | exact frzs_nil | apply frzs_cons⟩ (by first | exact keepsH0 | exact keeps1 (by assumption)) ?_
    repeat' first | exact nw_nil | exact nw_zsl | apply nw_tuple | apply nw_agg | exact nws_nil | apply nws_cons | exact nw_eq rfl | apply nw_eq
  have h1' : ¬ (s.length : Int) < 48 := by omega
  by_cases h2 : 1280 < s.length
  · rw [show readP s = (pk0, 12) by rw [readP, if_neg h1, if_pos h2]]
    have h2' : (1280 : Int) < (s.length : Int) := by omega
    refine fn_H ([Go.ResultVar.cell 2 26, Go.ResultVar.tmp 3]) Tryd.func25 rfl rfl (by decide) fun ph hW Q hQ => ?_
    simp only [start, List.length_cons, List.length_nil, List.cons_append, List.nil_append, Nat.reduceAdd, Nat.reduceSub, List.replicate_succ, List.replicate_zero, Tryd.ntmps25]
    repeat' first | simp -implicitDefEqProofs (maxSteps := 400000) (disch := first | with_reducible rfl | omega | (simp only [wkH] <;> omega) | decide) only [wkAll, wkL, popO, wantedP, if_true, if_false, reduceIte, ne_eq, Nat.reduceAdd, Nat.reduceSub, Nat.reduceMul, Nat.reduceLeDiff, Nat.reduceLT, ofCells, ofCell, reduceCtorEq, Int.reduceLE, Int.reduceLT, Int.reduceToNat, Int.reduceAdd, Int.reduceSub, Int.reduceMul, Int.reduceNeg, Int.reduceBEq, Int.reduceBNe, Int.reduceEq, eqCell, eqCells, binP, unP, convP, lenP, builtinP, sliceDataP, unsafeStringP, appendT, appendS, appendP, copyP, srcP, mmsP, mmP, indexOp, indexAddrOp, sliceOp, bndsP, bndP, capw, capCut, loadOp, storeOp, loadP, fieldOp, fieldAddrOp, arrayAtOp, buildP, buildSliceP, makeSliceP, placeF, fillP, setL, PK.agg, isZero, gt_iff_lt, Nat.reducePow, Nat.reduceGT, reps, seg, wkN, if_pos, if_neg, t_nil, t_no, t_mv, t_fx, t_op, t_true, t_false, t_mvk, t_se0, t_se, and_true, tf3, Tryd.ze3, tf5, Tryd.ze5, tf9, Tryd.ze9, tf22, Tryd.ze22, tf23, Tryd.ze23, tf24, Tryd.ze24, tf26, Tryd.ze26, tf72, Tryd.ze72, pl25_8Wr8, h1', h2', gt_iff_lt] | refine And.intro ?_ ?_ | refine w_drawnTF (id := 8) tb25_8Wr8 pl25_8Wr8 [0, 1, 2, 3, 4, 5, 6, 7, 8, 9, 10, 11, 12, 13, 14, 15, 16, 17, 18, 19, 20, 21, 22, 23, 24, 25] 49 (by kernel_rfl) (by kernel_rfl) (by simp) ?_
    refine hQ (by first | exact .inr rfl | exact .inl rfl) (by first | exact trivial | exact marks1) (by first | (simp -implicitDefEqProofs (maxSteps := 400000) (disch := first | with_reducible rfl | omega | (simp only [wkH] <;> omega) | decide) only [wkAll, wkL, popO, wantedP, if_true, if_false, reduceIte, ne_eq, Nat.reduceAdd, Nat.reduceSub, Nat.reduceMul, Nat.reduceLeDiff, Nat.reduceLT, ofCells, ofCell, reduceCtorEq, Int.reduceLE, Int.reduceLT, Int.reduceToNat, Int.reduceAdd, Int.reduceSub, Int.reduceMul, Int.reduceNeg, Int.reduceBEq, Int.reduceBNe, Int.reduceEq, eqCell, eqCells, loadOp, storeOp, loadP, setL, PK.agg, isZero, gt_iff_lt, Nat.reducePow, Nat.reduceGT, reps, seg, wkN, if_pos, if_neg, t_nil, t_no, t_mv, t_fx, t_op, t_true, t_false, t_mvk, t_se0, t_se, and_true, tf3, Tryd.ze3, tf5, Tryd.ze5, tf9, Tryd.ze9, tf22, Tryd.ze22, tf23, Tryd.ze23, tf24, Tryd.ze24, tf26, Tryd.ze26, tf72, Tryd.ze72, pl25_8Wr8, resP, resPs, resP1]; rfl) | rfl) ⟨6, by repeat' first | exact frz_scalar rfl | apply frz_tuple | apply frz_agg | apply frz_fsl | apply frz_gsl (by omega) | exact frzs_nil | apply frzs_cons⟩ (by first | exact keepsH0 | exact keeps1 (by assumption)) ?_
    repeat' first | exact nw_nil | exact nw_zsl | apply nw_tuple | apply nw_agg | exact nws_nil | apply nws_cons | exact nw_eq rfl | apply nw_eq
  have h2' : ¬ (1280 : Int) < (s.length : Int) := by omega
  have htk : (s.drop 48).take (s.length - 48) = s.drop 48 := List.take_of_length_le (by simp)
  have tf := refToFields_ok (w0 := w0) (s.drop 48) (by rw [List.length_drop]; omega)
  obtain ⟨f, hf⟩ : ∃ f, f = (toFieldsL (s.drop 48)).1 := ⟨_, rfl⟩
  obtain ⟨e, he⟩ : ∃ e, e = (toFieldsL (s.drop 48)).2 := ⟨_, rfl⟩
  rw [← hf, ← he] at tf
  by_cases h3 : e = 0
  · rw [show readP s = (pkOf s f, 0) by rw [readP, if_neg h1, if_neg h2, if_neg (by simpa [he] using h3), hf]]
    subst h3
    have g0 := getD_some (s := s) (i := 0) (by omega)
    have g1 := getD_some (s := s) (i := 1) (by omega)
    have g2 := getD_some (s := s) (i := 2) (by omega)
    have g3 := getD_some (s := s) (i := 3) (by omega)
    have s0 := b_shr6 (s.getD 0 0)
    have s1 := b_shr3 (s.getD 0 0)
    have t0 := (s.getD 0 0).toNat_lt
    have t1 := (s.getD 1 0).toNat_lt
    have s2 := n_and7 ((s.getD 0 0).toNat / 8) (by omega)
    have s3 := n_and7 (s.getD 0 0).toNat (by omega)
    have q1 := signed_ok (w0 := w0) (s.getD 2 0)
    have q2 := signed_ok (w0 := w0) (s.getD 3 0)
    have v1 := refValue_ok (w0 := w0) ((s.drop 4).take 4) (by rw [List.length_take]; omega)
    have v2 := refValue_ok (w0 := w0) ((s.drop 8).take 4) (by rw [List.length_take]; omega)
    have v3 := refValue_ok (w0 := w0) ((s.drop 12).take 4) (by rw [List.length_take]; omega)
    have v4 := refValue_ok (w0 := w0) ((s.drop 16).take 8) (by rw [List.length_take]; omega)
    have v5 := refValue_ok (w0 := w0) ((s.drop 24).take 8) (by rw [List.length_take]; omega)
    have v6 := refValue_ok (w0 := w0) ((s.drop 32).take 8) (by rw [List.length_take]; omega)
    have v7 := refValue_ok (w0 := w0) ((s.drop 40).take 8) (by rw [List.length_take]; omega)
    have w1 : IntKind.wrap .u32 ((valN ((s.drop 4).take 4) : Nat) : Int) = _ := IntWalk.u32_in _ (by have := valN_lt4 s 4; omega)
    have w2 : IntKind.wrap .u32 ((valN ((s.drop 8).take 4) : Nat) : Int) = _ := IntWalk.u32_in _ (by have := valN_lt4 s 8; omega)
    have w3 : IntKind.wrap .u32 ((valN ((s.drop 12).take 4) : Nat) : Int) = _ := IntWalk.u32_in _ (by have := valN_lt4 s 12; omega)
    unfold pkOf cutL pkC
    refine fn_H ([Go.ResultVar.cell 2 26, Go.ResultVar.tmp 3]) Tryd.func25 rfl rfl (by decide) fun ph hW Q hQ => ?_
    simp only [start, List.length_cons, List.length_nil, List.cons_append, List.nil_append, Nat.reduceAdd, Nat.reduceSub, List.replicate_succ, List.replicate_zero, Tryd.ntmps25]
    repeat' first | simp -implicitDefEqProofs (maxSteps := 400000) (disch := first | with_reducible rfl | omega | (simp only [wkH] <;> omega) | decide) only [wkAll, wkL, popO, wantedP, if_true, if_false, reduceIte, ne_eq, Nat.reduceAdd, Nat.reduceSub, Nat.reduceMul, Nat.reduceLeDiff, Nat.reduceLT, ofCells, ofCell, reduceCtorEq, Int.reduceLE, Int.reduceLT, Int.reduceToNat, Int.reduceAdd, Int.reduceSub, Int.reduceMul, Int.reduceNeg, Int.reduceBEq, Int.reduceBNe, Int.reduceEq, eqCell, eqCells, binP, unP, convP, lenP, builtinP, sliceDataP, unsafeStringP, appendT, appendS, appendP, copyP, srcP, mmsP, mmP, indexOp, indexAddrOp, sliceOp, bndsP, bndP, capw, capCut, loadOp, storeOp, loadP, fieldOp, fieldAddrOp, arrayAtOp, buildP, buildSliceP, makeSliceP, placeF, fillP, setL, PK.agg, isZero, gt_iff_lt, Nat.reducePow, Nat.reduceGT, reps, seg, wkN, if_pos, if_neg, t_nil, t_no, t_mv, t_fx, t_op, t_true, t_false, t_mvk, t_se0, t_se, and_true, tf3, Tryd.ze3, tf5, Tryd.ze5, tf9, Tryd.ze9, tf22, Tryd.ze22, tf23, Tryd.ze23, tf24, Tryd.ze24, tf26, Tryd.ze26, tf72, Tryd.ze72, pl25_8Wr8, h1', h2', gt_iff_lt, htk, bne_self_eq_false, g0, g1, g2, g3, s0, s1, s2, s3, w1, w2, w3] | refine w_pure (tf) ?_ | refine w_pure (q1) ?_ | refine w_pure (q2) ?_ | refine w_pure (v1) ?_ | refine w_pure (v2) ?_ | refine w_pure (v3) ?_ | refine w_pure (v4) ?_ | refine w_pure (v5) ?_ | refine w_pure (v6) ?_ | refine w_pure (v7) ?_ | refine And.intro ?_ ?_ | refine w_drawnTF (id := 8) tb25_8Wr8 pl25_8Wr8 [0, 1, 2, 3, 4, 5, 6, 7, 8, 9, 10, 11, 12, 13, 14, 15, 16, 17, 18, 19, 20, 21, 22, 23, 24, 25] 49 (by kernel_rfl) (by kernel_rfl) (by simp) ?_
    all_goals
      refine hQ (by first | exact .inr rfl | exact .inl rfl) (by first | exact trivial | exact marks1) (by first | (simp -implicitDefEqProofs (maxSteps := 400000) (disch := first | with_reducible rfl | omega | (simp only [wkH] <;> omega) | decide) only [wkAll, wkL, popO, wantedP, if_true, if_false, reduceIte, ne_eq, Nat.reduceAdd, Nat.reduceSub, Nat.reduceMul, Nat.reduceLeDiff, Nat.reduceLT, ofCells, ofCell, reduceCtorEq, Int.reduceLE, Int.reduceLT, Int.reduceToNat, Int.reduceAdd, Int.reduceSub, Int.reduceMul, Int.reduceNeg, Int.reduceBEq, Int.reduceBNe, Int.reduceEq, eqCell, eqCells, loadOp, storeOp, loadP, setL, PK.agg, isZero, gt_iff_lt, Nat.reducePow, Nat.reduceGT, reps, seg, wkN, if_pos, if_neg, t_nil, t_no, t_mv, t_fx, t_op, t_true, t_false, t_mvk, t_se0, t_se, and_true, tf3, Tryd.ze3, tf5, Tryd.ze5, tf9, Tryd.ze9, tf22, Tryd.ze22, tf23, Tryd.ze23, tf24, Tryd.ze24, tf26, Tryd.ze26, tf72, Tryd.ze72, pl25_8Wr8, resP, resPs, resP1]; rfl) | rfl) ⟨6, by repeat' first | exact frz_scalar rfl | apply frz_tuple | apply frz_agg | apply frz_fsl | apply frz_gsl (by omega) | exact frzs_nil | apply frzs_cons | exact frzs_scalars (frsC_ok _)⟩ (by first | exact keepsH0 | exact keeps1 (by assumption)) (nw_eq ?_)
      rfl
  · rw [show readP s = (pk0, e) by rw [readP, if_neg h1, if_neg h2, if_pos (by rw [← he]; exact h3), he]]
    have hne : (e != 0) = true := by rw [bne_iff_ne]; exact h3
    refine fn_H ([Go.ResultVar.cell 2 26, Go.ResultVar.tmp 3]) Tryd.func25 rfl rfl (by decide) fun ph hW Q hQ => ?_
    simp only [start, List.length_cons, List.length_nil, List.cons_append, List.nil_append, Nat.reduceAdd, Nat.reduceSub, List.replicate_succ, List.replicate_zero, Tryd.ntmps25]
    repeat' first | simp -implicitDefEqProofs (maxSteps := 400000) (disch := first | with_reducible rfl | omega | (simp only [wkH] <;> omega) | decide) only [wkAll, wkL, popO, wantedP, if_true, if_false, reduceIte, ne_eq, Nat.reduceAdd, Nat.reduceSub, Nat.reduceMul, Nat.reduceLeDiff, Nat.reduceLT, ofCells, ofCell, reduceCtorEq, Int.reduceLE, Int.reduceLT, Int.reduceToNat, Int.reduceAdd, Int.reduceSub, Int.reduceMul, Int.reduceNeg, Int.reduceBEq, Int.reduceBNe, Int.reduceEq, eqCell, eqCells, binP, unP, convP, lenP, builtinP, sliceDataP, unsafeStringP, appendT, appendS, appendP, copyP, srcP, mmsP, mmP, indexOp, indexAddrOp, sliceOp, bndsP, bndP, capw, capCut, loadOp, storeOp, loadP, fieldOp, fieldAddrOp, arrayAtOp, buildP, buildSliceP, makeSliceP, placeF, fillP, setL, PK.agg, isZero, gt_iff_lt, Nat.reducePow, Nat.reduceGT, reps, seg, wkN, if_pos, if_neg, t_nil, t_no, t_mv, t_fx, t_op, t_true, t_false, t_mvk, t_se0, t_se, and_true, tf3, Tryd.ze3, tf5, Tryd.ze5, tf9, Tryd.ze9, tf22, Tryd.ze22, tf23, Tryd.ze23, tf24, Tryd.ze24, tf26, Tryd.ze26, tf72, Tryd.ze72, pl25_8Wr8, h1', h2', gt_iff_lt, htk, hne] | refine w_pure (tf) ?_ | refine And.intro ?_ ?_ | refine w_drawnTF (id := 8) tb25_8Wr8 pl25_8Wr8 [0, 1, 2, 3, 4, 5, 6, 7, 8, 9, 10, 11, 12, 13, 14, 15, 16, 17, 18, 19, 20, 21, 22, 23, 24, 25] 49 (by kernel_rfl) (by kernel_rfl) (by simp) ?_
    refine hQ (by first | exact .inr rfl | exact .inl rfl) (by first | exact trivial | exact marks1) (by first | (simp -implicitDefEqProofs (maxSteps := 400000) (disch := first | with_reducible rfl | omega | (simp only [wkH] <;> omega) | decide) only [wkAll, wkL, popO, wantedP, if_true, if_false, reduceIte, ne_eq, Nat.reduceAdd, Nat.reduceSub, Nat.reduceMul, Nat.reduceLeDiff, Nat.reduceLT, ofCells, ofCell, reduceCtorEq, Int.reduceLE, Int.reduceLT, Int.reduceToNat, Int.reduceAdd, Int.reduceSub, Int.reduceMul, Int.reduceNeg, Int.reduceBEq, Int.reduceBNe, Int.reduceEq, eqCell, eqCells, loadOp, storeOp, loadP, setL, PK.agg, isZero, gt_iff_lt, Nat.reducePow, Nat.reduceGT, reps, seg, wkN, if_pos, if_neg, t_nil, t_no, t_mv, t_fx, t_op, t_true, t_false, t_mvk, t_se0, t_se, and_true, tf3, Tryd.ze3, tf5, Tryd.ze5, tf9, Tryd.ze9, tf22, Tryd.ze22, tf23, Tryd.ze23, tf24, Tryd.ze24, tf26, Tryd.ze26, tf72, Tryd.ze72, pl25_8Wr8, resP, resPs, resP1]; rfl) | rfl) ⟨6, by repeat' first | exact frz_scalar rfl | apply frz_tuple | apply frz_agg | apply frz_fsl | apply frz_gsl (by omega) | exact frzs_nil | apply frzs_cons⟩ (by first | exact keepsH0 | exact keeps1 (by assumption)) ?_
    repeat' first | exact nw_nil | exact nw_zsl | apply nw_tuple | apply nw_agg | exact nws_nil | apply nws_cons | exact nw_eq rfl | apply nw_eq
end Pv
