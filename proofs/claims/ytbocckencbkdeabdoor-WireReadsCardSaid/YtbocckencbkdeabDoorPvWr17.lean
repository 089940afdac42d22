/- Part of the proof: the layer of pure values, or walks through functions (PvWr17, PvWr19, PvEntry4, PvWrK). -/
import Derived.Test.YtbocckencbkdeabDoorPvWr14
import Derived.Test.YtbocckencbkdeabDoorPvWr12
import Derived.Test.YtbocckencbkdeabDoorPvWr13
import Derived.Test.YtbocckencbkdeabDoorPvWrP
set_option linter.all false
--nosplit
--keep2
namespace Pv
set_option maxRecDepth 20000
set_option maxHeartbeats 4000000
open Go Go.Proofs Go.RowKit
variable {w0 : World}

theorem back_bnd {q : PKT} (h : (writeP q).2 = 0) : q.f.length < 2 ^ 40 ∧ ∀ f ∈ q.f, f.b.length < 2 ^ 47 := by
  obtain ⟨h1, h2, h3⟩ := writeP_ok h
  obtain ⟨g1, g2, g3, g4, g5⟩ := fields_back h2
  refine ⟨by omega, fun f hf => ?_⟩
  have := encFs_le hf
  omega
theorem read_bnd (s : List UInt8) : (readP s).1.f.length < 2 ^ 40 := by
  by_cases h : (readP s).2 = 0
  · obtain ⟨h1, -⟩ := write_read h
    exact (back_bnd (by rw [h1])).1
  · unfold readP at h ⊢
    split
    · simp [pk0]
    · rename_i h1
      rw [if_neg h1] at h
      split
      · simp [pk0]
      · rename_i h2
        rw [if_neg h2] at h
        split
        · simp [pk0]
        · rename_i h3
          rw [if_neg h3] at h; exact absurd rfl h
end Pv

--nosplit
--keep2
namespace Pv
set_option maxRecDepth 20000
set_option maxHeartbeats 4000000
open Go Go.Proofs Go.RowKit
def tb6_7Wr19 : Tab := [[], [], [0, 1], [0, 1, 2], [0, 1, 2, 3], [0, 1, 2, 3], [0, 1, 2, 3, 4, 5], [0, 1, 2, 3, 4, 5, 6], [0, 1, 2, 3, 4, 5, 6, 7], [0, 1, 2, 3, 4, 5, 6, 7, 8], [0, 1, 2, 3, 4, 5, 6, 7, 8], [0, 1, 2, 3, 4, 5, 6, 7, 8, 9, 10], [0, 1, 2, 3, 4, 5, 6, 7, 8, 9, 10, 11], [0, 1, 2, 3, 4, 5, 6, 7, 8, 9, 10, 11, 12], [0, 1, 2, 3, 4, 5, 6, 7, 8, 9, 10, 11, 12, 13], [0, 1, 2, 3, 4, 5, 6, 7, 8, 9, 10, 11, 12, 13], [0, 1, 2, 3, 4, 5, 6, 7, 8, 9, 10, 11, 12, 13, 14, 15], [0, 1, 2, 3, 4, 5, 6, 7, 8, 9, 10, 11, 12, 13, 14, 15, 16], [0, 1, 2, 3, 4, 5, 6, 7, 8, 9, 10, 11, 12, 13, 14, 15, 16, 17], [0, 1, 2, 3, 4, 5, 6, 7, 8, 9, 10, 11, 12, 13, 14, 15, 16, 17, 18], [0, 1, 2, 3, 4, 5, 6, 7, 8, 9, 10, 11, 12, 13, 14, 15, 16, 17, 18], [0, 1, 2, 3, 4, 5, 6, 7, 8, 9, 10, 11, 12, 13, 14, 15, 16, 17, 18, 19, 20], [0, 1, 2, 3, 4, 5, 6, 7, 8, 9, 10, 11, 12, 13, 14, 15, 16, 17, 18], [0, 1, 2, 3, 4, 5, 6, 7, 8, 9, 10, 11, 12, 13, 14, 15, 16, 17, 18], [0, 1, 2, 3, 4, 5, 6, 7, 8, 9, 10, 11, 12, 13, 14, 15, 16, 17, 18, 19, 20, 21, 22, 23], [0, 1, 2, 3, 4, 5, 6, 7, 8, 9, 10, 11, 12, 13, 14, 15, 16, 17, 18, 19, 20, 21, 22, 23, 24], [0, 1, 2, 3, 4, 5, 6, 7, 8, 9, 10, 11, 12, 13, 14, 15, 16, 17, 18, 19, 20, 21, 22, 23, 24, 25], [0, 1, 2, 3, 4, 5, 6, 7, 8, 9, 10, 11, 12, 13, 14, 15, 16, 17, 18, 19, 20, 21, 22, 23, 24, 25, 26], [0, 1, 2, 3, 4, 5, 6, 7, 8, 9, 10, 11, 12, 13, 14, 15, 16, 17, 18, 19, 20, 21, 22, 23, 24, 25, 26, 27], [0, 1, 2, 3, 4, 5, 6, 7, 8, 9, 10, 11, 12, 13, 14, 15, 16, 17, 18, 19, 20, 21, 22, 23, 24, 25, 26, 27], [0, 1, 2, 3, 4, 5, 6, 7, 8, 9, 10, 11, 12, 13, 14, 15, 16, 17, 18, 19, 20, 21, 22, 23, 24, 25, 26, 27, 28, 29], [0, 1, 2, 3, 4, 5, 6, 7, 8, 9, 10, 11, 12, 13, 14, 15, 16, 17, 18, 19, 20, 21, 22, 23, 24, 25, 26, 27, 28, 29, 30], [0, 1, 2, 3, 4, 5, 6, 7, 8, 9, 10, 11, 12, 13, 14, 15, 16, 17, 18, 19, 20, 21, 22, 23, 24, 25, 26, 27, 28, 29, 30, 31], [0, 1, 2, 3, 4, 5, 6, 7, 8, 9, 10, 11, 12, 13, 14, 15, 16, 17, 18, 19, 20, 21, 22, 23, 24, 25, 26, 27, 28, 29, 30, 31, 32], [0, 1, 2, 3, 4, 5, 6, 7, 8, 9, 10, 11, 12, 13, 14, 15, 16, 17, 18, 19, 20, 21, 22, 23, 24, 25, 26, 27, 28, 29, 30, 31, 32, 33], [0, 1, 2, 3, 4, 5, 6, 7, 8, 9, 10, 11, 12, 13, 14, 15, 16, 17, 18, 19, 20, 21, 22, 23, 24, 25, 26, 27, 28, 29, 30, 31, 32, 33, 34]]
def pl6_7Wr19 : Plan := [(0, true, []), (1, true, []), (2, true, []), (3, true, []), (4, true, []), (5, true, []), (6, true, []), (7, true, []), (8, true, []), (9, true, []), (10, true, []), (11, false, []), (12, true, []), (13, true, []), (14, true, []), (15, true, []), (16, true, []), (17, true, []), (18, true, []), (19, true, []), (20, true, []), (22, true, []), (23, true, []), (21, false, [22, 23]), (24, false, []), (25, true, []), (26, true, []), (27, true, []), (28, true, []), (29, true, []), (30, false, []), (31, true, []), (32, true, []), (33, false, []), (34, true, []), (35, false, [])]
variable {w0 : World}

theorem wireReads_ok (p q : PKT) (s : List UInt8) (hp : inP p) (hb : ∀ f ∈ p.f, f.b.length < 2 ^ 47) : Fn (Cx w0) 6 [.agg (pkC p), .agg (pkC q), .str s] (.bool true) := by
  have aw := awake21_ok (w0 := w0)
  have fw := few_ok (w0 := w0) p.f
  have gw := few_ok (w0 := w0) q.f
  by_cases h0 : p.f.length ≤ 300
  · rw [decide_eq_true h0] at fw
    have hl : p.f.length < 2 ^ 40 := by omega
    by_cases h2 : q.f.length ≤ 300
    · rw [decide_eq_true h2] at gw
      have hq : q.f.length < 2 ^ 40 := by omega
      by_cases h1 : 20000 < s.length
      · have h1' : (20000 : Int) < (s.length : Int) := by omega
        refine fn_H ([Go.ResultVar.tmp 6]) Tryd.func6 rfl rfl (by decide) fun ph hW Q hQ => ?_
        simp only [start, List.length_cons, List.length_nil, List.cons_append, List.nil_append, Nat.reduceAdd, Nat.reduceSub, List.replicate_succ, List.replicate_zero, Tryd.ntmps6]
        repeat' first | simp -implicitDefEqProofs (maxSteps := 400000) (disch := first | with_reducible rfl | omega | (simp only [wkH] <;> omega) | decide) only [wkAll, wkL, popO, wantedP, if_true, if_false, reduceIte, ne_eq, Nat.reduceAdd, Nat.reduceSub, Nat.reduceMul, Nat.reduceLeDiff, Nat.reduceLT, ofCells, ofCell, reduceCtorEq, Int.reduceLE, Int.reduceLT, Int.reduceToNat, Int.reduceAdd, Int.reduceSub, Int.reduceMul, Int.reduceNeg, Int.reduceBEq, Int.reduceBNe, Int.reduceEq, eqCell, eqCells, binP, unP, convP, lenP, builtinP, sliceDataP, unsafeStringP, appendT, appendS, appendP, copyP, srcP, mmsP, mmP, indexOp, indexAddrOp, sliceOp, bndsP, bndP, capw, capCut, loadOp, storeOp, loadP, fieldOp, fieldAddrOp, arrayAtOp, buildP, buildSliceP, makeSliceP, placeF, fillP, setL, PK.agg, isZero, gt_iff_lt, Nat.reducePow, Nat.reduceGT, reps, seg, wkN, if_pos, if_neg, tf3, Tryd.ze3, tf4, Tryd.ze4, tf9, Tryd.ze9, tf22, Tryd.ze22, tf23, Tryd.ze23, tf24, Tryd.ze24, tf26, Tryd.ze26, tf72, Tryd.ze72, pl6_7Wr19, h1', gt_iff_lt, pkC] | refine w_pure (aw) ?_ | refine w_pure (fw) ?_ | refine w_pure (gw) ?_ | refine w_drawnF (id := 7) tb6_7Wr19 pl6_7Wr19 86 (by kernel_rfl) (by kernel_rfl) (by simp) ?_
        refine hQ (by first | exact .inr rfl | exact .inl rfl) (by first | exact trivial | exact marks1) (by first | (simp -implicitDefEqProofs (maxSteps := 400000) (disch := first | with_reducible rfl | omega | (simp only [wkH] <;> omega) | decide) only [wkAll, wkL, popO, wantedP, if_true, if_false, reduceIte, ne_eq, Nat.reduceAdd, Nat.reduceSub, Nat.reduceMul, Nat.reduceLeDiff, Nat.reduceLT, ofCells, ofCell, reduceCtorEq, Int.reduceLE, Int.reduceLT, Int.reduceToNat, Int.reduceAdd, Int.reduceSub, Int.reduceMul, Int.reduceNeg, Int.reduceBEq, Int.reduceBNe, Int.reduceEq, eqCell, eqCells, loadOp, storeOp, loadP, setL, PK.agg, isZero, gt_iff_lt, Nat.reducePow, Nat.reduceGT, reps, seg, wkN, if_pos, if_neg, tf3, Tryd.ze3, tf4, Tryd.ze4, tf9, Tryd.ze9, tf22, Tryd.ze22, tf23, Tryd.ze23, tf24, Tryd.ze24, tf26, Tryd.ze26, tf72, Tryd.ze72, pl6_7Wr19, resP, resPs, resP1]; rfl) | rfl) ⟨6, by repeat' first | exact frz_scalar rfl | apply frz_tuple | apply frz_agg | apply frz_fsl | apply frz_gsl (by omega) | exact frzs_nil | apply frzs_cons⟩ (by first | exact keepsH0 | exact keeps1 (by assumption)) (nw_eq ?_)
        rfl
      have h1' : ¬ (20000 : Int) < (s.length : Int) := by omega
      have t1 := wireWrite_ok (w0 := w0) p hp hl hb
      have t2 := refWrite_ok (w0 := w0) p hp hl hb
      have t3 := wireRead_ok (w0 := w0) s (by omega)
      have t4 := refRead21_ok (w0 := w0) s (by omega)
      have t5 := refSame21_ok (w0 := w0) (readP s).1 (readP s).1 (read_bnd s) (read_bnd s)
      have t6 := wireSame_ok (w0 := w0) p q hl hq
      have t7 := refSame21_ok (w0 := w0) p q hl hq
      have t8 := wireSame_ok (w0 := w0) p p hl hl
      rw [decide_eq_true rfl] at t5 t8
      generalize readP s = R at *
      generalize writeP p = W at *
      generalize decide (p = q) = D at *
      obtain ⟨R, e⟩ := R
      obtain ⟨W, f⟩ := W
      simp only at t1 t2 t3 t4 t5
      refine fn_H ([Go.ResultVar.tmp 6]) Tryd.func6 rfl rfl (by decide) fun ph hW Q hQ => ?_
      simp only [start, List.length_cons, List.length_nil, List.cons_append, List.nil_append, Nat.reduceAdd, Nat.reduceSub, List.replicate_succ, List.replicate_zero, Tryd.ntmps6]
      repeat' first | simp -implicitDefEqProofs (maxSteps := 400000) (disch := first | with_reducible rfl | omega | (simp only [wkH] <;> omega) | decide) only [wkAll, wkL, popO, wantedP, if_true, if_false, reduceIte, ne_eq, Nat.reduceAdd, Nat.reduceSub, Nat.reduceMul, Nat.reduceLeDiff, Nat.reduceLT, ofCells, ofCell, reduceCtorEq, Int.reduceLE, Int.reduceLT, Int.reduceToNat, Int.reduceAdd, Int.reduceSub, Int.reduceMul, Int.reduceNeg, Int.reduceBEq, Int.reduceBNe, Int.reduceEq, eqCell, eqCells, binP, unP, convP, lenP, builtinP, sliceDataP, unsafeStringP, appendT, appendS, appendP, copyP, srcP, mmsP, mmP, indexOp, indexAddrOp, sliceOp, bndsP, bndP, capw, capCut, loadOp, storeOp, loadP, fieldOp, fieldAddrOp, arrayAtOp, buildP, buildSliceP, makeSliceP, placeF, fillP, setL, PK.agg, isZero, gt_iff_lt, Nat.reducePow, Nat.reduceGT, reps, seg, wkN, if_pos, if_neg, tf3, Tryd.ze3, tf4, Tryd.ze4, tf9, Tryd.ze9, tf22, Tryd.ze22, tf23, Tryd.ze23, tf24, Tryd.ze24, tf26, Tryd.ze26, tf72, Tryd.ze72, pl6_7Wr19, h1', gt_iff_lt, beq_self_eq_true, pkC] | refine w_pure (aw) ?_ | refine w_pure (fw) ?_ | refine w_pure (gw) ?_ | refine w_pure (t1) ?_ | refine w_pure (t2) ?_ | refine w_pure (t3) ?_ | refine w_pure (t4) ?_ | refine w_pure (t5) ?_ | refine w_pure (t6) ?_ | refine w_pure (t7) ?_ | refine w_pure (t8) ?_ | refine w_drawnF (id := 7) tb6_7Wr19 pl6_7Wr19 86 (by kernel_rfl) (by kernel_rfl) (by simp) ?_
      all_goals
        refine hQ (by first | exact .inr rfl | exact .inl rfl) (by first | exact trivial | exact marks1) (by first | (simp -implicitDefEqProofs (maxSteps := 400000) (disch := first | with_reducible rfl | omega | (simp only [wkH] <;> omega) | decide) only [wkAll, wkL, popO, wantedP, if_true, if_false, reduceIte, ne_eq, Nat.reduceAdd, Nat.reduceSub, Nat.reduceMul, Nat.reduceLeDiff, Nat.reduceLT, ofCells, ofCell, reduceCtorEq, Int.reduceLE, Int.reduceLT, Int.reduceToNat, Int.reduceAdd, Int.reduceSub, Int.reduceMul, Int.reduceNeg, Int.reduceBEq, Int.reduceBNe, Int.reduceEq, eqCell, eqCells, loadOp, storeOp, loadP, setL, PK.agg, isZero, gt_iff_lt, Nat.reducePow, Nat.reduceGT, reps, seg, wkN, if_pos, if_neg, tf3, Tryd.ze3, tf4, Tryd.ze4, tf9, Tryd.ze9, tf22, Tryd.ze22, tf23, Tryd.ze23, tf24, Tryd.ze24, tf26, Tryd.ze26, tf72, Tryd.ze72, pl6_7Wr19, resP, resPs, resP1]; rfl) | rfl) ⟨6, by repeat' first | exact frz_scalar rfl | apply frz_tuple | apply frz_agg | apply frz_fsl | apply frz_gsl (by omega) | exact frzs_nil | apply frzs_cons⟩ (by first | exact keepsH0 | exact keeps1 (by assumption)) (nw_eq ?_)
        rfl
    · rw [decide_eq_false h2] at gw
      refine fn_H ([Go.ResultVar.tmp 6]) Tryd.func6 rfl rfl (by decide) fun ph hW Q hQ => ?_
      simp only [start, List.length_cons, List.length_nil, List.cons_append, List.nil_append, Nat.reduceAdd, Nat.reduceSub, List.replicate_succ, List.replicate_zero, Tryd.ntmps6]
      repeat' first | simp -implicitDefEqProofs (maxSteps := 400000) (disch := first | with_reducible rfl | omega | (simp only [wkH] <;> omega) | decide) only [wkAll, wkL, popO, wantedP, if_true, if_false, reduceIte, ne_eq, Nat.reduceAdd, Nat.reduceSub, Nat.reduceMul, Nat.reduceLeDiff, Nat.reduceLT, ofCells, ofCell, reduceCtorEq, Int.reduceLE, Int.reduceLT, Int.reduceToNat, Int.reduceAdd, Int.reduceSub, Int.reduceMul, Int.reduceNeg, Int.reduceBEq, Int.reduceBNe, Int.reduceEq, eqCell, eqCells, binP, unP, convP, lenP, builtinP, sliceDataP, unsafeStringP, appendT, appendS, appendP, copyP, srcP, mmsP, mmP, indexOp, indexAddrOp, sliceOp, bndsP, bndP, capw, capCut, loadOp, storeOp, loadP, fieldOp, fieldAddrOp, arrayAtOp, buildP, buildSliceP, makeSliceP, placeF, fillP, setL, PK.agg, isZero, gt_iff_lt, Nat.reducePow, Nat.reduceGT, reps, seg, wkN, if_pos, if_neg, tf3, Tryd.ze3, tf4, Tryd.ze4, tf9, Tryd.ze9, tf22, Tryd.ze22, tf23, Tryd.ze23, tf24, Tryd.ze24, tf26, Tryd.ze26, tf72, Tryd.ze72, pl6_7Wr19, pkC] | refine w_pure (aw) ?_ | refine w_pure (fw) ?_ | refine w_pure (gw) ?_ | refine w_drawnF (id := 7) tb6_7Wr19 pl6_7Wr19 86 (by kernel_rfl) (by kernel_rfl) (by simp) ?_
      refine hQ (by first | exact .inr rfl | exact .inl rfl) (by first | exact trivial | exact marks1) (by first | (simp -implicitDefEqProofs (maxSteps := 400000) (disch := first | with_reducible rfl | omega | (simp only [wkH] <;> omega) | decide) only [wkAll, wkL, popO, wantedP, if_true, if_false, reduceIte, ne_eq, Nat.reduceAdd, Nat.reduceSub, Nat.reduceMul, Nat.reduceLeDiff, Nat.reduceLT, ofCells, ofCell, reduceCtorEq, Int.reduceLE, Int.reduceLT, Int.reduceToNat, Int.reduceAdd, Int.reduceSub, Int.reduceMul, Int.reduceNeg, Int.reduceBEq, Int.reduceBNe, Int.reduceEq, eqCell, eqCells, loadOp, storeOp, loadP, setL, PK.agg, isZero, gt_iff_lt, Nat.reducePow, Nat.reduceGT, reps, seg, wkN, if_pos, if_neg, tf3, Tryd.ze3, tf4, Tryd.ze4, tf9, Tryd.ze9, tf22, Tryd.ze22, tf23, Tryd.ze23, tf24, Tryd.ze24, tf26, Tryd.ze26, tf72, Tryd.ze72, pl6_7Wr19, resP, resPs, resP1]; rfl) | rfl) ⟨6, by repeat' first | exact frz_scalar rfl | apply frz_tuple | apply frz_agg | apply frz_fsl | apply frz_gsl (by omega) | exact frzs_nil | apply frzs_cons⟩ (by first | exact keepsH0 | exact keeps1 (by assumption)) (nw_eq ?_)
      rfl
  · rw [decide_eq_false h0] at fw
    refine fn_H ([Go.ResultVar.tmp 6]) Tryd.func6 rfl rfl (by decide) fun ph hW Q hQ => ?_
    simp only [start, List.length_cons, List.length_nil, List.cons_append, List.nil_append, Nat.reduceAdd, Nat.reduceSub, List.replicate_succ, List.replicate_zero, Tryd.ntmps6]
    repeat' first | simp -implicitDefEqProofs (maxSteps := 400000) (disch := first | with_reducible rfl | omega | (simp only [wkH] <;> omega) | decide) only [wkAll, wkL, popO, wantedP, if_true, if_false, reduceIte, ne_eq, Nat.reduceAdd, Nat.reduceSub, Nat.reduceMul, Nat.reduceLeDiff, Nat.reduceLT, ofCells, ofCell, reduceCtorEq, Int.reduceLE, Int.reduceLT, Int.reduceToNat, Int.reduceAdd, Int.reduceSub, Int.reduceMul, Int.reduceNeg, Int.reduceBEq, Int.reduceBNe, Int.reduceEq, eqCell, eqCells, binP, unP, convP, lenP, builtinP, sliceDataP, unsafeStringP, appendT, appendS, appendP, copyP, srcP, mmsP, mmP, indexOp, indexAddrOp, sliceOp, bndsP, bndP, capw, capCut, loadOp, storeOp, loadP, fieldOp, fieldAddrOp, arrayAtOp, buildP, buildSliceP, makeSliceP, placeF, fillP, setL, PK.agg, isZero, gt_iff_lt, Nat.reducePow, Nat.reduceGT, reps, seg, wkN, if_pos, if_neg, tf3, Tryd.ze3, tf4, Tryd.ze4, tf9, Tryd.ze9, tf22, Tryd.ze22, tf23, Tryd.ze23, tf24, Tryd.ze24, tf26, Tryd.ze26, tf72, Tryd.ze72, pl6_7Wr19, pkC] | refine w_pure (aw) ?_ | refine w_pure (fw) ?_ | refine w_drawnF (id := 7) tb6_7Wr19 pl6_7Wr19 86 (by kernel_rfl) (by kernel_rfl) (by simp) ?_
    refine hQ (by first | exact .inr rfl | exact .inl rfl) (by first | exact trivial | exact marks1) (by first | (simp -implicitDefEqProofs (maxSteps := 400000) (disch := first | with_reducible rfl | omega | (simp only [wkH] <;> omega) | decide) only [wkAll, wkL, popO, wantedP, if_true, if_false, reduceIte, ne_eq, Nat.reduceAdd, Nat.reduceSub, Nat.reduceMul, Nat.reduceLeDiff, Nat.reduceLT, ofCells, ofCell, reduceCtorEq, Int.reduceLE, Int.reduceLT, Int.reduceToNat, Int.reduceAdd, Int.reduceSub, Int.reduceMul, Int.reduceNeg, Int.reduceBEq, Int.reduceBNe, Int.reduceEq, eqCell, eqCells, loadOp, storeOp, loadP, setL, PK.agg, isZero, gt_iff_lt, Nat.reducePow, Nat.reduceGT, reps, seg, wkN, if_pos, if_neg, tf3, Tryd.ze3, tf4, Tryd.ze4, tf9, Tryd.ze9, tf22, Tryd.ze22, tf23, Tryd.ze23, tf24, Tryd.ze24, tf26, Tryd.ze26, tf72, Tryd.ze72, pl6_7Wr19, resP, resPs, resP1]; rfl) | rfl) ⟨6, by repeat' first | exact frz_scalar rfl | apply frz_tuple | apply frz_agg | apply frz_fsl | apply frz_gsl (by omega) | exact frzs_nil | apply frzs_cons⟩ (by first | exact keepsH0 | exact keeps1 (by assumption)) (nw_eq ?_)
    rfl
end Pv

/- Arguments with the bound of their reach upon every text in them. -/
namespace Pv
open Go Go.RowKit
inductive BdV : PV → Prop
  | int (k : IntKind) (n : Int) : BdV (.int k n)
  | bool (b : Bool) : BdV (.bool b)
  | str (l : List UInt8) (h : l.length < 2 ^ 47) : BdV (.str l)
  | fsl (e len : Nat) (cells : List PV) (h : ∀ c ∈ cells, BdV c) : BdV (.fsl e len cells)
theorem weightsAll_mem {H : Type} {P : Program} {e : TypeId} {l : List (DataW H × List MemPlace)} {x : DataW H × List MemPlace} {n : Nat} (hx : x ∈ l) (hn : n ∈ x.1.weights P e) : n ∈ DataW.weightsAll P e (l.map (·.1)) := by
  induction l with
  | nil => cases hx
  | cons y l ih =>
    rw [List.map_cons, DataW.weightsAll]
    rcases List.mem_cons.1 hx with rfl | h
    · exact List.mem_append_left _ hn
    · exact List.mem_append_right _ (ih h)
section
variable {H : Type} {enc : TypeId × Value → H} {P : Program} {w : World} {base : Nat} {spare : Nat → Bool} {held : Bool}

theorem trod_structB {fuel : Nat} {t : TypeId} {fs : Array Field} {cs : List Value} {x : DataW H × List MemPlace} (hu : P.underlying t = some (.struct fs)) (h : DataW.trod enc P w base spare held fuel t cs = some x) :
    ∃ m xs, fuel = m + 1 ∧ cs.length = P.cellsOf t ∧ (fs.toList.mapM fun f => DataW.trod enc P w base spare held m f.type ((cs.drop f.offset).take (P.cellsOf f.type))) = some xs ∧ x.1 = .agg (xs.map (·.1)) := by
  cases fuel with
  | zero => simp [DataW.trod] at h
  | succ m =>
    unfold DataW.trod at h
    rw [hu] at h
    split at h <;> simp_all
    obtain ⟨hl, xs, hp, hd⟩ := h
    exact ⟨xs, hp, by rw [← hd]⟩

theorem trod_arrB {fuel n : Nat} {t e : TypeId} {cs : List Value} {x : DataW H × List MemPlace} (hu : P.underlying t = some (.array n e)) (h : DataW.trod enc P w base spare held fuel t cs = some x) :
    ∃ (xs : List (DataW H × List MemPlace)) (m : Nat), fuel = m + 1 ∧ cs.length = P.cellsOf t ∧ xs.length = n ∧ (∀ (i : Nat), i < n → DataW.trod enc P w base spare held m e ((cs.drop (i * P.cellsOf e)).take (P.cellsOf e)) = xs[i]?) ∧ x.1 = .agg (xs.map (·.1)) := by
  cases fuel with
  | zero => simp [DataW.trod] at h
  | succ m =>
    unfold DataW.trod at h
    rw [hu] at h
    split at h <;> simp_all
    obtain ⟨hl, xs, hp, hd⟩ := h
    exact ⟨xs, by simpa using mapM_some_length hp, fun i hi => mapM_some_get hp i i (by simp [hi]), by rw [← hd]⟩

theorem trod_rvb : ∀ (d fuel : Nat) (t : TypeId) (cs : List Value) (x : DataW H × List MemPlace) (ks : List FK), DataW.trod enc P w base spare held fuel t cs = some x → shP P d t = some ks → (∀ n ∈ x.1.weights P t, n ≤ reachBytes) →
    ∃ ps, RVs (G0 w) ps cs ∧ OkL ks ps ∧ ∀ p ∈ ps, BdV p := by
  intro d
  induction d with
  | zero => intro fuel t cs x ks _ h; simp [shP] at h
  | succ d ih =>
    intro fuel t cs x ks hx hk hw
    unfold shP at hk
    split at hk
    · rename_i hu; cases hk
      cases fuel with
      | zero => simp [DataW.trod] at hx
      | succ fuel =>
        unfold DataW.trod at hx; rw [hu] at hx
        split at hx <;> simp_all
        exact ⟨_, .cons _ _ _ _ (.bool _) .nil, .cons _ _ _ _ (.bool _) .nil, by simpa using BdV.bool _⟩
    · rename_i k hu; cases hk
      cases fuel with
      | zero => simp [DataW.trod] at hx
      | succ fuel =>
        unfold DataW.trod at hx; rw [hu] at hx
        split at hx <;> simp_all
        obtain ⟨⟨h1, h2⟩, h3⟩ := hx
        subst h1
        exact ⟨_, .cons _ _ _ _ (.int _ _) .nil, .cons _ _ _ _ (.int _ _ h2) .nil, by simpa using BdV.int _ _⟩
    · rename_i hu; cases hk
      cases fuel with
      | zero => simp [DataW.trod] at hx
      | succ fuel =>
        obtain ⟨s, rfl, e2, -⟩ := DataW.trod_string hu hx
        have hlen : s.data.toList.length ≤ maxLen := by
          unfold DataW.trod at hx; rw [hu] at hx
          split at hx <;> simp_all
        have hb := hw s.data.toList.length (by rw [e2]; simp [DataW.weights])
        have := reachBytes_lt
        exact ⟨_, .cons _ _ _ _ (.str _ _ rfl) .nil, .cons _ _ _ _ (.str s.data.toList hlen) .nil, by simpa using BdV.str s.data.toList (by omega)⟩
    · rename_i e hu
      split at hk
      · rename_i row hrow
        split at hk
        · rename_i hc; cases hk
          rcases DataW.trod_slice hu hx with ⟨rfl, -⟩ | ⟨a, len, cap, elems, rest, n, -, rfl, hxe, -, hlc, hcm, hel, heach, -, -⟩
          · exact ⟨_, .cons _ _ _ _ (.fslnil _) .nil, .cons _ _ _ _ (.sl row 0 [] (by decide) (.nil _)) .nil, by simpa using BdV.fsl _ _ [] (by simp)⟩
          · have hsp : 0 < len → a.spot = none := by
              intro hl
              have h0 := heach 0 hl
              rw [List.getElem?_eq_getElem (by omega)] at h0
              obtain ⟨cs', hcs, -⟩ := Option.bind_eq_some_iff.1 h0
              have hl' := (World.cells?_some hcs).2.1
              have := (cells_f hcs 0 _ (List.getElem?_eq_getElem (by omega))).2
              simpa [Addr.add] using this
            have hwe : ∀ e' ∈ elems, ∀ n ∈ e'.1.weights P e, n ≤ reachBytes := by
              intro e' he' n hn
              refine hw n ?_
              rw [hxe]
              simp only [DataW.weights, hu]
              exact List.mem_cons_of_mem _ (List.mem_append_left _ (weightsAll_mem he' hn))
            have key : ∀ m, m ≤ len → ∃ (ps : List PV) (vs : List Value), RVs (G0 w) ps vs ∧ (∀ j v, vs[j]? = some v → (G0 w).f ⟨a.block, a.off + j, none⟩ = some v ∧ a.spot = none) ∧ vs.length = m * row.length ∧ ∃ rows : List (List PV), rows.length = m ∧ (∀ c ∈ rows, OkL row c) ∧ rows.flatten = ps ∧ ∀ p ∈ ps, BdV p := by
              intro m
              induction m with
              | zero => intro _; exact ⟨[], [], .nil, by simp, by simp, [], rfl, by simp, rfl, by simp⟩
              | succ m ihm =>
                intro hm
                obtain ⟨ps, vs, h1, h2, h3, rows, h4, h5, h6, h7⟩ := ihm (by omega)
                have hme := heach m (by omega)
                have : m < elems.length := by omega
                rw [List.getElem?_eq_getElem this] at hme
                obtain ⟨cs', hcs, ht⟩ := Option.bind_eq_some_iff.1 hme
                obtain ⟨qs, g1, g2, g3⟩ := ih _ _ _ _ _ ht hrow (hwe _ (List.getElem_mem _))
                have hf := cells_f hcs
                refine ⟨ps ++ qs, vs ++ cs', h1.append g1, ?_, ?_, rows ++ [qs], by simp [h4], ?_, by simp [h6], fun p hp => (List.mem_append.1 hp).elim (h7 p) (g3 p)⟩
                · intro j v hj
                  by_cases hlt : j < vs.length
                  · rw [List.getElem?_append_left hlt] at hj; exact h2 j v hj
                  · rw [List.getElem?_append_right (by omega)] at hj
                    have := hf _ _ hj
                    rw [add_none (hsp (by omega))] at this
                    refine ⟨?_, hsp (by omega)⟩
                    rw [← this.1]
                    have e1 : a.off + j = a.off + m * P.cellsOf e + (j - vs.length) := by rw [← hc.1]; omega
                    rw [e1]
                · have := (World.cells?_some hcs).2.1
                  simp [h3, this, ← hc.1, Nat.succ_mul]
                · intro c hcm'
                  rcases List.mem_append.1 hcm' with h | h
                  · exact h5 c h
                  · simp at h; subst h; exact g2
            obtain ⟨ps, vs, h1, h2, h3, rows, h4, h5, h6, h7⟩ := key len (Nat.le_refl _)
            have hR : OkR row len ps := by
              rw [← h6, ← h4]
              clear h4 h6 h1 h3 h7 heach key
              induction rows with
              | nil => exact .nil _
              | cons c rows ihr => exact .cons _ _ _ _ (h5 c (by simp)) (ihr fun c' h => h5 c' (List.mem_cons_of_mem _ h))
            refine ⟨_, .cons _ _ _ _ (.fsl row.length len ps vs a cap h1 hlc hR.length ?_ fun j v hj => (h2 j v hj).1) .nil, .cons _ _ _ _ (.sl row len ps (by omega) hR) .nil, by simpa using BdV.fsl _ _ ps h7⟩
            intro hl
            have : 0 < vs.length := by rw [h3]; exact Nat.mul_pos hl hc.2
            exact (h2 0 _ (List.getElem?_eq_getElem this)).2
        · cases hk
      · cases hk
    · rename_i fs hu
      split at hk
      · rename_i ks' hgo
        split at hk
        · rename_i hlen; cases hk
          obtain ⟨fuel, xs, -, hcl, hm, hxe⟩ := trod_structB hu hx
          have go : ∀ (fl : List Field) (off : Nat) (ks : List FK) (xs : List (DataW H × List MemPlace)), shGo P (shP P d) fl off = some ks → (fl.mapM fun f => DataW.trod enc P w base spare held fuel f.type ((cs.drop f.offset).take (P.cellsOf f.type))) = some xs → off + ks.length ≤ cs.length → (∀ n ∈ DataW.weightsEach P (fl.map (·.type)) (xs.map (·.1)), n ≤ reachBytes) →
              ∃ ps, RVs (G0 w) ps ((cs.drop off).take ks.length) ∧ OkL ks ps ∧ ∀ p ∈ ps, BdV p := by
            intro fl
            induction fl with
            | nil =>
              intro off ks xs hg _ _ _
              simp only [shGo, Option.some.injEq] at hg
              subst hg
              exact ⟨[], by simpa using RVs.nil, .nil, by simp⟩
            | cons f fl ihf =>
              intro off ks xs hg hmm hle hww
              unfold shGo at hg
              split at hg
              · rename_i hoff
                split at hg
                · rename_i k1 hk1
                  split at hg
                  · rename_i hk1l
                    simp only [Option.map_eq_some_iff] at hg
                    obtain ⟨k2, hk2, rfl⟩ := hg
                    rw [List.mapM_cons] at hmm
                    simp only [Option.bind_eq_bind, Option.bind_eq_some_iff, Option.pure_def, Option.some.injEq] at hmm
                    obtain ⟨y, hy, ys, hys, rfl⟩ := hmm
                    simp only [List.map_cons, DataW.weightsEach, List.mem_append] at hww
                    obtain ⟨p1, r1, o1, b1⟩ := ih _ _ _ _ _ hy hk1 (fun n hn => hww n (.inl hn))
                    simp only [List.length_append] at hle
                    obtain ⟨p2, r2, o2, b2⟩ := ihf _ _ _ hk2 hys (by omega) (fun n hn => hww n (.inr hn))
                    refine ⟨p1 ++ p2, ?_, o1.append o2, fun p hp => (List.mem_append.1 hp).elim (b1 p) (b2 p)⟩
                    rw [List.length_append, List.take_add, List.drop_drop]
                    rw [hoff, ← hk1l] at r1
                    exact r1.append r2
                  · cases hg
                · cases hg
              · cases hg
          obtain ⟨ps, r, o, b⟩ := go _ _ _ _ hgo hm (by omega) (fun n hn => hw n (by rw [hxe]; simp only [DataW.weights, hu]; exact hn))
          refine ⟨ps, ?_, o, b⟩
          rw [List.drop_zero, List.take_of_length_le (by omega)] at r
          exact r
        · cases hk
      · cases hk
    · rename_i n e hu
      split at hk
      · rename_i row hrow
        split at hk
        · rename_i hc; cases hk
          obtain ⟨xs, m, -, hcl, hxl, heach, hxe⟩ := trod_arrB hu hx
          have hwe : ∀ e' ∈ xs, ∀ n ∈ e'.1.weights P e, n ≤ reachBytes := fun e' he' n hn => hw n (by rw [hxe]; simp only [DataW.weights, hu]; exact weightsAll_mem he' hn)
          have key : ∀ i, i ≤ n → ∃ ps, RVs (G0 w) ps (cs.take (i * row.length)) ∧ OkL ((List.replicate i row).flatten) ps ∧ ∀ p ∈ ps, BdV p := by
            intro i
            induction i with
            | zero => intro _; exact ⟨[], by simpa using RVs.nil, .nil, by simp⟩
            | succ i ihi =>
              intro hi
              obtain ⟨ps, h1, h2, h3⟩ := ihi (by omega)
              have he := heach i (by omega)
              rw [List.getElem?_eq_getElem (by omega)] at he
              obtain ⟨qs, g1, g2, g3⟩ := ih _ _ _ _ _ he hrow (hwe _ (List.getElem_mem _))
              rw [← hc.1] at g1
              refine ⟨ps ++ qs, ?_, ?_, fun p hp => (List.mem_append.1 hp).elim (h3 p) (g3 p)⟩
              · rw [Nat.succ_mul, List.take_add]; exact h1.append g1
              · rw [List.replicate_succ', List.flatten_append]; simpa using h2.append g2
          obtain ⟨ps, h1, h2, h3⟩ := key n (Nat.le_refl _)
          refine ⟨ps, ?_, h2, h3⟩
          rw [List.take_of_length_le (by rw [hcl, ← hc.2]; exact Nat.le_refl _)] at h1
          exact h1
        · cases hk
      · cases hk
    · cases hk
end
section
variable {H : Type} {enc : TypeId × Value → H} {P : Program} {w : World} {spare : Nat → Bool} {held : Bool} {t : TypeId} {v : Value} {d : DataW H} {ps : List MemPlace} {base : Nat} {ks : List FK}
theorem weights_le {ts : List TypeId} {ds : List (DataW H)} (hsz : (DataW.weightsEach P ts ds).all (· ≤ reachBytes) = true) {j : Nat} (ht : ts[j]? = some t) (hd : ds[j]? = some d) : ∀ n ∈ d.weights P t, n ≤ reachBytes := fun n hn => by
  have := List.all_eq_true.1 hsz _ (DataW.weights_mem_each ht hd n hn)
  simpa using this
theorem open_stB {fs : Array Field} {ts : List TypeId} {ds : List (DataW H)} (hu : P.underlying t = some (.struct fs)) (hv : Value.okWide P w .any base t v) (h : DataW.Trod enc P w 0 spare held t v d ps) (hs : shP P 20 t = some ks) (hsz : (DataW.weightsEach P ts ds).all (· ≤ reachBytes) = true) {j : Nat} (ht : ts[j]? = some t) (hd : ds[j]? = some d) : ∃ cells, OkL ks cells ∧ (∀ p ∈ cells, BdV p) ∧ RV (G0 w) (.agg cells) v := by
  obtain ⟨fuel, hf⟩ := h
  obtain ⟨cells, hr, ho, hb⟩ := trod_rvb _ _ _ _ _ _ hf hs (weights_le hsz ht hd)
  obtain ⟨cs, rfl, -⟩ := Go.WideShapes.okWide_struct hu hv
  refine ⟨cells, ho, hb, ?_⟩
  have : cs = cs.toList.toArray := by simp
  rw [this]
  exact .agg _ _ hr
end
end Pv

/- Arguments of the wire laws: fields and packets. -/
namespace Pv
open Go Go.RowKit
def frK : List FK := [.int .i64, .str]
def pkK : List FK := [.int .i64, .int .i64, .int .i64, .int .i64, .int .i64, .int .i64, .int .u32, .int .u32, .int .u32, .int .u64, .int .u64, .int .u64, .int .u64, .sl frK]
theorem rows_ofK : ∀ (n : Nat) (cells : List PV), OkR frK n cells → (∀ p ∈ cells, BdV p) → ∃ l : List FR, l.length = n ∧ cells = frsC l ∧ ∀ f ∈ l, f.b.length < 2 ^ 47 := by
  intro n
  induction n with
  | zero => intro cells h _; cases h; exact ⟨[], rfl, rfl, by simp⟩
  | succ n ih =>
    intro cells h hb
    cases h with
    | cons _ _ c r hc hr =>
      obtain ⟨l, h1, h2, h3⟩ := ih r hr (fun p hp => hb p (by simp [hp]))
      cases hc with
      | cons _ _ p1 ps1 g1 gs1 =>
        cases gs1 with
        | cons _ _ p2 ps2 g2 gs2 =>
          cases gs2
          cases g1 with
          | int _ k hk =>
            cases g2 with
            | str b hbl =>
              have hb2 := hb (.str b) (by simp)
              cases hb2 with
              | str _ hlt =>
                refine ⟨⟨k, b⟩ :: l, by simp [h1], by simp [frsC, frC, h2], ?_⟩
                intro f hf
                rcases List.mem_cons.1 hf with rfl | hf
                · exact hlt
                · exact h3 f hf
theorem wfU {k : IntKind} {n : Int} (h : (Lit.int k n).wf = true) : k.min ≤ n ∧ n ≤ k.max := by simpa [Lit.wf] using h
theorem wfU32 {n : Int} (h : (Lit.int .u32 n).wf = true) : 0 ≤ n ∧ n < 4294967296 := by
  have := wfU h
  have h1 : IntKind.min .u32 = 0 := by decide
  have h2 : IntKind.max .u32 = 4294967295 := by decide
  omega
theorem wfU64 {n : Int} (h : (Lit.int .u64 n).wf = true) : 0 ≤ n ∧ n < 18446744073709551616 := by
  have := wfU h
  have h1 : IntKind.min .u64 = 0 := by decide
  have h2 : IntKind.max .u64 = 18446744073709551615 := by decide
  omega
theorem pk_ofK (cells : List PV) (h : OkL pkK cells) (hb : ∀ p ∈ cells, BdV p) : ∃ p : PKT, cells = pkC p ∧ inP p ∧ ∀ f ∈ p.f, f.b.length < 2 ^ 47 := by
  cases h with | cons _ _ p1 ps1 g1 h =>
  cases h with | cons _ _ p2 ps2 g2 h =>
  cases h with | cons _ _ p3 ps3 g3 h =>
  cases h with | cons _ _ p4 ps4 g4 h =>
  cases h with | cons _ _ p5 ps5 g5 h =>
  cases h with | cons _ _ p6 ps6 g6 h =>
  cases h with | cons _ _ p7 ps7 g7 h =>
  cases h with | cons _ _ p8 ps8 g8 h =>
  cases h with | cons _ _ p9 ps9 g9 h =>
  cases h with | cons _ _ p10 ps10 g10 h =>
  cases h with | cons _ _ p11 ps11 g11 h =>
  cases h with | cons _ _ p12 ps12 g12 h =>
  cases h with | cons _ _ p13 ps13 g13 h =>
  cases h with | cons _ _ p14 ps14 g14 h =>
  cases h
  cases g1 with | int _ n1 _ =>
  cases g2 with | int _ n2 _ =>
  cases g3 with | int _ n3 _ =>
  cases g4 with | int _ n4 _ =>
  cases g5 with | int _ n5 _ =>
  cases g6 with | int _ n6 _ =>
  cases g7 with | int _ n7 w7 =>
  cases g8 with | int _ n8 w8 =>
  cases g9 with | int _ n9 w9 =>
  cases g10 with | int _ n10 w10 =>
  cases g11 with | int _ n11 w11 =>
  cases g12 with | int _ n12 w12 =>
  cases g13 with | int _ n13 w13 =>
  cases g14 with
  | sl _ len cs _ hR =>
    have hb2 := hb (.fsl frK.length len cs) (by simp)
    cases hb2 with
    | fsl _ _ _ hb3 =>
      obtain ⟨l, e1, e2, e3⟩ := rows_ofK len cs hR hb3
      have q7 := wfU32 w7
      have q8 := wfU32 w8
      have q9 := wfU32 w9
      have q10 := wfU64 w10
      have q11 := wfU64 w11
      have q12 := wfU64 w12
      have q13 := wfU64 w13
      subst e1 e2
      refine ⟨⟨n1, n2, n3, n4, n5, n6, n7.toNat, n8.toNat, n9.toNat, n10.toNat, n11.toNat, n12.toNat, n13.toNat, l⟩, ?_, ⟨by show n7.toNat < 4294967296; omega, by show n8.toNat < 4294967296; omega, by show n9.toNat < 4294967296; omega, by show n10.toNat < 18446744073709551616; omega, by show n11.toNat < 18446744073709551616; omega, by show n12.toNat < 18446744073709551616; omega, by show n13.toNat < 18446744073709551616; omega⟩, e3⟩
      simp only [pkC, Int.toNat_of_nonneg q7.1, Int.toNat_of_nonneg q8.1, Int.toNat_of_nonneg q9.1, Int.toNat_of_nonneg q10.1, Int.toNat_of_nonneg q11.1, Int.toNat_of_nonneg q12.1, Int.toNat_of_nonneg q13.1]
      rfl
end Pv
