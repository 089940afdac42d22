/- Part of the proof: the layer of pure values, or walks through functions (PvRb5, PvRb6). -/
import Derived.Test.YtjomgffpkdcanaaGreatDoorPvRb3
import Derived.Test.YtjomgffpkdcanaaGreatDoorPvGc7
import Derived.Test.YtjomgffpkdcanaaGreatDoorPvShaR
set_option linter.all false
--nosplit
--keep2
namespace Pv
set_option maxRecDepth 20000
set_option maxHeartbeats 4000000
open Go Go.Proofs Go.RowKit
def tb8_10Rb5 : Tab := [[], [0], [], [2], [2, 3], [2, 3, 4], [2, 3, 4, 5], [0, 1, 2, 3, 4, 5, 6], [], [8], [0, 1, 2, 3, 4, 5, 6, 7, 8, 9], [0, 1, 2, 3, 4, 5, 6, 7, 8, 9, 10]]
def pl8_10Rb5 : PT := (.mv 0 (.mv 1 (.mv 2 (.mv 3 (.mv 4 (.mv 8 (.fx 5 [0, 1, 8] (.mv 6 (.mv 7 (.fx 9 [0, 1, 6, 7] (.mv 10 (.fx 11 [] .nil .no)) .no))) (.fx 9 [0, 1, 2, 3, 4] (.fx 5 [0, 1] (.mv 6 (.mv 7 (.mv 10 (.fx 11 [] .nil .no)))) .no) .no))))))))
def tb8_12Rb5 : Tab := [[], [0], [0, 1], [0, 1, 2], [0, 1, 2, 3], [], [5], [5, 6], [5, 6, 7], [], [], [0, 1, 2, 3, 4, 5, 6, 7, 8, 9, 10], [0, 1, 2, 3, 4, 5, 6, 7, 8, 9, 10, 11], [0, 1, 2, 3, 4, 5, 6, 7, 8, 9, 10, 11, 12], [0, 1, 2, 3, 4, 5, 6, 7, 8, 9, 10, 11, 12], [0, 1, 2, 3, 4, 5, 6, 7, 8, 9, 10, 11, 12, 13], [0, 1, 2, 3, 4, 5, 6, 7, 8, 9, 10, 11, 12, 13, 14, 15]]
def pl8_12Rb5 : Plan := [(0, true, []), (1, true, []), (2, true, []), (3, true, []), (4, true, []), (5, true, []), (6, true, []), (7, true, []), (8, true, []), (9, true, []), (10, true, []), (11, false, []), (12, true, []), (13, true, []), (14, true, []), (15, false, [14]), (16, false, [])]
variable {w0 : World}

def plainL (K : Int) (b : List UInt8) (pad : Int) : List UInt8 := b ++ [u8 K] ++ List.replicate pad.toNat 0
def adL (K : Int) (b : List UInt8) (pad : Int) : List UInt8 := headL 23 ((plainL K b pad).length + 16 : Nat)
def sealL (key iv : List UInt8) (q : Int) (K : Int) (b : List UInt8) (pad : Int) : List UInt8 := (sealG key (nonceL iv q) (adL K b pad) (plainL K b pad)).1
theorem recBeginP_ok (p : Nat) (ph : PH) (key iv : List UInt8) (q : Int) (hk : key.length = 16) (hi : iv.length = 12) (hq : q ≠ 18446744073709551615) (hp : p = ph.n + 1) : EffA (Cx w0) 15 [.agg [.str key, .str iv, .int .u64 q]] ph (.tuple [.ptr p 0, .int .i64 0]) [some (.own [.str key, .str iv, .int .u64 q]), some (.own [.str key, .str iv, .int .u64 q, .int .u64 q, .str (nonceL iv q)])] := by
  subst hp; exact recBegin_ok ph key iv q hk hi hq
/-- A record sealed. -/
def protL (key iv : List UInt8) (q : Int) (K : Int) (b : List UInt8) (pad : Int) : Int × List UInt8 × Int :=
  if knB K = false then (q, [], 23) else if 16384 < (b.length : Int) then (q, [], 12) else if pad < 0 ∨ 16384 - (b.length : Int) < pad then (q, [], 13)
  else if ¬ (key.length = 16 ∧ iv.length = 12) then (q, [], 10) else if q = 18446744073709551615 then (q, [], 18)
  else (q + 1, adL K b pad ++ sealL key iv q K b pad, 0)
theorem recProtect_ok (key iv : List UInt8) (q : Int) (K : Int) (b : List UInt8) (pad : Int) (hq : 0 ≤ q ∧ q ≤ 18446744073709551615) (hb : b.length < 2 ^ 50) : Fn (Cx w0) 8 [.agg [.str key, .str iv, .int .u64 q], .agg [.int .i64 K, .str b], .int .i64 pad] (.tuple [.agg [.str key, .str iv, .int .u64 (protL key iv q K b pad).1], .str (protL key iv q K b pad).2.1, .int .i64 (protL key iv q K b pad).2.2]) := by
  have tk := recKnown_ok (w0 := w0) K
  cases h1 : knB K with
  | false =>
    rw [h1] at tk
    rw [show protL key iv q K b pad = (q, [], 23) by rw [protL, if_pos h1]]
    refine fn_H ([Go.ResultVar.cell 6 24, Go.ResultVar.tmp 7, Go.ResultVar.tmp 8]) Tryz.func8 rfl rfl (by decide) fun ph hW Q hQ => ?_
    simp only [start, List.length_cons, List.length_nil, List.cons_append, List.nil_append, Nat.reduceAdd, Nat.reduceSub, List.replicate_succ, List.replicate_zero, Tryz.ntmps8]
    repeat' first | simp -implicitDefEqProofs (maxSteps := 400000) (disch := first | with_reducible rfl | omega | (simp only [wkH] <;> omega) | decide) only [wkAll, wkL, popO, wantedP, if_true, if_false, reduceIte, ne_eq, Nat.reduceAdd, Nat.reduceSub, Nat.reduceMul, Nat.reduceLeDiff, Nat.reduceLT, ofCells, ofCell, reduceCtorEq, Int.reduceLE, Int.reduceLT, Int.reduceToNat, Int.reduceAdd, Int.reduceSub, Int.reduceMul, Int.reduceNeg, Int.reduceBEq, Int.reduceBNe, Int.reduceEq, eqCell, eqCells, binP, unP, convP, lenP, builtinP, sliceDataP, unsafeStringP, appendT, appendS, appendP, copyP, srcP, mmsP, mmP, indexOp, indexAddrOp, sliceOp, bndsP, bndP, capw, capCut, loadOp, storeOp, loadP, fieldOp, fieldAddrOp, arrayAtOp, buildP, buildSliceP, makeSliceP, placeF, fillP, setL, PK.agg, isZero, gt_iff_lt, Nat.reducePow, Nat.reduceGT, reps, seg, wkN, if_pos, if_neg, t_nil, t_no, t_mv, t_fx, t_op, t_true, t_false, t_mvk, t_se0, t_se, and_true, tf3, Tryz.ze3, tf4, Tryz.ze4, tf5, Tryz.ze5, tf9, Tryz.ze9, tf22, Tryz.ze22, tf24, Tryz.ze24, tf26, Tryz.ze26, tf29, Tryz.ze29, tf46, Tryz.ze46, tf49, Tryz.ze49, tf56, Tryz.ze56, tf58, Tryz.ze58, pl8_10Rb5, pl8_12Rb5] | refine w_pure (tk) ?_ | refine And.intro ?_ ?_ | refine w_drawnTF (id := 10) tb8_10Rb5 pl8_10Rb5 [0, 1, 2, 3, 4, 5, 6, 7, 8, 9, 10, 11] 58 (by kernel_rfl) (by kernel_rfl) (by simp) ?_ | refine w_drawnF (id := 12) tb8_12Rb5 pl8_12Rb5 77 (by kernel_rfl) (by kernel_rfl) (by simp) ?_
    refine hQ (by first | exact .inr rfl | exact .inl rfl) (by first | exact trivial | exact marks1) (by first | (simp -implicitDefEqProofs (maxSteps := 400000) (disch := first | with_reducible rfl | omega | (simp only [wkH] <;> omega) | decide) only [wkAll, wkL, popO, wantedP, if_true, if_false, reduceIte, ne_eq, Nat.reduceAdd, Nat.reduceSub, Nat.reduceMul, Nat.reduceLeDiff, Nat.reduceLT, ofCells, ofCell, reduceCtorEq, Int.reduceLE, Int.reduceLT, Int.reduceToNat, Int.reduceAdd, Int.reduceSub, Int.reduceMul, Int.reduceNeg, Int.reduceBEq, Int.reduceBNe, Int.reduceEq, eqCell, eqCells, loadOp, storeOp, loadP, setL, PK.agg, isZero, gt_iff_lt, Nat.reducePow, Nat.reduceGT, reps, seg, wkN, if_pos, if_neg, t_nil, t_no, t_mv, t_fx, t_op, t_true, t_false, t_mvk, t_se0, t_se, and_true, tf3, Tryz.ze3, tf4, Tryz.ze4, tf5, Tryz.ze5, tf9, Tryz.ze9, tf22, Tryz.ze22, tf24, Tryz.ze24, tf26, Tryz.ze26, tf29, Tryz.ze29, tf46, Tryz.ze46, tf49, Tryz.ze49, tf56, Tryz.ze56, tf58, Tryz.ze58, pl8_10Rb5, pl8_12Rb5, resP, resPs, resP1]; rfl) | rfl) ⟨6, by repeat' first | exact frz_scalar rfl | apply frz_tuple | apply frz_agg | apply frz_fsl | apply frz_gsl (by omega) | exact frzs_nil | apply frzs_cons⟩ (by first | exact keepsH0 | exact keeps1 (by assumption)) (nw_eq ?_)
    rfl
  | true =>
    rw [h1] at tk
    by_cases h2 : 16384 < (b.length : Int)
    · rw [show protL key iv q K b pad = (q, [], 12) by rw [protL, if_neg (by simp [h1]), if_pos h2]]
      refine fn_H ([Go.ResultVar.cell 6 24, Go.ResultVar.tmp 7, Go.ResultVar.tmp 8]) Tryz.func8 rfl rfl (by decide) fun ph hW Q hQ => ?_
      simp only [start, List.length_cons, List.length_nil, List.cons_append, List.nil_append, Nat.reduceAdd, Nat.reduceSub, List.replicate_succ, List.replicate_zero, Tryz.ntmps8]
      repeat' first | simp -implicitDefEqProofs (maxSteps := 400000) (disch := first | with_reducible rfl | omega | (simp only [wkH] <;> omega) | decide) only [wkAll, wkL, popO, wantedP, if_true, if_false, reduceIte, ne_eq, Nat.reduceAdd, Nat.reduceSub, Nat.reduceMul, Nat.reduceLeDiff, Nat.reduceLT, ofCells, ofCell, reduceCtorEq, Int.reduceLE, Int.reduceLT, Int.reduceToNat, Int.reduceAdd, Int.reduceSub, Int.reduceMul, Int.reduceNeg, Int.reduceBEq, Int.reduceBNe, Int.reduceEq, eqCell, eqCells, binP, unP, convP, lenP, builtinP, sliceDataP, unsafeStringP, appendT, appendS, appendP, copyP, srcP, mmsP, mmP, indexOp, indexAddrOp, sliceOp, bndsP, bndP, capw, capCut, loadOp, storeOp, loadP, fieldOp, fieldAddrOp, arrayAtOp, buildP, buildSliceP, makeSliceP, placeF, fillP, setL, PK.agg, isZero, gt_iff_lt, Nat.reducePow, Nat.reduceGT, reps, seg, wkN, if_pos, if_neg, t_nil, t_no, t_mv, t_fx, t_op, t_true, t_false, t_mvk, t_se0, t_se, and_true, tf3, Tryz.ze3, tf4, Tryz.ze4, tf5, Tryz.ze5, tf9, Tryz.ze9, tf22, Tryz.ze22, tf24, Tryz.ze24, tf26, Tryz.ze26, tf29, Tryz.ze29, tf46, Tryz.ze46, tf49, Tryz.ze49, tf56, Tryz.ze56, tf58, Tryz.ze58, pl8_10Rb5, pl8_12Rb5, h2, gt_iff_lt] | refine w_pure (tk) ?_ | refine And.intro ?_ ?_ | refine w_drawnTF (id := 10) tb8_10Rb5 pl8_10Rb5 [0, 1, 2, 3, 4, 5, 6, 7, 8, 9, 10, 11] 58 (by kernel_rfl) (by kernel_rfl) (by simp) ?_ | refine w_drawnF (id := 12) tb8_12Rb5 pl8_12Rb5 77 (by kernel_rfl) (by kernel_rfl) (by simp) ?_
      refine hQ (by first | exact .inr rfl | exact .inl rfl) (by first | exact trivial | exact marks1) (by first | (simp -implicitDefEqProofs (maxSteps := 400000) (disch := first | with_reducible rfl | omega | (simp only [wkH] <;> omega) | decide) only [wkAll, wkL, popO, wantedP, if_true, if_false, reduceIte, ne_eq, Nat.reduceAdd, Nat.reduceSub, Nat.reduceMul, Nat.reduceLeDiff, Nat.reduceLT, ofCells, ofCell, reduceCtorEq, Int.reduceLE, Int.reduceLT, Int.reduceToNat, Int.reduceAdd, Int.reduceSub, Int.reduceMul, Int.reduceNeg, Int.reduceBEq, Int.reduceBNe, Int.reduceEq, eqCell, eqCells, loadOp, storeOp, loadP, setL, PK.agg, isZero, gt_iff_lt, Nat.reducePow, Nat.reduceGT, reps, seg, wkN, if_pos, if_neg, t_nil, t_no, t_mv, t_fx, t_op, t_true, t_false, t_mvk, t_se0, t_se, and_true, tf3, Tryz.ze3, tf4, Tryz.ze4, tf5, Tryz.ze5, tf9, Tryz.ze9, tf22, Tryz.ze22, tf24, Tryz.ze24, tf26, Tryz.ze26, tf29, Tryz.ze29, tf46, Tryz.ze46, tf49, Tryz.ze49, tf56, Tryz.ze56, tf58, Tryz.ze58, pl8_10Rb5, pl8_12Rb5, resP, resPs, resP1]; rfl) | rfl) ⟨6, by repeat' first | exact frz_scalar rfl | apply frz_tuple | apply frz_agg | apply frz_fsl | apply frz_gsl (by omega) | exact frzs_nil | apply frzs_cons⟩ (by first | exact keepsH0 | exact keeps1 (by assumption)) (nw_eq ?_)
      rfl
    have hsub : IntKind.wrap .i64 (16384 - (b.length : Int)) = 16384 - (b.length : Int) := IntWalk.i64_in _ (by omega)
    by_cases h3 : pad < 0 ∨ 16384 - (b.length : Int) < pad
    · rw [show protL key iv q K b pad = (q, [], 13) by rw [protL, if_neg (by simp [h1]), if_neg h2, if_pos h3]]
      by_cases h4 : pad < 0
      ·
        refine fn_H ([Go.ResultVar.cell 6 24, Go.ResultVar.tmp 7, Go.ResultVar.tmp 8]) Tryz.func8 rfl rfl (by decide) fun ph hW Q hQ => ?_
        simp only [start, List.length_cons, List.length_nil, List.cons_append, List.nil_append, Nat.reduceAdd, Nat.reduceSub, List.replicate_succ, List.replicate_zero, Tryz.ntmps8]
        repeat' first | simp -implicitDefEqProofs (maxSteps := 400000) (disch := first | with_reducible rfl | omega | (simp only [wkH] <;> omega) | decide) only [wkAll, wkL, popO, wantedP, if_true, if_false, reduceIte, ne_eq, Nat.reduceAdd, Nat.reduceSub, Nat.reduceMul, Nat.reduceLeDiff, Nat.reduceLT, ofCells, ofCell, reduceCtorEq, Int.reduceLE, Int.reduceLT, Int.reduceToNat, Int.reduceAdd, Int.reduceSub, Int.reduceMul, Int.reduceNeg, Int.reduceBEq, Int.reduceBNe, Int.reduceEq, eqCell, eqCells, binP, unP, convP, lenP, builtinP, sliceDataP, unsafeStringP, appendT, appendS, appendP, copyP, srcP, mmsP, mmP, indexOp, indexAddrOp, sliceOp, bndsP, bndP, capw, capCut, loadOp, storeOp, loadP, fieldOp, fieldAddrOp, arrayAtOp, buildP, buildSliceP, makeSliceP, placeF, fillP, setL, PK.agg, isZero, gt_iff_lt, Nat.reducePow, Nat.reduceGT, reps, seg, wkN, if_pos, if_neg, t_nil, t_no, t_mv, t_fx, t_op, t_true, t_false, t_mvk, t_se0, t_se, and_true, tf3, Tryz.ze3, tf4, Tryz.ze4, tf5, Tryz.ze5, tf9, Tryz.ze9, tf22, Tryz.ze22, tf24, Tryz.ze24, tf26, Tryz.ze26, tf29, Tryz.ze29, tf46, Tryz.ze46, tf49, Tryz.ze49, tf56, Tryz.ze56, tf58, Tryz.ze58, pl8_10Rb5, pl8_12Rb5, h2, h4, gt_iff_lt] | refine w_pure (tk) ?_ | refine And.intro ?_ ?_ | refine w_drawnTF (id := 10) tb8_10Rb5 pl8_10Rb5 [0, 1, 2, 3, 4, 5, 6, 7, 8, 9, 10, 11] 58 (by kernel_rfl) (by kernel_rfl) (by simp) ?_ | refine w_drawnF (id := 12) tb8_12Rb5 pl8_12Rb5 77 (by kernel_rfl) (by kernel_rfl) (by simp) ?_
        refine hQ (by first | exact .inr rfl | exact .inl rfl) (by first | exact trivial | exact marks1) (by first | (simp -implicitDefEqProofs (maxSteps := 400000) (disch := first | with_reducible rfl | omega | (simp only [wkH] <;> omega) | decide) only [wkAll, wkL, popO, wantedP, if_true, if_false, reduceIte, ne_eq, Nat.reduceAdd, Nat.reduceSub, Nat.reduceMul, Nat.reduceLeDiff, Nat.reduceLT, ofCells, ofCell, reduceCtorEq, Int.reduceLE, Int.reduceLT, Int.reduceToNat, Int.reduceAdd, Int.reduceSub, Int.reduceMul, Int.reduceNeg, Int.reduceBEq, Int.reduceBNe, Int.reduceEq, eqCell, eqCells, loadOp, storeOp, loadP, setL, PK.agg, isZero, gt_iff_lt, Nat.reducePow, Nat.reduceGT, reps, seg, wkN, if_pos, if_neg, t_nil, t_no, t_mv, t_fx, t_op, t_true, t_false, t_mvk, t_se0, t_se, and_true, tf3, Tryz.ze3, tf4, Tryz.ze4, tf5, Tryz.ze5, tf9, Tryz.ze9, tf22, Tryz.ze22, tf24, Tryz.ze24, tf26, Tryz.ze26, tf29, Tryz.ze29, tf46, Tryz.ze46, tf49, Tryz.ze49, tf56, Tryz.ze56, tf58, Tryz.ze58, pl8_10Rb5, pl8_12Rb5, resP, resPs, resP1]; rfl) | rfl) ⟨6, by repeat' first | exact frz_scalar rfl | apply frz_tuple | apply frz_agg | apply frz_fsl | apply frz_gsl (by omega) | exact frzs_nil | apply frzs_cons⟩ (by first | exact keepsH0 | exact keeps1 (by assumption)) (nw_eq ?_)
        rfl
      · have h5 : 16384 - (b.length : Int) < pad := by omega
        refine fn_H ([Go.ResultVar.cell 6 24, Go.ResultVar.tmp 7, Go.ResultVar.tmp 8]) Tryz.func8 rfl rfl (by decide) fun ph hW Q hQ => ?_
        simp only [start, List.length_cons, List.length_nil, List.cons_append, List.nil_append, Nat.reduceAdd, Nat.reduceSub, List.replicate_succ, List.replicate_zero, Tryz.ntmps8]
        repeat' first | simp -implicitDefEqProofs (maxSteps := 400000) (disch := first | with_reducible rfl | omega | (simp only [wkH] <;> omega) | decide) only [wkAll, wkL, popO, wantedP, if_true, if_false, reduceIte, ne_eq, Nat.reduceAdd, Nat.reduceSub, Nat.reduceMul, Nat.reduceLeDiff, Nat.reduceLT, ofCells, ofCell, reduceCtorEq, Int.reduceLE, Int.reduceLT, Int.reduceToNat, Int.reduceAdd, Int.reduceSub, Int.reduceMul, Int.reduceNeg, Int.reduceBEq, Int.reduceBNe, Int.reduceEq, eqCell, eqCells, binP, unP, convP, lenP, builtinP, sliceDataP, unsafeStringP, appendT, appendS, appendP, copyP, srcP, mmsP, mmP, indexOp, indexAddrOp, sliceOp, bndsP, bndP, capw, capCut, loadOp, storeOp, loadP, fieldOp, fieldAddrOp, arrayAtOp, buildP, buildSliceP, makeSliceP, placeF, fillP, setL, PK.agg, isZero, gt_iff_lt, Nat.reducePow, Nat.reduceGT, reps, seg, wkN, if_pos, if_neg, t_nil, t_no, t_mv, t_fx, t_op, t_true, t_false, t_mvk, t_se0, t_se, and_true, tf3, Tryz.ze3, tf4, Tryz.ze4, tf5, Tryz.ze5, tf9, Tryz.ze9, tf22, Tryz.ze22, tf24, Tryz.ze24, tf26, Tryz.ze26, tf29, Tryz.ze29, tf46, Tryz.ze46, tf49, Tryz.ze49, tf56, Tryz.ze56, tf58, Tryz.ze58, pl8_10Rb5, pl8_12Rb5, h2, h4, h5, hsub, gt_iff_lt] | refine w_pure (tk) ?_ | refine And.intro ?_ ?_ | refine w_drawnTF (id := 10) tb8_10Rb5 pl8_10Rb5 [0, 1, 2, 3, 4, 5, 6, 7, 8, 9, 10, 11] 58 (by kernel_rfl) (by kernel_rfl) (by simp) ?_ | refine w_drawnF (id := 12) tb8_12Rb5 pl8_12Rb5 77 (by kernel_rfl) (by kernel_rfl) (by simp) ?_
        refine hQ (by first | exact .inr rfl | exact .inl rfl) (by first | exact trivial | exact marks1) (by first | (simp -implicitDefEqProofs (maxSteps := 400000) (disch := first | with_reducible rfl | omega | (simp only [wkH] <;> omega) | decide) only [wkAll, wkL, popO, wantedP, if_true, if_false, reduceIte, ne_eq, Nat.reduceAdd, Nat.reduceSub, Nat.reduceMul, Nat.reduceLeDiff, Nat.reduceLT, ofCells, ofCell, reduceCtorEq, Int.reduceLE, Int.reduceLT, Int.reduceToNat, Int.reduceAdd, Int.reduceSub, Int.reduceMul, Int.reduceNeg, Int.reduceBEq, Int.reduceBNe, Int.reduceEq, eqCell, eqCells, loadOp, storeOp, loadP, setL, PK.agg, isZero, gt_iff_lt, Nat.reducePow, Nat.reduceGT, reps, seg, wkN, if_pos, if_neg, t_nil, t_no, t_mv, t_fx, t_op, t_true, t_false, t_mvk, t_se0, t_se, and_true, tf3, Tryz.ze3, tf4, Tryz.ze4, tf5, Tryz.ze5, tf9, Tryz.ze9, tf22, Tryz.ze22, tf24, Tryz.ze24, tf26, Tryz.ze26, tf29, Tryz.ze29, tf46, Tryz.ze46, tf49, Tryz.ze49, tf56, Tryz.ze56, tf58, Tryz.ze58, pl8_10Rb5, pl8_12Rb5, resP, resPs, resP1]; rfl) | rfl) ⟨6, by repeat' first | exact frz_scalar rfl | apply frz_tuple | apply frz_agg | apply frz_fsl | apply frz_gsl (by omega) | exact frzs_nil | apply frzs_cons⟩ (by first | exact keepsH0 | exact keeps1 (by assumption)) (nw_eq ?_)
        rfl
    have h4 : ¬ pad < 0 := by omega
    have h5 : ¬ 16384 - (b.length : Int) < pad := by omega
    by_cases h6 : key.length = 16 ∧ iv.length = 12
    · by_cases h7 : q = 18446744073709551615
      · subst h7
        rw [show protL key iv 18446744073709551615 K b pad = (18446744073709551615, [], 18) by rw [protL, if_neg (by simp [h1]), if_neg h2, if_neg h3, if_neg (by simpa using h6), if_pos rfl]]
        refine fn_H ([Go.ResultVar.cell 6 24, Go.ResultVar.tmp 7, Go.ResultVar.tmp 8]) Tryz.func8 rfl rfl (by decide) fun ph hW Q hQ => ?_
        simp only [start, List.length_cons, List.length_nil, List.cons_append, List.nil_append, Nat.reduceAdd, Nat.reduceSub, List.replicate_succ, List.replicate_zero, Tryz.ntmps8]
        repeat' first | simp -implicitDefEqProofs (maxSteps := 400000) (disch := first | with_reducible rfl | omega | (simp only [wkH] <;> omega) | decide) only [wkAll, wkL, popO, wantedP, if_true, if_false, reduceIte, ne_eq, Nat.reduceAdd, Nat.reduceSub, Nat.reduceMul, Nat.reduceLeDiff, Nat.reduceLT, ofCells, ofCell, reduceCtorEq, Int.reduceLE, Int.reduceLT, Int.reduceToNat, Int.reduceAdd, Int.reduceSub, Int.reduceMul, Int.reduceNeg, Int.reduceBEq, Int.reduceBNe, Int.reduceEq, eqCell, eqCells, binP, unP, convP, lenP, builtinP, sliceDataP, unsafeStringP, appendT, appendS, appendP, copyP, srcP, mmsP, mmP, indexOp, indexAddrOp, sliceOp, bndsP, bndP, capw, capCut, loadOp, storeOp, loadP, fieldOp, fieldAddrOp, arrayAtOp, buildP, buildSliceP, makeSliceP, placeF, fillP, setL, PK.agg, isZero, gt_iff_lt, Nat.reducePow, Nat.reduceGT, reps, seg, wkN, if_pos, if_neg, t_nil, t_no, t_mv, t_fx, t_op, t_true, t_false, t_mvk, t_se0, t_se, and_true, tf3, Tryz.ze3, tf4, Tryz.ze4, tf5, Tryz.ze5, tf9, Tryz.ze9, tf22, Tryz.ze22, tf24, Tryz.ze24, tf26, Tryz.ze26, tf29, Tryz.ze29, tf46, Tryz.ze46, tf49, Tryz.ze49, tf56, Tryz.ze56, tf58, Tryz.ze58, pl8_10Rb5, pl8_12Rb5, h2, h4, h5, hsub, gt_iff_lt] | refine w_pure (tk) ?_ | refine w_effA (recBeginM_ok _ key iv h6.1 h6.2) ?_ | refine And.intro ?_ ?_ | refine w_drawnTF (id := 10) tb8_10Rb5 pl8_10Rb5 [0, 1, 2, 3, 4, 5, 6, 7, 8, 9, 10, 11] 58 (by kernel_rfl) (by kernel_rfl) (by simp) ?_ | refine w_drawnF (id := 12) tb8_12Rb5 pl8_12Rb5 77 (by kernel_rfl) (by kernel_rfl) (by simp) ?_
        refine hQ (by first | exact .inr rfl | exact .inl rfl) (by first | exact trivial | exact marks1) (by first | (simp -implicitDefEqProofs (maxSteps := 400000) (disch := first | with_reducible rfl | omega | (simp only [wkH] <;> omega) | decide) only [wkAll, wkL, popO, wantedP, if_true, if_false, reduceIte, ne_eq, Nat.reduceAdd, Nat.reduceSub, Nat.reduceMul, Nat.reduceLeDiff, Nat.reduceLT, ofCells, ofCell, reduceCtorEq, Int.reduceLE, Int.reduceLT, Int.reduceToNat, Int.reduceAdd, Int.reduceSub, Int.reduceMul, Int.reduceNeg, Int.reduceBEq, Int.reduceBNe, Int.reduceEq, eqCell, eqCells, loadOp, storeOp, loadP, setL, PK.agg, isZero, gt_iff_lt, Nat.reducePow, Nat.reduceGT, reps, seg, wkN, if_pos, if_neg, t_nil, t_no, t_mv, t_fx, t_op, t_true, t_false, t_mvk, t_se0, t_se, and_true, tf3, Tryz.ze3, tf4, Tryz.ze4, tf5, Tryz.ze5, tf9, Tryz.ze9, tf22, Tryz.ze22, tf24, Tryz.ze24, tf26, Tryz.ze26, tf29, Tryz.ze29, tf46, Tryz.ze46, tf49, Tryz.ze49, tf56, Tryz.ze56, tf58, Tryz.ze58, pl8_10Rb5, pl8_12Rb5, resP, resPs, resP1]; rfl) | rfl) ⟨6, by repeat' first | exact frz_scalar rfl | apply frz_tuple | apply frz_agg | apply frz_fsl | apply frz_gsl (by omega) | exact frzs_nil | apply frzs_cons⟩ (by first | exact keepsH0 | exact keeps1 (by assumption)) (nw_eq ?_)
        rfl
      · rw [show protL key iv q K b pad = (q + 1, adL K b pad ++ sealL key iv q K b pad, 0) by rw [protL, if_neg (by simp [h1]), if_neg h2, if_neg h3, if_neg (by simpa using h6), if_neg h7]]
        have hgk : goodK key := .inl h6.1
        have hnl := nonce_len h6.2 q
        obtain ⟨P, hP⟩ : ∃ P, P = plainL K b pad := ⟨_, rfl⟩
        have hPl : P.length = b.length + 1 + pad.toNat := by rw [hP]; simp [plainL]; omega
        have hPl2 : P.length ≤ 16385 := by omega
        have hse : (sealG key (nonceL iv q) (adL K b pad) P).2 = 0 := (seal_e _ _ _ _).2 ⟨hgk, hnl, by omega⟩
        have hadl : (adL K b pad).length = 5 := rfl
        have ts := gcSeal_ok (w0 := w0) key (nonceL iv q) (adL K b pad) P (by rw [hadl]; decide)
        have hol := (open_seal (ad := adL K b pad) hgk hnl (show P.length ≤ 65536 by omega)).2
        rw [hse] at ts
        have hsl : (sealG key (nonceL iv q) (adL K b pad) P).1 = sealL key iv q K b pad := by rw [hP]; rfl
        rw [hsl] at ts hol
        have th := recHead_ok (w0 := w0) 23 ((P.length : Int) + 16) (by omega)
        have hhd : headL 23 ((P.length : Int) + 16) = adL K b pad := by rw [adL, ← hP]; rfl
        rw [hhd] at th
        generalize adL K b pad = ad at *
        generalize sealL key iv q K b pad = C at *
        have hpn : pad = ((pad.toNat : Nat) : Int) := by omega
        have tr := repeat_ok (w0 := w0) 0 pad.toNat (by omega)
        rw [← hpn] at tr
        have hPe : b ++ [u8 K] ++ List.replicate pad.toNat 0 = P := by rw [hP]; rfl
        have hu : IntKind.wrap .u8 K = ((u8 K).toNat : Int) := by rw [u8_toNat]; simp [IntKind.wrap, IntKind.bits, IntKind.signed]
        have hb1 : bytesOf [PV.int .u8 ((u8 K).toNat : Int)] = some [u8 K] := bytesOf_bytesPV [u8 K]
        have f1 : (b.length + 1 ≤ 9223372036854775807) = True := by simp; omega
        have f2 : (b.length + 1 + pad.toNat ≤ 9223372036854775807) = True := by simp; omega
        have f3 : (ad.length + C.length ≤ 9223372036854775807) = True := by simp; omega
        have f4 : IntKind.wrap .i64 ((P.length : Int) + 16) = (P.length : Int) + 16 := IntWalk.i64_in _ (by omega)
        refine fn_H ([Go.ResultVar.cell 6 24, Go.ResultVar.tmp 7, Go.ResultVar.tmp 8]) Tryz.func8 rfl rfl (by decide) fun ph hW Q hQ => ?_
        simp only [start, List.length_cons, List.length_nil, List.cons_append, List.nil_append, Nat.reduceAdd, Nat.reduceSub, List.replicate_succ, List.replicate_zero, Tryz.ntmps8]
        repeat' first | simp -implicitDefEqProofs (maxSteps := 400000) (disch := first | with_reducible rfl | omega | (simp only [wkH] <;> omega) | decide) only [wkAll, wkL, popO, wantedP, if_true, if_false, reduceIte, ne_eq, Nat.reduceAdd, Nat.reduceSub, Nat.reduceMul, Nat.reduceLeDiff, Nat.reduceLT, ofCells, ofCell, reduceCtorEq, Int.reduceLE, Int.reduceLT, Int.reduceToNat, Int.reduceAdd, Int.reduceSub, Int.reduceMul, Int.reduceNeg, Int.reduceBEq, Int.reduceBNe, Int.reduceEq, eqCell, eqCells, binP, unP, convP, lenP, builtinP, sliceDataP, unsafeStringP, appendT, appendS, appendP, copyP, srcP, mmsP, mmP, indexOp, indexAddrOp, sliceOp, bndsP, bndP, capw, capCut, loadOp, storeOp, loadP, fieldOp, fieldAddrOp, arrayAtOp, buildP, buildSliceP, makeSliceP, placeF, fillP, setL, PK.agg, isZero, gt_iff_lt, Nat.reducePow, Nat.reduceGT, reps, seg, wkN, if_pos, if_neg, t_nil, t_no, t_mv, t_fx, t_op, t_true, t_false, t_mvk, t_se0, t_se, and_true, tf3, Tryz.ze3, tf4, Tryz.ze4, tf5, Tryz.ze5, tf9, Tryz.ze9, tf22, Tryz.ze22, tf24, Tryz.ze24, tf26, Tryz.ze26, tf29, Tryz.ze29, tf46, Tryz.ze46, tf49, Tryz.ze49, tf56, Tryz.ze56, tf58, Tryz.ze58, pl8_10Rb5, pl8_12Rb5, h2, h4, h5, hsub, gt_iff_lt, hu, hb1, f1, f2, f3, f4, hPe, List.length_append, List.length_cons, List.length_nil, List.length_replicate] | refine w_pure (tk) ?_ | refine w_effA (recBeginP_ok (ph.n + 4) _ key iv q h6.1 h6.2 h7 (by rw [h_n]; rfl)) ?_ | refine w_pure (tr) ?_ | refine w_pure (th) ?_ | refine w_pure (ts) ?_ | refine w_eff (recDone_ok _ (ph.n + 4) key iv (nonceL iv q) q ⟨hq.1, by omega⟩ (by rw [h_get]; rfl)) ?_ | refine And.intro ?_ ?_ | refine w_drawnTF (id := 10) tb8_10Rb5 pl8_10Rb5 [0, 1, 2, 3, 4, 5, 6, 7, 8, 9, 10, 11] 58 (by kernel_rfl) (by kernel_rfl) (by simp) ?_ | refine w_drawnF (id := 12) tb8_12Rb5 pl8_12Rb5 77 (by kernel_rfl) (by kernel_rfl) (by simp) ?_
        all_goals
          refine hQ (by first | exact .inr rfl | exact .inl rfl) (by first | exact trivial | exact marks1) (by first | (simp -implicitDefEqProofs (maxSteps := 400000) (disch := first | with_reducible rfl | omega | (simp only [wkH] <;> omega) | decide) only [wkAll, wkL, popO, wantedP, if_true, if_false, reduceIte, ne_eq, Nat.reduceAdd, Nat.reduceSub, Nat.reduceMul, Nat.reduceLeDiff, Nat.reduceLT, ofCells, ofCell, reduceCtorEq, Int.reduceLE, Int.reduceLT, Int.reduceToNat, Int.reduceAdd, Int.reduceSub, Int.reduceMul, Int.reduceNeg, Int.reduceBEq, Int.reduceBNe, Int.reduceEq, eqCell, eqCells, loadOp, storeOp, loadP, setL, PK.agg, isZero, gt_iff_lt, Nat.reducePow, Nat.reduceGT, reps, seg, wkN, if_pos, if_neg, t_nil, t_no, t_mv, t_fx, t_op, t_true, t_false, t_mvk, t_se0, t_se, and_true, tf3, Tryz.ze3, tf4, Tryz.ze4, tf5, Tryz.ze5, tf9, Tryz.ze9, tf22, Tryz.ze22, tf24, Tryz.ze24, tf26, Tryz.ze26, tf29, Tryz.ze29, tf46, Tryz.ze46, tf49, Tryz.ze49, tf56, Tryz.ze56, tf58, Tryz.ze58, pl8_10Rb5, pl8_12Rb5, resP, resPs, resP1]; rfl) | rfl) ⟨6, by repeat' first | exact frz_scalar rfl | apply frz_tuple | apply frz_agg | apply frz_fsl | apply frz_gsl (by omega) | exact frzs_nil | apply frzs_cons⟩ (by first | exact keepsH0 | exact keeps1 (by assumption)) (nw_eq ?_)
          rfl
    · rw [show protL key iv q K b pad = (q, [], 10) by rw [protL, if_neg (by simp [h1]), if_neg h2, if_neg h3, if_pos h6]]
      refine fn_H ([Go.ResultVar.cell 6 24, Go.ResultVar.tmp 7, Go.ResultVar.tmp 8]) Tryz.func8 rfl rfl (by decide) fun ph hW Q hQ => ?_
      simp only [start, List.length_cons, List.length_nil, List.cons_append, List.nil_append, Nat.reduceAdd, Nat.reduceSub, List.replicate_succ, List.replicate_zero, Tryz.ntmps8]
      repeat' first | simp -implicitDefEqProofs (maxSteps := 400000) (disch := first | with_reducible rfl | omega | (simp only [wkH] <;> omega) | decide) only [wkAll, wkL, popO, wantedP, if_true, if_false, reduceIte, ne_eq, Nat.reduceAdd, Nat.reduceSub, Nat.reduceMul, Nat.reduceLeDiff, Nat.reduceLT, ofCells, ofCell, reduceCtorEq, Int.reduceLE, Int.reduceLT, Int.reduceToNat, Int.reduceAdd, Int.reduceSub, Int.reduceMul, Int.reduceNeg, Int.reduceBEq, Int.reduceBNe, Int.reduceEq, eqCell, eqCells, binP, unP, convP, lenP, builtinP, sliceDataP, unsafeStringP, appendT, appendS, appendP, copyP, srcP, mmsP, mmP, indexOp, indexAddrOp, sliceOp, bndsP, bndP, capw, capCut, loadOp, storeOp, loadP, fieldOp, fieldAddrOp, arrayAtOp, buildP, buildSliceP, makeSliceP, placeF, fillP, setL, PK.agg, isZero, gt_iff_lt, Nat.reducePow, Nat.reduceGT, reps, seg, wkN, if_pos, if_neg, t_nil, t_no, t_mv, t_fx, t_op, t_true, t_false, t_mvk, t_se0, t_se, and_true, tf3, Tryz.ze3, tf4, Tryz.ze4, tf5, Tryz.ze5, tf9, Tryz.ze9, tf22, Tryz.ze22, tf24, Tryz.ze24, tf26, Tryz.ze26, tf29, Tryz.ze29, tf46, Tryz.ze46, tf49, Tryz.ze49, tf56, Tryz.ze56, tf58, Tryz.ze58, pl8_10Rb5, pl8_12Rb5, h2, h4, h5, hsub, gt_iff_lt] | refine w_pure (tk) ?_ | refine w_effA (recBeginE_ok _ key iv q h6) ?_ | refine And.intro ?_ ?_ | refine w_drawnTF (id := 10) tb8_10Rb5 pl8_10Rb5 [0, 1, 2, 3, 4, 5, 6, 7, 8, 9, 10, 11] 58 (by kernel_rfl) (by kernel_rfl) (by simp) ?_ | refine w_drawnF (id := 12) tb8_12Rb5 pl8_12Rb5 77 (by kernel_rfl) (by kernel_rfl) (by simp) ?_
      refine hQ (by first | exact .inr rfl | exact .inl rfl) (by first | exact trivial | exact marks1) (by first | (simp -implicitDefEqProofs (maxSteps := 400000) (disch := first | with_reducible rfl | omega | (simp only [wkH] <;> omega) | decide) only [wkAll, wkL, popO, wantedP, if_true, if_false, reduceIte, ne_eq, Nat.reduceAdd, Nat.reduceSub, Nat.reduceMul, Nat.reduceLeDiff, Nat.reduceLT, ofCells, ofCell, reduceCtorEq, Int.reduceLE, Int.reduceLT, Int.reduceToNat, Int.reduceAdd, Int.reduceSub, Int.reduceMul, Int.reduceNeg, Int.reduceBEq, Int.reduceBNe, Int.reduceEq, eqCell, eqCells, loadOp, storeOp, loadP, setL, PK.agg, isZero, gt_iff_lt, Nat.reducePow, Nat.reduceGT, reps, seg, wkN, if_pos, if_neg, t_nil, t_no, t_mv, t_fx, t_op, t_true, t_false, t_mvk, t_se0, t_se, and_true, tf3, Tryz.ze3, tf4, Tryz.ze4, tf5, Tryz.ze5, tf9, Tryz.ze9, tf22, Tryz.ze22, tf24, Tryz.ze24, tf26, Tryz.ze26, tf29, Tryz.ze29, tf46, Tryz.ze46, tf49, Tryz.ze49, tf56, Tryz.ze56, tf58, Tryz.ze58, pl8_10Rb5, pl8_12Rb5, resP, resPs, resP1]; rfl) | rfl) ⟨6, by repeat' first | exact frz_scalar rfl | apply frz_tuple | apply frz_agg | apply frz_fsl | apply frz_gsl (by omega) | exact frzs_nil | apply frzs_cons⟩ (by first | exact keepsH0 | exact keeps1 (by assumption)) (nw_eq ?_)
      rfl
end Pv

--nosplit
--keep2
namespace Pv
set_option maxRecDepth 20000
set_option maxHeartbeats 4000000
open Go Go.Proofs Go.RowKit
def tb9_17Rb6 : Tab := [[], [0], [], [], [], [4], [4, 5], [3, 4, 5, 6], [2, 3, 4, 5, 6, 7], [0, 1], [0, 1, 2, 3, 4, 5, 6, 7, 8, 9], [0, 1, 2, 3, 4, 5, 6, 7, 8, 9, 10]]
def pl9_17Rb6 : Plan := [(0, true, []), (2, true, []), (3, true, []), (4, true, []), (5, true, []), (6, true, []), (7, true, []), (8, true, []), (1, false, [2, 3, 4, 5, 6, 7, 8]), (9, false, [2, 3, 4, 5, 6, 7, 8]), (10, false, []), (11, false, [])]
def tb9_6Rb6 : Tab := [[], [0], [0, 1], [0, 1, 2], [0, 1, 2, 3], [], [5], [5, 6], [5, 6, 7], [], [9], [9, 10], [9, 10, 11], [], [13], [0, 1, 2, 3, 4, 5, 6, 7, 8, 9, 10, 11, 12, 13, 14], [0, 1, 2, 3, 4, 5, 6, 7, 8, 9, 10, 11, 12, 13, 14, 15], [0, 1, 2, 3, 4, 5, 6, 7, 8, 9, 10, 11, 12, 13, 14, 15, 16], [0, 1, 2, 3, 4, 5, 6, 7, 8, 9, 10, 11, 12, 13, 14, 15, 16], [0, 1, 2, 3, 4, 5, 6, 7, 8, 9, 10, 11, 12, 13, 14, 15, 16, 17], [0, 1, 2, 3, 4, 5, 6, 7, 8, 9, 10, 11, 12, 13, 14, 15, 16, 17, 18, 19]]
def pl9_6Rb6 : Plan := [(0, true, []), (1, true, []), (2, true, []), (3, true, []), (4, true, []), (5, true, []), (6, true, []), (7, true, []), (8, true, []), (9, true, []), (10, true, []), (11, true, []), (13, true, []), (14, true, []), (12, false, [0, 1, 2, 3, 4, 5, 6, 7, 8, 13, 14]), (15, false, []), (16, true, []), (17, true, []), (18, true, []), (19, false, [18]), (20, false, [])]
variable {w0 : World}

theorem trimZ_rep (s : List UInt8) : ∀ n : Nat, trimZ (s ++ List.replicate n 0) = trimZ s
  | 0 => by simp
  | n + 1 => by
    rw [List.replicate_succ', ← List.append_assoc, trimZ_snoc, if_pos rfl]
    exact trimZ_rep s n
theorem u8K {K : Int} (h : knB K = true) : ((u8 K).toNat : Int) = K := by rcases knB_cases h with rfl | rfl | rfl <;> rfl
theorem trim_plain {K : Int} (h : knB K = true) (b : List UInt8) (pad : Int) : trimZ (plainL K b pad) = b ++ [u8 K] := by
  unfold plainL
  rw [trimZ_rep, trimZ_snoc, if_neg]
  intro h0
  have := u8K h
  rw [h0] at this
  rcases knB_cases h with rfl | rfl | rfl <;> simp at this
theorem recUnprotect_ok (key iv : List UInt8) (q : Int) (K : Int) (b : List UInt8) (pad : Int) (hq : 0 ≤ q ∧ q < 18446744073709551615) (hk : key.length = 16) (hi : iv.length = 12) (hK : knB K = true) (hp : 0 ≤ pad ∧ (b.length : Int) + pad ≤ 16384) : Fn (Cx w0) 9 [.agg [.str key, .str iv, .int .u64 q], .agg [.int .i64 23, .str (sealL key iv q K b pad)]] (.tuple [.agg [.str key, .str iv, .int .u64 (q + 1)], .agg [.int .i64 K, .str b], .int .i64 0]) := by
  have tk := recKnown_ok (w0 := w0) K
  rw [hK] at tk
  have hgk : goodK key := .inl hk
  have hnl := nonce_len hi q
  have hq7 : q ≠ 18446744073709551615 := by omega
  have htp := trim_plain hK b pad
  obtain ⟨P, hP⟩ : ∃ P, P = plainL K b pad := ⟨_, rfl⟩
  have hPl : P.length = b.length + 1 + pad.toNat := by rw [hP]; simp [plainL]; omega
  have hos := open_seal (ad := adL K b pad) hgk hnl (show P.length ≤ 65536 by omega)
  have hsl : (sealG key (nonceL iv q) (adL K b pad) P).1 = sealL key iv q K b pad := by rw [hP]; rfl
  rw [hsl] at hos
  obtain ⟨ho1, ho2⟩ := hos
  have hhd : headL 23 ((sealL key iv q K b pad).length : Int) = adL K b pad := by rw [ho2, adL, ← hP]
  have hadl : (adL K b pad).length = 5 := rfl
  have th := recHead_ok (w0 := w0) 23 ((sealL key iv q K b pad).length : Int) (by omega)
  have ts := gcOpen_ok (w0 := w0) key (nonceL iv q) (adL K b pad) (sealL key iv q K b pad) (by rw [hadl]; decide) (by omega)
  rw [ho1] at ts
  rw [hhd] at th
  rw [← hP] at htp
  have tt := trimRight_ok (w0 := w0) P (by omega)
  rw [htp] at tt
  generalize adL K b pad = ad at *
  generalize sealL key iv q K b pad = C at *
  obtain ⟨s, hs⟩ : ∃ s, s = b ++ [u8 K] := ⟨_, rfl⟩
  rw [← hs] at tt
  have hsL : s.length = b.length + 1 := by rw [hs]; simp
  have c1 : ¬ (16385 : Int) < (P.length : Int) := by omega
  have c2 : (s == []) = false := by rw [hs]; simp
  have hub := u8K hK
  have e1 : IntKind.wrap .i64 ((s.length : Int) - 1) = (b.length : Int) := IntWalk.i64_in _ (by omega) |>.trans (by omega)
  have e1' : (s.length : Int) - 1 = (b.length : Int) := by omega
  have e2 : s[b.length]? = some (u8 K) := by rw [hs]; simp
  have e3 : (b.length : Int) < (s.length : Int) := by omega
  have e4 : (b.length : Int) ≤ (s.length : Int) := by omega
  have e5 : b.length ≤ s.length := by omega
  have e6 : List.take b.length s = b := by rw [hs]; simp
  have e7 : IntKind.wrap .i64 K = K := IntWalk.i64_in _ (by rcases knB_cases hK with rfl | rfl | rfl <;> decide)
  clear hs
  refine fn_H ([Go.ResultVar.cell 4 24, Go.ResultVar.cell 5 26, Go.ResultVar.tmp 6]) Tryz.func9 rfl rfl (by decide) fun ph hW Q hQ => ?_
  simp only [start, List.length_cons, List.length_nil, List.cons_append, List.nil_append, Nat.reduceAdd, Nat.reduceSub, List.replicate_succ, List.replicate_zero, Tryz.ntmps9]
  repeat' first | simp -implicitDefEqProofs (maxSteps := 400000) (disch := first | with_reducible rfl | omega | (simp only [wkH] <;> omega) | decide) only [wkAll, wkL, popO, wantedP, if_true, if_false, reduceIte, ne_eq, Nat.reduceAdd, Nat.reduceSub, Nat.reduceMul, Nat.reduceLeDiff, Nat.reduceLT, ofCells, ofCell, reduceCtorEq, Int.reduceLE, Int.reduceLT, Int.reduceToNat, Int.reduceAdd, Int.reduceSub, Int.reduceMul, Int.reduceNeg, Int.reduceBEq, Int.reduceBNe, Int.reduceEq, eqCell, eqCells, binP, unP, convP, lenP, builtinP, sliceDataP, unsafeStringP, appendT, appendS, appendP, copyP, srcP, mmsP, mmP, indexOp, indexAddrOp, sliceOp, bndsP, bndP, capw, capCut, loadOp, storeOp, loadP, fieldOp, fieldAddrOp, arrayAtOp, buildP, buildSliceP, makeSliceP, placeF, fillP, setL, PK.agg, isZero, gt_iff_lt, Nat.reducePow, Nat.reduceGT, reps, seg, wkN, if_pos, if_neg, tf3, Tryz.ze3, tf4, Tryz.ze4, tf5, Tryz.ze5, tf9, Tryz.ze9, tf22, Tryz.ze22, tf24, Tryz.ze24, tf26, Tryz.ze26, tf29, Tryz.ze29, tf46, Tryz.ze46, tf56, Tryz.ze56, tf58, Tryz.ze58, pl9_6Rb6, pl9_17Rb6, c1, c2, hub, e1, e1', e2, e3, e4, e5, e6, e7, bne_self_eq_false, gt_iff_lt] | refine w_effA (recBeginP_ok (ph.n + 5) _ key iv q hk hi hq7 (by rw [h_n]; rfl)) ?_ | refine w_pure (th) ?_ | refine w_pure (ts) ?_ | refine w_pure (tt) ?_ | refine w_pure (tk) ?_ | refine w_eff (recDone_ok _ (ph.n + 5) key iv (nonceL iv q) q hq (by rw [h_get]; rfl)) ?_ | refine w_drawnF (id := 6) tb9_6Rb6 pl9_6Rb6 45 (by kernel_rfl) (by kernel_rfl) (by simp) ?_ | refine w_drawnF (id := 17) tb9_17Rb6 pl9_17Rb6 81 (by kernel_rfl) (by kernel_rfl) (by simp) ?_
  all_goals
    refine hQ (by first | exact .inr rfl | exact .inl rfl) (by first | exact trivial | exact marks1) (by first | (simp -implicitDefEqProofs (maxSteps := 400000) (disch := first | with_reducible rfl | omega | (simp only [wkH] <;> omega) | decide) only [wkAll, wkL, popO, wantedP, if_true, if_false, reduceIte, ne_eq, Nat.reduceAdd, Nat.reduceSub, Nat.reduceMul, Nat.reduceLeDiff, Nat.reduceLT, ofCells, ofCell, reduceCtorEq, Int.reduceLE, Int.reduceLT, Int.reduceToNat, Int.reduceAdd, Int.reduceSub, Int.reduceMul, Int.reduceNeg, Int.reduceBEq, Int.reduceBNe, Int.reduceEq, eqCell, eqCells, loadOp, storeOp, loadP, setL, PK.agg, isZero, gt_iff_lt, Nat.reducePow, Nat.reduceGT, reps, seg, wkN, if_pos, if_neg, tf3, Tryz.ze3, tf4, Tryz.ze4, tf5, Tryz.ze5, tf9, Tryz.ze9, tf22, Tryz.ze22, tf24, Tryz.ze24, tf26, Tryz.ze26, tf29, Tryz.ze29, tf46, Tryz.ze46, tf56, Tryz.ze56, tf58, Tryz.ze58, pl9_6Rb6, pl9_17Rb6, resP, resPs, resP1]; rfl) | rfl) ⟨6, by repeat' first | exact frz_scalar rfl | apply frz_tuple | apply frz_agg | apply frz_fsl | apply frz_gsl (by omega) | exact frzs_nil | apply frzs_cons⟩ (by first | exact keepsH0 | exact keeps1 (by assumption)) (nw_eq ?_)
    rfl
end Pv
