/- Part of the proof: the layer of pure values, or walks through functions (PvWr14, PvEntry, PvEntry2, PvEntry3, PvH2, PvWr15). -/
import Derived.Test.YtbocckencbkdeabDoorPvWr8
import Derived.Test.YtbocckencbkdeabDoorPvWr9
import Derived.Test.YtbocckencbkdeabDoorPvNum
import Derived.ProofKit
import Derived.Carry
import Derived.SizedLaws
import Derived.ChangeArms
import Derived.Test.YtbocckencbkdeabDoorPvH
import Derived.Test.YtbocckencbkdeabDoorPvWr7
set_option linter.all false
--nosplit
--keep2
namespace Pv
set_option maxRecDepth 20000
set_option maxHeartbeats 4000000
open Go Go.Proofs Go.RowKit
def tb22_2Wr14 : Tab := [[], [], [1], [1, 2], [0, 1, 2, 3]]
def pl22_2Wr14 : Plan := [(0, true, []), (1, true, []), (2, true, []), (3, true, []), (4, false, [])]
variable {w0 : World}

def azL : List UInt8 := [65, 66, 67, 68, 69, 70, 71, 72, 73, 74, 75, 76, 77, 78, 79, 80, 81, 82, 83, 84, 85, 86, 87, 88, 89, 90]
def kissL (s : List UInt8) : Nat := if s.length = 4 ∧ s.all (azL.contains ·) = true then valN s else 0
theorem wireKiss_ok (s : List UInt8) (hs : s.length < 2 ^ 50) : Fn (Cx w0) 20 [.str s] (.int .u32 (kissL s)) := by
  by_cases h4 : s.length = 4
  · have h4' : ((s.length : Int) != 4) = false := by rw [h4]; rfl
    have tt := trim_ok (w0 := w0) s azL hs (by decide) (by decide)
    have hn := trimS_nil s azL
    unfold azL at tt
    obtain ⟨X, hX⟩ : ∃ X, X = Lib.trimS s azL := ⟨_, rfl⟩
    rw [← hX] at hn
    unfold azL at hX
    rw [← hX] at tt
    by_cases ha : s.all (azL.contains ·) = true
    · have hx0 := hn.2 ha
      have hb : (!(X == [])) = false := by rw [hx0]; rfl
      rw [show kissL s = valN s by rw [kissL, if_pos ⟨h4, ha⟩]]
      have v := wireValue_ok (w0 := w0) s (by omega)
      have w : IntKind.wrap .u32 ((valN s : Nat) : Int) = _ := IntWalk.u32_in _ (by have := valN_lt s; rw [h4] at this; omega)
      refine fn_H ([Go.ResultVar.tmp 2]) Tryd.func20 rfl rfl (by decide) fun ph hW Q hQ => ?_
      simp only [start, List.length_cons, List.length_nil, List.cons_append, List.nil_append, Nat.reduceAdd, Nat.reduceSub, List.replicate_succ, List.replicate_zero, Tryd.ntmps20]
      repeat' first | simp -implicitDefEqProofs (maxSteps := 400000) (disch := first | with_reducible rfl | omega | (simp only [wkH] <;> omega) | decide) only [wkAll, wkL, popO, wantedP, if_true, if_false, reduceIte, ne_eq, Nat.reduceAdd, Nat.reduceSub, Nat.reduceMul, Nat.reduceLeDiff, Nat.reduceLT, ofCells, ofCell, reduceCtorEq, Int.reduceLE, Int.reduceLT, Int.reduceToNat, Int.reduceAdd, Int.reduceSub, Int.reduceMul, Int.reduceNeg, Int.reduceBEq, Int.reduceBNe, Int.reduceEq, eqCell, eqCells, binP, unP, convP, lenP, builtinP, sliceDataP, unsafeStringP, appendT, appendS, appendP, copyP, srcP, mmsP, mmP, indexOp, indexAddrOp, sliceOp, bndsP, bndP, capw, capCut, loadOp, storeOp, loadP, fieldOp, fieldAddrOp, arrayAtOp, buildP, buildSliceP, makeSliceP, placeF, fillP, setL, PK.agg, isZero, gt_iff_lt, Nat.reducePow, Nat.reduceGT, reps, seg, wkN, if_pos, if_neg, tf3, Tryd.ze3, tf9, Tryd.ze9, tf22, Tryd.ze22, tf23, Tryd.ze23, h4', hb, w] | refine w_pure (tt) ?_ | refine w_pure (v) ?_
      refine hQ (by first | exact .inr rfl | exact .inl rfl) (by first | exact trivial | exact marks1) (by first | (simp -implicitDefEqProofs (maxSteps := 400000) (disch := first | with_reducible rfl | omega | (simp only [wkH] <;> omega) | decide) only [wkAll, wkL, popO, wantedP, if_true, if_false, reduceIte, ne_eq, Nat.reduceAdd, Nat.reduceSub, Nat.reduceMul, Nat.reduceLeDiff, Nat.reduceLT, ofCells, ofCell, reduceCtorEq, Int.reduceLE, Int.reduceLT, Int.reduceToNat, Int.reduceAdd, Int.reduceSub, Int.reduceMul, Int.reduceNeg, Int.reduceBEq, Int.reduceBNe, Int.reduceEq, eqCell, eqCells, loadOp, storeOp, loadP, setL, PK.agg, isZero, gt_iff_lt, Nat.reducePow, Nat.reduceGT, reps, seg, wkN, if_pos, if_neg, tf3, Tryd.ze3, tf9, Tryd.ze9, tf22, Tryd.ze22, tf23, Tryd.ze23, resP, resPs, resP1]; rfl) | rfl) ⟨6, by repeat' first | exact frz_scalar rfl | apply frz_tuple | apply frz_agg | apply frz_fsl | apply frz_gsl (by omega) | exact frzs_nil | apply frzs_cons⟩ (by first | exact keepsH0 | exact keeps1 (by assumption)) (nw_eq ?_)
      rfl
    · have hb : (!(X == [])) = true := by
        have : X ≠ [] := fun h => ha (hn.1 h)
        simpa using this
      rw [show kissL s = 0 by rw [kissL, if_neg (fun h => ha h.2)]]
      refine fn_H ([Go.ResultVar.tmp 2]) Tryd.func20 rfl rfl (by decide) fun ph hW Q hQ => ?_
      simp only [start, List.length_cons, List.length_nil, List.cons_append, List.nil_append, Nat.reduceAdd, Nat.reduceSub, List.replicate_succ, List.replicate_zero, Tryd.ntmps20]
      repeat' first | simp -implicitDefEqProofs (maxSteps := 400000) (disch := first | with_reducible rfl | omega | (simp only [wkH] <;> omega) | decide) only [wkAll, wkL, popO, wantedP, if_true, if_false, reduceIte, ne_eq, Nat.reduceAdd, Nat.reduceSub, Nat.reduceMul, Nat.reduceLeDiff, Nat.reduceLT, ofCells, ofCell, reduceCtorEq, Int.reduceLE, Int.reduceLT, Int.reduceToNat, Int.reduceAdd, Int.reduceSub, Int.reduceMul, Int.reduceNeg, Int.reduceBEq, Int.reduceBNe, Int.reduceEq, eqCell, eqCells, binP, unP, convP, lenP, builtinP, sliceDataP, unsafeStringP, appendT, appendS, appendP, copyP, srcP, mmsP, mmP, indexOp, indexAddrOp, sliceOp, bndsP, bndP, capw, capCut, loadOp, storeOp, loadP, fieldOp, fieldAddrOp, arrayAtOp, buildP, buildSliceP, makeSliceP, placeF, fillP, setL, PK.agg, isZero, gt_iff_lt, Nat.reducePow, Nat.reduceGT, reps, seg, wkN, if_pos, if_neg, tf3, Tryd.ze3, tf9, Tryd.ze9, tf22, Tryd.ze22, tf23, Tryd.ze23, h4', hb] | refine w_pure (tt) ?_
      refine hQ (by first | exact .inr rfl | exact .inl rfl) (by first | exact trivial | exact marks1) (by first | (simp -implicitDefEqProofs (maxSteps := 400000) (disch := first | with_reducible rfl | omega | (simp only [wkH] <;> omega) | decide) only [wkAll, wkL, popO, wantedP, if_true, if_false, reduceIte, ne_eq, Nat.reduceAdd, Nat.reduceSub, Nat.reduceMul, Nat.reduceLeDiff, Nat.reduceLT, ofCells, ofCell, reduceCtorEq, Int.reduceLE, Int.reduceLT, Int.reduceToNat, Int.reduceAdd, Int.reduceSub, Int.reduceMul, Int.reduceNeg, Int.reduceBEq, Int.reduceBNe, Int.reduceEq, eqCell, eqCells, loadOp, storeOp, loadP, setL, PK.agg, isZero, gt_iff_lt, Nat.reducePow, Nat.reduceGT, reps, seg, wkN, if_pos, if_neg, tf3, Tryd.ze3, tf9, Tryd.ze9, tf22, Tryd.ze22, tf23, Tryd.ze23, resP, resPs, resP1]; rfl) | rfl) ⟨6, by repeat' first | exact frz_scalar rfl | apply frz_tuple | apply frz_agg | apply frz_fsl | apply frz_gsl (by omega) | exact frzs_nil | apply frzs_cons⟩ (by first | exact keepsH0 | exact keeps1 (by assumption)) (nw_eq ?_)
      rfl
  · have h4' : ((s.length : Int) != 4) = true := by rw [bne_iff_ne]; omega
    rw [show kissL s = 0 by rw [kissL, if_neg (fun h => h4 h.1)]]
    refine fn_H ([Go.ResultVar.tmp 2]) Tryd.func20 rfl rfl (by decide) fun ph hW Q hQ => ?_
    simp only [start, List.length_cons, List.length_nil, List.cons_append, List.nil_append, Nat.reduceAdd, Nat.reduceSub, List.replicate_succ, List.replicate_zero, Tryd.ntmps20]
    repeat' first | simp -implicitDefEqProofs (maxSteps := 400000) (disch := first | with_reducible rfl | omega | (simp only [wkH] <;> omega) | decide) only [wkAll, wkL, popO, wantedP, if_true, if_false, reduceIte, ne_eq, Nat.reduceAdd, Nat.reduceSub, Nat.reduceMul, Nat.reduceLeDiff, Nat.reduceLT, ofCells, ofCell, reduceCtorEq, Int.reduceLE, Int.reduceLT, Int.reduceToNat, Int.reduceAdd, Int.reduceSub, Int.reduceMul, Int.reduceNeg, Int.reduceBEq, Int.reduceBNe, Int.reduceEq, eqCell, eqCells, binP, unP, convP, lenP, builtinP, sliceDataP, unsafeStringP, appendT, appendS, appendP, copyP, srcP, mmsP, mmP, indexOp, indexAddrOp, sliceOp, bndsP, bndP, capw, capCut, loadOp, storeOp, loadP, fieldOp, fieldAddrOp, arrayAtOp, buildP, buildSliceP, makeSliceP, placeF, fillP, setL, PK.agg, isZero, gt_iff_lt, Nat.reducePow, Nat.reduceGT, reps, seg, wkN, if_pos, if_neg, tf3, Tryd.ze3, tf9, Tryd.ze9, tf22, Tryd.ze22, tf23, Tryd.ze23, h4']
    refine hQ (by first | exact .inr rfl | exact .inl rfl) (by first | exact trivial | exact marks1) (by first | (simp -implicitDefEqProofs (maxSteps := 400000) (disch := first | with_reducible rfl | omega | (simp only [wkH] <;> omega) | decide) only [wkAll, wkL, popO, wantedP, if_true, if_false, reduceIte, ne_eq, Nat.reduceAdd, Nat.reduceSub, Nat.reduceMul, Nat.reduceLeDiff, Nat.reduceLT, ofCells, ofCell, reduceCtorEq, Int.reduceLE, Int.reduceLT, Int.reduceToNat, Int.reduceAdd, Int.reduceSub, Int.reduceMul, Int.reduceNeg, Int.reduceBEq, Int.reduceBNe, Int.reduceEq, eqCell, eqCells, loadOp, storeOp, loadP, setL, PK.agg, isZero, gt_iff_lt, Nat.reducePow, Nat.reduceGT, reps, seg, wkN, if_pos, if_neg, tf3, Tryd.ze3, tf9, Tryd.ze9, tf22, Tryd.ze22, tf23, Tryd.ze23, resP, resPs, resP1]; rfl) | rfl) ⟨6, by repeat' first | exact frz_scalar rfl | apply frz_tuple | apply frz_agg | apply frz_fsl | apply frz_gsl (by omega) | exact frzs_nil | apply frzs_cons⟩ (by first | exact keepsH0 | exact keeps1 (by assumption)) (nw_eq ?_)
    rfl
def toKissL (p : PKT) : List UInt8 := if p.s ≠ 0 ∨ kissL (beL p.r 4) = 0 then [] else beL p.r 4
theorem wrL_all {B x : List UInt8} (h : x.length = B.length) : wrL B 0 x = x := by
  rw [wrL, List.take_zero, List.nil_append, Nat.zero_add, List.drop_eq_nil_of_le (by omega), List.append_nil]
theorem wireToKiss_ok (p : PKT) (hp : inP p) : Fn (Cx w0) 22 [.agg (pkC p)] (.str (toKissL p)) := by
  have w : IntKind.wrap .u64 (p.r : Int) = (p.r : Int) := IntWalk.u64_in _ (by have := hp.2.2.1; omega)
  have hl := beL_len p.r 4
  have hw := wrL_all (B := [0, 0, 0, 0]) (x := beL p.r 4) (by rw [hl]; rfl)
  have k := wireKiss_ok (w0 := w0) (beL p.r 4) (by omega)
  have ht : (bytesPV (beL p.r 4)).take 4 = bytesPV (beL p.r 4) := List.take_of_length_le (by rw [bytesPV_len, hl]; exact Nat.le_refl _)
  unfold pkC
  by_cases h0 : p.s = 0
  · have h0' : (p.s != 0) = false := by rw [h0]; rfl
    by_cases hk : kissL (beL p.r 4) = 0
    · have hk' : (((kissL (beL p.r 4) : Nat) : Int) == 0) = true := by rw [hk]; rfl
      rw [show toKissL p = [] by rw [toKissL, if_pos (.inr hk)]]
      refine fn_H ([Go.ResultVar.tmp 2]) Tryd.func22 rfl rfl (by decide) fun ph hW Q hQ => ?_
      simp only [start, List.length_cons, List.length_nil, List.cons_append, List.nil_append, Nat.reduceAdd, Nat.reduceSub, List.replicate_succ, List.replicate_zero, Tryd.ntmps22]
      repeat' first | simp -implicitDefEqProofs (maxSteps := 400000) (disch := first | with_reducible rfl | omega | (simp only [wkH] <;> omega) | decide) only [wkAll, wkL, popO, wantedP, if_true, if_false, reduceIte, ne_eq, Nat.reduceAdd, Nat.reduceSub, Nat.reduceMul, Nat.reduceLeDiff, Nat.reduceLT, ofCells, ofCell, reduceCtorEq, Int.reduceLE, Int.reduceLT, Int.reduceToNat, Int.reduceAdd, Int.reduceSub, Int.reduceMul, Int.reduceNeg, Int.reduceBEq, Int.reduceBNe, Int.reduceEq, eqCell, eqCells, binP, unP, convP, lenP, builtinP, sliceDataP, unsafeStringP, appendT, appendS, appendP, copyP, srcP, mmsP, mmP, indexOp, indexAddrOp, sliceOp, bndsP, bndP, capw, capCut, loadOp, storeOp, loadP, fieldOp, fieldAddrOp, arrayAtOp, buildP, buildSliceP, makeSliceP, placeF, fillP, setL, PK.agg, isZero, gt_iff_lt, Nat.reducePow, Nat.reduceGT, reps, seg, wkN, if_pos, if_neg, tf3, Tryd.ze3, tf5, Tryd.ze5, tf9, Tryd.ze9, tf22, Tryd.ze22, tf23, Tryd.ze23, tf24, Tryd.ze24, tf26, Tryd.ze26, tf66, Tryd.ze66, tf72, Tryd.ze72, tf85, Tryd.ze85, pl22_2Wr14, w] | refine w_drawnF (id := 2) tb22_2Wr14 pl22_2Wr14 9 (by kernel_rfl) (by kernel_rfl) (by simp) ?_
      refine w_eff (wirePut_ok _ (ph.n + 1) 0 4 _ [0, 0, 0, 0] p.r (by omega) (by decide) (by decide) (by rw [h_get]; rfl)) ?_
      rw [hw]
      repeat' first | simp -implicitDefEqProofs (maxSteps := 400000) (disch := first | with_reducible rfl | omega | (simp only [wkH] <;> omega) | decide) only [wkAll, wkL, popO, wantedP, if_true, if_false, reduceIte, ne_eq, Nat.reduceAdd, Nat.reduceSub, Nat.reduceMul, Nat.reduceLeDiff, Nat.reduceLT, ofCells, ofCell, reduceCtorEq, Int.reduceLE, Int.reduceLT, Int.reduceToNat, Int.reduceAdd, Int.reduceSub, Int.reduceMul, Int.reduceNeg, Int.reduceBEq, Int.reduceBNe, Int.reduceEq, eqCell, eqCells, binP, unP, convP, lenP, builtinP, sliceDataP, unsafeStringP, appendT, appendS, appendP, copyP, srcP, mmsP, mmP, indexOp, indexAddrOp, sliceOp, bndsP, bndP, capw, capCut, loadOp, storeOp, loadP, fieldOp, fieldAddrOp, arrayAtOp, buildP, buildSliceP, makeSliceP, placeF, fillP, setL, PK.agg, isZero, gt_iff_lt, Nat.reducePow, Nat.reduceGT, reps, seg, wkN, if_pos, if_neg, tf3, Tryd.ze3, tf5, Tryd.ze5, tf9, Tryd.ze9, tf22, Tryd.ze22, tf23, Tryd.ze23, tf24, Tryd.ze24, tf26, Tryd.ze26, tf66, Tryd.ze66, tf72, Tryd.ze72, tf85, Tryd.ze85, pl22_2Wr14, w, h0', hk', hl, ht, bytesX_bytesPV] | refine w_pure (k) ?_ | refine w_drawnF (id := 2) tb22_2Wr14 pl22_2Wr14 9 (by kernel_rfl) (by kernel_rfl) (by simp) ?_
      refine hQ (by first | exact .inr rfl | exact .inl rfl) (by first | exact trivial | exact marks1) (by first | (simp -implicitDefEqProofs (maxSteps := 400000) (disch := first | with_reducible rfl | omega | (simp only [wkH] <;> omega) | decide) only [wkAll, wkL, popO, wantedP, if_true, if_false, reduceIte, ne_eq, Nat.reduceAdd, Nat.reduceSub, Nat.reduceMul, Nat.reduceLeDiff, Nat.reduceLT, ofCells, ofCell, reduceCtorEq, Int.reduceLE, Int.reduceLT, Int.reduceToNat, Int.reduceAdd, Int.reduceSub, Int.reduceMul, Int.reduceNeg, Int.reduceBEq, Int.reduceBNe, Int.reduceEq, eqCell, eqCells, loadOp, storeOp, loadP, setL, PK.agg, isZero, gt_iff_lt, Nat.reducePow, Nat.reduceGT, reps, seg, wkN, if_pos, if_neg, tf3, Tryd.ze3, tf5, Tryd.ze5, tf9, Tryd.ze9, tf22, Tryd.ze22, tf23, Tryd.ze23, tf24, Tryd.ze24, tf26, Tryd.ze26, tf66, Tryd.ze66, tf72, Tryd.ze72, tf85, Tryd.ze85, pl22_2Wr14, resP, resPs, resP1]; rfl) | rfl) ⟨6, by repeat' first | exact frz_scalar rfl | apply frz_tuple | apply frz_agg | apply frz_fsl | apply frz_gsl (by omega) | exact frzs_nil | apply frzs_cons⟩ (by first | exact keepsH0 | exact keeps1 (by assumption)) (nw_eq ?_)
      rfl
    · have hk' : (((kissL (beL p.r 4) : Nat) : Int) == 0) = false := by rw [beq_eq_false_iff_ne]; omega
      rw [show toKissL p = beL p.r 4 by rw [toKissL, if_neg (by rintro (h | h) <;> contradiction)]]
      refine fn_H ([Go.ResultVar.tmp 2]) Tryd.func22 rfl rfl (by decide) fun ph hW Q hQ => ?_
      simp only [start, List.length_cons, List.length_nil, List.cons_append, List.nil_append, Nat.reduceAdd, Nat.reduceSub, List.replicate_succ, List.replicate_zero, Tryd.ntmps22]
      repeat' first | simp -implicitDefEqProofs (maxSteps := 400000) (disch := first | with_reducible rfl | omega | (simp only [wkH] <;> omega) | decide) only [wkAll, wkL, popO, wantedP, if_true, if_false, reduceIte, ne_eq, Nat.reduceAdd, Nat.reduceSub, Nat.reduceMul, Nat.reduceLeDiff, Nat.reduceLT, ofCells, ofCell, reduceCtorEq, Int.reduceLE, Int.reduceLT, Int.reduceToNat, Int.reduceAdd, Int.reduceSub, Int.reduceMul, Int.reduceNeg, Int.reduceBEq, Int.reduceBNe, Int.reduceEq, eqCell, eqCells, binP, unP, convP, lenP, builtinP, sliceDataP, unsafeStringP, appendT, appendS, appendP, copyP, srcP, mmsP, mmP, indexOp, indexAddrOp, sliceOp, bndsP, bndP, capw, capCut, loadOp, storeOp, loadP, fieldOp, fieldAddrOp, arrayAtOp, buildP, buildSliceP, makeSliceP, placeF, fillP, setL, PK.agg, isZero, gt_iff_lt, Nat.reducePow, Nat.reduceGT, reps, seg, wkN, if_pos, if_neg, tf3, Tryd.ze3, tf5, Tryd.ze5, tf9, Tryd.ze9, tf22, Tryd.ze22, tf23, Tryd.ze23, tf24, Tryd.ze24, tf26, Tryd.ze26, tf66, Tryd.ze66, tf72, Tryd.ze72, tf85, Tryd.ze85, pl22_2Wr14, w] | refine w_drawnF (id := 2) tb22_2Wr14 pl22_2Wr14 9 (by kernel_rfl) (by kernel_rfl) (by simp) ?_
      refine w_eff (wirePut_ok _ (ph.n + 1) 0 4 _ [0, 0, 0, 0] p.r (by omega) (by decide) (by decide) (by rw [h_get]; rfl)) ?_
      rw [hw]
      repeat' first | simp -implicitDefEqProofs (maxSteps := 400000) (disch := first | with_reducible rfl | omega | (simp only [wkH] <;> omega) | decide) only [wkAll, wkL, popO, wantedP, if_true, if_false, reduceIte, ne_eq, Nat.reduceAdd, Nat.reduceSub, Nat.reduceMul, Nat.reduceLeDiff, Nat.reduceLT, ofCells, ofCell, reduceCtorEq, Int.reduceLE, Int.reduceLT, Int.reduceToNat, Int.reduceAdd, Int.reduceSub, Int.reduceMul, Int.reduceNeg, Int.reduceBEq, Int.reduceBNe, Int.reduceEq, eqCell, eqCells, binP, unP, convP, lenP, builtinP, sliceDataP, unsafeStringP, appendT, appendS, appendP, copyP, srcP, mmsP, mmP, indexOp, indexAddrOp, sliceOp, bndsP, bndP, capw, capCut, loadOp, storeOp, loadP, fieldOp, fieldAddrOp, arrayAtOp, buildP, buildSliceP, makeSliceP, placeF, fillP, setL, PK.agg, isZero, gt_iff_lt, Nat.reducePow, Nat.reduceGT, reps, seg, wkN, if_pos, if_neg, tf3, Tryd.ze3, tf5, Tryd.ze5, tf9, Tryd.ze9, tf22, Tryd.ze22, tf23, Tryd.ze23, tf24, Tryd.ze24, tf26, Tryd.ze26, tf66, Tryd.ze66, tf72, Tryd.ze72, tf85, Tryd.ze85, pl22_2Wr14, w, h0', hk', hl, ht, bytesX_bytesPV] | refine w_pure (k) ?_ | refine w_drawnF (id := 2) tb22_2Wr14 pl22_2Wr14 9 (by kernel_rfl) (by kernel_rfl) (by simp) ?_
      refine hQ (by first | exact .inr rfl | exact .inl rfl) (by first | exact trivial | exact marks1) (by first | (simp -implicitDefEqProofs (maxSteps := 400000) (disch := first | with_reducible rfl | omega | (simp only [wkH] <;> omega) | decide) only [wkAll, wkL, popO, wantedP, if_true, if_false, reduceIte, ne_eq, Nat.reduceAdd, Nat.reduceSub, Nat.reduceMul, Nat.reduceLeDiff, Nat.reduceLT, ofCells, ofCell, reduceCtorEq, Int.reduceLE, Int.reduceLT, Int.reduceToNat, Int.reduceAdd, Int.reduceSub, Int.reduceMul, Int.reduceNeg, Int.reduceBEq, Int.reduceBNe, Int.reduceEq, eqCell, eqCells, loadOp, storeOp, loadP, setL, PK.agg, isZero, gt_iff_lt, Nat.reducePow, Nat.reduceGT, reps, seg, wkN, if_pos, if_neg, tf3, Tryd.ze3, tf5, Tryd.ze5, tf9, Tryd.ze9, tf22, Tryd.ze22, tf23, Tryd.ze23, tf24, Tryd.ze24, tf26, Tryd.ze26, tf66, Tryd.ze66, tf72, Tryd.ze72, tf85, Tryd.ze85, pl22_2Wr14, resP, resPs, resP1]; rfl) | rfl) ⟨6, by repeat' first | exact frz_scalar rfl | apply frz_tuple | apply frz_agg | apply frz_fsl | apply frz_gsl (by omega) | exact frzs_nil | apply frzs_cons⟩ (by first | exact keepsH0 | exact keeps1 (by assumption)) (nw_eq ?_)
      rfl
  · have h0' : (p.s != 0) = true := by rw [bne_iff_ne]; exact h0
    rw [show toKissL p = [] by rw [toKissL, if_pos (.inl h0)]]
    refine fn_H ([Go.ResultVar.tmp 2]) Tryd.func22 rfl rfl (by decide) fun ph hW Q hQ => ?_
    simp only [start, List.length_cons, List.length_nil, List.cons_append, List.nil_append, Nat.reduceAdd, Nat.reduceSub, List.replicate_succ, List.replicate_zero, Tryd.ntmps22]
    repeat' first | simp -implicitDefEqProofs (maxSteps := 400000) (disch := first | with_reducible rfl | omega | (simp only [wkH] <;> omega) | decide) only [wkAll, wkL, popO, wantedP, if_true, if_false, reduceIte, ne_eq, Nat.reduceAdd, Nat.reduceSub, Nat.reduceMul, Nat.reduceLeDiff, Nat.reduceLT, ofCells, ofCell, reduceCtorEq, Int.reduceLE, Int.reduceLT, Int.reduceToNat, Int.reduceAdd, Int.reduceSub, Int.reduceMul, Int.reduceNeg, Int.reduceBEq, Int.reduceBNe, Int.reduceEq, eqCell, eqCells, binP, unP, convP, lenP, builtinP, sliceDataP, unsafeStringP, appendT, appendS, appendP, copyP, srcP, mmsP, mmP, indexOp, indexAddrOp, sliceOp, bndsP, bndP, capw, capCut, loadOp, storeOp, loadP, fieldOp, fieldAddrOp, arrayAtOp, buildP, buildSliceP, makeSliceP, placeF, fillP, setL, PK.agg, isZero, gt_iff_lt, Nat.reducePow, Nat.reduceGT, reps, seg, wkN, if_pos, if_neg, tf3, Tryd.ze3, tf5, Tryd.ze5, tf9, Tryd.ze9, tf22, Tryd.ze22, tf23, Tryd.ze23, tf24, Tryd.ze24, tf26, Tryd.ze26, tf66, Tryd.ze66, tf72, Tryd.ze72, tf85, Tryd.ze85, pl22_2Wr14, w] | refine w_drawnF (id := 2) tb22_2Wr14 pl22_2Wr14 9 (by kernel_rfl) (by kernel_rfl) (by simp) ?_
    refine w_eff (wirePut_ok _ (ph.n + 1) 0 4 _ [0, 0, 0, 0] p.r (by omega) (by decide) (by decide) (by rw [h_get]; rfl)) ?_
    rw [hw]
    repeat' first | simp -implicitDefEqProofs (maxSteps := 400000) (disch := first | with_reducible rfl | omega | (simp only [wkH] <;> omega) | decide) only [wkAll, wkL, popO, wantedP, if_true, if_false, reduceIte, ne_eq, Nat.reduceAdd, Nat.reduceSub, Nat.reduceMul, Nat.reduceLeDiff, Nat.reduceLT, ofCells, ofCell, reduceCtorEq, Int.reduceLE, Int.reduceLT, Int.reduceToNat, Int.reduceAdd, Int.reduceSub, Int.reduceMul, Int.reduceNeg, Int.reduceBEq, Int.reduceBNe, Int.reduceEq, eqCell, eqCells, binP, unP, convP, lenP, builtinP, sliceDataP, unsafeStringP, appendT, appendS, appendP, copyP, srcP, mmsP, mmP, indexOp, indexAddrOp, sliceOp, bndsP, bndP, capw, capCut, loadOp, storeOp, loadP, fieldOp, fieldAddrOp, arrayAtOp, buildP, buildSliceP, makeSliceP, placeF, fillP, setL, PK.agg, isZero, gt_iff_lt, Nat.reducePow, Nat.reduceGT, reps, seg, wkN, if_pos, if_neg, tf3, Tryd.ze3, tf5, Tryd.ze5, tf9, Tryd.ze9, tf22, Tryd.ze22, tf23, Tryd.ze23, tf24, Tryd.ze24, tf26, Tryd.ze26, tf66, Tryd.ze66, tf72, Tryd.ze72, tf85, Tryd.ze85, pl22_2Wr14, w, h0', hl, ht, bytesX_bytesPV] | refine w_drawnF (id := 2) tb22_2Wr14 pl22_2Wr14 9 (by kernel_rfl) (by kernel_rfl) (by simp) ?_
    refine hQ (by first | exact .inr rfl | exact .inl rfl) (by first | exact trivial | exact marks1) (by first | (simp -implicitDefEqProofs (maxSteps := 400000) (disch := first | with_reducible rfl | omega | (simp only [wkH] <;> omega) | decide) only [wkAll, wkL, popO, wantedP, if_true, if_false, reduceIte, ne_eq, Nat.reduceAdd, Nat.reduceSub, Nat.reduceMul, Nat.reduceLeDiff, Nat.reduceLT, ofCells, ofCell, reduceCtorEq, Int.reduceLE, Int.reduceLT, Int.reduceToNat, Int.reduceAdd, Int.reduceSub, Int.reduceMul, Int.reduceNeg, Int.reduceBEq, Int.reduceBNe, Int.reduceEq, eqCell, eqCells, loadOp, storeOp, loadP, setL, PK.agg, isZero, gt_iff_lt, Nat.reducePow, Nat.reduceGT, reps, seg, wkN, if_pos, if_neg, tf3, Tryd.ze3, tf5, Tryd.ze5, tf9, Tryd.ze9, tf22, Tryd.ze22, tf23, Tryd.ze23, tf24, Tryd.ze24, tf26, Tryd.ze26, tf66, Tryd.ze66, tf72, Tryd.ze72, tf85, Tryd.ze85, pl22_2Wr14, resP, resPs, resP1]; rfl) | rfl) ⟨6, by repeat' first | exact frz_scalar rfl | apply frz_tuple | apply frz_agg | apply frz_fsl | apply frz_gsl (by omega) | exact frzs_nil | apply frzs_cons⟩ (by first | exact keepsH0 | exact keeps1 (by assumption)) (nw_eq ?_)
    rfl
end Pv

namespace Pv
open Go Go.RowKit

/-! ### What an argument reads as -/
inductive FK where
  | int (k : IntKind)
  | bool
  | str
  | sl (row : List FK)

mutual
inductive OkC : FK → PV → Prop
  | int (k : IntKind) (n : Int) (h : (Lit.int k n).wf = true) : OkC (.int k) (.int k n)
  | bool (b : Bool) : OkC .bool (.bool b)
  | str (l : List UInt8) (h : l.length ≤ maxLen) : OkC .str (.str l)
  | sl (row : List FK) (len : Nat) (cells : List PV) (h : len ≤ maxLen) (hc : OkR row len cells) : OkC (.sl row) (.fsl row.length len cells)
inductive OkL : List FK → List PV → Prop
  | nil : OkL [] []
  | cons (k : FK) (ks : List FK) (p : PV) (ps : List PV) (h : OkC k p) (hs : OkL ks ps) : OkL (k :: ks) (p :: ps)
inductive OkR : List FK → Nat → List PV → Prop
  | nil (row : List FK) : OkR row 0 []
  | cons (row : List FK) (n : Nat) (c r : List PV) (h : OkL row c) (hr : OkR row n r) : OkR row (n + 1) (c ++ r)
end

theorem OkL.length {ks : List FK} {ps : List PV} (h : OkL ks ps) : ps.length = ks.length := by
  induction ks generalizing ps with
  | nil => cases h; rfl
  | cons k ks ih => cases h with | cons _ _ _ _ _ hs => simp [ih hs]

theorem OkR.length {row : List FK} {n : Nat} {ps : List PV} (h : OkR row n ps) : ps.length = n * row.length := by
  induction n generalizing ps with
  | zero => cases h; simp
  | succ n ih => cases h with | cons _ _ c r hc hr => rw [List.length_append, ih hr, hc.length, Nat.succ_mul, Nat.add_comm]

theorem OkL.append {a b : List FK} {ps qs : List PV} (h : OkL a ps) (k : OkL b qs) : OkL (a ++ b) (ps ++ qs) := by
  induction a generalizing ps with
  | nil => cases h; exact k
  | cons x a ih => cases h with | cons _ _ _ _ h1 h2 => exact .cons _ _ _ _ h1 (ih h2)

/-- The cells of a type, one by one. -/
def shGo (P : Program) (rc : TypeId → Option (List FK)) : List Field → Nat → Option (List FK)
  | [], _ => some []
  | f :: fs, off => if f.offset = off then
      match rc f.type with
      | some ks => if ks.length = P.cellsOf f.type then (shGo P rc fs (off + ks.length)).map (ks ++ ·) else none
      | none => none
    else none

def shP (P : Program) : Nat → TypeId → Option (List FK)
  | 0, _ => none
  | d + 1, t =>
    match P.underlying t with
    | some .bool => some [.bool]
    | some (.int k) => some [.int k]
    | some .string => some [.str]
    | some (.slice e) => match shP P d e with
      | some ks => if ks.length = P.cellsOf e ∧ 0 < ks.length then some [.sl ks] else none
      | none => none
    | some (.struct fs) => match shGo P (shP P d) fs.toList 0 with
      | some ks => if ks.length = P.cellsOf t then some ks else none
      | none => none
    | some (.array n e) => match shP P d e with
      | some ks => if ks.length = P.cellsOf e ∧ n * ks.length = P.cellsOf t then some ((List.replicate n ks).flatten) else none
      | none => none
    | _ => none

/-- All that there was, as it is. -/
noncomputable def G0 (w : World) : Ghost := { l := [], f := fun a => if a.spot = none then w.cell? a else none }

def PH0 : PH := { bl := [], ob := fun _ => none }

theorem rel0 {P : Program} (w : World) : Rel ⟨P, w⟩ (G0 w) PH0 w := by
  refine ⟨rfl, .refl _ _, fun p c h => by simp [PH0, PH.get] at h, fun p q c d L M _ h => by simp [PH0, PH.get] at h, ?_, fun a v p c L _ h => by simp [PH0, PH.get] at h, fun r o h => by simp [PH0] at h, fun p e h => by simp [PH0] at h, ⟨fun p s t e h => by simp [PH0, PH.gro] at h, fun p q s t e s' t' e' a ra b rb _ h => by simp [PH0, PH.gro] at h, fun p m x h => by simp [G0] at h⟩⟩
  intro a v h
  simp only [G0] at h
  split at h
  · rename_i hs; exact ⟨hs, h⟩
  · cases h

section
variable {H : Type} {enc : TypeId × Value → H} {P : Program} {w : World} {base : Nat} {spare : Nat → Bool} {held : Bool}

theorem cell_spot {a : Addr} {v : Value} (h : w.cell? a = some v) : a.spot = none := by
  cases e : a.spot with
  | none => rfl
  | some s =>
    unfold World.cell? at h
    split at h
    · simp [e] at h
    · cases h

theorem add_none {a : Addr} (h : a.spot = none) (j : Nat) : a.add j = ⟨a.block, a.off + j, none⟩ := by
  unfold Addr.add
  split
  · rename_i hj; subst hj; cases a; simp at h; subst h; simp
  · rfl

theorem cells_f {a : Addr} {n : Nat} {cs : List Value} (h : w.cells? base a n = some cs) : ∀ j v, cs[j]? = some v → (G0 w).f ⟨a.block, a.off + j, none⟩ = some v ∧ a.spot = none := by
  obtain ⟨-, hl, hc⟩ := World.cells?_some h
  intro j v hv
  have hj : j < n := by rw [← hl]; exact (List.getElem?_eq_some_iff.1 hv).1
  have h0 := hc 0 (by omega)
  rw [List.getElem?_eq_getElem (by omega)] at h0
  have hs : a.spot = none := by
    have := cell_spot h0
    simpa [Addr.add] using this
  have := hc j hj
  rw [hv, add_none hs] at this
  refine ⟨?_, hs⟩
  simp only [G0, if_true]
  exact this

end

section
variable {H : Type} {enc : TypeId × Value → H} {P : Program} {w : World} {spare : Nat → Bool} {held : Bool} {t : TypeId} {v : Value} {d : DataW H} {ps : List MemPlace} {base : Nat} {ks : List FK}

end

/-- From what the body does to what the row asks for. -/
theorem enter {P : Program} {f : FuncId} {args : List PV} {W : World} {rargs : List Value} {b : Bool} {fn : Func} (hf : P.funcs[f]? = some fn) (hb : fn.body.isSome = true) (hnm : (fn.name == "runtime.NumGoroutine") = false) (h : Fn ⟨P, W⟩ f args (.bool b)) (ha : RVs (G0 W) args rargs) :
    Calls P f rargs.toArray W fun e W' => e = .returned (.bool b) ∧ Below W.heap.size W W' := by
  have hp := h PH0 (G0 W) W rargs (rel0 W) ha
  have hent := run_enter (P := P) (w := W) (args := rargs.toArray) hf hb hnm
  rw [hent] at hp
  rcases hp with ⟨v, w', e, -⟩ | ⟨w', e, hc⟩
  · cases e
  · cases e
    refine Calls.mono hc fun e W' he => ?_
    cases e with
    | returned u =>
      obtain ⟨G', pv, ph', -, hr, hv, -, rfl, rfl⟩ := he
      refine ⟨?_, hr.below⟩
      cases hv; rfl
    | panicked _ => exact he.elim
    | outgrown => exact he.elim
end Pv

namespace Pv
open Go Go.RowKit
variable {H : Type} {enc : TypeId × Value → H} {P : Program} {w : World} {spare : Nat → Bool} {held : Bool} {t : TypeId} {v : Value} {d : DataW H} {ps : List MemPlace} {base : Nat}

/-- A text among the arguments, with the bound that the form itself gives. -/
theorem open_str2 {ts : List TypeId} {ds : List (DataW H)} (hu : P.underlying t = some .string) (hv : Value.okWide P w .any base t v) (h : DataW.Trod enc P w 0 spare held t v d ps) (hsz : (DataW.weightsEach P ts ds).all (· ≤ reachBytes) = true) {j : Nat} (ht : ts[j]? = some t) (hd : ds[j]? = some d) :
    ∃ l, l.length < 2 ^ 47 ∧ RV (G0 w) (.str l) v := by
  obtain ⟨fuel, hf⟩ := h
  obtain ⟨s, rfl⟩ := Go.WideShapes.okWide_string hu hv
  obtain ⟨s', e1, e2, -⟩ := DataW.trod_string hu hf
  have e3 : s = s' := by simpa [Value.cells] using e1
  subst e3
  cases e2
  have := sized_string hsz ht hd
  exact ⟨s.data.toList, by have := reachBytes_lt; omega, .str _ _ rfl⟩
end Pv

namespace Pv
open Go Go.RowKit

section
variable {H : Type} {enc : TypeId × Value → H} {P : Program} {w : World} {spare : Nat → Bool} {held : Bool} {t : TypeId} {v : Value} {d : DataW H} {ps : List MemPlace} {base : Nat} {ks : List FK}
end

end Pv

namespace Pv
open Go Go.RowKit
variable {X : Ctx} {G : Ghost} {ph : PH} {w : World} {ρ : Option Nat} {n0 : Nat} {Q : Exit → PSt → PH → Prop}

theorem PCalls.args {f : FuncId} {args args' : List PV} {K : PV → PH → Prop} (h : NWs args args') (hc : PCalls X f args' ph K) : PCalls X f args ph K :=
  fun G w rargs hr ha => hc G w rargs hr (h G rargs ha)

theorem w_pureN {f : FuncId} {args args' : List PV} {v : PV} {K : PV → PH → Prop} (h : Fn X f args' v) (hn : NWs args args') (k : K v ph) : PCalls X f args ph K := PCalls.args hn (w_pure h k)

/-- All cells of a block are frozen. -/
noncomputable def Ghost.frzB (G : Ghost) (w : World) (b : Nat) : Ghost :=
  { G with f := fun a => match G.f a with
      | some v => some v
      | none => open Classical in if a.spot = none ∧ a.block = b then w.cell? a else none }

theorem le_frzB (G : Ghost) (w : World) (b : Nat) : Le G (G.frzB w b) := ⟨fun _ _ h => h, fun a v h => by simp only [Ghost.frzB, h], fun _ _ _ h => h⟩

theorem Rel.frzB (h : Rel X G ph w) {p : Nat} {cells : List PV} {L : Loc} (hp : ph.get p = some cells) (hL : G.l[p]? = some L) : Rel X (G.frzB w L.b) (ph.kill p) w := by
  have hle := le_frzB G w L.b
  have hk := h.kill p
  have hf : ∀ a v, (G.frzB w L.b).f a = some v → G.f a = some v ∨ (a.spot = none ∧ a.block = L.b ∧ w.cell? a = some v) := by
    intro a v ha
    simp only [Ghost.frzB] at ha
    split at ha
    · rename_i e; cases ha; exact .inl e
    · split at ha
      · rename_i e; exact .inr ⟨e.1, e.2, ha⟩
      · cases ha
  refine ⟨hk.len, hk.below, ?_, hk.disj, ?_, ?_, ?_, ?_, ?_⟩
  · intro q c hc
    obtain ⟨M, vals, cs, e, fz, hM, o⟩ := hk.own q c hc
    exact ⟨M, vals, cs, e, fz, hM, ⟨o.rv.mono hle, o.lt, o.ge, o.hb, o.sz, o.fr, o.at_, o.one⟩⟩
  · intro a v ha
    rcases hf a v ha with h1 | ⟨h1, h2, h3⟩
    · exact h.fz a v h1
    · exact ⟨h1, h3⟩
  · intro a v q c M ha hq hM
    rw [PH.get_kill] at hq
    split at hq
    · cases hq
    · rename_i hne
      rcases hf a v ha with h1 | ⟨h1, h2, h3⟩
      · exact h.fdisj a v q c M h1 hq hM
      · rw [h2]; exact fun e => h.disj q p c cells M L hne hq hp hM hL e.symm
  · intro r o hr
    exact ⟨(hk.ob r o hr).1, (hk.ob r o hr).2.mono hle rfl⟩
  · exact hk.ty.step hle (fun b cs e fz hb => ⟨cs, fz, hb⟩) rfl
  · refine hk.grow.step rfl (Nat.le_refl _) (fun _ _ h => h) (fun _ _ => rfl) (fun a v ha => ?_) fun q c L hc hL => .inl ⟨c, hc, hL⟩
    rcases hf a v ha with h1 | ⟨h1, h2, h3⟩
    · exact .inl h1
    · exact .inr fun hG => h.noGrow hp hL (h2 ▸ hG.kill)

/-- Arguments, of which those that lie in block p are told with their cells. -/
def FA (p : Nat) (cells : List PV) : List PV → List PV → Prop
  | [], [] => True
  | a :: az, b :: bs => (b = a ∨ ∃ off esz len cap, a = .sl p off esz len cap ∧ b = .fsl esz len (seg cells off (len * esz)) ∧ off + len * esz ≤ cells.length) ∧ FA p cells az bs
  | _, _ => False

theorem rv_frz (h : Rel X G ph w) {p : Nat} {cells : List PV} {L : Loc} (hp : ph.get p = some cells) (hL : G.l[p]? = some L) {off esz len : Nat} {cap : Option Nat} {v : Value} (hr : RV G (.sl p off esz len cap) v) (hle : off + len * esz ≤ cells.length) :
    RV (G.frzB w L.b) (.fsl esz len (seg cells off (len * esz))) v := by
  obtain ⟨L2, vals, cs, e, fz, hL2, o⟩ := h.own p cells hp
  rw [hL] at hL2
  obtain rfl : L = L2 := by simpa using hL2
  cases hr with
  | sl _ _ _ _ _ L' a rcap hL' h1 h2 h3 h4 =>
    rw [hL] at hL'
    obtain rfl : L = L' := by simpa using hL'
    refine .fsl _ _ _ ((vals.drop off).take (len * esz)) _ _ (((o.rv.drop off).take _).mono (le_frzB _ _ _)) h1 (by simp [seg]; omega) ?_ ?_
    · intro h0; rw [h4 (by omega)]
    · intro j u hj
      have h0 : 0 < rcap := by
        by_cases hz : rcap = 0
        · have : len = 0 := by omega
          subst this; simp at hj
        · omega
      rw [h4 h0]
      rw [List.getElem?_take] at hj
      split at hj
      · rw [List.getElem?_drop] at hj
        have hc := o.cell hj
        have hn : G.f ⟨L.b, L.o + (off + j), none⟩ = none := by
          cases e : G.f ⟨L.b, L.o + (off + j), none⟩ with
          | none => rfl
          | some u => exact absurd rfl (h.fdisj _ _ p cells L e hp hL)
        simp only [Ghost.frzB, Nat.add_assoc, hn]
        rw [if_pos (by simp)]; exact hc
      · cases hj

theorem FA.rvs (h : Rel X G ph w) {p : Nat} {cells : List PV} {L : Loc} (hp : ph.get p = some cells) (hL : G.l[p]? = some L) : ∀ {az bs : List PV} {rs : List Value}, FA p cells az bs → RVs G az rs → RVs (G.frzB w L.b) bs rs
  | [], [], _, _, hr => by cases hr; exact .nil
  | a :: az, b :: bs, _, hf, hr => by
    obtain ⟨h1, h2⟩ := hf
    cases hr with
    | cons _ r _ rs ha hs =>
      refine .cons _ _ _ _ ?_ (FA.rvs h hp hL h2 hs)
      rcases h1 with rfl | ⟨off, esz, len, cap, rfl, rfl, hle⟩
      · exact ha.mono (le_frzB _ _ _)
      · exact rv_frz h hp hL ha hle
  | [], _ :: _, _, hf, _ => hf.elim
  | _ :: _, [], _, hf, _ => hf.elim

end Pv

--nosplit
--keep2
namespace Pv
set_option maxRecDepth 20000
set_option maxHeartbeats 4000000
open Go Go.Proofs Go.RowKit
variable {w0 : World}

theorem few_ok (l : List FR) : Fn (Cx w0) 7 [.fsl 2 l.length (frsC l)] (.bool (decide (l.length ≤ 300))) := by
  rw [show decide (l.length ≤ 300) = decide ((l.length : Int) ≤ 300) from decide_eq_decide.2 (by omega)]
  refine fn_H ([Go.ResultVar.tmp 2]) Tryd.func7 rfl rfl (by decide) fun ph hW Q hQ => ?_
  simp only [start, List.length_cons, List.length_nil, List.cons_append, List.nil_append, Nat.reduceAdd, Nat.reduceSub, List.replicate_succ, List.replicate_zero, Tryd.ntmps7]
  repeat' first | simp -implicitDefEqProofs (maxSteps := 400000) (disch := first | with_reducible rfl | omega | (simp only [wkH] <;> omega) | decide) only [wkAll, wkL, popO, wantedP, if_true, if_false, reduceIte, ne_eq, Nat.reduceAdd, Nat.reduceSub, Nat.reduceMul, Nat.reduceLeDiff, Nat.reduceLT, ofCells, ofCell, reduceCtorEq, Int.reduceLE, Int.reduceLT, Int.reduceToNat, Int.reduceAdd, Int.reduceSub, Int.reduceMul, Int.reduceNeg, Int.reduceBEq, Int.reduceBNe, Int.reduceEq, eqCell, eqCells, binP, unP, convP, lenP, builtinP, sliceDataP, unsafeStringP, appendT, appendS, appendP, copyP, srcP, mmsP, mmP, indexOp, indexAddrOp, sliceOp, bndsP, bndP, capw, capCut, loadOp, storeOp, loadP, fieldOp, fieldAddrOp, arrayAtOp, buildP, buildSliceP, makeSliceP, placeF, fillP, setL, PK.agg, isZero, gt_iff_lt, Nat.reducePow, Nat.reduceGT, reps, seg, wkN, if_pos, if_neg, tf3, Tryd.ze3, tf9, Tryd.ze9, tf24, Tryd.ze24, tf72, Tryd.ze72]
  refine hQ (by first | exact .inr rfl | exact .inl rfl) (by first | exact trivial | exact marks1) (by first | (simp -implicitDefEqProofs (maxSteps := 400000) (disch := first | with_reducible rfl | omega | (simp only [wkH] <;> omega) | decide) only [wkAll, wkL, popO, wantedP, if_true, if_false, reduceIte, ne_eq, Nat.reduceAdd, Nat.reduceSub, Nat.reduceMul, Nat.reduceLeDiff, Nat.reduceLT, ofCells, ofCell, reduceCtorEq, Int.reduceLE, Int.reduceLT, Int.reduceToNat, Int.reduceAdd, Int.reduceSub, Int.reduceMul, Int.reduceNeg, Int.reduceBEq, Int.reduceBNe, Int.reduceEq, eqCell, eqCells, loadOp, storeOp, loadP, setL, PK.agg, isZero, gt_iff_lt, Nat.reducePow, Nat.reduceGT, reps, seg, wkN, if_pos, if_neg, tf3, Tryd.ze3, tf9, Tryd.ze9, tf24, Tryd.ze24, tf72, Tryd.ze72, resP, resPs, resP1]; rfl) | rfl) ⟨6, by repeat' first | exact frz_scalar rfl | apply frz_tuple | apply frz_agg | apply frz_fsl | apply frz_gsl (by omega) | exact frzs_nil | apply frzs_cons⟩ (by first | exact keepsH0 | exact keeps1 (by assumption)) (nw_eq ?_)
  rfl
def awP : PKT := ⟨0, 4, 3, 0, 0, 0, 0, 0, 0, 0, 0, 0, 0, []⟩
def awK : PKT := ⟨0, 0, 0, 0, 0, 0, 0, 0, 1314149198, 0, 0, 0, 0, []⟩
def awW : List UInt8 := 35 :: 0 :: 0 :: 0 :: List.replicate 44 0
def ntsn : List UInt8 := [78, 84, 83, 78]
theorem aw_write : writeP awP = (awW, 0) := by decide +kernel
theorem aw_kiss : kissL ntsn = 1314149198 := by decide +kernel
theorem aw_to : toKissL awK = ntsn := by decide +kernel
theorem nw_pk {a b c d e f g h i j k l m : PV} : NW (.agg [a, b, c, d, e, f, g, h, i, j, k, l, m, .nilsl]) (.agg [a, b, c, d, e, f, g, h, i, j, k, l, m, .fsl 2 0 []]) :=
  nw_agg (nws_cons (nw_eq rfl) (nws_cons (nw_eq rfl) (nws_cons (nw_eq rfl) (nws_cons (nw_eq rfl) (nws_cons (nw_eq rfl) (nws_cons (nw_eq rfl) (nws_cons (nw_eq rfl) (nws_cons (nw_eq rfl) (nws_cons (nw_eq rfl) (nws_cons (nw_eq rfl) (nws_cons (nw_eq rfl) (nws_cons (nw_eq rfl) (nws_cons (nw_eq rfl) (nws_cons nw_nil nws_nil))))))))))))))
theorem awake21_ok : Fn (Cx w0) 8 [] (.bool true) := by
  have t1 := wireWrite_ok (w0 := w0) awP (by simp [inP, awP]) (by decide) (by simp [awP])
  rw [aw_write] at t1
  have t2 := wireRead_ok (w0 := w0) [] (by decide)
  rw [show readP [] = (pk0, 11) from rfl] at t2
  have t3 := wireKiss_ok (w0 := w0) ntsn (by decide)
  rw [aw_kiss] at t3
  have t4 := wireToKiss_ok (w0 := w0) awK (by simp [inP, awK])
  rw [aw_to] at t4
  have hl : awW.length = 48 := rfl
  have h0 : awW[0]? = some 35 := rfl
  have h1 : (awW.drop 1).take 3 = [0, 0, 0] := rfl
  have h35 : UInt8.toNat 35 = 35 := rfl
  have hc : ((35 : Nat) : Int) = 35 := rfl
  generalize awW = W at *
  unfold ntsn at t3 t4
  refine fn_H ([Go.ResultVar.tmp 0]) Tryd.func8 rfl rfl (by decide) fun ph hW Q hQ => ?_
  simp only [start, List.length_cons, List.length_nil, List.cons_append, List.nil_append, Nat.reduceAdd, Nat.reduceSub, List.replicate_succ, List.replicate_zero, Tryd.ntmps8]
  repeat' first | simp -implicitDefEqProofs (maxSteps := 400000) (disch := first | with_reducible rfl | omega | (simp only [wkH] <;> omega) | decide) only [wkAll, wkL, popO, wantedP, if_true, if_false, reduceIte, ne_eq, Nat.reduceAdd, Nat.reduceSub, Nat.reduceMul, Nat.reduceLeDiff, Nat.reduceLT, ofCells, ofCell, reduceCtorEq, Int.reduceLE, Int.reduceLT, Int.reduceToNat, Int.reduceAdd, Int.reduceSub, Int.reduceMul, Int.reduceNeg, Int.reduceBEq, Int.reduceBNe, Int.reduceEq, eqCell, eqCells, binP, unP, convP, lenP, builtinP, sliceDataP, unsafeStringP, appendT, appendS, appendP, copyP, srcP, mmsP, mmP, indexOp, indexAddrOp, sliceOp, bndsP, bndP, capw, capCut, loadOp, storeOp, loadP, fieldOp, fieldAddrOp, arrayAtOp, buildP, buildSliceP, makeSliceP, placeF, fillP, setL, PK.agg, isZero, gt_iff_lt, Nat.reducePow, Nat.reduceGT, reps, seg, wkN, if_pos, if_neg, tf3, Tryd.ze3, tf5, Tryd.ze5, tf9, Tryd.ze9, tf22, Tryd.ze22, tf23, Tryd.ze23, tf24, Tryd.ze24, tf26, Tryd.ze26, tf29, Tryd.ze29, tf72, Tryd.ze72, hl, h0, h1, h35, hc, pkC, pk0] | refine w_pureN t1 (nws_cons nw_pk nws_nil) ?_ | refine w_pureN t4 (nws_cons nw_pk nws_nil) ?_ | refine w_pure (t2) ?_ | refine w_pure (t3) ?_
  refine hQ (by first | exact .inr rfl | exact .inl rfl) (by first | exact trivial | exact marks1) (by first | (simp -implicitDefEqProofs (maxSteps := 400000) (disch := first | with_reducible rfl | omega | (simp only [wkH] <;> omega) | decide) only [wkAll, wkL, popO, wantedP, if_true, if_false, reduceIte, ne_eq, Nat.reduceAdd, Nat.reduceSub, Nat.reduceMul, Nat.reduceLeDiff, Nat.reduceLT, ofCells, ofCell, reduceCtorEq, Int.reduceLE, Int.reduceLT, Int.reduceToNat, Int.reduceAdd, Int.reduceSub, Int.reduceMul, Int.reduceNeg, Int.reduceBEq, Int.reduceBNe, Int.reduceEq, eqCell, eqCells, loadOp, storeOp, loadP, setL, PK.agg, isZero, gt_iff_lt, Nat.reducePow, Nat.reduceGT, reps, seg, wkN, if_pos, if_neg, tf3, Tryd.ze3, tf5, Tryd.ze5, tf9, Tryd.ze9, tf22, Tryd.ze22, tf23, Tryd.ze23, tf24, Tryd.ze24, tf26, Tryd.ze26, tf29, Tryd.ze29, tf72, Tryd.ze72, resP, resPs, resP1]; rfl) | rfl) ⟨6, by repeat' first | exact frz_scalar rfl | apply frz_tuple | apply frz_agg | apply frz_fsl | apply frz_gsl (by omega) | exact frzs_nil | apply frzs_cons⟩ (by first | exact keepsH0 | exact keeps1 (by assumption)) (nw_eq ?_)
  rfl
end Pv
