/- Part of the proof: the layer of pure values, or walks through functions (PvRi4). -/
import Derived.Test.YtefgmekiaelcmaaPvRi3
set_option linter.all false
namespace Pv
set_option maxRecDepth 20000
set_option maxHeartbeats 4000000
open Go Go.Proofs Go.RowKit
def tb15_6Ri4 : Tab := [[], [0], [0, 1], [], [3], [], [], [3, 4, 5, 6], [3, 4, 5, 6, 7], [0, 1, 2, 3, 4, 5, 6, 7, 8], [0, 1, 2, 3, 4, 5, 6, 7, 8, 9]]
def pl15_6Ri4 : PT := (.mv 0 (.mv 1 (.mv 3 (.mv 4 (.mv 5 (.mv 6 (.mv 7 (.fx 2 [3, 4, 5, 6, 7] (.fx 8 [] (.fx 9 [] (.fx 10 [] .nil .no) .no) .no) (.fx 8 [0, 1] (.fx 2 [] (.fx 9 [] (.fx 10 [] .nil .no) .no) .no) .no)))))))))
def tb15_7Ri4 : Tab := [[], [], [1], [1, 2], [1, 2, 3], [0, 1, 2, 3, 4], [], [6], [6, 7], [0, 1, 2, 3, 4, 5, 6, 7, 8], [0, 1, 2, 3, 4, 5, 6, 7, 8, 9], [0, 1, 2, 3, 4, 5, 6, 7, 8, 9, 10]]
def pl15_7Ri4 : Plan := [(0, true, []), (1, true, []), (2, true, []), (3, true, []), (4, true, []), (5, true, []), (6, true, []), (7, true, []), (8, true, []), (9, true, []), (10, false, []), (11, false, [])]
variable {w0 : World}

theorem getLast_at {L : List RK} {k : RK} (h : L[L.length - 1]? = some k) : L.getLast? = some k := by rw [List.getLast?_eq_getElem?]; exact h
theorem rot_key (L : List RK) (nx : UInt32) (key : List UInt8) (now : Int) (hk : ¬ key.length = 32) : rotG L nx key now = ((L, nx), 10) := by unfold rotG; rw [if_pos hk]
theorem rot_time (L : List RK) (nx : UInt32) (key : List UInt8) (now : Int) (k : RK) (hk : key.length = 32) (h : L[L.length - 1]? = some k) (hm : now < k.made) : rotG L nx key now = ((L, nx), 21) := by
  unfold rotG; rw [if_neg (by simpa using hk), getLast_at h]; simp [hm]
theorem rot_good (L : List RK) (nx : UInt32) (key : List UInt8) (now : Int) (k : RK) (hk : key.length = 32) (h : L[L.length - 1]? = some k) (hm : ¬ now < k.made) : rotG L nx key now = (((L ++ [(⟨nx, key, now⟩ : RK)]).drop (L.length + 1 - 8), nx + 1), 0) := by
  unfold rotG; rw [if_neg (by simpa using hk), getLast_at h]; simp [hm]

theorem rotate_ok (L : List RK) (nx : UInt32) (key : List UInt8) (now : Int) (h0 : 0 < L.length) (h1 : L.length ≤ 8) : Fn (Cx w0) 15 [.agg (rgC L nx), .str key, .int .i64 now] (.tuple [.agg (rgC (rotG L nx key now).1.1 (rotG L nx key now).1.2), .int .i64 (rotG L nx key now).2]) := by
  simp only [rgC]
  have hl := rksC_len L
  by_cases hk : key.length = 32
  · have q1 : ((key.length : Int) != 32) = false := by rw [bne_eq_false_iff_eq]; omega
    obtain ⟨k, hkl⟩ := getR (show L.length - 1 < L.length by omega)
    have hd := rksC_drop L (L.length - 1) k hkl
    have e1 : (L.length : Int) - 1 = ((L.length - 1 : Nat) : Int) := by omega
    have hlt : ((L.length - 1 : Nat) : Int) < (L.length : Int) := by omega
    by_cases hm : now < k.made
    · rw [rot_time L nx key now k hk hkl hm]
      refine fn_H ([Go.ResultVar.cell 6 25, Go.ResultVar.tmp 7]) Try.func15 rfl rfl (by decide) fun ph hW Q hQ => ?_
      simp only [start, List.length_cons, List.length_nil, List.cons_append, List.nil_append, Nat.reduceAdd, Nat.reduceSub, List.replicate_succ, List.replicate_zero, Try.ntmps15]
      repeat' first
        | simp -implicitDefEqProofs (maxSteps := 400000) (disch := first | with_reducible rfl | omega | (simp only [h_n, PH.n_push, PH.n_put, List.length_cons, List.length_nil] <;> omega) | decide) only [wkAll, wkL, popO, wantedP, if_true, if_false, reduceIte, ne_eq, Nat.reduceAdd, Nat.reduceSub, Nat.reduceMul, Nat.reduceLeDiff, Nat.reduceLT, ofCells, ofCell, reduceCtorEq, Int.reduceLE, Int.reduceLT, Int.reduceToNat, Int.reduceAdd, Int.reduceSub, Int.reduceMul, Int.reduceNeg, Int.reduceBEq, Int.reduceBNe, Int.reduceEq, eqCell, eqCells, binP, unP, convP, lenP, builtinP, sliceDataP, unsafeStringP, appendT, appendS, appendP, copyP, srcP, mmsP, mmP, indexOp, indexAddrOp, sliceOp, bndsP, bndP, capw, capCut, loadOp, storeOp, loadP, fieldOp, fieldAddrOp, arrayAtOp, buildP, buildSliceP, makeSliceP, placeF, fillP, setL, PK.agg, isZero, gt_iff_lt, Nat.reducePow, Nat.reduceGT, reps, seg, wkN, if_pos, if_neg, t_nil, t_no, t_mv, t_fx, t_op, t_true, t_false, t_mvk, t_se0, t_se, and_true, tf2, Try.ze2, tf3, Try.ze3, tf9, Try.ze9, tf22, Try.ze22, tf23, Try.ze23, tf25, Try.ze25, tf44, Try.ze44, pl15_6Ri4, pl15_7Ri4, q1, e1, hlt, hd, gt_iff_lt, hm]
        | refine w_dec (fun _ => ?_) (fun _ => ?_)
        | refine w_eqc (fun _ => ?_) (fun _ => ?_)
        | refine w_neqc (fun _ => ?_) (fun _ => ?_)
        | refine w_nneqc (fun _ => ?_) (fun _ => ?_)
        | ((first | refine w_split (fun h => ?_) (fun h => ?_) | refine d_split (fun h => ?_) (fun h => ?_) | refine w_csplit (fun h => ?_) (fun h => ?_)) <;> (try simp only [wkS] at h) <;> (have h2 := h) <;> (try simp only [wkT, ne_eq] at h2) <;> (try simp only [h]))
        | refine And.intro ?_ ?_
        | refine w_drawnTF (id := 6) tb15_6Ri4 pl15_6Ri4 [0, 1, 2, 3, 4, 5, 6, 7, 8, 9, 10] 39 (by kernel_rfl) (by kernel_rfl) (by simp) ?_
        | refine w_drawnF (id := 7) tb15_7Ri4 pl15_7Ri4 49 (by kernel_rfl) (by kernel_rfl) (by simp) ?_
      refine hQ (by first | exact .inr rfl | exact .inl rfl) (by first | exact trivial | exact marks1) (by first | (simp -implicitDefEqProofs (maxSteps := 400000) (disch := first | with_reducible rfl | omega | (simp only [h_n, PH.n_push, PH.n_put, List.length_cons, List.length_nil] <;> omega) | decide) only [wkAll, wkL, popO, wantedP, if_true, if_false, reduceIte, ne_eq, Nat.reduceAdd, Nat.reduceSub, Nat.reduceMul, Nat.reduceLeDiff, Nat.reduceLT, ofCells, ofCell, reduceCtorEq, Int.reduceLE, Int.reduceLT, Int.reduceToNat, Int.reduceAdd, Int.reduceSub, Int.reduceMul, Int.reduceNeg, Int.reduceBEq, Int.reduceBNe, Int.reduceEq, eqCell, eqCells, binP, unP, convP, lenP, builtinP, sliceDataP, unsafeStringP, appendT, appendS, appendP, copyP, srcP, mmsP, mmP, indexOp, indexAddrOp, sliceOp, bndsP, bndP, capw, capCut, loadOp, storeOp, loadP, fieldOp, fieldAddrOp, arrayAtOp, buildP, buildSliceP, makeSliceP, placeF, fillP, setL, PK.agg, isZero, gt_iff_lt, Nat.reducePow, Nat.reduceGT, reps, seg, wkN, if_pos, if_neg, t_nil, t_no, t_mv, t_fx, t_op, t_true, t_false, t_mvk, t_se0, t_se, and_true, tf2, Try.ze2, tf3, Try.ze3, tf9, Try.ze9, tf22, Try.ze22, tf23, Try.ze23, tf25, Try.ze25, tf44, Try.ze44, pl15_6Ri4, pl15_7Ri4, resP, resPs, resP1]; rfl) | rfl) ⟨6, by repeat' first | exact frz_scalar rfl | apply frz_tuple | apply frz_agg | apply frz_fsl | apply frz_gsl (by omega) | exact frzs_nil | apply frzs_cons | exact frzs_scalars (rksC_ok _)⟩ (by first | exact keepsH0 | exact keeps1 (by assumption) | exact keepsH (fun _ _ h => h) (fun p hp => by simp only [upF]; (repeat rw [if_neg (by omega)])) | exact keeps1t (by assumption) (fun p hp => by simp only [upF]; (repeat rw [if_neg (by omega)])) | (subst hT; exact keepsH (fun _ _ h => h) fun _ _ => rfl)) (nw_eq ?_)
      rfl
    · rw [rot_good L nx key now k hk hkl hm]
      have ht : (rksC L).take (L.length * 3) = rksC L := List.take_of_length_le (by omega)
      have hne : L.length ≠ 0 := by omega
      have hno : rksC (L ++ [⟨nx, key, now⟩]) = rksC L ++ [.int .u32 (nx.toNat : Int), .str key, .int .i64 now] := by rw [rksC_append]; rfl
      have hcok : (rksC L).all cellOk = true := rksC_cok L
      have hnl : (rksC (L ++ [⟨nx, key, now⟩])).length = (L.length + 1) * 3 := by rw [rksC_len, List.length_append]; rfl
      have hno' := hno.symm
      have hca : (rksC (L ++ [⟨nx, key, now⟩])).all cellOk = true := rksC_cok _
      have hws : IntKind.wrap .u32 ((nx.toNat : Int) + 1) = ((nx + 1).toNat : Int) := add32 nx 1
      generalize hM : L ++ [(⟨nx, key, now⟩ : RK)] = M at *
      have hMl : M.length = L.length + 1 := by rw [← hM]; simp
      by_cases h8 : L.length = 8
      · have m1 : ((L.length + 1 : Nat) : Int) - 8 = 1 := by omega
        rw [show L.length + 1 - 8 = 1 by omega]
        have hdm := rksC_dropn M 1
        have hseg : seg (rksC M) 3 ((L.length + 1 - 1) * 3) = rksC (M.drop 1) := by
          rw [seg, show (3 : Nat) = 1 * 3 from rfl, hdm]; exact List.take_of_length_le (by rw [rksC_len, List.length_drop, hMl]; exact Nat.le_refl _)
        refine fn_H ([Go.ResultVar.cell 6 25, Go.ResultVar.tmp 7]) Try.func15 rfl rfl (by decide) fun ph hW Q hQ => ?_
        simp only [start, List.length_cons, List.length_nil, List.cons_append, List.nil_append, Nat.reduceAdd, Nat.reduceSub, List.replicate_succ, List.replicate_zero, Try.ntmps15]
        repeat' first
          | simp -implicitDefEqProofs (maxSteps := 400000) (disch := first | with_reducible rfl | omega | (simp only [h_n, PH.n_push, PH.n_put, List.length_cons, List.length_nil] <;> omega) | decide) only [wkAll, wkL, popO, wantedP, if_true, if_false, reduceIte, ne_eq, Nat.reduceAdd, Nat.reduceSub, Nat.reduceMul, Nat.reduceLeDiff, Nat.reduceLT, ofCells, ofCell, reduceCtorEq, Int.reduceLE, Int.reduceLT, Int.reduceToNat, Int.reduceAdd, Int.reduceSub, Int.reduceMul, Int.reduceNeg, Int.reduceBEq, Int.reduceBNe, Int.reduceEq, eqCell, eqCells, binP, unP, convP, lenP, builtinP, sliceDataP, unsafeStringP, appendT, appendS, appendP, copyP, srcP, mmsP, mmP, indexOp, indexAddrOp, sliceOp, bndsP, bndP, capw, capCut, loadOp, storeOp, loadP, fieldOp, fieldAddrOp, arrayAtOp, buildP, buildSliceP, makeSliceP, placeF, fillP, setL, PK.agg, isZero, gt_iff_lt, Nat.reducePow, Nat.reduceGT, reps, seg, wkN, if_pos, if_neg, t_nil, t_no, t_mv, t_fx, t_op, t_true, t_false, t_mvk, t_se0, t_se, and_true, tf2, Try.ze2, tf3, Try.ze3, tf9, Try.ze9, tf22, Try.ze22, tf23, Try.ze23, tf25, Try.ze25, tf44, Try.ze44, pl15_6Ri4, pl15_7Ri4, q1, e1, hlt, hd, gt_iff_lt, hm]
          | refine w_dec (fun _ => ?_) (fun _ => ?_)
          | refine w_eqc (fun _ => ?_) (fun _ => ?_)
          | refine w_neqc (fun _ => ?_) (fun _ => ?_)
          | refine w_nneqc (fun _ => ?_) (fun _ => ?_)
          | ((first | refine w_split (fun h => ?_) (fun h => ?_) | refine d_split (fun h => ?_) (fun h => ?_) | refine w_csplit (fun h => ?_) (fun h => ?_)) <;> (try simp only [wkS] at h) <;> (have h2 := h) <;> (try simp only [wkT, ne_eq] at h2) <;> (try simp only [h]))
          | refine And.intro ?_ ?_
          | refine w_drawnTF (id := 6) tb15_6Ri4 pl15_6Ri4 [0, 1, 2, 3, 4, 5, 6, 7, 8, 9, 10] 39 (by kernel_rfl) (by kernel_rfl) (by simp) ?_
          | refine w_drawnF (id := 7) tb15_7Ri4 pl15_7Ri4 49 (by kernel_rfl) (by kernel_rfl) (by simp) ?_
        all_goals
          refine w_inl ([Go.ResultVar.tmp 2]) Try.func34 rfl rfl (by decide) fun _ hI => ?_
          simp only [start, List.length_cons, List.length_nil, List.cons_append, List.nil_append, Nat.reduceAdd, Nat.reduceSub, List.replicate_succ, List.replicate_zero, Try.ntmps34]
          repeat' first
            | simp -implicitDefEqProofs (maxSteps := 400000) (disch := first | with_reducible rfl | omega | (simp only [h_n, PH.n_push, PH.n_put, List.length_cons, List.length_nil] <;> omega) | decide) only [wkAll, wkL, popO, wantedP, if_true, if_false, reduceIte, ne_eq, Nat.reduceAdd, Nat.reduceSub, Nat.reduceMul, Nat.reduceLeDiff, Nat.reduceLT, ofCells, ofCell, reduceCtorEq, Int.reduceLE, Int.reduceLT, Int.reduceToNat, Int.reduceAdd, Int.reduceSub, Int.reduceMul, Int.reduceNeg, Int.reduceBEq, Int.reduceBNe, Int.reduceEq, eqCell, eqCells, binP, unP, convP, lenP, builtinP, sliceDataP, unsafeStringP, appendT, appendS, appendP, copyP, srcP, mmsP, mmP, indexOp, indexAddrOp, sliceOp, bndsP, bndP, capw, capCut, loadOp, storeOp, loadP, fieldOp, fieldAddrOp, arrayAtOp, buildP, buildSliceP, makeSliceP, placeF, fillP, setL, PK.agg, isZero, gt_iff_lt, Nat.reducePow, Nat.reduceGT, reps, seg, wkN, if_pos, if_neg, tf2, Try.ze2, tf9, Try.ze9, tf22, Try.ze22, tf23, Try.ze23, tf44, Try.ze44, hl, ht, hne, rksC_cok, Option.getD_none]
            | refine w_dec (fun _ => ?_) (fun _ => ?_)
            | refine w_eqc (fun _ => ?_) (fun _ => ?_)
            | refine w_neqc (fun _ => ?_) (fun _ => ?_)
            | refine w_nneqc (fun _ => ?_) (fun _ => ?_)
            | ((first | refine w_split (fun h => ?_) (fun h => ?_) | refine d_split (fun h => ?_) (fun h => ?_) | refine w_csplit (fun h => ?_) (fun h => ?_)) <;> (try simp only [wkS] at h) <;> (have h2 := h) <;> (try simp only [wkT, ne_eq] at h2) <;> (try simp only [h]))
          refine hI (by first | exact .inr rfl | exact .inl rfl) trivial (by first | (simp -implicitDefEqProofs (maxSteps := 400000) (disch := first | with_reducible rfl | omega | (simp only [h_n, PH.n_push, PH.n_put, List.length_cons, List.length_nil] <;> omega) | decide) only [wkAll, wkL, popO, wantedP, if_true, if_false, reduceIte, ne_eq, Nat.reduceAdd, Nat.reduceSub, Nat.reduceMul, Nat.reduceLeDiff, Nat.reduceLT, ofCells, ofCell, reduceCtorEq, Int.reduceLE, Int.reduceLT, Int.reduceToNat, Int.reduceAdd, Int.reduceSub, Int.reduceMul, Int.reduceNeg, Int.reduceBEq, Int.reduceBNe, Int.reduceEq, eqCell, eqCells, binP, unP, convP, lenP, builtinP, sliceDataP, unsafeStringP, appendT, appendS, appendP, copyP, srcP, mmsP, mmP, indexOp, indexAddrOp, sliceOp, bndsP, bndP, capw, capCut, loadOp, storeOp, loadP, fieldOp, fieldAddrOp, arrayAtOp, buildP, buildSliceP, makeSliceP, placeF, fillP, setL, PK.agg, isZero, gt_iff_lt, Nat.reducePow, Nat.reduceGT, reps, seg, wkN, if_pos, if_neg, tf2, Try.ze2, tf9, Try.ze9, tf22, Try.ze22, tf23, Try.ze23, tf44, Try.ze44, resP, resPs, resP1]; rfl) | rfl) ?_
          repeat' first
            | simp -implicitDefEqProofs (maxSteps := 400000) (disch := first | with_reducible rfl | omega | (simp only [h_n, PH.n_push, PH.n_put, List.length_cons, List.length_nil] <;> omega) | decide) only [wkAll, wkL, popO, wantedP, if_true, if_false, reduceIte, ne_eq, Nat.reduceAdd, Nat.reduceSub, Nat.reduceMul, Nat.reduceLeDiff, Nat.reduceLT, ofCells, ofCell, reduceCtorEq, Int.reduceLE, Int.reduceLT, Int.reduceToNat, Int.reduceAdd, Int.reduceSub, Int.reduceMul, Int.reduceNeg, Int.reduceBEq, Int.reduceBNe, Int.reduceEq, eqCell, eqCells, binP, unP, convP, lenP, builtinP, sliceDataP, unsafeStringP, appendT, appendS, appendP, copyP, srcP, mmsP, mmP, indexOp, indexAddrOp, sliceOp, bndsP, bndP, capw, capCut, loadOp, storeOp, loadP, fieldOp, fieldAddrOp, arrayAtOp, buildP, buildSliceP, makeSliceP, placeF, fillP, setL, PK.agg, isZero, gt_iff_lt, Nat.reducePow, Nat.reduceGT, reps, seg, wkN, if_pos, if_neg, t_nil, t_no, t_mv, t_fx, t_op, t_true, t_false, t_mvk, t_se0, t_se, and_true, tf2, Try.ze2, tf3, Try.ze3, tf9, Try.ze9, tf22, Try.ze22, tf23, Try.ze23, tf25, Try.ze25, tf44, Try.ze44, pl15_6Ri4, pl15_7Ri4, hl, hno', hnl, hcok, hca, m1, hws, Option.getD_none]
            | refine w_dec (fun _ => ?_) (fun _ => ?_)
            | refine w_eqc (fun _ => ?_) (fun _ => ?_)
            | refine w_neqc (fun _ => ?_) (fun _ => ?_)
            | refine w_nneqc (fun _ => ?_) (fun _ => ?_)
            | ((first | refine w_split (fun h => ?_) (fun h => ?_) | refine d_split (fun h => ?_) (fun h => ?_) | refine w_csplit (fun h => ?_) (fun h => ?_)) <;> (try simp only [wkS] at h) <;> (have h2 := h) <;> (try simp only [wkT, ne_eq] at h2) <;> (try simp only [h]))
            | refine And.intro ?_ ?_
            | refine w_drawnTF (id := 6) tb15_6Ri4 pl15_6Ri4 [0, 1, 2, 3, 4, 5, 6, 7, 8, 9, 10] 39 (by kernel_rfl) (by kernel_rfl) (by simp) ?_
            | refine w_drawnF (id := 7) tb15_7Ri4 pl15_7Ri4 49 (by kernel_rfl) (by kernel_rfl) (by simp) ?_
          refine hQ (by first | exact .inr rfl | exact .inl rfl) (by first | exact trivial | exact marks1) (by first | (simp -implicitDefEqProofs (maxSteps := 400000) (disch := first | with_reducible rfl | omega | (simp only [h_n, PH.n_push, PH.n_put, List.length_cons, List.length_nil] <;> omega) | decide) only [wkAll, wkL, popO, wantedP, if_true, if_false, reduceIte, ne_eq, Nat.reduceAdd, Nat.reduceSub, Nat.reduceMul, Nat.reduceLeDiff, Nat.reduceLT, ofCells, ofCell, reduceCtorEq, Int.reduceLE, Int.reduceLT, Int.reduceToNat, Int.reduceAdd, Int.reduceSub, Int.reduceMul, Int.reduceNeg, Int.reduceBEq, Int.reduceBNe, Int.reduceEq, eqCell, eqCells, binP, unP, convP, lenP, builtinP, sliceDataP, unsafeStringP, appendT, appendS, appendP, copyP, srcP, mmsP, mmP, indexOp, indexAddrOp, sliceOp, bndsP, bndP, capw, capCut, loadOp, storeOp, loadP, fieldOp, fieldAddrOp, arrayAtOp, buildP, buildSliceP, makeSliceP, placeF, fillP, setL, PK.agg, isZero, gt_iff_lt, Nat.reducePow, Nat.reduceGT, reps, seg, wkN, if_pos, if_neg, t_nil, t_no, t_mv, t_fx, t_op, t_true, t_false, t_mvk, t_se0, t_se, and_true, tf2, Try.ze2, tf3, Try.ze3, tf9, Try.ze9, tf22, Try.ze22, tf23, Try.ze23, tf25, Try.ze25, tf44, Try.ze44, pl15_6Ri4, pl15_7Ri4, resP, resPs, resP1]; rfl) | rfl) ⟨6, by repeat' first | exact frz_scalar rfl | apply frz_tuple | apply frz_agg | apply frz_fsl | apply frz_gsl (by omega) | exact frzs_nil | apply frzs_cons | exact frz_sl (cells := rksC M) (qs := rksC (M.drop 1)) (by omega) (by rw [h_shut0, h_get]; rfl) (by rw [hnl]; omega) (by rw [hseg]; exact frzs_scalars (rksC_ok _))⟩ (by first | exact keepsH0 | exact keeps1 (by assumption) | exact keepsH (fun _ _ h => h) (fun p hp => by simp only [upF]; (repeat rw [if_neg (by omega)])) | exact keeps1t (by assumption) (fun p hp => by simp only [upF]; (repeat rw [if_neg (by omega)])) | (subst hT; exact keepsH (fun _ _ h => h) fun _ _ => rfl)) (nw_eq ?_)
          rw [List.length_drop, hMl]
      · have m1 : ¬ (0 : Int) < ((L.length + 1 : Nat) : Int) - 8 := by omega
        rw [show L.length + 1 - 8 = 0 by omega, List.drop_zero]
        have hseg : seg (rksC M) 0 ((L.length + 1) * 3) = rksC M := by rw [seg, List.drop_zero]; exact List.take_of_length_le (by rw [hnl]; exact Nat.le_refl _)
        have hseg2 : (rksC M).take ((L.length + 1) * 3) = rksC M := List.take_of_length_le (by rw [hnl]; exact Nat.le_refl _)
        refine fn_H ([Go.ResultVar.cell 6 25, Go.ResultVar.tmp 7]) Try.func15 rfl rfl (by decide) fun ph hW Q hQ => ?_
        simp only [start, List.length_cons, List.length_nil, List.cons_append, List.nil_append, Nat.reduceAdd, Nat.reduceSub, List.replicate_succ, List.replicate_zero, Try.ntmps15]
        repeat' first
          | simp -implicitDefEqProofs (maxSteps := 400000) (disch := first | with_reducible rfl | omega | (simp only [h_n, PH.n_push, PH.n_put, List.length_cons, List.length_nil] <;> omega) | decide) only [wkAll, wkL, popO, wantedP, if_true, if_false, reduceIte, ne_eq, Nat.reduceAdd, Nat.reduceSub, Nat.reduceMul, Nat.reduceLeDiff, Nat.reduceLT, ofCells, ofCell, reduceCtorEq, Int.reduceLE, Int.reduceLT, Int.reduceToNat, Int.reduceAdd, Int.reduceSub, Int.reduceMul, Int.reduceNeg, Int.reduceBEq, Int.reduceBNe, Int.reduceEq, eqCell, eqCells, binP, unP, convP, lenP, builtinP, sliceDataP, unsafeStringP, appendT, appendS, appendP, copyP, srcP, mmsP, mmP, indexOp, indexAddrOp, sliceOp, bndsP, bndP, capw, capCut, loadOp, storeOp, loadP, fieldOp, fieldAddrOp, arrayAtOp, buildP, buildSliceP, makeSliceP, placeF, fillP, setL, PK.agg, isZero, gt_iff_lt, Nat.reducePow, Nat.reduceGT, reps, seg, wkN, if_pos, if_neg, t_nil, t_no, t_mv, t_fx, t_op, t_true, t_false, t_mvk, t_se0, t_se, and_true, tf2, Try.ze2, tf3, Try.ze3, tf9, Try.ze9, tf22, Try.ze22, tf23, Try.ze23, tf25, Try.ze25, tf44, Try.ze44, pl15_6Ri4, pl15_7Ri4, q1, e1, hlt, hd, gt_iff_lt, hm]
          | refine w_dec (fun _ => ?_) (fun _ => ?_)
          | refine w_eqc (fun _ => ?_) (fun _ => ?_)
          | refine w_neqc (fun _ => ?_) (fun _ => ?_)
          | refine w_nneqc (fun _ => ?_) (fun _ => ?_)
          | ((first | refine w_split (fun h => ?_) (fun h => ?_) | refine d_split (fun h => ?_) (fun h => ?_) | refine w_csplit (fun h => ?_) (fun h => ?_)) <;> (try simp only [wkS] at h) <;> (have h2 := h) <;> (try simp only [wkT, ne_eq] at h2) <;> (try simp only [h]))
          | refine And.intro ?_ ?_
          | refine w_drawnTF (id := 6) tb15_6Ri4 pl15_6Ri4 [0, 1, 2, 3, 4, 5, 6, 7, 8, 9, 10] 39 (by kernel_rfl) (by kernel_rfl) (by simp) ?_
          | refine w_drawnF (id := 7) tb15_7Ri4 pl15_7Ri4 49 (by kernel_rfl) (by kernel_rfl) (by simp) ?_
        all_goals
          refine w_inl ([Go.ResultVar.tmp 2]) Try.func34 rfl rfl (by decide) fun _ hI => ?_
          simp only [start, List.length_cons, List.length_nil, List.cons_append, List.nil_append, Nat.reduceAdd, Nat.reduceSub, List.replicate_succ, List.replicate_zero, Try.ntmps34]
          repeat' first
            | simp -implicitDefEqProofs (maxSteps := 400000) (disch := first | with_reducible rfl | omega | (simp only [h_n, PH.n_push, PH.n_put, List.length_cons, List.length_nil] <;> omega) | decide) only [wkAll, wkL, popO, wantedP, if_true, if_false, reduceIte, ne_eq, Nat.reduceAdd, Nat.reduceSub, Nat.reduceMul, Nat.reduceLeDiff, Nat.reduceLT, ofCells, ofCell, reduceCtorEq, Int.reduceLE, Int.reduceLT, Int.reduceToNat, Int.reduceAdd, Int.reduceSub, Int.reduceMul, Int.reduceNeg, Int.reduceBEq, Int.reduceBNe, Int.reduceEq, eqCell, eqCells, binP, unP, convP, lenP, builtinP, sliceDataP, unsafeStringP, appendT, appendS, appendP, copyP, srcP, mmsP, mmP, indexOp, indexAddrOp, sliceOp, bndsP, bndP, capw, capCut, loadOp, storeOp, loadP, fieldOp, fieldAddrOp, arrayAtOp, buildP, buildSliceP, makeSliceP, placeF, fillP, setL, PK.agg, isZero, gt_iff_lt, Nat.reducePow, Nat.reduceGT, reps, seg, wkN, if_pos, if_neg, tf2, Try.ze2, tf9, Try.ze9, tf22, Try.ze22, tf23, Try.ze23, tf44, Try.ze44, hl, ht, hne, rksC_cok, Option.getD_none]
            | refine w_dec (fun _ => ?_) (fun _ => ?_)
            | refine w_eqc (fun _ => ?_) (fun _ => ?_)
            | refine w_neqc (fun _ => ?_) (fun _ => ?_)
            | refine w_nneqc (fun _ => ?_) (fun _ => ?_)
            | ((first | refine w_split (fun h => ?_) (fun h => ?_) | refine d_split (fun h => ?_) (fun h => ?_) | refine w_csplit (fun h => ?_) (fun h => ?_)) <;> (try simp only [wkS] at h) <;> (have h2 := h) <;> (try simp only [wkT, ne_eq] at h2) <;> (try simp only [h]))
          refine hI (by first | exact .inr rfl | exact .inl rfl) trivial (by first | (simp -implicitDefEqProofs (maxSteps := 400000) (disch := first | with_reducible rfl | omega | (simp only [h_n, PH.n_push, PH.n_put, List.length_cons, List.length_nil] <;> omega) | decide) only [wkAll, wkL, popO, wantedP, if_true, if_false, reduceIte, ne_eq, Nat.reduceAdd, Nat.reduceSub, Nat.reduceMul, Nat.reduceLeDiff, Nat.reduceLT, ofCells, ofCell, reduceCtorEq, Int.reduceLE, Int.reduceLT, Int.reduceToNat, Int.reduceAdd, Int.reduceSub, Int.reduceMul, Int.reduceNeg, Int.reduceBEq, Int.reduceBNe, Int.reduceEq, eqCell, eqCells, binP, unP, convP, lenP, builtinP, sliceDataP, unsafeStringP, appendT, appendS, appendP, copyP, srcP, mmsP, mmP, indexOp, indexAddrOp, sliceOp, bndsP, bndP, capw, capCut, loadOp, storeOp, loadP, fieldOp, fieldAddrOp, arrayAtOp, buildP, buildSliceP, makeSliceP, placeF, fillP, setL, PK.agg, isZero, gt_iff_lt, Nat.reducePow, Nat.reduceGT, reps, seg, wkN, if_pos, if_neg, tf2, Try.ze2, tf9, Try.ze9, tf22, Try.ze22, tf23, Try.ze23, tf44, Try.ze44, resP, resPs, resP1]; rfl) | rfl) ?_
          repeat' first
            | simp -implicitDefEqProofs (maxSteps := 400000) (disch := first | with_reducible rfl | omega | (simp only [h_n, PH.n_push, PH.n_put, List.length_cons, List.length_nil] <;> omega) | decide) only [wkAll, wkL, popO, wantedP, if_true, if_false, reduceIte, ne_eq, Nat.reduceAdd, Nat.reduceSub, Nat.reduceMul, Nat.reduceLeDiff, Nat.reduceLT, ofCells, ofCell, reduceCtorEq, Int.reduceLE, Int.reduceLT, Int.reduceToNat, Int.reduceAdd, Int.reduceSub, Int.reduceMul, Int.reduceNeg, Int.reduceBEq, Int.reduceBNe, Int.reduceEq, eqCell, eqCells, binP, unP, convP, lenP, builtinP, sliceDataP, unsafeStringP, appendT, appendS, appendP, copyP, srcP, mmsP, mmP, indexOp, indexAddrOp, sliceOp, bndsP, bndP, capw, capCut, loadOp, storeOp, loadP, fieldOp, fieldAddrOp, arrayAtOp, buildP, buildSliceP, makeSliceP, placeF, fillP, setL, PK.agg, isZero, gt_iff_lt, Nat.reducePow, Nat.reduceGT, reps, seg, wkN, if_pos, if_neg, t_nil, t_no, t_mv, t_fx, t_op, t_true, t_false, t_mvk, t_se0, t_se, and_true, tf2, Try.ze2, tf3, Try.ze3, tf9, Try.ze9, tf22, Try.ze22, tf23, Try.ze23, tf25, Try.ze25, tf44, Try.ze44, pl15_6Ri4, pl15_7Ri4, hl, hno', hnl, hcok, hca, m1, hws, Option.getD_none]
            | refine w_dec (fun _ => ?_) (fun _ => ?_)
            | refine w_eqc (fun _ => ?_) (fun _ => ?_)
            | refine w_neqc (fun _ => ?_) (fun _ => ?_)
            | refine w_nneqc (fun _ => ?_) (fun _ => ?_)
            | ((first | refine w_split (fun h => ?_) (fun h => ?_) | refine d_split (fun h => ?_) (fun h => ?_) | refine w_csplit (fun h => ?_) (fun h => ?_)) <;> (try simp only [wkS] at h) <;> (have h2 := h) <;> (try simp only [wkT, ne_eq] at h2) <;> (try simp only [h]))
            | refine And.intro ?_ ?_
            | refine w_drawnTF (id := 6) tb15_6Ri4 pl15_6Ri4 [0, 1, 2, 3, 4, 5, 6, 7, 8, 9, 10] 39 (by kernel_rfl) (by kernel_rfl) (by simp) ?_
            | refine w_drawnF (id := 7) tb15_7Ri4 pl15_7Ri4 49 (by kernel_rfl) (by kernel_rfl) (by simp) ?_
          refine hQ (by first | exact .inr rfl | exact .inl rfl) (by first | exact trivial | exact marks1) (by first | (simp -implicitDefEqProofs (maxSteps := 400000) (disch := first | with_reducible rfl | omega | (simp only [h_n, PH.n_push, PH.n_put, List.length_cons, List.length_nil] <;> omega) | decide) only [wkAll, wkL, popO, wantedP, if_true, if_false, reduceIte, ne_eq, Nat.reduceAdd, Nat.reduceSub, Nat.reduceMul, Nat.reduceLeDiff, Nat.reduceLT, ofCells, ofCell, reduceCtorEq, Int.reduceLE, Int.reduceLT, Int.reduceToNat, Int.reduceAdd, Int.reduceSub, Int.reduceMul, Int.reduceNeg, Int.reduceBEq, Int.reduceBNe, Int.reduceEq, eqCell, eqCells, binP, unP, convP, lenP, builtinP, sliceDataP, unsafeStringP, appendT, appendS, appendP, copyP, srcP, mmsP, mmP, indexOp, indexAddrOp, sliceOp, bndsP, bndP, capw, capCut, loadOp, storeOp, loadP, fieldOp, fieldAddrOp, arrayAtOp, buildP, buildSliceP, makeSliceP, placeF, fillP, setL, PK.agg, isZero, gt_iff_lt, Nat.reducePow, Nat.reduceGT, reps, seg, wkN, if_pos, if_neg, t_nil, t_no, t_mv, t_fx, t_op, t_true, t_false, t_mvk, t_se0, t_se, and_true, tf2, Try.ze2, tf3, Try.ze3, tf9, Try.ze9, tf22, Try.ze22, tf23, Try.ze23, tf25, Try.ze25, tf44, Try.ze44, pl15_6Ri4, pl15_7Ri4, resP, resPs, resP1]; rfl) | rfl) ⟨6, by repeat' first | exact frz_scalar rfl | apply frz_tuple | apply frz_agg | apply frz_fsl | apply frz_gsl (by omega) | exact frzs_nil | apply frzs_cons | exact frz_sl (cells := rksC M) (qs := rksC M) (by omega) (by rw [h_shut0, h_get]; rfl) (by rw [hnl]; omega) (by rw [hseg]; exact frzs_scalars (rksC_ok _))⟩ (by first | exact keepsH0 | exact keeps1 (by assumption) | exact keepsH (fun _ _ h => h) (fun p hp => by simp only [upF]; (repeat rw [if_neg (by omega)])) | exact keeps1t (by assumption) (fun p hp => by simp only [upF]; (repeat rw [if_neg (by omega)])) | (subst hT; exact keepsH (fun _ _ h => h) fun _ _ => rfl)) (nw_eq ?_)
          rw [hMl]
  · have q1 : ((key.length : Int) != 32) = true := by rw [bne_iff_ne]; omega
    rw [rot_key L nx key now hk]
    refine fn_H ([Go.ResultVar.cell 6 25, Go.ResultVar.tmp 7]) Try.func15 rfl rfl (by decide) fun ph hW Q hQ => ?_
    simp only [start, List.length_cons, List.length_nil, List.cons_append, List.nil_append, Nat.reduceAdd, Nat.reduceSub, List.replicate_succ, List.replicate_zero, Try.ntmps15]
    repeat' first
      | simp -implicitDefEqProofs (maxSteps := 400000) (disch := first | with_reducible rfl | omega | (simp only [h_n, PH.n_push, PH.n_put, List.length_cons, List.length_nil] <;> omega) | decide) only [wkAll, wkL, popO, wantedP, if_true, if_false, reduceIte, ne_eq, Nat.reduceAdd, Nat.reduceSub, Nat.reduceMul, Nat.reduceLeDiff, Nat.reduceLT, ofCells, ofCell, reduceCtorEq, Int.reduceLE, Int.reduceLT, Int.reduceToNat, Int.reduceAdd, Int.reduceSub, Int.reduceMul, Int.reduceNeg, Int.reduceBEq, Int.reduceBNe, Int.reduceEq, eqCell, eqCells, binP, unP, convP, lenP, builtinP, sliceDataP, unsafeStringP, appendT, appendS, appendP, copyP, srcP, mmsP, mmP, indexOp, indexAddrOp, sliceOp, bndsP, bndP, capw, capCut, loadOp, storeOp, loadP, fieldOp, fieldAddrOp, arrayAtOp, buildP, buildSliceP, makeSliceP, placeF, fillP, setL, PK.agg, isZero, gt_iff_lt, Nat.reducePow, Nat.reduceGT, reps, seg, wkN, if_pos, if_neg, t_nil, t_no, t_mv, t_fx, t_op, t_true, t_false, t_mvk, t_se0, t_se, and_true, tf2, Try.ze2, tf3, Try.ze3, tf9, Try.ze9, tf22, Try.ze22, tf23, Try.ze23, tf25, Try.ze25, tf44, Try.ze44, pl15_6Ri4, pl15_7Ri4, q1]
      | refine w_dec (fun _ => ?_) (fun _ => ?_)
      | refine w_eqc (fun _ => ?_) (fun _ => ?_)
      | refine w_neqc (fun _ => ?_) (fun _ => ?_)
      | refine w_nneqc (fun _ => ?_) (fun _ => ?_)
      | ((first | refine w_split (fun h => ?_) (fun h => ?_) | refine d_split (fun h => ?_) (fun h => ?_) | refine w_csplit (fun h => ?_) (fun h => ?_)) <;> (try simp only [wkS] at h) <;> (have h2 := h) <;> (try simp only [wkT, ne_eq] at h2) <;> (try simp only [h]))
      | refine And.intro ?_ ?_
      | refine w_drawnTF (id := 6) tb15_6Ri4 pl15_6Ri4 [0, 1, 2, 3, 4, 5, 6, 7, 8, 9, 10] 39 (by kernel_rfl) (by kernel_rfl) (by simp) ?_
      | refine w_drawnF (id := 7) tb15_7Ri4 pl15_7Ri4 49 (by kernel_rfl) (by kernel_rfl) (by simp) ?_
    refine hQ (by first | exact .inr rfl | exact .inl rfl) (by first | exact trivial | exact marks1) (by first | (simp -implicitDefEqProofs (maxSteps := 400000) (disch := first | with_reducible rfl | omega | (simp only [h_n, PH.n_push, PH.n_put, List.length_cons, List.length_nil] <;> omega) | decide) only [wkAll, wkL, popO, wantedP, if_true, if_false, reduceIte, ne_eq, Nat.reduceAdd, Nat.reduceSub, Nat.reduceMul, Nat.reduceLeDiff, Nat.reduceLT, ofCells, ofCell, reduceCtorEq, Int.reduceLE, Int.reduceLT, Int.reduceToNat, Int.reduceAdd, Int.reduceSub, Int.reduceMul, Int.reduceNeg, Int.reduceBEq, Int.reduceBNe, Int.reduceEq, eqCell, eqCells, binP, unP, convP, lenP, builtinP, sliceDataP, unsafeStringP, appendT, appendS, appendP, copyP, srcP, mmsP, mmP, indexOp, indexAddrOp, sliceOp, bndsP, bndP, capw, capCut, loadOp, storeOp, loadP, fieldOp, fieldAddrOp, arrayAtOp, buildP, buildSliceP, makeSliceP, placeF, fillP, setL, PK.agg, isZero, gt_iff_lt, Nat.reducePow, Nat.reduceGT, reps, seg, wkN, if_pos, if_neg, t_nil, t_no, t_mv, t_fx, t_op, t_true, t_false, t_mvk, t_se0, t_se, and_true, tf2, Try.ze2, tf3, Try.ze3, tf9, Try.ze9, tf22, Try.ze22, tf23, Try.ze23, tf25, Try.ze25, tf44, Try.ze44, pl15_6Ri4, pl15_7Ri4, resP, resPs, resP1]; rfl) | rfl) ⟨6, by repeat' first | exact frz_scalar rfl | apply frz_tuple | apply frz_agg | apply frz_fsl | apply frz_gsl (by omega) | exact frzs_nil | apply frzs_cons | exact frzs_scalars (rksC_ok _)⟩ (by first | exact keepsH0 | exact keeps1 (by assumption) | exact keepsH (fun _ _ h => h) (fun p hp => by simp only [upF]; (repeat rw [if_neg (by omega)])) | exact keeps1t (by assumption) (fun p hp => by simp only [upF]; (repeat rw [if_neg (by omega)])) | (subst hT; exact keepsH (fun _ _ h => h) fun _ _ => rfl)) (nw_eq ?_)
    rfl

end Pv
