/- Part of the proof: the layer of pure values, or walks through functions (PvHk3, PvScH). -/
import Derived.Test.YtcbennmiaafnjaaPvHk2
import Derived.Test.YtcbennmiaafnjaaPvShaX
set_option linter.all false
namespace Pv
set_option maxRecDepth 20000
set_option maxHeartbeats 4000000
open Go Go.Proofs Go.RowKit
variable {w0 : World}

theorem info_le (label ctx : List UInt8) (n : Int) : (infoL label ctx n).1.length ≤ 514 := by
  rw [infoL]; split
  · simp
  · split
    · simp
    · rename_i h; show (infoB _ _ _).length ≤ 514; rw [infoB_len]; omega
theorem label_ok (s label ctx : List UInt8) (n : Int) (hs : s.length < 2 ^ 44) (hl : label.length < 2 ^ 48) (hc : ctx.length < 2 ^ 48) : Fn (Cx w0) 28 [.str s, .str label, .str ctx, .int .i64 n] (.tuple [.str (labelL s label ctx n).1, .int .i64 (labelL s label ctx n).2]) := by
  have h1 := info_ok (w0 := w0) label ctx n hl hc
  have h2 := expand_ok (w0 := w0) s (infoL label ctx n).1 n hs (by have := info_le label ctx n; omega)
  rw [labelL]
  generalize (infoL label ctx n).1 = i at *
  generalize (infoL label ctx n).2 = e at *
  by_cases he : e = 0
  · subst he
    rw [if_neg (by simp)]
    generalize (expandL s i n).1 = o at *
    generalize (expandL s i n).2 = f at *
    refine fn_H ([Go.ResultVar.tmp 8, Go.ResultVar.tmp 9]) Try.func28 rfl rfl (by decide) fun ph hW Q hQ => ?_
    simp only [start, List.length_cons, List.length_nil, List.cons_append, List.nil_append, Nat.reduceAdd, Nat.reduceSub, List.replicate_succ, List.replicate_zero, Try.ntmps28]
    repeat' first
      | simp -implicitDefEqProofs (maxSteps := 400000) (disch := first | with_reducible rfl | omega | (simp only [h_n, PH.n_push, PH.n_put, List.length_cons, List.length_nil] <;> omega) | decide) only [wkAll, wkL, popO, wantedP, if_true, if_false, reduceIte, ne_eq, Nat.reduceAdd, Nat.reduceSub, Nat.reduceMul, Nat.reduceLeDiff, Nat.reduceLT, ofCells, ofCell, reduceCtorEq, Int.reduceLE, Int.reduceLT, Int.reduceToNat, Int.reduceAdd, Int.reduceSub, Int.reduceMul, Int.reduceNeg, Int.reduceBEq, Int.reduceBNe, Int.reduceEq, eqCell, eqCells, binP, unP, convP, lenP, builtinP, sliceDataP, unsafeStringP, appendT, appendS, appendP, copyP, srcP, mmsP, mmP, indexOp, indexAddrOp, sliceOp, bndsP, bndP, capw, capCut, loadOp, storeOp, loadP, fieldOp, fieldAddrOp, arrayAtOp, buildP, buildSliceP, makeSliceP, placeF, fillP, setL, PK.agg, isZero, gt_iff_lt, Nat.reducePow, Nat.reduceGT, reps, seg, wkN, if_pos, if_neg, tf3, Try.ze3, tf9, Try.ze9, tf24, Try.ze24]
      | refine w_pure (h1) ?_
      | refine w_pure (h2) ?_
      | refine w_dec (fun _ => ?_) (fun _ => ?_)
      | refine w_eqc (fun _ => ?_) (fun _ => ?_)
      | refine w_neqc (fun _ => ?_) (fun _ => ?_)
      | refine w_nneqc (fun _ => ?_) (fun _ => ?_)
      | ((first | refine w_split (fun h => ?_) (fun h => ?_) | refine d_split (fun h => ?_) (fun h => ?_) | refine w_csplit (fun h => ?_) (fun h => ?_)) <;> (try simp only [Bool.not_eq_true', Bool.not_eq_false', Bool.not_true, Bool.not_false] at h) <;> (have h2 := h) <;> (try simp only [decide_eq_true_eq, decide_eq_false_iff_not, beq_iff_eq, beq_eq_false_iff_ne, bne_iff_ne, bne_eq_false_iff_eq, Int.not_lt, Int.not_le, ne_eq] at h2) <;> (try simp only [h]))
    refine hQ (by first | exact .inr rfl | exact .inl rfl) (by first | exact trivial | exact marks1) (by first | (simp -implicitDefEqProofs (maxSteps := 400000) (disch := first | with_reducible rfl | omega | (simp only [h_n, PH.n_push, PH.n_put, List.length_cons, List.length_nil] <;> omega) | decide) only [wkAll, wkL, popO, wantedP, if_true, if_false, reduceIte, ne_eq, Nat.reduceAdd, Nat.reduceSub, Nat.reduceMul, Nat.reduceLeDiff, Nat.reduceLT, ofCells, ofCell, reduceCtorEq, Int.reduceLE, Int.reduceLT, Int.reduceToNat, Int.reduceAdd, Int.reduceSub, Int.reduceMul, Int.reduceNeg, Int.reduceBEq, Int.reduceBNe, Int.reduceEq, eqCell, eqCells, binP, unP, convP, lenP, builtinP, sliceDataP, unsafeStringP, appendT, appendS, appendP, copyP, srcP, mmsP, mmP, indexOp, indexAddrOp, sliceOp, bndsP, bndP, capw, capCut, loadOp, storeOp, loadP, fieldOp, fieldAddrOp, arrayAtOp, buildP, buildSliceP, makeSliceP, placeF, fillP, setL, PK.agg, isZero, gt_iff_lt, Nat.reducePow, Nat.reduceGT, reps, seg, wkN, if_pos, if_neg, tf3, Try.ze3, tf9, Try.ze9, tf24, Try.ze24, resP, resPs, resP1]; rfl) | rfl) ⟨6, by repeat' first | exact frz_scalar rfl | apply frz_tuple | apply frz_agg | apply frz_fsl | apply frz_gsl (by omega) | exact frzs_nil | apply frzs_cons⟩ (by first | exact keepsH0 | exact keeps1 (by assumption) | exact keepsH (fun _ _ h => h) (fun p hp => by simp only [upF]; (repeat rw [if_neg (by omega)])) | exact keeps1t (by assumption) (fun p hp => by simp only [upF]; (repeat rw [if_neg (by omega)])) | (subst hT; exact keepsH (fun _ _ h => h) fun _ _ => rfl)) (nw_eq ?_)
    rfl
  · rw [if_pos he]
    have hb : (e != 0) = true := by rw [bne_iff_ne]; exact he
    refine fn_H ([Go.ResultVar.tmp 8, Go.ResultVar.tmp 9]) Try.func28 rfl rfl (by decide) fun ph hW Q hQ => ?_
    simp only [start, List.length_cons, List.length_nil, List.cons_append, List.nil_append, Nat.reduceAdd, Nat.reduceSub, List.replicate_succ, List.replicate_zero, Try.ntmps28]
    repeat' first
      | simp -implicitDefEqProofs (maxSteps := 400000) (disch := first | with_reducible rfl | omega | (simp only [h_n, PH.n_push, PH.n_put, List.length_cons, List.length_nil] <;> omega) | decide) only [wkAll, wkL, popO, wantedP, if_true, if_false, reduceIte, ne_eq, Nat.reduceAdd, Nat.reduceSub, Nat.reduceMul, Nat.reduceLeDiff, Nat.reduceLT, ofCells, ofCell, reduceCtorEq, Int.reduceLE, Int.reduceLT, Int.reduceToNat, Int.reduceAdd, Int.reduceSub, Int.reduceMul, Int.reduceNeg, Int.reduceBEq, Int.reduceBNe, Int.reduceEq, eqCell, eqCells, binP, unP, convP, lenP, builtinP, sliceDataP, unsafeStringP, appendT, appendS, appendP, copyP, srcP, mmsP, mmP, indexOp, indexAddrOp, sliceOp, bndsP, bndP, capw, capCut, loadOp, storeOp, loadP, fieldOp, fieldAddrOp, arrayAtOp, buildP, buildSliceP, makeSliceP, placeF, fillP, setL, PK.agg, isZero, gt_iff_lt, Nat.reducePow, Nat.reduceGT, reps, seg, wkN, if_pos, if_neg, tf3, Try.ze3, tf9, Try.ze9, tf24, Try.ze24, hb]
      | refine w_pure (h1) ?_
      | refine w_dec (fun _ => ?_) (fun _ => ?_)
      | refine w_eqc (fun _ => ?_) (fun _ => ?_)
      | refine w_neqc (fun _ => ?_) (fun _ => ?_)
      | refine w_nneqc (fun _ => ?_) (fun _ => ?_)
      | ((first | refine w_split (fun h => ?_) (fun h => ?_) | refine d_split (fun h => ?_) (fun h => ?_) | refine w_csplit (fun h => ?_) (fun h => ?_)) <;> (try simp only [Bool.not_eq_true', Bool.not_eq_false', Bool.not_true, Bool.not_false] at h) <;> (have h2 := h) <;> (try simp only [decide_eq_true_eq, decide_eq_false_iff_not, beq_iff_eq, beq_eq_false_iff_ne, bne_iff_ne, bne_eq_false_iff_eq, Int.not_lt, Int.not_le, ne_eq] at h2) <;> (try simp only [h]))
    refine hQ (by first | exact .inr rfl | exact .inl rfl) (by first | exact trivial | exact marks1) (by first | (simp -implicitDefEqProofs (maxSteps := 400000) (disch := first | with_reducible rfl | omega | (simp only [h_n, PH.n_push, PH.n_put, List.length_cons, List.length_nil] <;> omega) | decide) only [wkAll, wkL, popO, wantedP, if_true, if_false, reduceIte, ne_eq, Nat.reduceAdd, Nat.reduceSub, Nat.reduceMul, Nat.reduceLeDiff, Nat.reduceLT, ofCells, ofCell, reduceCtorEq, Int.reduceLE, Int.reduceLT, Int.reduceToNat, Int.reduceAdd, Int.reduceSub, Int.reduceMul, Int.reduceNeg, Int.reduceBEq, Int.reduceBNe, Int.reduceEq, eqCell, eqCells, binP, unP, convP, lenP, builtinP, sliceDataP, unsafeStringP, appendT, appendS, appendP, copyP, srcP, mmsP, mmP, indexOp, indexAddrOp, sliceOp, bndsP, bndP, capw, capCut, loadOp, storeOp, loadP, fieldOp, fieldAddrOp, arrayAtOp, buildP, buildSliceP, makeSliceP, placeF, fillP, setL, PK.agg, isZero, gt_iff_lt, Nat.reducePow, Nat.reduceGT, reps, seg, wkN, if_pos, if_neg, tf3, Try.ze3, tf9, Try.ze9, tf24, Try.ze24, resP, resPs, resP1]; rfl) | rfl) ⟨6, by repeat' first | exact frz_scalar rfl | apply frz_tuple | apply frz_agg | apply frz_fsl | apply frz_gsl (by omega) | exact frzs_nil | apply frzs_cons⟩ (by first | exact keepsH0 | exact keeps1 (by assumption) | exact keepsH (fun _ _ h => h) (fun p hp => by simp only [upF]; (repeat rw [if_neg (by omega)])) | exact keeps1t (by assumption) (fun p hp => by simp only [upF]; (repeat rw [if_neg (by omega)])) | (subst hT; exact keepsH (fun _ _ h => h) fun _ _ => rfl)) (nw_eq ?_)
    rfl
theorem refLabel_ok (s label ctx : List UInt8) (n : Int) (hs : s.length < 2 ^ 44) (hl : label.length < 2 ^ 48) (hc : ctx.length < 2 ^ 48) : Fn (Cx w0) 29 [.str s, .str label, .str ctx, .int .i64 n] (.tuple [.str (labelL s label ctx n).1, .int .i64 (labelL s label ctx n).2]) := by
  have h1 := refInfo_ok (w0 := w0) label ctx n hl hc
  have h2 := refExpand_ok (w0 := w0) s (infoL label ctx n).1 n hs (by have := info_le label ctx n; omega)
  rw [labelL]
  generalize (infoL label ctx n).1 = i at *
  generalize (infoL label ctx n).2 = e at *
  by_cases he : e = 0
  · subst he
    rw [if_neg (by simp)]
    generalize (expandL s i n).1 = o at *
    generalize (expandL s i n).2 = f at *
    refine fn_H ([Go.ResultVar.tmp 8, Go.ResultVar.tmp 9]) Try.func29 rfl rfl (by decide) fun ph hW Q hQ => ?_
    simp only [start, List.length_cons, List.length_nil, List.cons_append, List.nil_append, Nat.reduceAdd, Nat.reduceSub, List.replicate_succ, List.replicate_zero, Try.ntmps29]
    repeat' first
      | simp -implicitDefEqProofs (maxSteps := 400000) (disch := first | with_reducible rfl | omega | (simp only [h_n, PH.n_push, PH.n_put, List.length_cons, List.length_nil] <;> omega) | decide) only [wkAll, wkL, popO, wantedP, if_true, if_false, reduceIte, ne_eq, Nat.reduceAdd, Nat.reduceSub, Nat.reduceMul, Nat.reduceLeDiff, Nat.reduceLT, ofCells, ofCell, reduceCtorEq, Int.reduceLE, Int.reduceLT, Int.reduceToNat, Int.reduceAdd, Int.reduceSub, Int.reduceMul, Int.reduceNeg, Int.reduceBEq, Int.reduceBNe, Int.reduceEq, eqCell, eqCells, binP, unP, convP, lenP, builtinP, sliceDataP, unsafeStringP, appendT, appendS, appendP, copyP, srcP, mmsP, mmP, indexOp, indexAddrOp, sliceOp, bndsP, bndP, capw, capCut, loadOp, storeOp, loadP, fieldOp, fieldAddrOp, arrayAtOp, buildP, buildSliceP, makeSliceP, placeF, fillP, setL, PK.agg, isZero, gt_iff_lt, Nat.reducePow, Nat.reduceGT, reps, seg, wkN, if_pos, if_neg, tf3, Try.ze3, tf9, Try.ze9]
      | refine w_pure (h1) ?_
      | refine w_pure (h2) ?_
      | refine w_dec (fun _ => ?_) (fun _ => ?_)
      | refine w_eqc (fun _ => ?_) (fun _ => ?_)
      | refine w_neqc (fun _ => ?_) (fun _ => ?_)
      | refine w_nneqc (fun _ => ?_) (fun _ => ?_)
      | ((first | refine w_split (fun h => ?_) (fun h => ?_) | refine d_split (fun h => ?_) (fun h => ?_) | refine w_csplit (fun h => ?_) (fun h => ?_)) <;> (try simp only [Bool.not_eq_true', Bool.not_eq_false', Bool.not_true, Bool.not_false] at h) <;> (have h2 := h) <;> (try simp only [decide_eq_true_eq, decide_eq_false_iff_not, beq_iff_eq, beq_eq_false_iff_ne, bne_iff_ne, bne_eq_false_iff_eq, Int.not_lt, Int.not_le, ne_eq] at h2) <;> (try simp only [h]))
    refine hQ (by first | exact .inr rfl | exact .inl rfl) (by first | exact trivial | exact marks1) (by first | (simp -implicitDefEqProofs (maxSteps := 400000) (disch := first | with_reducible rfl | omega | (simp only [h_n, PH.n_push, PH.n_put, List.length_cons, List.length_nil] <;> omega) | decide) only [wkAll, wkL, popO, wantedP, if_true, if_false, reduceIte, ne_eq, Nat.reduceAdd, Nat.reduceSub, Nat.reduceMul, Nat.reduceLeDiff, Nat.reduceLT, ofCells, ofCell, reduceCtorEq, Int.reduceLE, Int.reduceLT, Int.reduceToNat, Int.reduceAdd, Int.reduceSub, Int.reduceMul, Int.reduceNeg, Int.reduceBEq, Int.reduceBNe, Int.reduceEq, eqCell, eqCells, binP, unP, convP, lenP, builtinP, sliceDataP, unsafeStringP, appendT, appendS, appendP, copyP, srcP, mmsP, mmP, indexOp, indexAddrOp, sliceOp, bndsP, bndP, capw, capCut, loadOp, storeOp, loadP, fieldOp, fieldAddrOp, arrayAtOp, buildP, buildSliceP, makeSliceP, placeF, fillP, setL, PK.agg, isZero, gt_iff_lt, Nat.reducePow, Nat.reduceGT, reps, seg, wkN, if_pos, if_neg, tf3, Try.ze3, tf9, Try.ze9, resP, resPs, resP1]; rfl) | rfl) ⟨6, by repeat' first | exact frz_scalar rfl | apply frz_tuple | apply frz_agg | apply frz_fsl | apply frz_gsl (by omega) | exact frzs_nil | apply frzs_cons⟩ (by first | exact keepsH0 | exact keeps1 (by assumption) | exact keepsH (fun _ _ h => h) (fun p hp => by simp only [upF]; (repeat rw [if_neg (by omega)])) | exact keeps1t (by assumption) (fun p hp => by simp only [upF]; (repeat rw [if_neg (by omega)])) | (subst hT; exact keepsH (fun _ _ h => h) fun _ _ => rfl)) (nw_eq ?_)
    rfl
  · rw [if_pos he]
    have hb : (e != 0) = true := by rw [bne_iff_ne]; exact he
    refine fn_H ([Go.ResultVar.tmp 8, Go.ResultVar.tmp 9]) Try.func29 rfl rfl (by decide) fun ph hW Q hQ => ?_
    simp only [start, List.length_cons, List.length_nil, List.cons_append, List.nil_append, Nat.reduceAdd, Nat.reduceSub, List.replicate_succ, List.replicate_zero, Try.ntmps29]
    repeat' first
      | simp -implicitDefEqProofs (maxSteps := 400000) (disch := first | with_reducible rfl | omega | (simp only [h_n, PH.n_push, PH.n_put, List.length_cons, List.length_nil] <;> omega) | decide) only [wkAll, wkL, popO, wantedP, if_true, if_false, reduceIte, ne_eq, Nat.reduceAdd, Nat.reduceSub, Nat.reduceMul, Nat.reduceLeDiff, Nat.reduceLT, ofCells, ofCell, reduceCtorEq, Int.reduceLE, Int.reduceLT, Int.reduceToNat, Int.reduceAdd, Int.reduceSub, Int.reduceMul, Int.reduceNeg, Int.reduceBEq, Int.reduceBNe, Int.reduceEq, eqCell, eqCells, binP, unP, convP, lenP, builtinP, sliceDataP, unsafeStringP, appendT, appendS, appendP, copyP, srcP, mmsP, mmP, indexOp, indexAddrOp, sliceOp, bndsP, bndP, capw, capCut, loadOp, storeOp, loadP, fieldOp, fieldAddrOp, arrayAtOp, buildP, buildSliceP, makeSliceP, placeF, fillP, setL, PK.agg, isZero, gt_iff_lt, Nat.reducePow, Nat.reduceGT, reps, seg, wkN, if_pos, if_neg, tf3, Try.ze3, tf9, Try.ze9, hb]
      | refine w_pure (h1) ?_
      | refine w_dec (fun _ => ?_) (fun _ => ?_)
      | refine w_eqc (fun _ => ?_) (fun _ => ?_)
      | refine w_neqc (fun _ => ?_) (fun _ => ?_)
      | refine w_nneqc (fun _ => ?_) (fun _ => ?_)
      | ((first | refine w_split (fun h => ?_) (fun h => ?_) | refine d_split (fun h => ?_) (fun h => ?_) | refine w_csplit (fun h => ?_) (fun h => ?_)) <;> (try simp only [Bool.not_eq_true', Bool.not_eq_false', Bool.not_true, Bool.not_false] at h) <;> (have h2 := h) <;> (try simp only [decide_eq_true_eq, decide_eq_false_iff_not, beq_iff_eq, beq_eq_false_iff_ne, bne_iff_ne, bne_eq_false_iff_eq, Int.not_lt, Int.not_le, ne_eq] at h2) <;> (try simp only [h]))
    refine hQ (by first | exact .inr rfl | exact .inl rfl) (by first | exact trivial | exact marks1) (by first | (simp -implicitDefEqProofs (maxSteps := 400000) (disch := first | with_reducible rfl | omega | (simp only [h_n, PH.n_push, PH.n_put, List.length_cons, List.length_nil] <;> omega) | decide) only [wkAll, wkL, popO, wantedP, if_true, if_false, reduceIte, ne_eq, Nat.reduceAdd, Nat.reduceSub, Nat.reduceMul, Nat.reduceLeDiff, Nat.reduceLT, ofCells, ofCell, reduceCtorEq, Int.reduceLE, Int.reduceLT, Int.reduceToNat, Int.reduceAdd, Int.reduceSub, Int.reduceMul, Int.reduceNeg, Int.reduceBEq, Int.reduceBNe, Int.reduceEq, eqCell, eqCells, binP, unP, convP, lenP, builtinP, sliceDataP, unsafeStringP, appendT, appendS, appendP, copyP, srcP, mmsP, mmP, indexOp, indexAddrOp, sliceOp, bndsP, bndP, capw, capCut, loadOp, storeOp, loadP, fieldOp, fieldAddrOp, arrayAtOp, buildP, buildSliceP, makeSliceP, placeF, fillP, setL, PK.agg, isZero, gt_iff_lt, Nat.reducePow, Nat.reduceGT, reps, seg, wkN, if_pos, if_neg, tf3, Try.ze3, tf9, Try.ze9, resP, resPs, resP1]; rfl) | rfl) ⟨6, by repeat' first | exact frz_scalar rfl | apply frz_tuple | apply frz_agg | apply frz_fsl | apply frz_gsl (by omega) | exact frzs_nil | apply frzs_cons⟩ (by first | exact keepsH0 | exact keeps1 (by assumption) | exact keepsH (fun _ _ h => h) (fun p hp => by simp only [upF]; (repeat rw [if_neg (by omega)])) | exact keeps1t (by assumption) (fun p hp => by simp only [upF]; (repeat rw [if_neg (by omega)])) | (subst hT; exact keepsH (fun _ _ h => h) fun _ _ => rfl)) (nw_eq ?_)
    rfl
theorem derive_ok (s label d : List UInt8) (hs : s.length < 2 ^ 44) (hl : label.length < 2 ^ 48) (hc : d.length < 2 ^ 48) : Fn (Cx w0) 32 [.str s, .str label, .str d] (.tuple [.str (labelL s label d 32).1, .int .i64 (labelL s label d 32).2]) := by
  have h1 := label_ok (w0 := w0) s label d 32 hs hl hc
  generalize (labelL s label d 32).1 = o at *
  generalize (labelL s label d 32).2 = e at *
  refine fn_H ([Go.ResultVar.tmp 6, Go.ResultVar.tmp 7]) Try.func32 rfl rfl (by decide) fun ph hW Q hQ => ?_
  simp only [start, List.length_cons, List.length_nil, List.cons_append, List.nil_append, Nat.reduceAdd, Nat.reduceSub, List.replicate_succ, List.replicate_zero, Try.ntmps32]
  repeat' first
    | simp -implicitDefEqProofs (maxSteps := 400000) (disch := first | with_reducible rfl | omega | (simp only [h_n, PH.n_push, PH.n_put, List.length_cons, List.length_nil] <;> omega) | decide) only [wkAll, wkL, popO, wantedP, if_true, if_false, reduceIte, ne_eq, Nat.reduceAdd, Nat.reduceSub, Nat.reduceMul, Nat.reduceLeDiff, Nat.reduceLT, ofCells, ofCell, reduceCtorEq, Int.reduceLE, Int.reduceLT, Int.reduceToNat, Int.reduceAdd, Int.reduceSub, Int.reduceMul, Int.reduceNeg, Int.reduceBEq, Int.reduceBNe, Int.reduceEq, eqCell, eqCells, binP, unP, convP, lenP, builtinP, sliceDataP, unsafeStringP, appendT, appendS, appendP, copyP, srcP, mmsP, mmP, indexOp, indexAddrOp, sliceOp, bndsP, bndP, capw, capCut, loadOp, storeOp, loadP, fieldOp, fieldAddrOp, arrayAtOp, buildP, buildSliceP, makeSliceP, placeF, fillP, setL, PK.agg, isZero, gt_iff_lt, Nat.reducePow, Nat.reduceGT, reps, seg, wkN, if_pos, if_neg, tf3, Try.ze3, tf9, Try.ze9]
    | refine w_pure (h1) ?_
    | refine w_dec (fun _ => ?_) (fun _ => ?_)
    | refine w_eqc (fun _ => ?_) (fun _ => ?_)
    | refine w_neqc (fun _ => ?_) (fun _ => ?_)
    | refine w_nneqc (fun _ => ?_) (fun _ => ?_)
    | ((first | refine w_split (fun h => ?_) (fun h => ?_) | refine d_split (fun h => ?_) (fun h => ?_) | refine w_csplit (fun h => ?_) (fun h => ?_)) <;> (try simp only [Bool.not_eq_true', Bool.not_eq_false', Bool.not_true, Bool.not_false] at h) <;> (have h2 := h) <;> (try simp only [decide_eq_true_eq, decide_eq_false_iff_not, beq_iff_eq, beq_eq_false_iff_ne, bne_iff_ne, bne_eq_false_iff_eq, Int.not_lt, Int.not_le, ne_eq] at h2) <;> (try simp only [h]))
  refine hQ (by first | exact .inr rfl | exact .inl rfl) (by first | exact trivial | exact marks1) (by first | (simp -implicitDefEqProofs (maxSteps := 400000) (disch := first | with_reducible rfl | omega | (simp only [h_n, PH.n_push, PH.n_put, List.length_cons, List.length_nil] <;> omega) | decide) only [wkAll, wkL, popO, wantedP, if_true, if_false, reduceIte, ne_eq, Nat.reduceAdd, Nat.reduceSub, Nat.reduceMul, Nat.reduceLeDiff, Nat.reduceLT, ofCells, ofCell, reduceCtorEq, Int.reduceLE, Int.reduceLT, Int.reduceToNat, Int.reduceAdd, Int.reduceSub, Int.reduceMul, Int.reduceNeg, Int.reduceBEq, Int.reduceBNe, Int.reduceEq, eqCell, eqCells, binP, unP, convP, lenP, builtinP, sliceDataP, unsafeStringP, appendT, appendS, appendP, copyP, srcP, mmsP, mmP, indexOp, indexAddrOp, sliceOp, bndsP, bndP, capw, capCut, loadOp, storeOp, loadP, fieldOp, fieldAddrOp, arrayAtOp, buildP, buildSliceP, makeSliceP, placeF, fillP, setL, PK.agg, isZero, gt_iff_lt, Nat.reducePow, Nat.reduceGT, reps, seg, wkN, if_pos, if_neg, tf3, Try.ze3, tf9, Try.ze9, resP, resPs, resP1]; rfl) | rfl) ⟨6, by repeat' first | exact frz_scalar rfl | apply frz_tuple | apply frz_agg | apply frz_fsl | apply frz_gsl (by omega) | exact frzs_nil | apply frzs_cons⟩ (by first | exact keepsH0 | exact keeps1 (by assumption) | exact keepsH (fun _ _ h => h) (fun p hp => by simp only [upF]; (repeat rw [if_neg (by omega)])) | exact keeps1t (by assumption) (fun p hp => by simp only [upF]; (repeat rw [if_neg (by omega)])) | (subst hT; exact keepsH (fun _ _ h => h) fun _ _ => rfl)) (nw_eq ?_)
  rfl
theorem refDerive_ok (s label d : List UInt8) (hs : s.length < 2 ^ 44) (hl : label.length < 2 ^ 48) (hc : d.length < 2 ^ 48) : Fn (Cx w0) 26 [.str s, .str label, .str d] (.tuple [.str (labelL s label d 32).1, .int .i64 (labelL s label d 32).2]) := by
  have h1 := refLabel_ok (w0 := w0) s label d 32 hs hl hc
  generalize (labelL s label d 32).1 = o at *
  generalize (labelL s label d 32).2 = e at *
  refine fn_H ([Go.ResultVar.tmp 6, Go.ResultVar.tmp 7]) Try.func26 rfl rfl (by decide) fun ph hW Q hQ => ?_
  simp only [start, List.length_cons, List.length_nil, List.cons_append, List.nil_append, Nat.reduceAdd, Nat.reduceSub, List.replicate_succ, List.replicate_zero, Try.ntmps26]
  repeat' first
    | simp -implicitDefEqProofs (maxSteps := 400000) (disch := first | with_reducible rfl | omega | (simp only [h_n, PH.n_push, PH.n_put, List.length_cons, List.length_nil] <;> omega) | decide) only [wkAll, wkL, popO, wantedP, if_true, if_false, reduceIte, ne_eq, Nat.reduceAdd, Nat.reduceSub, Nat.reduceMul, Nat.reduceLeDiff, Nat.reduceLT, ofCells, ofCell, reduceCtorEq, Int.reduceLE, Int.reduceLT, Int.reduceToNat, Int.reduceAdd, Int.reduceSub, Int.reduceMul, Int.reduceNeg, Int.reduceBEq, Int.reduceBNe, Int.reduceEq, eqCell, eqCells, binP, unP, convP, lenP, builtinP, sliceDataP, unsafeStringP, appendT, appendS, appendP, copyP, srcP, mmsP, mmP, indexOp, indexAddrOp, sliceOp, bndsP, bndP, capw, capCut, loadOp, storeOp, loadP, fieldOp, fieldAddrOp, arrayAtOp, buildP, buildSliceP, makeSliceP, placeF, fillP, setL, PK.agg, isZero, gt_iff_lt, Nat.reducePow, Nat.reduceGT, reps, seg, wkN, if_pos, if_neg, tf3, Try.ze3, tf9, Try.ze9]
    | refine w_pure (h1) ?_
    | refine w_dec (fun _ => ?_) (fun _ => ?_)
    | refine w_eqc (fun _ => ?_) (fun _ => ?_)
    | refine w_neqc (fun _ => ?_) (fun _ => ?_)
    | refine w_nneqc (fun _ => ?_) (fun _ => ?_)
    | ((first | refine w_split (fun h => ?_) (fun h => ?_) | refine d_split (fun h => ?_) (fun h => ?_) | refine w_csplit (fun h => ?_) (fun h => ?_)) <;> (try simp only [Bool.not_eq_true', Bool.not_eq_false', Bool.not_true, Bool.not_false] at h) <;> (have h2 := h) <;> (try simp only [decide_eq_true_eq, decide_eq_false_iff_not, beq_iff_eq, beq_eq_false_iff_ne, bne_iff_ne, bne_eq_false_iff_eq, Int.not_lt, Int.not_le, ne_eq] at h2) <;> (try simp only [h]))
  refine hQ (by first | exact .inr rfl | exact .inl rfl) (by first | exact trivial | exact marks1) (by first | (simp -implicitDefEqProofs (maxSteps := 400000) (disch := first | with_reducible rfl | omega | (simp only [h_n, PH.n_push, PH.n_put, List.length_cons, List.length_nil] <;> omega) | decide) only [wkAll, wkL, popO, wantedP, if_true, if_false, reduceIte, ne_eq, Nat.reduceAdd, Nat.reduceSub, Nat.reduceMul, Nat.reduceLeDiff, Nat.reduceLT, ofCells, ofCell, reduceCtorEq, Int.reduceLE, Int.reduceLT, Int.reduceToNat, Int.reduceAdd, Int.reduceSub, Int.reduceMul, Int.reduceNeg, Int.reduceBEq, Int.reduceBNe, Int.reduceEq, eqCell, eqCells, binP, unP, convP, lenP, builtinP, sliceDataP, unsafeStringP, appendT, appendS, appendP, copyP, srcP, mmsP, mmP, indexOp, indexAddrOp, sliceOp, bndsP, bndP, capw, capCut, loadOp, storeOp, loadP, fieldOp, fieldAddrOp, arrayAtOp, buildP, buildSliceP, makeSliceP, placeF, fillP, setL, PK.agg, isZero, gt_iff_lt, Nat.reducePow, Nat.reduceGT, reps, seg, wkN, if_pos, if_neg, tf3, Try.ze3, tf9, Try.ze9, resP, resPs, resP1]; rfl) | rfl) ⟨6, by repeat' first | exact frz_scalar rfl | apply frz_tuple | apply frz_agg | apply frz_fsl | apply frz_gsl (by omega) | exact frzs_nil | apply frzs_cons⟩ (by first | exact keepsH0 | exact keeps1 (by assumption) | exact keepsH (fun _ _ h => h) (fun p hp => by simp only [upF]; (repeat rw [if_neg (by omega)])) | exact keeps1t (by assumption) (fun p hp => by simp only [upF]; (repeat rw [if_neg (by omega)])) | (subst hT; exact keepsH (fun _ _ h => h) fun _ _ => rfl)) (nw_eq ?_)
  rfl

/-- Bytes from a to b. -/
def runL (a : Nat) : Nat → List UInt8
  | 0 => []
  | k + 1 => runL a k ++ [UInt8.ofNat (a + k)]
theorem runL_len (a : Nat) : ∀ k, (runL a k).length = k
  | 0 => rfl
  | k + 1 => by rw [runL, List.length_append, runL_len a k]; rfl
end Pv

namespace Pv
open Go

/-! ### Chapter 15: the key schedule, in plain Lean -/
def z32 : List UInt8 := List.replicate 32 0
theorem z32_len : z32.length = 32 := rfl
def earlyL : List UInt8 := macL z32 z32
def derL (s label d : List UInt8) : List UInt8 := (labelL s label d 32).1
def lbD : List UInt8 := [100, 101, 114, 105, 118, 101, 100]
def lbCh : List UInt8 := [99, 32, 104, 115, 32, 116, 114, 97, 102, 102, 105, 99]
def lbSh : List UInt8 := [115, 32, 104, 115, 32, 116, 114, 97, 102, 102, 105, 99]
def lbCa : List UInt8 := [99, 32, 97, 112, 32, 116, 114, 97, 102, 102, 105, 99]
def lbSa : List UInt8 := [115, 32, 97, 112, 32, 116, 114, 97, 102, 102, 105, 99]
def lbEx : List UInt8 := [101, 120, 112, 32, 109, 97, 115, 116, 101, 114]
def lbKey : List UInt8 := [107, 101, 121]
def lbIv : List UInt8 := [105, 118]
def lbFin : List UInt8 := [102, 105, 110, 105, 115, 104, 101, 100]
def lbExp : List UInt8 := [101, 120, 112, 111, 114, 116, 101, 114]
def nextL (base more : List UInt8) : List UInt8 := macL (derL base lbD (shaOf [])) more
abbrev Sec := List UInt8 × List UInt8 × List UInt8 × List UInt8
def handL (sh d : List UInt8) : Sec × Int :=
  if sh.length = 32 ∧ d.length = 32 then ((nextL earlyL sh, derL (nextL earlyL sh) lbCh d, derL (nextL earlyL sh) lbSh d, []), 0) else (([], [], [], []), 10)
def mastL (xb d : List UInt8) : Sec × Int :=
  if xb.length = 32 ∧ d.length = 32 then ((nextL xb z32, derL (nextL xb z32) lbCa d, derL (nextL xb z32) lbSa d, derL (nextL xb z32) lbEx d), 0) else (([], [], [], []), 10)
def sideL (s : List UInt8) : (List UInt8 × List UInt8) × Int := if s.length = 32 then (((labelL s lbKey [] 16).1, (labelL s lbIv [] 12).1), 0) else (([], []), 10)
def finL (s d : List UInt8) : List UInt8 × Int := if s.length = 32 ∧ d.length = 32 then (macL (labelL s lbFin [] 32).1 d, 0) else ([], 10)
def expoL (xe label ctx : List UInt8) (n : Int) : List UInt8 × Int :=
  if xe.length = 32 then (if (labelL xe label (shaOf []) 32).2 ≠ 0 then ([], (labelL xe label (shaOf []) 32).2) else labelL (labelL xe label (shaOf []) 32).1 lbExp (shaOf ctx) n) else ([], 10)
theorem expand_le (prk info : List UInt8) (n : Int) : (expandL prk info n).1.length ≤ 8160 := by
  rw [expandL]; split
  · simp
  · show (List.take _ _).length ≤ _; rw [List.length_take]; omega
theorem label_le (s l d : List UInt8) (n : Int) : (labelL s l d n).1.length ≤ 8160 := by
  rw [labelL]; split
  · simp
  · exact expand_le _ _ _
theorem label_fit (s l d : List UInt8) (m : Nat) (hl : l.length ≤ 249) (hd : d.length ≤ 255) (hm : m ≤ 8160) : labelL s l d (m : Int) = expandL s (infoB l d m) (m : Int) := by
  have : infoL l d (m : Int) = (infoB l d m, 0) := by rw [infoL, if_neg (by omega), if_neg (by omega)]; rfl
  rw [labelL, this]; rw [if_neg (by simp)]
theorem label_len (s l d : List UInt8) (m : Nat) (hl : l.length ≤ 249) (hd : d.length ≤ 255) (hm : m ≤ 8160) : (labelL s l d (m : Int)).1.length = m := by
  rw [label_fit s l d m hl hd hm, expand_len _ _ _ hm]
theorem label_zero (s l d : List UInt8) (m : Nat) (hl : l.length ≤ 249) (hd : d.length ≤ 255) (hm : m ≤ 8160) : (labelL s l d (m : Int)).2 = 0 := by
  rw [label_fit s l d m hl hd hm, expand_of _ _ m ((m + 31) / 32) hm (by omega)]
theorem derL_le (s l d : List UInt8) : (derL s l d).length ≤ 8160 := label_le _ _ _ _
theorem next_len (b m : List UInt8) : (nextL b m).length = 32 := mac_len _ _
theorem early_len : earlyL.length = 32 := mac_len _ _
end Pv
