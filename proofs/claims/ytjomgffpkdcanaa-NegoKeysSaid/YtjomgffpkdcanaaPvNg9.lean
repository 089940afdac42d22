/- Part of the proof: the layer of pure values, or walks through functions (PvNg9, PvNg10, PvIdxF, PvNg12, PvNg13, PvH3, PvH7, PvNg14). -/
import Derived.Test.YtjomgffpkdcanaaPvNg7
import Derived.Test.YtjomgffpkdcanaaPvDrawP
import Derived.Test.YtjomgffpkdcanaaPvSha7
import Derived.Shelf.GgClosure.StringsRunes
import Derived.Test.YtjomgffpkdcanaaPvShaH
set_option linter.all false
--nosplit
--keep2
namespace Pv
set_option maxRecDepth 20000
set_option maxHeartbeats 4000000
open Go Go.Proofs Go.RowKit
variable {w0 : World}

theorem indexI_ok (l : List Int) (x : Int) (hl : l.length < 2 ^ 40) : Fn (Cx w0) 50 [.fsl 1 l.length (intsC l), .int .i64 x] (.int .i64 (idxL (fun y => x == y) l)) := by
  refine fn_H ([Go.ResultVar.tmp 4]) Try.func50 rfl rfl (by decide) fun ph hW Q hQ => ?_
  simp only [start, List.length_cons, List.length_nil, List.cons_append, List.nil_append, Nat.reduceAdd, Nat.reduceSub, List.replicate_succ, List.replicate_zero, Try.ntmps50]
  repeat' first | simp -implicitDefEqProofs (maxSteps := 400000) (disch := first | with_reducible rfl | omega | (simp only [wkH] <;> omega) | decide) only [wkAll, wkL, popO, wantedP, if_true, if_false, reduceIte, ne_eq, Nat.reduceAdd, Nat.reduceSub, Nat.reduceMul, Nat.reduceLeDiff, Nat.reduceLT, ofCells, ofCell, reduceCtorEq, Int.reduceLE, Int.reduceLT, Int.reduceToNat, Int.reduceAdd, Int.reduceSub, Int.reduceMul, Int.reduceNeg, Int.reduceBEq, Int.reduceBNe, Int.reduceEq, eqCell, eqCells, binP, unP, convP, lenP, builtinP, sliceDataP, unsafeStringP, appendT, appendS, appendP, copyP, srcP, mmsP, mmP, indexOp, indexAddrOp, sliceOp, bndsP, bndP, capw, capCut, loadOp, storeOp, loadP, fieldOp, fieldAddrOp, arrayAtOp, buildP, buildSliceP, makeSliceP, placeF, fillP, setL, PK.agg, isZero, gt_iff_lt, Nat.reducePow, Nat.reduceGT, reps, seg, wkN, if_pos, if_neg, tf3, Try.ze3, tf43, Try.ze43]
  refine w_loopH (α := Nat) ph ph.ob ph.ty (fun i => [.fsl 1 l.length (intsC l), .int .i64 x, .undef, .undef, .undef, .undef, .undef, .int .i64 l.length, .int .i64 i, .undef, .undef, .undef, .undef, .undef, .undef, .undef, .undef, .undef, .undef]) (fun i => []) (fun i => i ≤ l.length ∧ (l.take i).any (fun y => x == y) = false) (fun i => l.length - i) 0 (by simp) (fun _ _ => by simp) (.eq (by simp [FadeTo]) rfl) ?_
  rintro i ⟨hi, hno⟩ K hK
  rcases Nat.lt_or_ge i l.length with h | h
  · obtain ⟨r, hr⟩ := get_some h
    have hd := intsC_drop l i r hr
    have hla := intsC_len l
    have hlt : (i : Int) < l.length := by omega
    cases hpr : (x == r) with
    | false =>
      repeat' first | simp -implicitDefEqProofs (maxSteps := 400000) (disch := first | with_reducible rfl | omega | (simp only [wkH] <;> omega) | decide) only [wkAll, wkL, popO, wantedP, if_true, if_false, reduceIte, ne_eq, Nat.reduceAdd, Nat.reduceSub, Nat.reduceMul, Nat.reduceLeDiff, Nat.reduceLT, ofCells, ofCell, reduceCtorEq, Int.reduceLE, Int.reduceLT, Int.reduceToNat, Int.reduceAdd, Int.reduceSub, Int.reduceMul, Int.reduceNeg, Int.reduceBEq, Int.reduceBNe, Int.reduceEq, eqCell, eqCells, binP, unP, convP, lenP, builtinP, sliceDataP, unsafeStringP, appendT, appendS, appendP, copyP, srcP, mmsP, mmP, indexOp, indexAddrOp, sliceOp, bndsP, bndP, capw, capCut, loadOp, storeOp, loadP, fieldOp, fieldAddrOp, arrayAtOp, buildP, buildSliceP, makeSliceP, placeF, fillP, setL, PK.agg, isZero, gt_iff_lt, Nat.reducePow, Nat.reduceGT, reps, seg, wkN, if_pos, if_neg, tf3, Try.ze3, tf43, Try.ze43, hd, hlt, hla, hpr]
      exact hK (i + 1) _ _ ⟨by omega, by rw [take_snoc hr]; simp only [List.any_append, hno, List.any_cons, List.any_nil, hpr, Bool.or_false]⟩ (by omega) (.eq (by simp [FadeTo]) rfl)
    | true =>
      repeat' first | simp -implicitDefEqProofs (maxSteps := 400000) (disch := first | with_reducible rfl | omega | (simp only [wkH] <;> omega) | decide) only [wkAll, wkL, popO, wantedP, if_true, if_false, reduceIte, ne_eq, Nat.reduceAdd, Nat.reduceSub, Nat.reduceMul, Nat.reduceLeDiff, Nat.reduceLT, ofCells, ofCell, reduceCtorEq, Int.reduceLE, Int.reduceLT, Int.reduceToNat, Int.reduceAdd, Int.reduceSub, Int.reduceMul, Int.reduceNeg, Int.reduceBEq, Int.reduceBNe, Int.reduceEq, eqCell, eqCells, binP, unP, convP, lenP, builtinP, sliceDataP, unsafeStringP, appendT, appendS, appendP, copyP, srcP, mmsP, mmP, indexOp, indexAddrOp, sliceOp, bndsP, bndP, capw, capCut, loadOp, storeOp, loadP, fieldOp, fieldAddrOp, arrayAtOp, buildP, buildSliceP, makeSliceP, placeF, fillP, setL, PK.agg, isZero, gt_iff_lt, Nat.reducePow, Nat.reduceGT, reps, seg, wkN, if_pos, if_neg, tf3, Try.ze3, tf43, Try.ze43, hd, hlt, hla, hpr]
      refine hQ (by first | exact .inr rfl | exact .inl rfl) (by first | exact trivial | exact marks1) (by first | (simp -implicitDefEqProofs (maxSteps := 400000) (disch := first | with_reducible rfl | omega | (simp only [wkH] <;> omega) | decide) only [wkAll, wkL, popO, wantedP, if_true, if_false, reduceIte, ne_eq, Nat.reduceAdd, Nat.reduceSub, Nat.reduceMul, Nat.reduceLeDiff, Nat.reduceLT, ofCells, ofCell, reduceCtorEq, Int.reduceLE, Int.reduceLT, Int.reduceToNat, Int.reduceAdd, Int.reduceSub, Int.reduceMul, Int.reduceNeg, Int.reduceBEq, Int.reduceBNe, Int.reduceEq, eqCell, eqCells, loadOp, storeOp, loadP, setL, PK.agg, isZero, gt_iff_lt, Nat.reducePow, Nat.reduceGT, reps, seg, wkN, if_pos, if_neg, tf3, Try.ze3, tf43, Try.ze43, resP, resPs, resP1]; rfl) | rfl) ⟨6, by repeat' first | exact frz_scalar rfl | apply frz_tuple | apply frz_agg | apply frz_fsl | apply frz_gsl (by omega) | exact frzs_nil | apply frzs_cons⟩ (by first | exact keepsH0 | exact keeps1 (by assumption)) (nw_eq ?_)
      rw [idxL_found hno hr hpr]
  · have hge : ¬ (i : Int) < l.length := by omega
    repeat' first | simp -implicitDefEqProofs (maxSteps := 400000) (disch := first | with_reducible rfl | omega | (simp only [wkH] <;> omega) | decide) only [wkAll, wkL, popO, wantedP, if_true, if_false, reduceIte, ne_eq, Nat.reduceAdd, Nat.reduceSub, Nat.reduceMul, Nat.reduceLeDiff, Nat.reduceLT, ofCells, ofCell, reduceCtorEq, Int.reduceLE, Int.reduceLT, Int.reduceToNat, Int.reduceAdd, Int.reduceSub, Int.reduceMul, Int.reduceNeg, Int.reduceBEq, Int.reduceBNe, Int.reduceEq, eqCell, eqCells, binP, unP, convP, lenP, builtinP, sliceDataP, unsafeStringP, appendT, appendS, appendP, copyP, srcP, mmsP, mmP, indexOp, indexAddrOp, sliceOp, bndsP, bndP, capw, capCut, loadOp, storeOp, loadP, fieldOp, fieldAddrOp, arrayAtOp, buildP, buildSliceP, makeSliceP, placeF, fillP, setL, PK.agg, isZero, gt_iff_lt, Nat.reducePow, Nat.reduceGT, reps, seg, wkN, if_pos, if_neg, tf3, Try.ze3, tf43, Try.ze43, hge]
    refine hQ (by first | exact .inr rfl | exact .inl rfl) (by first | exact trivial | exact marks1) (by first | (simp -implicitDefEqProofs (maxSteps := 400000) (disch := first | with_reducible rfl | omega | (simp only [wkH] <;> omega) | decide) only [wkAll, wkL, popO, wantedP, if_true, if_false, reduceIte, ne_eq, Nat.reduceAdd, Nat.reduceSub, Nat.reduceMul, Nat.reduceLeDiff, Nat.reduceLT, ofCells, ofCell, reduceCtorEq, Int.reduceLE, Int.reduceLT, Int.reduceToNat, Int.reduceAdd, Int.reduceSub, Int.reduceMul, Int.reduceNeg, Int.reduceBEq, Int.reduceBNe, Int.reduceEq, eqCell, eqCells, loadOp, storeOp, loadP, setL, PK.agg, isZero, gt_iff_lt, Nat.reducePow, Nat.reduceGT, reps, seg, wkN, if_pos, if_neg, tf3, Try.ze3, tf43, Try.ze43, resP, resPs, resP1]; rfl) | rfl) ⟨6, by repeat' first | exact frz_scalar rfl | apply frz_tuple | apply frz_agg | apply frz_fsl | apply frz_gsl (by omega) | exact frzs_nil | apply frzs_cons⟩ (by first | exact keepsH0 | exact keeps1 (by assumption)) (nw_eq ?_)
    rw [List.take_of_length_le h] at hno
    rw [idxL_none hno]
theorem idxL_ge {α : Type} (p : α → Bool) (l : List α) : decide (0 ≤ idxL p l) = l.any p := by
  unfold idxL
  cases h : l.findIdx? p with
  | none =>
    have := List.findIdx?_eq_none_iff.1 h
    have h2 : l.any p = false := by rw [List.any_eq_false]; intro x hx; simp [this x hx]
    rw [h2]; rfl
  | some i =>
    have h3 := List.findIdx?_eq_some_iff_getElem.1 h
    obtain ⟨hi, hp, -⟩ := h3
    have h2 : l.any p = true := List.any_eq_true.2 ⟨l[i], List.getElem_mem hi, hp⟩
    rw [h2]; simp
theorem contains_ok (l : List Int) (x : Int) (hl : l.length < 2 ^ 40) : Fn (Cx w0) 30 [.fsl 1 l.length (intsC l), .int .i64 x] (.bool (l.any (fun y => x == y))) := by
  have ti := indexI_ok (w0 := w0) l x hl
  rw [← idxL_ge]
  refine fn_H ([Go.ResultVar.tmp 4]) Try.func30 rfl rfl (by decide) fun ph hW Q hQ => ?_
  simp only [start, List.length_cons, List.length_nil, List.cons_append, List.nil_append, Nat.reduceAdd, Nat.reduceSub, List.replicate_succ, List.replicate_zero, Try.ntmps30]
  repeat' first | simp -implicitDefEqProofs (maxSteps := 400000) (disch := first | with_reducible rfl | omega | (simp only [wkH] <;> omega) | decide) only [wkAll, wkL, popO, wantedP, if_true, if_false, reduceIte, ne_eq, Nat.reduceAdd, Nat.reduceSub, Nat.reduceMul, Nat.reduceLeDiff, Nat.reduceLT, ofCells, ofCell, reduceCtorEq, Int.reduceLE, Int.reduceLT, Int.reduceToNat, Int.reduceAdd, Int.reduceSub, Int.reduceMul, Int.reduceNeg, Int.reduceBEq, Int.reduceBNe, Int.reduceEq, eqCell, eqCells, binP, unP, convP, lenP, builtinP, sliceDataP, unsafeStringP, appendT, appendS, appendP, copyP, srcP, mmsP, mmP, indexOp, indexAddrOp, sliceOp, bndsP, bndP, capw, capCut, loadOp, storeOp, loadP, fieldOp, fieldAddrOp, arrayAtOp, buildP, buildSliceP, makeSliceP, placeF, fillP, setL, PK.agg, isZero, gt_iff_lt, Nat.reducePow, Nat.reduceGT, reps, seg, wkN, if_pos, if_neg, tf3, Try.ze3, tf43, Try.ze43, ge_iff_le] | refine w_pure (ti) ?_
  refine hQ (by first | exact .inr rfl | exact .inl rfl) (by first | exact trivial | exact marks1) (by first | (simp -implicitDefEqProofs (maxSteps := 400000) (disch := first | with_reducible rfl | omega | (simp only [wkH] <;> omega) | decide) only [wkAll, wkL, popO, wantedP, if_true, if_false, reduceIte, ne_eq, Nat.reduceAdd, Nat.reduceSub, Nat.reduceMul, Nat.reduceLeDiff, Nat.reduceLT, ofCells, ofCell, reduceCtorEq, Int.reduceLE, Int.reduceLT, Int.reduceToNat, Int.reduceAdd, Int.reduceSub, Int.reduceMul, Int.reduceNeg, Int.reduceBEq, Int.reduceBNe, Int.reduceEq, eqCell, eqCells, loadOp, storeOp, loadP, setL, PK.agg, isZero, gt_iff_lt, Nat.reducePow, Nat.reduceGT, reps, seg, wkN, if_pos, if_neg, tf3, Try.ze3, tf43, Try.ze43, resP, resPs, resP1]; rfl) | rfl) ⟨6, by repeat' first | exact frz_scalar rfl | apply frz_tuple | apply frz_agg | apply frz_fsl | apply frz_gsl (by omega) | exact frzs_nil | apply frzs_cons⟩ (by first | exact keepsH0 | exact keeps1 (by assumption)) (nw_eq ?_)
  rfl
theorem indexF_ok (ph : PH) (g : FuncId) (c : Nat) (cells : List PV) (p : Int → Bool) (hc : ph.get c = some cells) (hp : ∀ (H1 : PH), H1.get c = some cells → ∀ x, Eff (Cx w0) g [.int .i64 x, .ptr c 0] H1 (.bool (p x)) H1) (l : List Int) (hl : l.length < 2 ^ 40) :
    Eff (Cx w0) 31 [.fsl 1 l.length (intsC l), .func g [] [.ptr c 0]] ph (.int .i64 (idxL p l)) ph := by
  have hcl := PH.get_lt hc
  refine eff_of ([Go.ResultVar.tmp 4]) Try.func31 rfl rfl (by decide) rfl (fun h => h) fun hW Q hQ => ?_
  simp only [start, List.length_cons, List.length_nil, List.cons_append, List.nil_append, Nat.reduceAdd, Nat.reduceSub, List.replicate_succ, List.replicate_zero, Try.ntmps31]
  repeat' first | simp -implicitDefEqProofs (maxSteps := 400000) (disch := first | with_reducible rfl | omega | (simp only [wkH] <;> omega) | decide) only [wkAll, wkL, popO, wantedP, if_true, if_false, reduceIte, ne_eq, Nat.reduceAdd, Nat.reduceSub, Nat.reduceMul, Nat.reduceLeDiff, Nat.reduceLT, ofCells, ofCell, reduceCtorEq, Int.reduceLE, Int.reduceLT, Int.reduceToNat, Int.reduceAdd, Int.reduceSub, Int.reduceMul, Int.reduceNeg, Int.reduceBEq, Int.reduceBNe, Int.reduceEq, eqCell, eqCells, binP, unP, convP, lenP, builtinP, sliceDataP, unsafeStringP, appendT, appendS, appendP, copyP, srcP, mmsP, mmP, indexOp, indexAddrOp, sliceOp, bndsP, bndP, capw, capCut, loadOp, storeOp, loadP, fieldOp, fieldAddrOp, arrayAtOp, buildP, buildSliceP, makeSliceP, placeF, fillP, setL, PK.agg, isZero, gt_iff_lt, Nat.reducePow, Nat.reduceGT, reps, seg, wkN, if_pos, if_neg, tf3, Try.ze3, tf43, Try.ze43]
  refine w_loopH (α := Nat) ph ph.ob ph.ty (fun i => [.fsl 1 l.length (intsC l), .func g [] [.ptr c 0], .undef, .undef, .undef, .undef, .undef, .int .i64 l.length, .int .i64 i, .undef, .undef, .undef, .undef, .undef, .undef, .undef, .undef, .undef, .undef]) (fun i => []) (fun i => i ≤ l.length ∧ (l.take i).any p = false) (fun i => l.length - i) 0 (by simp) (fun _ _ => by simp) (.eq (by simp [FadeTo]) rfl) ?_
  rintro i ⟨hi, hno⟩ K hK
  rcases Nat.lt_or_ge i l.length with h | h
  · obtain ⟨r, hr⟩ := get_some h
    have hd := intsC_drop l i r hr
    have hla := intsC_len l
    have hlt : (i : Int) < l.length := by omega
    repeat' first | simp -implicitDefEqProofs (maxSteps := 400000) (disch := first | with_reducible rfl | omega | (simp only [wkH] <;> omega) | decide) only [wkAll, wkL, popO, wantedP, if_true, if_false, reduceIte, ne_eq, Nat.reduceAdd, Nat.reduceSub, Nat.reduceMul, Nat.reduceLeDiff, Nat.reduceLT, ofCells, ofCell, reduceCtorEq, Int.reduceLE, Int.reduceLT, Int.reduceToNat, Int.reduceAdd, Int.reduceSub, Int.reduceMul, Int.reduceNeg, Int.reduceBEq, Int.reduceBNe, Int.reduceEq, eqCell, eqCells, binP, unP, convP, lenP, builtinP, sliceDataP, unsafeStringP, appendT, appendS, appendP, copyP, srcP, mmsP, mmP, indexOp, indexAddrOp, sliceOp, bndsP, bndP, capw, capCut, loadOp, storeOp, loadP, fieldOp, fieldAddrOp, arrayAtOp, buildP, buildSliceP, makeSliceP, placeF, fillP, setL, PK.agg, isZero, gt_iff_lt, Nat.reducePow, Nat.reduceGT, reps, seg, wkN, if_pos, if_neg, tf3, Try.ze3, tf43, Try.ze43, hd, hlt, hla]
    refine w_eff (hp _ (by rw [h_getlt hcl]; exact hc) r) ?_
    cases hpr : p r with
    | false =>
      repeat' first | simp -implicitDefEqProofs (maxSteps := 400000) (disch := first | with_reducible rfl | omega | (simp only [wkH] <;> omega) | decide) only [wkAll, wkL, popO, wantedP, if_true, if_false, reduceIte, ne_eq, Nat.reduceAdd, Nat.reduceSub, Nat.reduceMul, Nat.reduceLeDiff, Nat.reduceLT, ofCells, ofCell, reduceCtorEq, Int.reduceLE, Int.reduceLT, Int.reduceToNat, Int.reduceAdd, Int.reduceSub, Int.reduceMul, Int.reduceNeg, Int.reduceBEq, Int.reduceBNe, Int.reduceEq, eqCell, eqCells, binP, unP, convP, lenP, builtinP, sliceDataP, unsafeStringP, appendT, appendS, appendP, copyP, srcP, mmsP, mmP, indexOp, indexAddrOp, sliceOp, bndsP, bndP, capw, capCut, loadOp, storeOp, loadP, fieldOp, fieldAddrOp, arrayAtOp, buildP, buildSliceP, makeSliceP, placeF, fillP, setL, PK.agg, isZero, gt_iff_lt, Nat.reducePow, Nat.reduceGT, reps, seg, wkN, if_pos, if_neg, tf3, Try.ze3, tf43, Try.ze43]
      exact hK (i + 1) _ _ ⟨by omega, by rw [take_snoc hr]; simp only [List.any_append, hno, List.any_cons, List.any_nil, hpr, Bool.or_false]⟩ (by omega) (.eq (by simp [FadeTo]) rfl)
    | true =>
      repeat' first | simp -implicitDefEqProofs (maxSteps := 400000) (disch := first | with_reducible rfl | omega | (simp only [wkH] <;> omega) | decide) only [wkAll, wkL, popO, wantedP, if_true, if_false, reduceIte, ne_eq, Nat.reduceAdd, Nat.reduceSub, Nat.reduceMul, Nat.reduceLeDiff, Nat.reduceLT, ofCells, ofCell, reduceCtorEq, Int.reduceLE, Int.reduceLT, Int.reduceToNat, Int.reduceAdd, Int.reduceSub, Int.reduceMul, Int.reduceNeg, Int.reduceBEq, Int.reduceBNe, Int.reduceEq, eqCell, eqCells, binP, unP, convP, lenP, builtinP, sliceDataP, unsafeStringP, appendT, appendS, appendP, copyP, srcP, mmsP, mmP, indexOp, indexAddrOp, sliceOp, bndsP, bndP, capw, capCut, loadOp, storeOp, loadP, fieldOp, fieldAddrOp, arrayAtOp, buildP, buildSliceP, makeSliceP, placeF, fillP, setL, PK.agg, isZero, gt_iff_lt, Nat.reducePow, Nat.reduceGT, reps, seg, wkN, if_pos, if_neg, tf3, Try.ze3, tf43, Try.ze43]
      refine hQ (by first | exact .inr rfl | exact .inl rfl) (by first | exact trivial | exact marks1) (by first | (simp -implicitDefEqProofs (maxSteps := 400000) (disch := first | with_reducible rfl | omega | (simp only [wkH] <;> omega) | decide) only [wkAll, wkL, popO, wantedP, if_true, if_false, reduceIte, ne_eq, Nat.reduceAdd, Nat.reduceSub, Nat.reduceMul, Nat.reduceLeDiff, Nat.reduceLT, ofCells, ofCell, reduceCtorEq, Int.reduceLE, Int.reduceLT, Int.reduceToNat, Int.reduceAdd, Int.reduceSub, Int.reduceMul, Int.reduceNeg, Int.reduceBEq, Int.reduceBNe, Int.reduceEq, eqCell, eqCells, loadOp, storeOp, loadP, setL, PK.agg, isZero, gt_iff_lt, Nat.reducePow, Nat.reduceGT, reps, seg, wkN, if_pos, if_neg, tf3, Try.ze3, tf43, Try.ze43, resP, resPs, resP1]; rfl) | rfl) ⟨6, by repeat' first | exact frz_scalar rfl | apply frz_tuple | apply frz_agg | apply frz_fsl | apply frz_gsl (by omega) | exact frzs_nil | apply frzs_cons⟩ (by first | exact keepsH0 | exact keeps1 (by assumption)) (nw_eq ?_)
      rw [idxL_found hno hr hpr]
  · have hge : ¬ (i : Int) < l.length := by omega
    repeat' first | simp -implicitDefEqProofs (maxSteps := 400000) (disch := first | with_reducible rfl | omega | (simp only [wkH] <;> omega) | decide) only [wkAll, wkL, popO, wantedP, if_true, if_false, reduceIte, ne_eq, Nat.reduceAdd, Nat.reduceSub, Nat.reduceMul, Nat.reduceLeDiff, Nat.reduceLT, ofCells, ofCell, reduceCtorEq, Int.reduceLE, Int.reduceLT, Int.reduceToNat, Int.reduceAdd, Int.reduceSub, Int.reduceMul, Int.reduceNeg, Int.reduceBEq, Int.reduceBNe, Int.reduceEq, eqCell, eqCells, binP, unP, convP, lenP, builtinP, sliceDataP, unsafeStringP, appendT, appendS, appendP, copyP, srcP, mmsP, mmP, indexOp, indexAddrOp, sliceOp, bndsP, bndP, capw, capCut, loadOp, storeOp, loadP, fieldOp, fieldAddrOp, arrayAtOp, buildP, buildSliceP, makeSliceP, placeF, fillP, setL, PK.agg, isZero, gt_iff_lt, Nat.reducePow, Nat.reduceGT, reps, seg, wkN, if_pos, if_neg, tf3, Try.ze3, tf43, Try.ze43, hge]
    refine hQ (by first | exact .inr rfl | exact .inl rfl) (by first | exact trivial | exact marks1) (by first | (simp -implicitDefEqProofs (maxSteps := 400000) (disch := first | with_reducible rfl | omega | (simp only [wkH] <;> omega) | decide) only [wkAll, wkL, popO, wantedP, if_true, if_false, reduceIte, ne_eq, Nat.reduceAdd, Nat.reduceSub, Nat.reduceMul, Nat.reduceLeDiff, Nat.reduceLT, ofCells, ofCell, reduceCtorEq, Int.reduceLE, Int.reduceLT, Int.reduceToNat, Int.reduceAdd, Int.reduceSub, Int.reduceMul, Int.reduceNeg, Int.reduceBEq, Int.reduceBNe, Int.reduceEq, eqCell, eqCells, loadOp, storeOp, loadP, setL, PK.agg, isZero, gt_iff_lt, Nat.reducePow, Nat.reduceGT, reps, seg, wkN, if_pos, if_neg, tf3, Try.ze3, tf43, Try.ze43, resP, resPs, resP1]; rfl) | rfl) ⟨6, by repeat' first | exact frz_scalar rfl | apply frz_tuple | apply frz_agg | apply frz_fsl | apply frz_gsl (by omega) | exact frzs_nil | apply frzs_cons⟩ (by first | exact keepsH0 | exact keeps1 (by assumption)) (nw_eq ?_)
    rw [List.take_of_length_le h] at hno
    rw [idxL_none hno]
/-- A way that a server takes of those that are offered. -/
def takeB (A : List Int) (a : Int) : Bool := decide (0 < kszL a) && A.any (fun y => a == y)
theorem answer1_ok (A : List Int) (hA : A.length < 2 ^ 40) (a : Int) (c : Nat) (ph : PH) (hc : ph.get c = some [.fsl 1 A.length (intsC A)]) : Eff (Cx w0) 32 [.int .i64 a, .ptr c 0] ph (.bool (takeB A a)) ph := by
  have hcl := PH.get_lt hc
  have tk := negoKeySize_ok (w0 := w0) a
  have tc := contains_ok (w0 := w0) A a hA
  refine eff_of ([Go.ResultVar.tmp 3]) Try.func32 rfl rfl (by decide) rfl (fun h => h) fun hW Q hQ => ?_
  simp only [start, List.length_cons, List.length_nil, List.cons_append, List.nil_append, Nat.reduceAdd, Nat.reduceSub, List.replicate_succ, List.replicate_zero, Try.ntmps32]
  by_cases h : 0 < kszL a
  · rw [show takeB A a = A.any (fun y => a == y) by simp [takeB, h]] at hQ
    repeat' first | simp -implicitDefEqProofs (maxSteps := 400000) (disch := first | with_reducible rfl | omega | (simp only [wkH] <;> omega) | decide) only [wkAll, wkL, popO, wantedP, if_true, if_false, reduceIte, ne_eq, Nat.reduceAdd, Nat.reduceSub, Nat.reduceMul, Nat.reduceLeDiff, Nat.reduceLT, ofCells, ofCell, reduceCtorEq, Int.reduceLE, Int.reduceLT, Int.reduceToNat, Int.reduceAdd, Int.reduceSub, Int.reduceMul, Int.reduceNeg, Int.reduceBEq, Int.reduceBNe, Int.reduceEq, eqCell, eqCells, binP, unP, convP, lenP, builtinP, sliceDataP, unsafeStringP, appendT, appendS, appendP, copyP, srcP, mmsP, mmP, indexOp, indexAddrOp, sliceOp, bndsP, bndP, capw, capCut, loadOp, storeOp, loadP, fieldOp, fieldAddrOp, arrayAtOp, buildP, buildSliceP, makeSliceP, placeF, fillP, setL, PK.agg, isZero, gt_iff_lt, Nat.reducePow, Nat.reduceGT, reps, seg, wkN, if_pos, if_neg, tf3, Try.ze3, tf43, Try.ze43, h, gt_iff_lt, h_getlt hcl, hc] | refine w_pure (tk) ?_ | refine w_pure (tc) ?_
    refine hQ (by first | exact .inr rfl | exact .inl rfl) (by first | exact trivial | exact marks1) (by first | (simp -implicitDefEqProofs (maxSteps := 400000) (disch := first | with_reducible rfl | omega | (simp only [wkH] <;> omega) | decide) only [wkAll, wkL, popO, wantedP, if_true, if_false, reduceIte, ne_eq, Nat.reduceAdd, Nat.reduceSub, Nat.reduceMul, Nat.reduceLeDiff, Nat.reduceLT, ofCells, ofCell, reduceCtorEq, Int.reduceLE, Int.reduceLT, Int.reduceToNat, Int.reduceAdd, Int.reduceSub, Int.reduceMul, Int.reduceNeg, Int.reduceBEq, Int.reduceBNe, Int.reduceEq, eqCell, eqCells, loadOp, storeOp, loadP, setL, PK.agg, isZero, gt_iff_lt, Nat.reducePow, Nat.reduceGT, reps, seg, wkN, if_pos, if_neg, tf3, Try.ze3, tf43, Try.ze43, resP, resPs, resP1]; rfl) | rfl) ⟨6, by repeat' first | exact frz_scalar rfl | apply frz_tuple | apply frz_agg | apply frz_fsl | apply frz_gsl (by omega) | exact frzs_nil | apply frzs_cons⟩ (by first | exact keepsH0 | exact keeps1 (by assumption)) (nw_eq ?_)
    rfl
  · rw [show takeB A a = false by simp [takeB, h]] at hQ
    repeat' first | simp -implicitDefEqProofs (maxSteps := 400000) (disch := first | with_reducible rfl | omega | (simp only [wkH] <;> omega) | decide) only [wkAll, wkL, popO, wantedP, if_true, if_false, reduceIte, ne_eq, Nat.reduceAdd, Nat.reduceSub, Nat.reduceMul, Nat.reduceLeDiff, Nat.reduceLT, ofCells, ofCell, reduceCtorEq, Int.reduceLE, Int.reduceLT, Int.reduceToNat, Int.reduceAdd, Int.reduceSub, Int.reduceMul, Int.reduceNeg, Int.reduceBEq, Int.reduceBNe, Int.reduceEq, eqCell, eqCells, binP, unP, convP, lenP, builtinP, sliceDataP, unsafeStringP, appendT, appendS, appendP, copyP, srcP, mmsP, mmP, indexOp, indexAddrOp, sliceOp, bndsP, bndP, capw, capCut, loadOp, storeOp, loadP, fieldOp, fieldAddrOp, arrayAtOp, buildP, buildSliceP, makeSliceP, placeF, fillP, setL, PK.agg, isZero, gt_iff_lt, Nat.reducePow, Nat.reduceGT, reps, seg, wkN, if_pos, if_neg, tf3, Try.ze3, tf43, Try.ze43, h, gt_iff_lt] | refine w_pure (tk) ?_
    refine hQ (by first | exact .inr rfl | exact .inl rfl) (by first | exact trivial | exact marks1) (by first | (simp -implicitDefEqProofs (maxSteps := 400000) (disch := first | with_reducible rfl | omega | (simp only [wkH] <;> omega) | decide) only [wkAll, wkL, popO, wantedP, if_true, if_false, reduceIte, ne_eq, Nat.reduceAdd, Nat.reduceSub, Nat.reduceMul, Nat.reduceLeDiff, Nat.reduceLT, ofCells, ofCell, reduceCtorEq, Int.reduceLE, Int.reduceLT, Int.reduceToNat, Int.reduceAdd, Int.reduceSub, Int.reduceMul, Int.reduceNeg, Int.reduceBEq, Int.reduceBNe, Int.reduceEq, eqCell, eqCells, loadOp, storeOp, loadP, setL, PK.agg, isZero, gt_iff_lt, Nat.reducePow, Nat.reduceGT, reps, seg, wkN, if_pos, if_neg, tf3, Try.ze3, tf43, Try.ze43, resP, resPs, resP1]; rfl) | rfl) ⟨6, by repeat' first | exact frz_scalar rfl | apply frz_tuple | apply frz_agg | apply frz_fsl | apply frz_gsl (by omega) | exact frzs_nil | apply frzs_cons⟩ (by first | exact keepsH0 | exact keeps1 (by assumption)) (nw_eq ?_)
    rfl
end Pv

--nosplit
--keep2
namespace Pv
set_option maxRecDepth 20000
set_option maxHeartbeats 4000000
open Go Go.Proofs Go.RowKit
variable {w0 : World}

theorem bneT {a b : Int} (h : ¬ a = b) : (a != b) = true := by rw [bne_iff_ne]; exact h
theorem bneF {a b : Int} (h : a = b) : (a != b) = false := by rw [h]; exact bne_self_eq_false _
theorem strEqF {a b : List UInt8} (h : ¬ a = b) : (!(a == b)) = true := by simpa using h
theorem strEqT {a b : List UInt8} (h : a = b) : (!(a == b)) = false := by subst h; simp
end Pv

namespace Go.Proofs
open Go.Shelf Go.RowKit
end Go.Proofs
namespace Pv
open Go Go.Proofs Go.RowKit Go.Lib
variable {w0 : World}
end Pv

--nosplit
--keep2
namespace Pv
set_option maxRecDepth 20000
set_option maxHeartbeats 4000000
open Go Go.Proofs Go.RowKit
variable {w0 : World}

end Pv

--nosplit
--keep2
namespace Pv
set_option maxRecDepth 20000
set_option maxHeartbeats 4000000
open Go Go.Proofs Go.RowKit
variable {w0 : World}

end Pv

namespace Pv
open Go Go.RowKit
variable {X : Ctx} {G : Ghost} {ph : PH} {w : World} {ρ : Option Nat} {n0 : Nat} {Q : Exit → PSt → PH → Prop}

/-! ### A row of one's own that is only read from now on: blocks that hold it tell its cells -/
/-- Arguments, those within a struct too. -/
def FA2 (p : Nat) (cells : List PV) : List PV → List PV → Prop
  | [], [] => True
  | a :: az, b :: bs => (b = a ∨ (∃ off esz len cap, a = .sl p off esz len cap ∧ b = .fsl esz len (seg cells off (len * esz)) ∧ off + len * esz ≤ cells.length) ∨ ∃ c c', a = .agg c ∧ b = .agg c' ∧ FA p cells c c') ∧ FA2 p cells az bs
  | _, _ => False
def FB (p : Nat) (cells : List PV) : List (Option Blk) → List (Option Blk) → Prop
  | [], [] => True
  | x :: xs, y :: ys => (y = x ∨ ∃ c c', x = some (.own c) ∧ y = some (.own c') ∧ FA p cells c c') ∧ FB p cells xs ys
  | _, _ => False
theorem FA2.rvs (h : Rel X G ph w) {p : Nat} {cells : List PV} {L : Loc} (hp : ph.get p = some cells) (hL : G.l[p]? = some L) : ∀ {az bs : List PV} {rs : List Value}, FA2 p cells az bs → RVs G az rs → RVs (G.frzB w L.b) bs rs
  | [], [], _, _, hr => by cases hr; exact .nil
  | a :: az, b :: bs, _, hf, hr => by
    obtain ⟨h1, h2⟩ := hf
    cases hr with
    | cons _ r _ rs ha hs =>
      refine .cons _ _ _ _ ?_ (FA2.rvs h hp hL h2 hs)
      rcases h1 with rfl | ⟨off, esz, len, cap, rfl, rfl, hle⟩ | ⟨c, c', rfl, rfl, h3⟩
      · exact ha.mono (le_frzB _ _ _)
      · exact rv_frz h hp hL ha hle
      · cases ha with
        | agg _ vals hv => exact .agg _ _ (h3.rvs h hp hL hv)
  | [], _ :: _, _, hf, _ => hf.elim
  | _ :: _, [], _, hf, _ => hf.elim
theorem FB.at {p : Nat} {cells : List PV} : ∀ {l l' : List (Option Blk)}, FB p cells l l' → l'.length = l.length ∧ ∀ k : Nat, (l'[k]? = l[k]?) ∨ ∃ c c', l[k]? = some (some (.own c)) ∧ l'[k]? = some (some (.own c')) ∧ FA p cells c c'
  | [], [], _ => ⟨rfl, fun _ => .inl rfl⟩
  | x :: xs, y :: ys, h => by
    obtain ⟨h1, h2⟩ := h
    obtain ⟨h3, h4⟩ := h2.at
    refine ⟨by simp [h3], fun k => ?_⟩
    cases k with
    | zero =>
      rcases h1 with rfl | ⟨c, c', rfl, rfl, h⟩
      · exact .inl rfl
      · exact .inr ⟨c, c', rfl, rfl, h⟩
    | succ k => simpa using h4 k
  | [], _ :: _, h => h.elim
  | _ :: _, [], h => h.elim

theorem Rel.frzC {b : PH} {l l' : List (Option Blk)} {ob : Nat → Option PObj} {ty : Nat → Option TypeId} {k : Nat} {cells : List PV} {L : Loc} (hr : Rel X G (H b l ob ty) w) (hk : l[k]? = some (some (.own cells))) (hL : G.l[b.n + k]? = some L) (h2 : FB (b.n + k) cells (l.set k none) l') :
    Rel X (G.frzB w L.b) (H b l' ob ty) w := by
  have hpk : (H b l ob ty).get (b.n + k) = some cells := by rw [h_get, hk]; rfl
  have hp := hr.frzB hpk hL
  rw [show (H b l ob ty).kill (b.n + k) = H b (l.set k none) ob ty from h_kill] at hp
  obtain ⟨h3, h4⟩ := h2.at
  have hgen : ∀ (p : Nat) (hp : ¬ p < b.n), ∃ k, p = b.n + k := fun p hp => ⟨p - b.n, by omega⟩
  have hget : ∀ p c', (H b l' ob ty).get p = some c' → ∃ c, (H b (l.set k none) ob ty).get p = some c := by
    intro p c' hc
    by_cases hpb : p < b.n
    · exact ⟨c', by rw [h_getlt hpb] at hc ⊢; exact hc⟩
    · obtain ⟨j, rfl⟩ := hgen p hpb
      rcases h4 j with h5 | ⟨c, d, h5, h6, h7⟩
      · exact ⟨c', by rw [h_get] at hc ⊢; rw [← h5]; exact hc⟩
      · exact ⟨c, by rw [h_get, h5]; rfl⟩
  refine ⟨by rw [hp.len]; simp [H, h3], hp.below, ?_, ?_, hp.fz, ?_, hp.ob, hp.ty, ?_⟩
  · intro p c' hc
    by_cases hpb : p < b.n
    · have hc2 : (H b (l.set k none) ob ty).get p = some c' := by rw [h_getlt hpb] at hc ⊢; exact hc
      exact hp.own p c' hc2
    · obtain ⟨j, rfl⟩ := hgen p hpb
      rcases h4 j with h5 | ⟨c, d, h5, h6, h7⟩
      · have hc2 : (H b (l.set k none) ob ty).get (b.n + j) = some c' := by rw [h_get] at hc ⊢; rw [← h5]; exact hc
        exact hp.own _ c' hc2
      · rw [h_get, h6] at hc
        cases hc
        have hjk : j ≠ k := by
          rintro rfl
          have hlt : j < l.length := (List.getElem?_eq_some_iff.1 hk).1
          rw [List.getElem?_set, if_pos rfl, if_pos hlt] at h5
          cases h5
        have hc0 : (H b l ob ty).get (b.n + j) = some c := by
          rw [h_get]; rw [List.getElem?_set, if_neg (Ne.symm hjk)] at h5; rw [h5]; rfl
        obtain ⟨M, vals, cs, e', fz, hM, o⟩ := hr.own _ c hc0
        exact ⟨M, vals, cs, e', fz, hM, ⟨h7.rvs hr hpk hL o.rv, o.lt, o.ge, o.hb, o.sz, o.fr, o.at_, o.one⟩⟩
  · intro p q c d L M hpq hp' hq hL hM
    obtain ⟨c0, hc0⟩ := hget p c hp'
    obtain ⟨d0, hd0⟩ := hget q d hq
    exact hp.disj p q _ _ L M hpq hc0 hd0 hL hM
  · intro a v p c L hv hp' hL
    obtain ⟨c0, hc0⟩ := hget p c hp'
    exact hp.fdisj a v p _ L hv hc0 hL
  · refine hp.grow.step rfl (Nat.le_refl _) (fun p r hr => ?_) (fun _ _ => rfl) (fun _ _ h => .inl h) fun q c L hc hL => by
      obtain ⟨c0, hc0⟩ := hget q c hc
      exact .inl ⟨c0, hc0, hL⟩
    by_cases hpb : p < b.n
    · rw [h_grolt hpb] at hr ⊢; exact hr
    · obtain ⟨j, rfl⟩ := hgen p hpb
      rw [h_gro] at hr ⊢
      rcases h4 j with h5 | ⟨c, d, h5, h6, h7⟩
      · rw [← h5]; exact hr
      · rw [h6] at hr; cases hr

/-- A call: block k is only read from now on. -/
theorem w_frzC {f : FuncId} {args args' : List PV} {K : PV → PH → Prop} {b : PH} {l l' : List (Option Blk)} {ob : Nat → Option PObj} {ty : Nat → Option TypeId} (k : Nat) (cells : List PV) (hk : l[k]? = some (some (.own cells))) (ha : FA2 (b.n + k) cells args args') (hb : FB (b.n + k) cells (l.set k none) l')
    (h : PCalls X f args' (H b l' ob ty) K) : PCalls X f args (H b l ob ty) K := by
  intro G w rargs hr hv
  have hpk : (H b l ob ty).get (b.n + k) = some cells := by rw [h_get, hk]; rfl
  obtain ⟨L, hL⟩ : ∃ L, G.l[b.n + k]? = some L := ⟨_, List.getElem?_eq_getElem (by rw [hr.lenN]; exact PH.get_lt hpk)⟩
  have hr' := hr.frzC hk hL hb
  have hv' := ha.rvs hr hpk hL hv
  have hn : (H b l' ob ty).n = (H b l ob ty).n := by rw [h_n, h_n, hb.at.1, List.length_set]
  have key : ∀ v w', CPost X (H b l' ob ty).n (G.frzB w L.b) K v w' → CPost X (H b l ob ty).n G K v w' := by
    rintro v w' ⟨G2, pv, ph', h1, h2, h3, h4, h5⟩
    rw [hn] at h1 h4
    exact ⟨G2, pv, ph', ((le_frzB G w L.b).n _).trans h1, h2, h3, h4, h5⟩
  rcases h _ w rargs hr' hv' with ⟨v, w', e, hc⟩ | ⟨w', e, hc⟩
  · exact .inl ⟨v, w', e, key _ _ hc⟩
  · refine .inr ⟨w', e, Calls.mono hc ?_⟩
    intro e w he
    cases e with
    | returned v => exact key _ _ he
    | _ => exact he

theorem FB.refl {p : Nat} {cells : List PV} : ∀ {l : List (Option Blk)}, FB p cells l l
  | [] => trivial
  | _ :: _ => ⟨.inl rfl, FB.refl⟩
theorem FB.set {p : Nat} {cells c c' : List PV} : ∀ {l : List (Option Blk)} {j : Nat}, l[j]? = some (some (.own c)) → FA p cells c c' → FB p cells l (l.set j (some (.own c')))
  | [], _, h, _ => by simp at h
  | x :: xs, 0, h, hf => by simp at h; subst h; exact ⟨.inr ⟨c, c', rfl, rfl, hf⟩, FB.refl⟩
  | x :: xs, j + 1, h, hf => by simp only [List.getElem?_cons_succ] at h; exact ⟨.inl rfl, FB.set h hf⟩

end Pv

namespace Pv
open Go Go.RowKit
theorem h_app {b : PH} {l m : List (Option Blk)} {ob ob' : Nat → Option PObj} {ty ty' : Nat → Option TypeId} : H (H b l ob ty) m ob' ty' = H b (l ++ m) ob' ty' := by simp [H]
/-- **A loop** whose base grows. -/
theorem w_loopJ {X : Ctx} {ph : PH} {ρ : Option Nat} {n0 : Nat} {Q : Exit → PSt → PH → Prop} {α : Type} {c : Code} {tm : List PV} {ms : List Nat} (ob : Nat → Option PObj) (ty : Nat → Option TypeId) (b : α → PH) (st : PH → α → List PV) (hl : α → List (Option Blk)) (Inv : α → Prop) (μ : α → Nat) (a0 : α) (h0 : Inv a0) (hn : ∀ a, Inv a → n0 ≤ (b a).n + (hl a).length)
    (hi : HTo (b a0) (hl a0) ob ty (st (b a0) a0) tm ph)
    (round : ∀ a, Inv a → ∀ B, B = b a → ∀ K : PSt → PH → Prop, (∀ a' tm ph', Inv a' → μ a' < μ a → HTo (b a') (hl a') ob ty (st (b a') a') tm ph' → K ⟨tm, ms⟩ ph') → vc X ρ n0 c (PExit.seq K Q) ⟨st B a, ms⟩ (H B (hl a) ob ty)) : vc X ρ n0 (.loop c) Q ⟨tm, ms⟩ ph := by
  show PWp X ρ n0 (.loop c) Q ⟨tm, ms⟩ ph
  refine PWp.weak (s' := ⟨st (b a0) a0, ms⟩) (ph' := H (b a0) (hl a0) ob ty) (hi.weak (hn _ h0)) rfl ?_
  refine pwp_loopN (I := fun j s' ph' => ∃ a, Inv a ∧ μ a = j ∧ HTo (b a) (hl a) ob ty (st (b a) a) s'.tm ph' ∧ s'.ms = ms) (μ a0) ⟨a0, h0, rfl, .same (by
    clear hi round
    generalize st (b a0) a0 = s
    induction s with
    | nil => trivial
    | cons p ps ih => exact ⟨.inr rfl, ih⟩), rfl⟩ ?_
  rintro j s' ph' ⟨a, hI, rfl, hT, hm⟩
  refine PWp.weak (s' := ⟨st (b a) a, ms⟩) (ph' := H (b a) (hl a) ob ty) (hT.weak (hn a hI)) hm.symm ?_
  refine vc_ok _ _ _ _ (round a hI _ rfl _ ?_)
  intro a' tm' ph' h1 h2 h3
  exact ⟨μ a', h2, a', h1, rfl, h3, rfl⟩

end Pv

--nosplit
--keep2
namespace Pv
set_option maxRecDepth 20000
set_option maxHeartbeats 4000000
open Go Go.Proofs Go.RowKit
variable {w0 : World}

end Pv
