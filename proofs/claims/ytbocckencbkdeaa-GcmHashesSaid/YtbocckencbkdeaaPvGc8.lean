/- Part of the proof: the layer of pure values, or walks through functions (PvGc8). -/
import Derived.Test.YtbocckencbkdeaaPvGc7
import Derived.Test.YtbocckencbkdeaaPvGc5
import Derived.Test.YtbocckencbkdeaaPvAe6
set_option linter.all false
namespace Pv
set_option maxRecDepth 20000
set_option maxHeartbeats 4000000
open Go Go.Proofs Go.RowKit
variable {w0 : World}

theorem short9_ok (L : List (List UInt8)) (hL : L.length < 2 ^ 40) : Fn (Cx w0) 8 [.fsl 1 L.length (L.map PV.str)] (.bool (L.all fun s => decide (s.length ≤ 1000))) := by
  refine fn_H ([Go.ResultVar.tmp 2]) Try.func8 rfl rfl (by decide) fun ph hW Q hQ => ?_
  simp only [start, List.length_cons, List.length_nil, List.cons_append, List.nil_append, Nat.reduceAdd, Nat.reduceSub, List.replicate_succ, List.replicate_zero, Try.ntmps8]
  repeat' first
    | simp -implicitDefEqProofs (maxSteps := 400000) (disch := first | with_reducible rfl | omega | (simp only [h_n, PH.n_push, PH.n_put, List.length_cons, List.length_nil] <;> omega) | decide) only [wkAll, wkL, popO, wantedP, if_true, if_false, reduceIte, ne_eq, Nat.reduceAdd, Nat.reduceSub, Nat.reduceMul, Nat.reduceLeDiff, Nat.reduceLT, ofCells, ofCell, reduceCtorEq, Int.reduceLE, Int.reduceLT, Int.reduceToNat, Int.reduceAdd, Int.reduceSub, Int.reduceMul, Int.reduceNeg, Int.reduceBEq, Int.reduceBNe, Int.reduceEq, eqCell, eqCells, binP, unP, convP, lenP, builtinP, sliceDataP, unsafeStringP, appendT, appendS, appendP, copyP, srcP, mmsP, mmP, indexOp, indexAddrOp, sliceOp, bndsP, bndP, capw, capCut, loadOp, storeOp, loadP, fieldOp, fieldAddrOp, arrayAtOp, buildP, buildSliceP, makeSliceP, placeF, fillP, setL, PK.agg, isZero, gt_iff_lt, Nat.reducePow, Nat.reduceGT, reps, seg, wkN, if_pos, if_neg, tf3, Try.ze3, tf9, Try.ze9, tf38, Try.ze38]
    | refine w_dec (fun _ => ?_) (fun _ => ?_)
    | refine w_eqc (fun _ => ?_) (fun _ => ?_)
    | refine w_neqc (fun _ => ?_) (fun _ => ?_)
    | refine w_nneqc (fun _ => ?_) (fun _ => ?_)
    | ((first | refine w_split (fun h => ?_) (fun h => ?_) | refine d_split (fun h => ?_) (fun h => ?_) | refine w_csplit (fun h => ?_) (fun h => ?_)) <;> (try simp only [wkS] at h) <;> (have h2 := h) <;> (try simp only [wkT, ne_eq] at h2) <;> (try simp only [h]))
  refine w_loopH (α := Nat) ph ph.ob ph.ty (fun i => [.undef, .undef, .undef, .undef, .undef, .fsl 1 L.length (L.map PV.str), .int .i64 L.length, .int .i64 i, .undef, .undef, .undef, .undef, .undef, .undef, .undef]) (fun _ => []) (fun i => i ≤ L.length ∧ (L.take i).all (fun s => decide (s.length ≤ 1000)) = true) (fun i => L.length - i) 0 (by simp) (fun _ _ => by simp) (.eq (by simp [FadeTo]) rfl) ?_
  rintro i ⟨hi, hok⟩ K hK
  rcases Nat.lt_or_ge i L.length with hlt | hge
  · have hlt' : (i : Int) < (L.length : Int) := by omega
    obtain ⟨s, hs⟩ := get_someW hlt
    have cs : (L.map PV.str)[i]? = some (.str s) := by rw [List.getElem?_map, hs]; rfl
    by_cases h5 : s.length ≤ 1000
    · have q : ¬ (1000 : Int) < (s.length : Int) := by omega
      repeat' first
        | simp -implicitDefEqProofs (maxSteps := 400000) (disch := first | with_reducible rfl | omega | (simp only [h_n, PH.n_push, PH.n_put, List.length_cons, List.length_nil] <;> omega) | decide) only [wkAll, wkL, popO, wantedP, if_true, if_false, reduceIte, ne_eq, Nat.reduceAdd, Nat.reduceSub, Nat.reduceMul, Nat.reduceLeDiff, Nat.reduceLT, ofCells, ofCell, reduceCtorEq, Int.reduceLE, Int.reduceLT, Int.reduceToNat, Int.reduceAdd, Int.reduceSub, Int.reduceMul, Int.reduceNeg, Int.reduceBEq, Int.reduceBNe, Int.reduceEq, eqCell, eqCells, binP, unP, convP, lenP, builtinP, sliceDataP, unsafeStringP, appendT, appendS, appendP, copyP, srcP, mmsP, mmP, indexOp, indexAddrOp, sliceOp, bndsP, bndP, capw, capCut, loadOp, storeOp, loadP, fieldOp, fieldAddrOp, arrayAtOp, buildP, buildSliceP, makeSliceP, placeF, fillP, setL, PK.agg, isZero, gt_iff_lt, Nat.reducePow, Nat.reduceGT, reps, seg, wkN, if_pos, if_neg, tf3, Try.ze3, tf9, Try.ze9, tf38, Try.ze38, hlt', List.getElem?_drop, cs, q]
        | refine w_dec (fun _ => ?_) (fun _ => ?_)
        | refine w_eqc (fun _ => ?_) (fun _ => ?_)
        | refine w_neqc (fun _ => ?_) (fun _ => ?_)
        | refine w_nneqc (fun _ => ?_) (fun _ => ?_)
        | ((first | refine w_split (fun h => ?_) (fun h => ?_) | refine d_split (fun h => ?_) (fun h => ?_) | refine w_csplit (fun h => ?_) (fun h => ?_)) <;> (try simp only [wkS] at h) <;> (have h2 := h) <;> (try simp only [wkT, ne_eq] at h2) <;> (try simp only [h]))
      refine hK (i + 1) _ _ ⟨by omega, ?_⟩ (by omega) (.eq (by simp [FadeTo]) rfl)
      rw [take_next hs, List.all_append, hok]; simp [h5]
    · have q : (1000 : Int) < (s.length : Int) := by omega
      have hf : (L.all fun s => decide (s.length ≤ 1000)) = false := by rw [List.all_eq_false]; exact ⟨s, List.mem_of_getElem? hs, by simp; omega⟩
      rw [hf] at hQ
      repeat' first
        | simp -implicitDefEqProofs (maxSteps := 400000) (disch := first | with_reducible rfl | omega | (simp only [h_n, PH.n_push, PH.n_put, List.length_cons, List.length_nil] <;> omega) | decide) only [wkAll, wkL, popO, wantedP, if_true, if_false, reduceIte, ne_eq, Nat.reduceAdd, Nat.reduceSub, Nat.reduceMul, Nat.reduceLeDiff, Nat.reduceLT, ofCells, ofCell, reduceCtorEq, Int.reduceLE, Int.reduceLT, Int.reduceToNat, Int.reduceAdd, Int.reduceSub, Int.reduceMul, Int.reduceNeg, Int.reduceBEq, Int.reduceBNe, Int.reduceEq, eqCell, eqCells, binP, unP, convP, lenP, builtinP, sliceDataP, unsafeStringP, appendT, appendS, appendP, copyP, srcP, mmsP, mmP, indexOp, indexAddrOp, sliceOp, bndsP, bndP, capw, capCut, loadOp, storeOp, loadP, fieldOp, fieldAddrOp, arrayAtOp, buildP, buildSliceP, makeSliceP, placeF, fillP, setL, PK.agg, isZero, gt_iff_lt, Nat.reducePow, Nat.reduceGT, reps, seg, wkN, if_pos, if_neg, tf3, Try.ze3, tf9, Try.ze9, tf38, Try.ze38, hlt', List.getElem?_drop, cs, q]
        | refine w_dec (fun _ => ?_) (fun _ => ?_)
        | refine w_eqc (fun _ => ?_) (fun _ => ?_)
        | refine w_neqc (fun _ => ?_) (fun _ => ?_)
        | refine w_nneqc (fun _ => ?_) (fun _ => ?_)
        | ((first | refine w_split (fun h => ?_) (fun h => ?_) | refine d_split (fun h => ?_) (fun h => ?_) | refine w_csplit (fun h => ?_) (fun h => ?_)) <;> (try simp only [wkS] at h) <;> (have h2 := h) <;> (try simp only [wkT, ne_eq] at h2) <;> (try simp only [h]))
      refine hQ (by first | exact .inr rfl | exact .inl rfl) (by first | exact trivial | exact marks1) (by first | (simp -implicitDefEqProofs (maxSteps := 400000) (disch := first | with_reducible rfl | omega | (simp only [h_n, PH.n_push, PH.n_put, List.length_cons, List.length_nil] <;> omega) | decide) only [wkAll, wkL, popO, wantedP, if_true, if_false, reduceIte, ne_eq, Nat.reduceAdd, Nat.reduceSub, Nat.reduceMul, Nat.reduceLeDiff, Nat.reduceLT, ofCells, ofCell, reduceCtorEq, Int.reduceLE, Int.reduceLT, Int.reduceToNat, Int.reduceAdd, Int.reduceSub, Int.reduceMul, Int.reduceNeg, Int.reduceBEq, Int.reduceBNe, Int.reduceEq, eqCell, eqCells, binP, unP, convP, lenP, builtinP, sliceDataP, unsafeStringP, appendT, appendS, appendP, copyP, srcP, mmsP, mmP, indexOp, indexAddrOp, sliceOp, bndsP, bndP, capw, capCut, loadOp, storeOp, loadP, fieldOp, fieldAddrOp, arrayAtOp, buildP, buildSliceP, makeSliceP, placeF, fillP, setL, PK.agg, isZero, gt_iff_lt, Nat.reducePow, Nat.reduceGT, reps, seg, wkN, if_pos, if_neg, tf3, Try.ze3, tf9, Try.ze9, tf38, Try.ze38, resP, resPs, resP1]; rfl) | rfl) ⟨6, by repeat' first | exact frz_scalar rfl | apply frz_tuple | apply frz_agg | apply frz_fsl | apply frz_gsl (by omega) | exact frzs_nil | apply frzs_cons⟩ (by first | exact keepsH0 | exact keeps1 (by assumption) | exact keepsH (fun _ _ h => h) (fun p hp => by simp only [upF]; (repeat rw [if_neg (by omega)])) | exact keeps1t (by assumption) (fun p hp => by simp only [upF]; (repeat rw [if_neg (by omega)])) | (subst hT; exact keepsH (fun _ _ h => h) fun _ _ => rfl)) (nw_eq ?_)
      rfl
  · have hge' : ¬ (i : Int) < (L.length : Int) := by omega
    rw [List.take_of_length_le hge] at hok
    rw [hok] at hQ
    repeat' first
      | simp -implicitDefEqProofs (maxSteps := 400000) (disch := first | with_reducible rfl | omega | (simp only [h_n, PH.n_push, PH.n_put, List.length_cons, List.length_nil] <;> omega) | decide) only [wkAll, wkL, popO, wantedP, if_true, if_false, reduceIte, ne_eq, Nat.reduceAdd, Nat.reduceSub, Nat.reduceMul, Nat.reduceLeDiff, Nat.reduceLT, ofCells, ofCell, reduceCtorEq, Int.reduceLE, Int.reduceLT, Int.reduceToNat, Int.reduceAdd, Int.reduceSub, Int.reduceMul, Int.reduceNeg, Int.reduceBEq, Int.reduceBNe, Int.reduceEq, eqCell, eqCells, binP, unP, convP, lenP, builtinP, sliceDataP, unsafeStringP, appendT, appendS, appendP, copyP, srcP, mmsP, mmP, indexOp, indexAddrOp, sliceOp, bndsP, bndP, capw, capCut, loadOp, storeOp, loadP, fieldOp, fieldAddrOp, arrayAtOp, buildP, buildSliceP, makeSliceP, placeF, fillP, setL, PK.agg, isZero, gt_iff_lt, Nat.reducePow, Nat.reduceGT, reps, seg, wkN, if_pos, if_neg, tf3, Try.ze3, tf9, Try.ze9, tf38, Try.ze38, hge']
      | refine w_dec (fun _ => ?_) (fun _ => ?_)
      | refine w_eqc (fun _ => ?_) (fun _ => ?_)
      | refine w_neqc (fun _ => ?_) (fun _ => ?_)
      | refine w_nneqc (fun _ => ?_) (fun _ => ?_)
      | ((first | refine w_split (fun h => ?_) (fun h => ?_) | refine d_split (fun h => ?_) (fun h => ?_) | refine w_csplit (fun h => ?_) (fun h => ?_)) <;> (try simp only [wkS] at h) <;> (have h2 := h) <;> (try simp only [wkT, ne_eq] at h2) <;> (try simp only [h]))
    refine hQ (by first | exact .inr rfl | exact .inl rfl) (by first | exact trivial | exact marks1) (by first | (simp -implicitDefEqProofs (maxSteps := 400000) (disch := first | with_reducible rfl | omega | (simp only [h_n, PH.n_push, PH.n_put, List.length_cons, List.length_nil] <;> omega) | decide) only [wkAll, wkL, popO, wantedP, if_true, if_false, reduceIte, ne_eq, Nat.reduceAdd, Nat.reduceSub, Nat.reduceMul, Nat.reduceLeDiff, Nat.reduceLT, ofCells, ofCell, reduceCtorEq, Int.reduceLE, Int.reduceLT, Int.reduceToNat, Int.reduceAdd, Int.reduceSub, Int.reduceMul, Int.reduceNeg, Int.reduceBEq, Int.reduceBNe, Int.reduceEq, eqCell, eqCells, binP, unP, convP, lenP, builtinP, sliceDataP, unsafeStringP, appendT, appendS, appendP, copyP, srcP, mmsP, mmP, indexOp, indexAddrOp, sliceOp, bndsP, bndP, capw, capCut, loadOp, storeOp, loadP, fieldOp, fieldAddrOp, arrayAtOp, buildP, buildSliceP, makeSliceP, placeF, fillP, setL, PK.agg, isZero, gt_iff_lt, Nat.reducePow, Nat.reduceGT, reps, seg, wkN, if_pos, if_neg, tf3, Try.ze3, tf9, Try.ze9, tf38, Try.ze38, resP, resPs, resP1]; rfl) | rfl) ⟨6, by repeat' first | exact frz_scalar rfl | apply frz_tuple | apply frz_agg | apply frz_fsl | apply frz_gsl (by omega) | exact frzs_nil | apply frzs_cons⟩ (by first | exact keepsH0 | exact keeps1 (by assumption) | exact keepsH (fun _ _ h => h) (fun p hp => by simp only [upF]; (repeat rw [if_neg (by omega)])) | exact keeps1t (by assumption) (fun p hp => by simp only [upF]; (repeat rw [if_neg (by omega)])) | (subst hT; exact keepsH (fun _ _ h => h) fun _ _ => rfl)) (nw_eq ?_)
    rfl
theorem awake09_ok : Fn (Cx w0) 9 [] (.bool true) := by
  have s1 := gcSeal_ok (w0 := w0) awZ awN [] [] (by decide)
  have s2 := gcSeal_ok (w0 := w0) awZ awN [] awZ (by decide)
  rw [awX1] at s1
  obtain ⟨t, ht, hl, h4⟩ := awX2
  rw [ht] at s2
  rw [show awN = awZ.take 12 from rfl] at s1 s2
  refine fn_H ([Go.ResultVar.tmp 0]) Try.func9 rfl rfl (by decide) fun ph hW Q hQ => ?_
  simp only [start, List.length_cons, List.length_nil, List.cons_append, List.nil_append, Nat.reduceAdd, Nat.reduceSub, List.replicate_succ, List.replicate_zero, Try.ntmps9]
  repeat' first
    | simp -implicitDefEqProofs (maxSteps := 400000) (disch := first | with_reducible rfl | omega | (simp only [h_n, PH.n_push, PH.n_put, List.length_cons, List.length_nil] <;> omega) | decide) only [wkAll, wkL, popO, wantedP, if_true, if_false, reduceIte, ne_eq, Nat.reduceAdd, Nat.reduceSub, Nat.reduceMul, Nat.reduceLeDiff, Nat.reduceLT, ofCells, ofCell, reduceCtorEq, Int.reduceLE, Int.reduceLT, Int.reduceToNat, Int.reduceAdd, Int.reduceSub, Int.reduceMul, Int.reduceNeg, Int.reduceBEq, Int.reduceBNe, Int.reduceEq, eqCell, eqCells, binP, unP, convP, lenP, builtinP, sliceDataP, unsafeStringP, appendT, appendS, appendP, copyP, srcP, mmsP, mmP, indexOp, indexAddrOp, sliceOp, bndsP, bndP, capw, capCut, loadOp, storeOp, loadP, fieldOp, fieldAddrOp, arrayAtOp, buildP, buildSliceP, makeSliceP, placeF, fillP, setL, PK.agg, isZero, gt_iff_lt, Nat.reducePow, Nat.reduceGT, reps, seg, wkN, if_pos, if_neg, tf3, Try.ze3, tf9, Try.ze9, tf24, Try.ze24]
    | refine w_dec (fun _ => ?_) (fun _ => ?_)
    | refine w_eqc (fun _ => ?_) (fun _ => ?_)
    | refine w_neqc (fun _ => ?_) (fun _ => ?_)
    | refine w_nneqc (fun _ => ?_) (fun _ => ?_)
    | ((first | refine w_split (fun h => ?_) (fun h => ?_) | refine d_split (fun h => ?_) (fun h => ?_) | refine w_csplit (fun h => ?_) (fun h => ?_)) <;> (try simp only [wkS] at h) <;> (have h2 := h) <;> (try simp only [wkT, ne_eq] at h2) <;> (try simp only [h]))
  refine w_pure s1 ?_
  repeat' first
    | simp -implicitDefEqProofs (maxSteps := 400000) (disch := first | with_reducible rfl | omega | (simp only [h_n, PH.n_push, PH.n_put, List.length_cons, List.length_nil] <;> omega) | decide) only [wkAll, wkL, popO, wantedP, if_true, if_false, reduceIte, ne_eq, Nat.reduceAdd, Nat.reduceSub, Nat.reduceMul, Nat.reduceLeDiff, Nat.reduceLT, ofCells, ofCell, reduceCtorEq, Int.reduceLE, Int.reduceLT, Int.reduceToNat, Int.reduceAdd, Int.reduceSub, Int.reduceMul, Int.reduceNeg, Int.reduceBEq, Int.reduceBNe, Int.reduceEq, eqCell, eqCells, binP, unP, convP, lenP, builtinP, sliceDataP, unsafeStringP, appendT, appendS, appendP, copyP, srcP, mmsP, mmP, indexOp, indexAddrOp, sliceOp, bndsP, bndP, capw, capCut, loadOp, storeOp, loadP, fieldOp, fieldAddrOp, arrayAtOp, buildP, buildSliceP, makeSliceP, placeF, fillP, setL, PK.agg, isZero, gt_iff_lt, Nat.reducePow, Nat.reduceGT, reps, seg, wkN, if_pos, if_neg, tf3, Try.ze3, tf9, Try.ze9, tf24, Try.ze24]
    | refine w_dec (fun _ => ?_) (fun _ => ?_)
    | refine w_eqc (fun _ => ?_) (fun _ => ?_)
    | refine w_neqc (fun _ => ?_) (fun _ => ?_)
    | refine w_nneqc (fun _ => ?_) (fun _ => ?_)
    | ((first | refine w_split (fun h => ?_) (fun h => ?_) | refine d_split (fun h => ?_) (fun h => ?_) | refine w_csplit (fun h => ?_) (fun h => ?_)) <;> (try simp only [wkS] at h) <;> (have h2 := h) <;> (try simp only [wkT, ne_eq] at h2) <;> (try simp only [h]))
  refine w_pure s2 ?_
  have h5 : (32 : Int) = ((32 : Nat) : Int) := rfl
  repeat' first
    | simp -implicitDefEqProofs (maxSteps := 400000) (disch := first | with_reducible rfl | omega | (simp only [h_n, PH.n_push, PH.n_put, List.length_cons, List.length_nil] <;> omega) | decide) only [wkAll, wkL, popO, wantedP, if_true, if_false, reduceIte, ne_eq, Nat.reduceAdd, Nat.reduceSub, Nat.reduceMul, Nat.reduceLeDiff, Nat.reduceLT, ofCells, ofCell, reduceCtorEq, Int.reduceLE, Int.reduceLT, Int.reduceToNat, Int.reduceAdd, Int.reduceSub, Int.reduceMul, Int.reduceNeg, Int.reduceBEq, Int.reduceBNe, Int.reduceEq, eqCell, eqCells, binP, unP, convP, lenP, builtinP, sliceDataP, unsafeStringP, appendT, appendS, appendP, copyP, srcP, mmsP, mmP, indexOp, indexAddrOp, sliceOp, bndsP, bndP, capw, capCut, loadOp, storeOp, loadP, fieldOp, fieldAddrOp, arrayAtOp, buildP, buildSliceP, makeSliceP, placeF, fillP, setL, PK.agg, isZero, gt_iff_lt, Nat.reducePow, Nat.reduceGT, reps, seg, wkN, if_pos, if_neg, tf3, Try.ze3, tf9, Try.ze9, tf24, Try.ze24, hl, h4]
    | refine w_dec (fun _ => ?_) (fun _ => ?_)
    | refine w_eqc (fun _ => ?_) (fun _ => ?_)
    | refine w_neqc (fun _ => ?_) (fun _ => ?_)
    | refine w_nneqc (fun _ => ?_) (fun _ => ?_)
    | ((first | refine w_split (fun h => ?_) (fun h => ?_) | refine d_split (fun h => ?_) (fun h => ?_) | refine w_csplit (fun h => ?_) (fun h => ?_)) <;> (try simp only [wkS] at h) <;> (have h2 := h) <;> (try simp only [wkT, ne_eq] at h2) <;> (try simp only [h]))
  refine hQ (by first | exact .inr rfl | exact .inl rfl) (by first | exact trivial | exact marks1) (by first | (simp -implicitDefEqProofs (maxSteps := 400000) (disch := first | with_reducible rfl | omega | (simp only [h_n, PH.n_push, PH.n_put, List.length_cons, List.length_nil] <;> omega) | decide) only [wkAll, wkL, popO, wantedP, if_true, if_false, reduceIte, ne_eq, Nat.reduceAdd, Nat.reduceSub, Nat.reduceMul, Nat.reduceLeDiff, Nat.reduceLT, ofCells, ofCell, reduceCtorEq, Int.reduceLE, Int.reduceLT, Int.reduceToNat, Int.reduceAdd, Int.reduceSub, Int.reduceMul, Int.reduceNeg, Int.reduceBEq, Int.reduceBNe, Int.reduceEq, eqCell, eqCells, binP, unP, convP, lenP, builtinP, sliceDataP, unsafeStringP, appendT, appendS, appendP, copyP, srcP, mmsP, mmP, indexOp, indexAddrOp, sliceOp, bndsP, bndP, capw, capCut, loadOp, storeOp, loadP, fieldOp, fieldAddrOp, arrayAtOp, buildP, buildSliceP, makeSliceP, placeF, fillP, setL, PK.agg, isZero, gt_iff_lt, Nat.reducePow, Nat.reduceGT, reps, seg, wkN, if_pos, if_neg, tf3, Try.ze3, tf9, Try.ze9, tf24, Try.ze24, resP, resPs, resP1]; rfl) | rfl) ⟨6, by repeat' first | exact frz_scalar rfl | apply frz_tuple | apply frz_agg | apply frz_fsl | apply frz_gsl (by omega) | exact frzs_nil | apply frzs_cons⟩ (by first | exact keepsH0 | exact keeps1 (by assumption) | exact keepsH (fun _ _ h => h) (fun p hp => by simp only [upF]; (repeat rw [if_neg (by omega)])) | exact keeps1t (by assumption) (fun p hp => by simp only [upF]; (repeat rw [if_neg (by omega)])) | (subst hT; exact keepsH (fun _ _ h => h) fun _ _ => rfl)) (nw_eq ?_)
  rfl
theorem short9_3 {a b c : List UInt8} (h : ([a, b, c].all fun s => decide (s.length ≤ 1000)) = true) : a.length ≤ 1000 ∧ b.length ≤ 1000 ∧ c.length ≤ 1000 := by simpa using h
theorem GcmHashes_ok (W : World) (a : List UInt8) (ha : a.length < 2 ^ 47) (b : List UInt8) (hb : b.length < 2 ^ 47) (c : List UInt8) (hc : c.length < 2 ^ 47) : Fn (Cx W) 3 [.str a, .str b, .str c] (.bool true) := by
  have aw := awake09_ok (w0 := W)
  have hsh := short9_ok (w0 := W) [a, b, c] (by simp)
  cases hv : [a, b, c].all fun s => decide (s.length ≤ 1000)
  · rw [hv] at hsh
    refine fn_H ([Go.ResultVar.tmp 6]) Try.func3 rfl rfl (by decide) fun ph hW Q hQ => ?_
    simp only [start, List.length_cons, List.length_nil, List.cons_append, List.nil_append, Nat.reduceAdd, Nat.reduceSub, List.replicate_succ, List.replicate_zero, Try.ntmps3]
    repeat' first
      | simp -implicitDefEqProofs (maxSteps := 400000) (disch := first | with_reducible rfl | omega | (simp only [h_n, PH.n_push, PH.n_put, List.length_cons, List.length_nil] <;> omega) | decide) only [wkAll, wkL, popO, wantedP, if_true, if_false, reduceIte, ne_eq, Nat.reduceAdd, Nat.reduceSub, Nat.reduceMul, Nat.reduceLeDiff, Nat.reduceLT, ofCells, ofCell, reduceCtorEq, Int.reduceLE, Int.reduceLT, Int.reduceToNat, Int.reduceAdd, Int.reduceSub, Int.reduceMul, Int.reduceNeg, Int.reduceBEq, Int.reduceBNe, Int.reduceEq, eqCell, eqCells, binP, unP, convP, lenP, builtinP, sliceDataP, unsafeStringP, appendT, appendS, appendP, copyP, srcP, mmsP, mmP, indexOp, indexAddrOp, sliceOp, bndsP, bndP, capw, capCut, loadOp, storeOp, loadP, fieldOp, fieldAddrOp, arrayAtOp, buildP, buildSliceP, makeSliceP, placeF, fillP, setL, PK.agg, isZero, gt_iff_lt, Nat.reducePow, Nat.reduceGT, reps, seg, wkN, if_pos, if_neg, tf3, Try.ze3, tf4, Try.ze4, tf9, Try.ze9, tf38, Try.ze38]
      | refine w_dec (fun _ => ?_) (fun _ => ?_)
      | refine w_eqc (fun _ => ?_) (fun _ => ?_)
      | refine w_neqc (fun _ => ?_) (fun _ => ?_)
      | refine w_nneqc (fun _ => ?_) (fun _ => ?_)
      | ((first | refine w_split (fun h => ?_) (fun h => ?_) | refine d_split (fun h => ?_) (fun h => ?_) | refine w_csplit (fun h => ?_) (fun h => ?_)) <;> (try simp only [wkS] at h) <;> (have h2 := h) <;> (try simp only [wkT, ne_eq] at h2) <;> (try simp only [h]))
    refine w_frz (p := ph.n) (cells := [.str a, .str b, .str c]) (args' := [.fsl 1 3 [.str a, .str b, .str c]]) (by rw [h_get0]; rfl) ⟨.inr ⟨0, 1, 3, some 3, rfl, rfl, by simp⟩, trivial⟩ ?_
    refine w_pure hsh ?_
    repeat' first
      | simp -implicitDefEqProofs (maxSteps := 400000) (disch := first | with_reducible rfl | omega | (simp only [h_n, PH.n_push, PH.n_put, List.length_cons, List.length_nil] <;> omega) | decide) only [wkAll, wkL, popO, wantedP, if_true, if_false, reduceIte, ne_eq, Nat.reduceAdd, Nat.reduceSub, Nat.reduceMul, Nat.reduceLeDiff, Nat.reduceLT, ofCells, ofCell, reduceCtorEq, Int.reduceLE, Int.reduceLT, Int.reduceToNat, Int.reduceAdd, Int.reduceSub, Int.reduceMul, Int.reduceNeg, Int.reduceBEq, Int.reduceBNe, Int.reduceEq, eqCell, eqCells, binP, unP, convP, lenP, builtinP, sliceDataP, unsafeStringP, appendT, appendS, appendP, copyP, srcP, mmsP, mmP, indexOp, indexAddrOp, sliceOp, bndsP, bndP, capw, capCut, loadOp, storeOp, loadP, fieldOp, fieldAddrOp, arrayAtOp, buildP, buildSliceP, makeSliceP, placeF, fillP, setL, PK.agg, isZero, gt_iff_lt, Nat.reducePow, Nat.reduceGT, reps, seg, wkN, if_pos, if_neg, tf3, Try.ze3, tf4, Try.ze4, tf9, Try.ze9, tf38, Try.ze38]
      | refine w_pure (aw) ?_
      | refine w_dec (fun _ => ?_) (fun _ => ?_)
      | refine w_eqc (fun _ => ?_) (fun _ => ?_)
      | refine w_neqc (fun _ => ?_) (fun _ => ?_)
      | refine w_nneqc (fun _ => ?_) (fun _ => ?_)
      | ((first | refine w_split (fun h => ?_) (fun h => ?_) | refine d_split (fun h => ?_) (fun h => ?_) | refine w_csplit (fun h => ?_) (fun h => ?_)) <;> (try simp only [wkS] at h) <;> (have h2 := h) <;> (try simp only [wkT, ne_eq] at h2) <;> (try simp only [h]))
    refine hQ (by first | exact .inr rfl | exact .inl rfl) (by first | exact trivial | exact marks1) (by first | (simp -implicitDefEqProofs (maxSteps := 400000) (disch := first | with_reducible rfl | omega | (simp only [h_n, PH.n_push, PH.n_put, List.length_cons, List.length_nil] <;> omega) | decide) only [wkAll, wkL, popO, wantedP, if_true, if_false, reduceIte, ne_eq, Nat.reduceAdd, Nat.reduceSub, Nat.reduceMul, Nat.reduceLeDiff, Nat.reduceLT, ofCells, ofCell, reduceCtorEq, Int.reduceLE, Int.reduceLT, Int.reduceToNat, Int.reduceAdd, Int.reduceSub, Int.reduceMul, Int.reduceNeg, Int.reduceBEq, Int.reduceBNe, Int.reduceEq, eqCell, eqCells, binP, unP, convP, lenP, builtinP, sliceDataP, unsafeStringP, appendT, appendS, appendP, copyP, srcP, mmsP, mmP, indexOp, indexAddrOp, sliceOp, bndsP, bndP, capw, capCut, loadOp, storeOp, loadP, fieldOp, fieldAddrOp, arrayAtOp, buildP, buildSliceP, makeSliceP, placeF, fillP, setL, PK.agg, isZero, gt_iff_lt, Nat.reducePow, Nat.reduceGT, reps, seg, wkN, if_pos, if_neg, tf3, Try.ze3, tf4, Try.ze4, tf9, Try.ze9, tf38, Try.ze38, resP, resPs, resP1]; rfl) | rfl) ⟨6, by repeat' first | exact frz_scalar rfl | apply frz_tuple | apply frz_agg | apply frz_fsl | apply frz_gsl (by omega) | exact frzs_nil | apply frzs_cons⟩ (by first | exact keepsH0 | exact keeps1 (by assumption) | exact keepsH (fun _ _ h => h) (fun p hp => by simp only [upF]; (repeat rw [if_neg (by omega)])) | exact keeps1t (by assumption) (fun p hp => by simp only [upF]; (repeat rw [if_neg (by omega)])) | (subst hT; exact keepsH (fun _ _ h => h) fun _ _ => rfl)) (nw_eq ?_)
    rfl
  · rw [hv] at hsh
    have hl := short9_3 hv
    have t1 := gcmTimes_ok (w0 := W) a b
    have t2 := refTimesS_ok (w0 := W) a b
    have e1 := gcmHash_ok (w0 := W) a b c (by omega) (by omega)
    have e2 := refHash_ok (w0 := W) a b c (by omega) (by omega)
    generalize gtR a b = r at *
    obtain ⟨u, e⟩ := r
    generalize ghashR a b c = r at *
    obtain ⟨v, f⟩ := r
    refine fn_H ([Go.ResultVar.tmp 6]) Try.func3 rfl rfl (by decide) fun ph hW Q hQ => ?_
    simp only [start, List.length_cons, List.length_nil, List.cons_append, List.nil_append, Nat.reduceAdd, Nat.reduceSub, List.replicate_succ, List.replicate_zero, Try.ntmps3]
    repeat' first
      | simp -implicitDefEqProofs (maxSteps := 400000) (disch := first | with_reducible rfl | omega | (simp only [h_n, PH.n_push, PH.n_put, List.length_cons, List.length_nil] <;> omega) | decide) only [wkAll, wkL, popO, wantedP, if_true, if_false, reduceIte, ne_eq, Nat.reduceAdd, Nat.reduceSub, Nat.reduceMul, Nat.reduceLeDiff, Nat.reduceLT, ofCells, ofCell, reduceCtorEq, Int.reduceLE, Int.reduceLT, Int.reduceToNat, Int.reduceAdd, Int.reduceSub, Int.reduceMul, Int.reduceNeg, Int.reduceBEq, Int.reduceBNe, Int.reduceEq, eqCell, eqCells, binP, unP, convP, lenP, builtinP, sliceDataP, unsafeStringP, appendT, appendS, appendP, copyP, srcP, mmsP, mmP, indexOp, indexAddrOp, sliceOp, bndsP, bndP, capw, capCut, loadOp, storeOp, loadP, fieldOp, fieldAddrOp, arrayAtOp, buildP, buildSliceP, makeSliceP, placeF, fillP, setL, PK.agg, isZero, gt_iff_lt, Nat.reducePow, Nat.reduceGT, reps, seg, wkN, if_pos, if_neg, tf3, Try.ze3, tf4, Try.ze4, tf9, Try.ze9, tf38, Try.ze38]
      | refine w_dec (fun _ => ?_) (fun _ => ?_)
      | refine w_eqc (fun _ => ?_) (fun _ => ?_)
      | refine w_neqc (fun _ => ?_) (fun _ => ?_)
      | refine w_nneqc (fun _ => ?_) (fun _ => ?_)
      | ((first | refine w_split (fun h => ?_) (fun h => ?_) | refine d_split (fun h => ?_) (fun h => ?_) | refine w_csplit (fun h => ?_) (fun h => ?_)) <;> (try simp only [wkS] at h) <;> (have h2 := h) <;> (try simp only [wkT, ne_eq] at h2) <;> (try simp only [h]))
    refine w_frz (p := ph.n) (cells := [.str a, .str b, .str c]) (args' := [.fsl 1 3 [.str a, .str b, .str c]]) (by rw [h_get0]; rfl) ⟨.inr ⟨0, 1, 3, some 3, rfl, rfl, by simp⟩, trivial⟩ ?_
    refine w_pure hsh ?_
    repeat' first
      | simp -implicitDefEqProofs (maxSteps := 400000) (disch := first | with_reducible rfl | omega | (simp only [h_n, PH.n_push, PH.n_put, List.length_cons, List.length_nil] <;> omega) | decide) only [wkAll, wkL, popO, wantedP, if_true, if_false, reduceIte, ne_eq, Nat.reduceAdd, Nat.reduceSub, Nat.reduceMul, Nat.reduceLeDiff, Nat.reduceLT, ofCells, ofCell, reduceCtorEq, Int.reduceLE, Int.reduceLT, Int.reduceToNat, Int.reduceAdd, Int.reduceSub, Int.reduceMul, Int.reduceNeg, Int.reduceBEq, Int.reduceBNe, Int.reduceEq, eqCell, eqCells, binP, unP, convP, lenP, builtinP, sliceDataP, unsafeStringP, appendT, appendS, appendP, copyP, srcP, mmsP, mmP, indexOp, indexAddrOp, sliceOp, bndsP, bndP, capw, capCut, loadOp, storeOp, loadP, fieldOp, fieldAddrOp, arrayAtOp, buildP, buildSliceP, makeSliceP, placeF, fillP, setL, PK.agg, isZero, gt_iff_lt, Nat.reducePow, Nat.reduceGT, reps, seg, wkN, if_pos, if_neg, tf3, Try.ze3, tf4, Try.ze4, tf9, Try.ze9, tf38, Try.ze38, beq_self_eq_true]
      | refine w_pure (t1) ?_
      | refine w_pure (t2) ?_
      | refine w_pure (e1) ?_
      | refine w_pure (e2) ?_
      | refine w_pure (aw) ?_
      | refine w_dec (fun _ => ?_) (fun _ => ?_)
      | refine w_eqc (fun _ => ?_) (fun _ => ?_)
      | refine w_neqc (fun _ => ?_) (fun _ => ?_)
      | refine w_nneqc (fun _ => ?_) (fun _ => ?_)
      | ((first | refine w_split (fun h => ?_) (fun h => ?_) | refine d_split (fun h => ?_) (fun h => ?_) | refine w_csplit (fun h => ?_) (fun h => ?_)) <;> (try simp only [wkS] at h) <;> (have h2 := h) <;> (try simp only [wkT, ne_eq] at h2) <;> (try simp only [h]))
    refine hQ (by first | exact .inr rfl | exact .inl rfl) (by first | exact trivial | exact marks1) (by first | (simp -implicitDefEqProofs (maxSteps := 400000) (disch := first | with_reducible rfl | omega | (simp only [h_n, PH.n_push, PH.n_put, List.length_cons, List.length_nil] <;> omega) | decide) only [wkAll, wkL, popO, wantedP, if_true, if_false, reduceIte, ne_eq, Nat.reduceAdd, Nat.reduceSub, Nat.reduceMul, Nat.reduceLeDiff, Nat.reduceLT, ofCells, ofCell, reduceCtorEq, Int.reduceLE, Int.reduceLT, Int.reduceToNat, Int.reduceAdd, Int.reduceSub, Int.reduceMul, Int.reduceNeg, Int.reduceBEq, Int.reduceBNe, Int.reduceEq, eqCell, eqCells, binP, unP, convP, lenP, builtinP, sliceDataP, unsafeStringP, appendT, appendS, appendP, copyP, srcP, mmsP, mmP, indexOp, indexAddrOp, sliceOp, bndsP, bndP, capw, capCut, loadOp, storeOp, loadP, fieldOp, fieldAddrOp, arrayAtOp, buildP, buildSliceP, makeSliceP, placeF, fillP, setL, PK.agg, isZero, gt_iff_lt, Nat.reducePow, Nat.reduceGT, reps, seg, wkN, if_pos, if_neg, tf3, Try.ze3, tf4, Try.ze4, tf9, Try.ze9, tf38, Try.ze38, resP, resPs, resP1]; rfl) | rfl) ⟨6, by repeat' first | exact frz_scalar rfl | apply frz_tuple | apply frz_agg | apply frz_fsl | apply frz_gsl (by omega) | exact frzs_nil | apply frzs_cons⟩ (by first | exact keepsH0 | exact keeps1 (by assumption) | exact keepsH (fun _ _ h => h) (fun p hp => by simp only [upF]; (repeat rw [if_neg (by omega)])) | exact keeps1t (by assumption) (fun p hp => by simp only [upF]; (repeat rw [if_neg (by omega)])) | (subst hT; exact keepsH (fun _ _ h => h) fun _ _ => rfl)) (nw_eq ?_)
    rfl
end Pv
