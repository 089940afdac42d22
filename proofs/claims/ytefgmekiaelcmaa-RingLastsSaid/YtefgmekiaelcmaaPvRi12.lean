/- Part of the proof: the layer of pure values, or walks through functions (PvRi12, PvRiB, PvRi13, PvRi14). -/
import Derived.Test.YtefgmekiaelcmaaPvRi11
import Derived.Test.YtefgmekiaelcmaaPvRiE
set_option linter.all false
namespace Pv
set_option maxRecDepth 20000
set_option maxHeartbeats 4000000
open Go Go.Proofs Go.RowKit
variable {w0 : World}

/-- What lasts of two slots, of what they are read as. -/
def recX (x y : (List RK × UInt32) × Int) : (List RK × UInt32) × Int := if y.2 = 0 ∧ (x.2 ≠ 0 ∨ (y.1.2 - x.1.2).toNat < 2147483648) then (y.1, 0) else x
def recG (a b : List UInt8) : (List RK × UInt32) × Int := recX (decG a) (decG b)
theorem sub32x (x y : UInt32) : IntKind.wrap .u32 ((x.toNat : Int) - (y.toNat : Int)) = ((x - y).toNat : Int) := by
  have := sub32 x y.toNat (y.toNat_lt)
  rw [UInt32.ofNat_toNat] at this; exact this
theorem rec24_ok (a b : List UInt8) (ha : a.length < 2 ^ 44) (hb : b.length < 2 ^ 44) : Fn (Cx w0) 23 [.str a, .str b] (.tuple [.agg (rgC (recG a b).1.1 (recG a b).1.2), .int .i64 (recG a b).2]) := by
  have d1 := dec24_ok (w0 := w0) a ha
  have d2 := dec24_ok (w0 := w0) b hb
  rw [recG]
  generalize decG a = x at *
  generalize decG b = y at *
  obtain ⟨⟨X, nx⟩, e⟩ := x
  obtain ⟨⟨Y, ny⟩, f⟩ := y
  simp only [rgC] at d1 d2 ⊢
  have hs := sub32x ny nx
  refine fn_H ([Go.ResultVar.cell 4 25, Go.ResultVar.tmp 5]) Try.func23 rfl rfl (by decide) fun ph hW Q hQ => ?_
  simp only [start, List.length_cons, List.length_nil, List.cons_append, List.nil_append, Nat.reduceAdd, Nat.reduceSub, List.replicate_succ, List.replicate_zero, Try.ntmps23]
  repeat' first
    | simp -implicitDefEqProofs (maxSteps := 400000) (disch := first | with_reducible rfl | omega | (simp only [h_n, PH.n_push, PH.n_put, List.length_cons, List.length_nil] <;> omega) | decide) only [wkAll, wkL, popO, wantedP, if_true, if_false, reduceIte, ne_eq, Nat.reduceAdd, Nat.reduceSub, Nat.reduceMul, Nat.reduceLeDiff, Nat.reduceLT, ofCells, ofCell, reduceCtorEq, Int.reduceLE, Int.reduceLT, Int.reduceToNat, Int.reduceAdd, Int.reduceSub, Int.reduceMul, Int.reduceNeg, Int.reduceBEq, Int.reduceBNe, Int.reduceEq, eqCell, eqCells, binP, unP, convP, lenP, builtinP, sliceDataP, unsafeStringP, appendT, appendS, appendP, copyP, srcP, mmsP, mmP, indexOp, indexAddrOp, sliceOp, bndsP, bndP, capw, capCut, loadOp, storeOp, loadP, fieldOp, fieldAddrOp, arrayAtOp, buildP, buildSliceP, makeSliceP, placeF, fillP, setL, PK.agg, isZero, gt_iff_lt, Nat.reducePow, Nat.reduceGT, reps, seg, wkN, if_pos, if_neg, tf2, Try.ze2, tf3, Try.ze3, tf9, Try.ze9, tf22, Try.ze22, tf23, Try.ze23, tf25, Try.ze25, tf27, Try.ze27, tf44, Try.ze44, tf73, Try.ze73]
    | refine w_pure (d1) ?_
    | refine w_dec (fun _ => ?_) (fun _ => ?_)
    | refine w_eqc (fun _ => ?_) (fun _ => ?_)
    | refine w_neqc (fun _ => ?_) (fun _ => ?_)
    | refine w_nneqc (fun _ => ?_) (fun _ => ?_)
    | ((first | refine w_split (fun h => ?_) (fun h => ?_) | refine d_split (fun h => ?_) (fun h => ?_) | refine w_csplit (fun h => ?_) (fun h => ?_)) <;> (try simp only [wkS] at h) <;> (have h2 := h) <;> (try simp only [wkT, ne_eq] at h2) <;> (try simp only [h]))
  refine w_loopH (α := Nat) ph ph.ob ph.ty (fun i => [.undef, .undef, .undef, .undef, .ptr ph.n 0, .undef, .ptr (ph.n + 1) 0, .int .i64 (if i = 0 then e else (recX ((X, nx), e) ((Y, ny), f)).2), .undef, .undef, .undef, .undef, .undef, .undef, .undef, .undef, .undef, .undef, .agg [.str b], .int .i64 i, .undef, .undef, .undef, .undef, .undef, .undef, .undef, .undef, .undef, .undef, .undef, .undef, .undef, .undef, .undef, .undef, .undef, .undef, .undef, .undef, .undef, .undef, .undef, .undef, .undef]) (fun i => [some (.own [.nilsl, .int .u32 0]), some (.own (if i = 0 then rgC X nx else rgC (recX ((X, nx), e) ((Y, ny), f)).1.1 (recX ((X, nx), e) ((Y, ny), f)).1.2))]) (fun i => i ≤ 1) (fun i => 1 - i) 0 (by simp) (fun _ _ => by simp) (.eq (by simp [FadeTo]) rfl) ?_
  intro i hi K hK
  rcases Nat.lt_or_ge i 1 with hlt | hge
  · have : i = 0 := by omega
    subst this
    rw [if_pos rfl, if_pos rfl, rgC]
    have hK1 := fun tm ph' h => hK 1 tm ph' (Nat.le_refl _) (by decide) h
    simp only [if_neg (show ¬ (1 : Nat) = 0 by decide)] at hK1
    by_cases hf : f = 0
    · have qf : (f == 0) = true := by rw [beq_iff_eq]; exact hf
      by_cases he : e = 0
      · have qe : (e != 0) = false := by rw [bne_eq_false_iff_eq]; exact he
        by_cases hd : (ny - nx).toNat < 2147483648
        · rw [recX, if_pos ⟨hf, .inr hd⟩] at hK1
          have qd : ((ny - nx).toNat : Int) < 2147483648 := by omega
          simp only [rgC] at hK1
          repeat' first
            | simp -implicitDefEqProofs (maxSteps := 400000) (disch := first | with_reducible rfl | omega | (simp only [h_n, PH.n_push, PH.n_put, List.length_cons, List.length_nil] <;> omega) | decide) only [wkAll, wkL, popO, wantedP, if_true, if_false, reduceIte, ne_eq, Nat.reduceAdd, Nat.reduceSub, Nat.reduceMul, Nat.reduceLeDiff, Nat.reduceLT, ofCells, ofCell, reduceCtorEq, Int.reduceLE, Int.reduceLT, Int.reduceToNat, Int.reduceAdd, Int.reduceSub, Int.reduceMul, Int.reduceNeg, Int.reduceBEq, Int.reduceBNe, Int.reduceEq, eqCell, eqCells, binP, unP, convP, lenP, builtinP, sliceDataP, unsafeStringP, appendT, appendS, appendP, copyP, srcP, mmsP, mmP, indexOp, indexAddrOp, sliceOp, bndsP, bndP, capw, capCut, loadOp, storeOp, loadP, fieldOp, fieldAddrOp, arrayAtOp, buildP, buildSliceP, makeSliceP, placeF, fillP, setL, PK.agg, isZero, gt_iff_lt, Nat.reducePow, Nat.reduceGT, reps, seg, wkN, if_pos, if_neg, tf2, Try.ze2, tf3, Try.ze3, tf9, Try.ze9, tf22, Try.ze22, tf23, Try.ze23, tf25, Try.ze25, tf27, Try.ze27, tf44, Try.ze44, tf73, Try.ze73, qf, qe, hs, qd]
            | refine w_pure (d2) ?_
            | refine w_dec (fun _ => ?_) (fun _ => ?_)
            | refine w_eqc (fun _ => ?_) (fun _ => ?_)
            | refine w_neqc (fun _ => ?_) (fun _ => ?_)
            | refine w_nneqc (fun _ => ?_) (fun _ => ?_)
            | ((first | refine w_split (fun h => ?_) (fun h => ?_) | refine d_split (fun h => ?_) (fun h => ?_) | refine w_csplit (fun h => ?_) (fun h => ?_)) <;> (try simp only [wkS] at h) <;> (have h2 := h) <;> (try simp only [wkT, ne_eq] at h2) <;> (try simp only [h]))
          refine hK1 _ _ (.cut [_] hW (by simp [FadeTo]) (by rfl) (by simp [scs_cons, scs_nil, sc_ptr, sc_fsl, sc_gsl, sc_sl, sc_agg, sc_func, sc_int, sc_bool, sc_str, sc_undef, sc_nilptr, sc_nilsl, sc_yield, sc_tuple, sc_fptr, scs_bytes, scs_append, scs_rks]) (by simp [scs_cons, scs_nil, sc_ptr, sc_fsl, sc_gsl, sc_sl, sc_agg, sc_func, sc_int, sc_bool, sc_str, sc_undef, sc_nilptr, sc_nilsl, sc_yield, sc_tuple, sc_fptr, scs_bytes, scs_append, scs_rks]))
        · rw [recX, if_neg (by rintro ⟨_, h | h⟩; exact h he; exact hd h)] at hK1
          have qd : ¬ ((ny - nx).toNat : Int) < 2147483648 := by omega
          simp only [rgC] at hK1
          repeat' first
            | simp -implicitDefEqProofs (maxSteps := 400000) (disch := first | with_reducible rfl | omega | (simp only [h_n, PH.n_push, PH.n_put, List.length_cons, List.length_nil] <;> omega) | decide) only [wkAll, wkL, popO, wantedP, if_true, if_false, reduceIte, ne_eq, Nat.reduceAdd, Nat.reduceSub, Nat.reduceMul, Nat.reduceLeDiff, Nat.reduceLT, ofCells, ofCell, reduceCtorEq, Int.reduceLE, Int.reduceLT, Int.reduceToNat, Int.reduceAdd, Int.reduceSub, Int.reduceMul, Int.reduceNeg, Int.reduceBEq, Int.reduceBNe, Int.reduceEq, eqCell, eqCells, binP, unP, convP, lenP, builtinP, sliceDataP, unsafeStringP, appendT, appendS, appendP, copyP, srcP, mmsP, mmP, indexOp, indexAddrOp, sliceOp, bndsP, bndP, capw, capCut, loadOp, storeOp, loadP, fieldOp, fieldAddrOp, arrayAtOp, buildP, buildSliceP, makeSliceP, placeF, fillP, setL, PK.agg, isZero, gt_iff_lt, Nat.reducePow, Nat.reduceGT, reps, seg, wkN, if_pos, if_neg, tf2, Try.ze2, tf3, Try.ze3, tf9, Try.ze9, tf22, Try.ze22, tf23, Try.ze23, tf25, Try.ze25, tf27, Try.ze27, tf44, Try.ze44, tf73, Try.ze73, qf, qe, hs, qd]
            | refine w_pure (d2) ?_
            | refine w_dec (fun _ => ?_) (fun _ => ?_)
            | refine w_eqc (fun _ => ?_) (fun _ => ?_)
            | refine w_neqc (fun _ => ?_) (fun _ => ?_)
            | refine w_nneqc (fun _ => ?_) (fun _ => ?_)
            | ((first | refine w_split (fun h => ?_) (fun h => ?_) | refine d_split (fun h => ?_) (fun h => ?_) | refine w_csplit (fun h => ?_) (fun h => ?_)) <;> (try simp only [wkS] at h) <;> (have h2 := h) <;> (try simp only [wkT, ne_eq] at h2) <;> (try simp only [h]))
          refine hK1 _ _ (.cut [_] hW (by simp [FadeTo]) (by rfl) (by simp [scs_cons, scs_nil, sc_ptr, sc_fsl, sc_gsl, sc_sl, sc_agg, sc_func, sc_int, sc_bool, sc_str, sc_undef, sc_nilptr, sc_nilsl, sc_yield, sc_tuple, sc_fptr, scs_bytes, scs_append, scs_rks]) (by simp [scs_cons, scs_nil, sc_ptr, sc_fsl, sc_gsl, sc_sl, sc_agg, sc_func, sc_int, sc_bool, sc_str, sc_undef, sc_nilptr, sc_nilsl, sc_yield, sc_tuple, sc_fptr, scs_bytes, scs_append, scs_rks]))
      · rw [recX, if_pos ⟨hf, .inl he⟩] at hK1
        have qe : (e != 0) = true := by rw [bne_iff_ne]; exact he
        simp only [rgC] at hK1
        repeat' first
          | simp -implicitDefEqProofs (maxSteps := 400000) (disch := first | with_reducible rfl | omega | (simp only [h_n, PH.n_push, PH.n_put, List.length_cons, List.length_nil] <;> omega) | decide) only [wkAll, wkL, popO, wantedP, if_true, if_false, reduceIte, ne_eq, Nat.reduceAdd, Nat.reduceSub, Nat.reduceMul, Nat.reduceLeDiff, Nat.reduceLT, ofCells, ofCell, reduceCtorEq, Int.reduceLE, Int.reduceLT, Int.reduceToNat, Int.reduceAdd, Int.reduceSub, Int.reduceMul, Int.reduceNeg, Int.reduceBEq, Int.reduceBNe, Int.reduceEq, eqCell, eqCells, binP, unP, convP, lenP, builtinP, sliceDataP, unsafeStringP, appendT, appendS, appendP, copyP, srcP, mmsP, mmP, indexOp, indexAddrOp, sliceOp, bndsP, bndP, capw, capCut, loadOp, storeOp, loadP, fieldOp, fieldAddrOp, arrayAtOp, buildP, buildSliceP, makeSliceP, placeF, fillP, setL, PK.agg, isZero, gt_iff_lt, Nat.reducePow, Nat.reduceGT, reps, seg, wkN, if_pos, if_neg, tf2, Try.ze2, tf3, Try.ze3, tf9, Try.ze9, tf22, Try.ze22, tf23, Try.ze23, tf25, Try.ze25, tf27, Try.ze27, tf44, Try.ze44, tf73, Try.ze73, qf, qe]
          | refine w_pure (d2) ?_
          | refine w_dec (fun _ => ?_) (fun _ => ?_)
          | refine w_eqc (fun _ => ?_) (fun _ => ?_)
          | refine w_neqc (fun _ => ?_) (fun _ => ?_)
          | refine w_nneqc (fun _ => ?_) (fun _ => ?_)
          | ((first | refine w_split (fun h => ?_) (fun h => ?_) | refine d_split (fun h => ?_) (fun h => ?_) | refine w_csplit (fun h => ?_) (fun h => ?_)) <;> (try simp only [wkS] at h) <;> (have h2 := h) <;> (try simp only [wkT, ne_eq] at h2) <;> (try simp only [h]))
        refine hK1 _ _ (.cut [_] hW (by simp [FadeTo]) (by rfl) (by simp [scs_cons, scs_nil, sc_ptr, sc_fsl, sc_gsl, sc_sl, sc_agg, sc_func, sc_int, sc_bool, sc_str, sc_undef, sc_nilptr, sc_nilsl, sc_yield, sc_tuple, sc_fptr, scs_bytes, scs_append, scs_rks]) (by simp [scs_cons, scs_nil, sc_ptr, sc_fsl, sc_gsl, sc_sl, sc_agg, sc_func, sc_int, sc_bool, sc_str, sc_undef, sc_nilptr, sc_nilsl, sc_yield, sc_tuple, sc_fptr, scs_bytes, scs_append, scs_rks]))
    · rw [recX, if_neg (fun h => hf h.1)] at hK1
      have qf : (f == 0) = false := by rw [beq_eq_false_iff_ne]; exact hf
      simp only [rgC] at hK1
      repeat' first
        | simp -implicitDefEqProofs (maxSteps := 400000) (disch := first | with_reducible rfl | omega | (simp only [h_n, PH.n_push, PH.n_put, List.length_cons, List.length_nil] <;> omega) | decide) only [wkAll, wkL, popO, wantedP, if_true, if_false, reduceIte, ne_eq, Nat.reduceAdd, Nat.reduceSub, Nat.reduceMul, Nat.reduceLeDiff, Nat.reduceLT, ofCells, ofCell, reduceCtorEq, Int.reduceLE, Int.reduceLT, Int.reduceToNat, Int.reduceAdd, Int.reduceSub, Int.reduceMul, Int.reduceNeg, Int.reduceBEq, Int.reduceBNe, Int.reduceEq, eqCell, eqCells, binP, unP, convP, lenP, builtinP, sliceDataP, unsafeStringP, appendT, appendS, appendP, copyP, srcP, mmsP, mmP, indexOp, indexAddrOp, sliceOp, bndsP, bndP, capw, capCut, loadOp, storeOp, loadP, fieldOp, fieldAddrOp, arrayAtOp, buildP, buildSliceP, makeSliceP, placeF, fillP, setL, PK.agg, isZero, gt_iff_lt, Nat.reducePow, Nat.reduceGT, reps, seg, wkN, if_pos, if_neg, tf2, Try.ze2, tf3, Try.ze3, tf9, Try.ze9, tf22, Try.ze22, tf23, Try.ze23, tf25, Try.ze25, tf27, Try.ze27, tf44, Try.ze44, tf73, Try.ze73, qf]
        | refine w_pure (d2) ?_
        | refine w_dec (fun _ => ?_) (fun _ => ?_)
        | refine w_eqc (fun _ => ?_) (fun _ => ?_)
        | refine w_neqc (fun _ => ?_) (fun _ => ?_)
        | refine w_nneqc (fun _ => ?_) (fun _ => ?_)
        | ((first | refine w_split (fun h => ?_) (fun h => ?_) | refine d_split (fun h => ?_) (fun h => ?_) | refine w_csplit (fun h => ?_) (fun h => ?_)) <;> (try simp only [wkS] at h) <;> (have h2 := h) <;> (try simp only [wkT, ne_eq] at h2) <;> (try simp only [h]))
      refine hK1 _ _ (.cut [_] hW (by simp [FadeTo]) (by rfl) (by simp [scs_cons, scs_nil, sc_ptr, sc_fsl, sc_gsl, sc_sl, sc_agg, sc_func, sc_int, sc_bool, sc_str, sc_undef, sc_nilptr, sc_nilsl, sc_yield, sc_tuple, sc_fptr, scs_bytes, scs_append, scs_rks]) (by simp [scs_cons, scs_nil, sc_ptr, sc_fsl, sc_gsl, sc_sl, sc_agg, sc_func, sc_int, sc_bool, sc_str, sc_undef, sc_nilptr, sc_nilsl, sc_yield, sc_tuple, sc_fptr, scs_bytes, scs_append, scs_rks]))
  · have : i = 1 := by omega
    subst this
    rw [if_neg (by decide), if_neg (by decide), rgC]
    generalize recX ((X, nx), e) ((Y, ny), f) = z at *
    repeat' first
      | simp -implicitDefEqProofs (maxSteps := 400000) (disch := first | with_reducible rfl | omega | (simp only [h_n, PH.n_push, PH.n_put, List.length_cons, List.length_nil] <;> omega) | decide) only [wkAll, wkL, popO, wantedP, if_true, if_false, reduceIte, ne_eq, Nat.reduceAdd, Nat.reduceSub, Nat.reduceMul, Nat.reduceLeDiff, Nat.reduceLT, ofCells, ofCell, reduceCtorEq, Int.reduceLE, Int.reduceLT, Int.reduceToNat, Int.reduceAdd, Int.reduceSub, Int.reduceMul, Int.reduceNeg, Int.reduceBEq, Int.reduceBNe, Int.reduceEq, eqCell, eqCells, binP, unP, convP, lenP, builtinP, sliceDataP, unsafeStringP, appendT, appendS, appendP, copyP, srcP, mmsP, mmP, indexOp, indexAddrOp, sliceOp, bndsP, bndP, capw, capCut, loadOp, storeOp, loadP, fieldOp, fieldAddrOp, arrayAtOp, buildP, buildSliceP, makeSliceP, placeF, fillP, setL, PK.agg, isZero, gt_iff_lt, Nat.reducePow, Nat.reduceGT, reps, seg, wkN, if_pos, if_neg, tf2, Try.ze2, tf3, Try.ze3, tf9, Try.ze9, tf22, Try.ze22, tf23, Try.ze23, tf25, Try.ze25, tf27, Try.ze27, tf44, Try.ze44, tf73, Try.ze73]
      | refine w_dec (fun _ => ?_) (fun _ => ?_)
      | refine w_eqc (fun _ => ?_) (fun _ => ?_)
      | refine w_neqc (fun _ => ?_) (fun _ => ?_)
      | refine w_nneqc (fun _ => ?_) (fun _ => ?_)
      | ((first | refine w_split (fun h => ?_) (fun h => ?_) | refine d_split (fun h => ?_) (fun h => ?_) | refine w_csplit (fun h => ?_) (fun h => ?_)) <;> (try simp only [wkS] at h) <;> (have h2 := h) <;> (try simp only [wkT, ne_eq] at h2) <;> (try simp only [h]))
    refine hQ (by first | exact .inr rfl | exact .inl rfl) (by first | exact trivial | exact marks1) (by first | (simp -implicitDefEqProofs (maxSteps := 400000) (disch := first | with_reducible rfl | omega | (simp only [h_n, PH.n_push, PH.n_put, List.length_cons, List.length_nil] <;> omega) | decide) only [wkAll, wkL, popO, wantedP, if_true, if_false, reduceIte, ne_eq, Nat.reduceAdd, Nat.reduceSub, Nat.reduceMul, Nat.reduceLeDiff, Nat.reduceLT, ofCells, ofCell, reduceCtorEq, Int.reduceLE, Int.reduceLT, Int.reduceToNat, Int.reduceAdd, Int.reduceSub, Int.reduceMul, Int.reduceNeg, Int.reduceBEq, Int.reduceBNe, Int.reduceEq, eqCell, eqCells, binP, unP, convP, lenP, builtinP, sliceDataP, unsafeStringP, appendT, appendS, appendP, copyP, srcP, mmsP, mmP, indexOp, indexAddrOp, sliceOp, bndsP, bndP, capw, capCut, loadOp, storeOp, loadP, fieldOp, fieldAddrOp, arrayAtOp, buildP, buildSliceP, makeSliceP, placeF, fillP, setL, PK.agg, isZero, gt_iff_lt, Nat.reducePow, Nat.reduceGT, reps, seg, wkN, if_pos, if_neg, tf2, Try.ze2, tf3, Try.ze3, tf9, Try.ze9, tf22, Try.ze22, tf23, Try.ze23, tf25, Try.ze25, tf27, Try.ze27, tf44, Try.ze44, tf73, Try.ze73, resP, resPs, resP1]; rfl) | rfl) ⟨6, by repeat' first | exact frz_scalar rfl | apply frz_tuple | apply frz_agg | apply frz_fsl | apply frz_gsl (by omega) | exact frzs_nil | apply frzs_cons | exact frzs_scalars (rksC_ok _)⟩ (by first | exact keepsH0 | exact keeps1 (by assumption) | exact keepsH (fun _ _ h => h) (fun p hp => by simp only [upF]; (repeat rw [if_neg (by omega)])) | exact keeps1t (by assumption) (fun p hp => by simp only [upF]; (repeat rw [if_neg (by omega)])) | (subst hT; exact keepsH (fun _ _ h => h) fun _ _ => rfl)) (nw_eq ?_)
    rfl
end Pv

namespace Pv
open Go

/-! ### There and back -/
theorem wrap_i64u (m : Int) (h : -9223372036854775808 ≤ m ∧ m ≤ 9223372036854775807) : IntKind.wrap .i64 (((IntKind.wrap .u64 m).toNat : Nat) : Int) = m := by
  simp [IntKind.wrap, IntKind.bits, IntKind.signed]; omega
theorem flat_drop : ∀ {L : List RK}, (∀ k ∈ L, k.key.length = 32) → ∀ i : Nat, (L.flatMap encK).drop (40 * i) = (L.drop i).flatMap encK
  | [], _, i => by simp
  | k :: L, h, 0 => rfl
  | k :: L, h, i + 1 => by
    rw [List.flatMap_cons, show 40 * (i + 1) = (encK k).length + 40 * i by rw [encK_len (h k (by simp))]; omega, ← List.drop_drop, List.drop_left, flat_drop (fun x hx => h x (List.mem_cons_of_mem _ hx)) i]; rfl
theorem dec_keys {L : List RK} {nx : UInt32} (h : FitP L nx) (hm : ∀ k ∈ L, -9223372036854775808 ≤ k.made ∧ k.made ≤ 9223372036854775807) : decL (L.flatMap encK) nx L.length = L := by
  apply List.ext_getElem
  · simp [decL]
  · intro i h1 h2
    simp only [decL, List.getElem_map, List.getElem_range]
    have hk := List.getElem?_eq_getElem h2
    generalize L[i] = k at hk
    obtain ⟨a, b, c⟩ := h i k hk
    have hd : (L.flatMap encK).drop (40 * i) = beL (kM k) 8 ++ (k.key ++ (L.drop (i + 1)).flatMap encK) := by
      rw [flat_drop h.keys i]
      have : L.drop i = k :: L.drop (i + 1) := by
        rw [List.drop_eq_getElem_cons h2]
        congr 1
        have := (List.getElem?_eq_some_iff.1 hk).2; exact this
      rw [this, List.flatMap_cons, encK, List.append_assoc]
    have e1 : ((L.flatMap encK).drop (40 * i)).take 8 = beL (kM k) 8 := by
      rw [hd]; exact List.take_left' (beL_len _ _)
    have e2 : ((L.flatMap encK).drop (40 * i + 8)).take 32 = k.key := by
      rw [← List.drop_drop, hd, List.drop_left' (beL_len _ _)]; exact List.take_left' a
    rw [idK, rawK, e1, e2, val_be]
    have e3 : kM k % 256 ^ 8 = kM k := Nat.mod_eq_of_lt (by have := kM_lt k; have h3 : (256 : Nat) ^ 8 = 2 ^ 64 := by decide
                                                            omega)
    rw [e3, kM, wrap_i64u _ (hm k (List.mem_of_getElem? hk)), ← b]
theorem dec_enc {L : List RK} {nx : UInt32} (hf : fitG L nx = true) (hm : ∀ k ∈ L, -9223372036854775808 ≤ k.made ∧ k.made ≤ 9223372036854775807) : decG (encG L nx).1 = ((L, nx), 0) := by
  obtain ⟨f1, f2, fP⟩ := (fitG_iffP L nx).1 hf
  rw [encG, if_pos hf]
  show decG (encB L nx ++ shaOf (encB L nx)) = _
  have hl := encB_len fP.keys (nx := nx)
  have hsl := of_len (encB L nx)
  have hB : encB L nx = beL nx.toNat 4 ++ (beL L.length 1 ++ L.flatMap encK) := by rw [encB, encH, List.append_assoc]
  have hb : (encB L nx ++ shaOf (encB L nx))[4]? = some (UInt8.ofNat L.length) := by
    rw [List.getElem?_append_left (by omega), hB, List.getElem?_append_right (by rw [beL_len]; exact Nat.le_refl _), beL_len]
    simp [beL, beAt]
  have hbn : (UInt8.ofNat L.length).toNat = L.length := by rw [UInt8.toNat_ofNat']; omega
  simp only [decG, hb, hbn]
  have t1 : (encB L nx ++ shaOf (encB L nx)).take (5 + 40 * L.length) = encB L nx := List.take_left' hl
  have t2 : (encB L nx ++ shaOf (encB L nx)).drop (5 + 40 * L.length) = shaOf (encB L nx) := List.drop_left' hl
  have t3 : (encB L nx ++ shaOf (encB L nx)).take 4 = beL nx.toNat 4 := by rw [hB, List.append_assoc]; exact List.take_left' (beL_len _ _)
  have t4 : ((encB L nx ++ shaOf (encB L nx)).drop 5).take (40 * L.length) = L.flatMap encK := by
    rw [encB, List.append_assoc, List.drop_left' (encH_len _ _)]; exact List.take_left' (encF_len fP.keys)
  have t5 : UInt32.ofNat (valN (beL nx.toNat 4)) = nx := by
    rw [val_be, show (256 : Nat) ^ 4 = 2 ^ 32 by decide, Nat.mod_eq_of_lt nx.toNat_lt, UInt32.ofNat_toNat]
  rw [if_neg (by rw [List.length_append, hl, hsl]; omega), t1, t2, if_neg (by simp), t3, t4, t5, dec_keys fP hm, if_pos hf]

end Pv

namespace Pv
set_option maxRecDepth 20000
set_option maxHeartbeats 4000000
open Go Go.Proofs Go.RowKit
variable {w0 : World}

end Pv

namespace Pv
set_option maxRecDepth 20000
set_option maxHeartbeats 4000000
open Go Go.Proofs Go.RowKit
variable {w0 : World}

theorem ret_le {L : List RK} {now window : Int} {j : Nat} {k : RK} (hk : L[j]? = some k) (hy : youngK now window k = true) : retN L now window ≤ j := by
  rw [retN]
  cases hf : L.findIdx? (youngK now window) with
  | none =>
    rw [List.findIdx?_eq_none_iff] at hf
    have := hf k (List.mem_of_getElem? hk); rw [hy] at this; cases this
  | some i =>
    show i ≤ j
    rw [List.findIdx?_eq_some_iff_getElem] at hf
    obtain ⟨hi, h1, h2⟩ := hf
    rcases Nat.lt_or_ge j i with h | h
    · exfalso
      have := h2 j h
      obtain ⟨hj, rfl⟩ := List.getElem?_eq_some_iff.1 hk
      exact absurd hy (by simpa using this)
    · exact h
theorem ring_kept {Z : List RK} {nz : UInt32} {now window : Int} (hP : FitP Z nz) (hl : Z.length < 2 ^ 31) {j : Nat} {k : RK} (hk : Z[j]? = some k) (hy : youngK now window k = true) : ∃ m : Nat, idxG (fun x => x.id == k.id) (Z.drop (retN Z now window)) = (m : Int) := by
  have hle := ret_le hk hy
  have : (Z.drop (retN Z now window))[j - retN Z now window]? = some k := by rw [List.getElem?_drop, show retN Z now window + (j - retN Z now window) = j by omega]; exact hk
  exact ⟨j - retN Z now window, by rw [(hP.drop _).at (by rw [List.length_drop]; omega) this]⟩
theorem wrap_u64_nat (n : Int) : ∃ c : Nat, IntKind.wrap .u64 n = (c : Int) ∧ c < 2 ^ 64 := by
  have : 0 ≤ IntKind.wrap .u64 n ∧ IntKind.wrap .u64 n < 18446744073709551616 := by simp [IntKind.wrap, IntKind.bits, IntKind.signed]; omega
  exact ⟨(IntKind.wrap .u64 n).toNat, by omega, by omega⟩
theorem next_ne (x : UInt32) : ¬ x + 1 = x := by
  intro h
  have := congrArg UInt32.toNat h
  rw [UInt32.toNat_add] at this
  have h1 : UInt32.toNat 1 = 1 := rfl
  rw [h1] at this
  have := x.toNat_lt
  omega
theorem next_sub (x : UInt32) : (x + 1 - x).toNat = 1 := by
  rw [UInt32.toNat_sub, UInt32.toNat_add]
  have h1 : UInt32.toNat 1 = 1 := rfl
  rw [h1]
  have := x.toNat_lt
  omega

/-- What the walk of RingLasts knows: the ring, the ring with a key more, their bytes, the torn slot. -/
structure RLast (L : List RK) (nx : UInt32) (key : List UInt8) (now : Int) (old : List UInt8) (cut : Int) (window : Int) (Q' : List RK) (A B torn : List UInt8) (C k : Nat) : Prop where
  hn : -9223372036854775808 ≤ now ∧ now ≤ 9223372036854775807
  hw : window ≤ 9223372036854775807
  hB : ∀ k ∈ L, k.key.length < 2 ^ 63 ∧ mB k
  hf : fitG L nx = true
  g1 : ¬ (2000 : Int) < (old.length : Int)
  hrot : rotG L nx key now = ((Q', nx + 1), 0)
  l1 : 0 < Q'.length
  l8 : Q'.length ≤ 8
  hkq : ∀ k ∈ Q', k.key.length < 2 ^ 63
  heA : encG L nx = (A, 0)
  heB : encG Q' (nx + 1) = (B, 0)
  lA : A.length < 1000
  lB : B.length < 1000
  hC : IntKind.wrap .u64 cut = (C : Int)
  hk : k = C % (B.length + 1)
  ht : (k : Int) < old.length ∧ B.take k ++ old.drop k = torn ∨ ¬ (k : Int) < old.length ∧ B.take k = torn
  hrb : recG A B = ((Q', nx + 1), 0)

theorem rl_torn (W : World) {L : List RK} {nx : UInt32} {key : List UInt8} {now : Int} {old : List UInt8} {cut : Int} {window : Int} {Q' : List RK} {A B torn : List UInt8} {C k : Nat} (h : RLast L nx key now old cut window Q' A B torn C k) (hz : (decG torn).2 = 0) (hne : torn ≠ B) :
    Fn (Cx W) 7 [.agg (rgC L nx), .str key, .int .i64 now, .str old, .int .i64 cut, .int .i64 window] (.bool true) := by
  have aw := awake24_ok (w0 := W)
  obtain ⟨f1, f2, fP⟩ := (fitG_iffP L nx).1 h.hf
  have ft := refFit24_ok (w0 := W) L nx (by omega) (fun k hk => (h.hB k hk).1)
  rw [h.hf] at ft
  have r1 := rotate_ok (w0 := W) L nx key now (by omega) f2
  rw [h.hrot] at r1
  have e1 := enc24_ok (w0 := W) L nx (by omega) (fun k hk => (h.hB k hk).1)
  rw [h.heA] at e1
  have e2 := enc24_ok (w0 := W) Q' (nx + 1) (by have := h.l8; omega) h.hkq
  rw [h.heB] at e2
  have g1' := h.g1
  have hC := h.hC
  have lA := h.lA
  have lB := h.lB
  have hkk := h.hk
  have l8 := h.l8
  have hkB : k ≤ B.length := by rw [hkk]; have := Nat.mod_lt C (show 0 < B.length + 1 by omega); omega
  have c1 : (B.length : Int) + 1 = ((B.length + 1 : Nat) : Int) := by omega
  have c2 : IntKind.wrap .u64 ((B.length + 1 : Nat) : Int) = ((B.length + 1 : Nat) : Int) := by rw [wrap_u64, Nat.mod_eq_of_lt (by omega)]
  have c3 : Int.tmod (C : Int) ((B.length + 1 : Nat) : Int) = (k : Int) := by rw [Int.tmod_eq_emod_of_nonneg (by omega), hkk]; rfl
  have c4 : IntKind.wrap .i64 (k : Int) = (k : Int) := by rw [wrap_i64] <;> omega
  have c5 : ¬ ((B.length + 1 : Nat) : Int) = 0 := by omega
  have lT : (B.take k).length = k := by rw [List.length_take]; omega
  have lO : k + (old.drop k).length < 2 ^ 40 := by rw [List.length_drop]; omega
  have lOt : List.take (old.length - k) (List.drop k old) = List.drop k old := List.take_of_length_le (by rw [List.length_drop]; exact Nat.le_refl _)
  have htl : torn.length < 2 ^ 44 := by
    rcases h.ht with ⟨_, rfl⟩ | ⟨_, rfl⟩
    · rw [List.length_append, lT]; omega
    · rw [lT]; omega
  have dt := refDec24_ok (w0 := W) torn htl
  have qb : (torn == B) = false := beq_eq_false_iff_ne.2 hne
  rw [hz] at dt
  generalize (decG torn).1.1 = Z at *
  generalize (decG torn).1.2 = nz at *
  obtain ht := h.ht
  clear h
  simp only [rgC] at *
  rcases ht with ⟨hk1, htn⟩ | ⟨hk1, htn⟩
  all_goals
    refine fn_H ([Go.ResultVar.tmp 12]) Try.func7 rfl rfl (by decide) fun ph hW Q hQ => ?_
    simp only [start, List.length_cons, List.length_nil, List.cons_append, List.nil_append, Nat.reduceAdd, Nat.reduceSub, List.replicate_succ, List.replicate_zero, Try.ntmps7]
    repeat' first
      | simp -implicitDefEqProofs (maxSteps := 400000) (disch := first | with_reducible rfl | omega | (simp only [h_n, PH.n_push, PH.n_put, List.length_cons, List.length_nil] <;> omega) | decide) only [wkAll, wkL, popO, wantedP, if_true, if_false, reduceIte, ne_eq, Nat.reduceAdd, Nat.reduceSub, Nat.reduceMul, Nat.reduceLeDiff, Nat.reduceLT, ofCells, ofCell, reduceCtorEq, Int.reduceLE, Int.reduceLT, Int.reduceToNat, Int.reduceAdd, Int.reduceSub, Int.reduceMul, Int.reduceNeg, Int.reduceBEq, Int.reduceBNe, Int.reduceEq, eqCell, eqCells, binP, unP, convP, lenP, builtinP, sliceDataP, unsafeStringP, appendT, appendS, appendP, copyP, srcP, mmsP, mmP, indexOp, indexAddrOp, sliceOp, bndsP, bndP, capw, capCut, loadOp, storeOp, loadP, fieldOp, fieldAddrOp, arrayAtOp, buildP, buildSliceP, makeSliceP, placeF, fillP, setL, PK.agg, isZero, gt_iff_lt, Nat.reducePow, Nat.reduceGT, reps, seg, wkN, if_pos, if_neg, tf2, Try.ze2, tf3, Try.ze3, tf4, Try.ze4, tf9, Try.ze9, tf22, Try.ze22, tf23, Try.ze23, tf25, Try.ze25, tf27, Try.ze27, tf44, Try.ze44, tf52, Try.ze52, gt_iff_lt, g1', hC, c1, c2, c3, c4, c5, hk1, htn, lT, lOt, qb]
      | refine w_pure (ft) ?_
      | refine w_pure (r1) ?_
      | refine w_pure (e1) ?_
      | refine w_pure (e2) ?_
      | refine w_pure (dt) ?_
      | refine w_pure (aw) ?_
      | refine w_dec (fun _ => ?_) (fun _ => ?_)
      | refine w_eqc (fun _ => ?_) (fun _ => ?_)
      | refine w_neqc (fun _ => ?_) (fun _ => ?_)
      | refine w_nneqc (fun _ => ?_) (fun _ => ?_)
      | ((first | refine w_split (fun h => ?_) (fun h => ?_) | refine d_split (fun h => ?_) (fun h => ?_) | refine w_csplit (fun h => ?_) (fun h => ?_)) <;> (try simp only [wkS] at h) <;> (have h2 := h) <;> (try simp only [wkT, ne_eq] at h2) <;> (try simp only [h]))
    refine hQ (by first | exact .inr rfl | exact .inl rfl) (by first | exact trivial | exact marks1) (by first | (simp -implicitDefEqProofs (maxSteps := 400000) (disch := first | with_reducible rfl | omega | (simp only [h_n, PH.n_push, PH.n_put, List.length_cons, List.length_nil] <;> omega) | decide) only [wkAll, wkL, popO, wantedP, if_true, if_false, reduceIte, ne_eq, Nat.reduceAdd, Nat.reduceSub, Nat.reduceMul, Nat.reduceLeDiff, Nat.reduceLT, ofCells, ofCell, reduceCtorEq, Int.reduceLE, Int.reduceLT, Int.reduceToNat, Int.reduceAdd, Int.reduceSub, Int.reduceMul, Int.reduceNeg, Int.reduceBEq, Int.reduceBNe, Int.reduceEq, eqCell, eqCells, binP, unP, convP, lenP, builtinP, sliceDataP, unsafeStringP, appendT, appendS, appendP, copyP, srcP, mmsP, mmP, indexOp, indexAddrOp, sliceOp, bndsP, bndP, capw, capCut, loadOp, storeOp, loadP, fieldOp, fieldAddrOp, arrayAtOp, buildP, buildSliceP, makeSliceP, placeF, fillP, setL, PK.agg, isZero, gt_iff_lt, Nat.reducePow, Nat.reduceGT, reps, seg, wkN, if_pos, if_neg, tf2, Try.ze2, tf3, Try.ze3, tf4, Try.ze4, tf9, Try.ze9, tf22, Try.ze22, tf23, Try.ze23, tf25, Try.ze25, tf27, Try.ze27, tf44, Try.ze44, tf52, Try.ze52, resP, resPs, resP1]; rfl) | rfl) ⟨6, by repeat' first | exact frz_scalar rfl | apply frz_tuple | apply frz_agg | apply frz_fsl | apply frz_gsl (by omega) | exact frzs_nil | apply frzs_cons⟩ (by first | exact keepsH0 | exact keeps1 (by assumption) | exact keepsH (fun _ _ h => h) (fun p hp => by simp only [upF]; (repeat rw [if_neg (by omega)])) | exact keeps1t (by assumption) (fun p hp => by simp only [upF]; (repeat rw [if_neg (by omega)])) | (subst hT; exact keepsH (fun _ _ h => h) fun _ _ => rfl)) (nw_eq ?_)
    rfl
end Pv
