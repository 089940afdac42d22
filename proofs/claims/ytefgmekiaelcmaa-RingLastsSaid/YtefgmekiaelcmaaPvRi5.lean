/- Part of the proof: the layer of pure values, or walks through functions (PvRi5, PvRiK, PvRi6, PvNbH). -/
import Derived.Test.YtefgmekiaelcmaaPvRi4
import Derived.Test.YtefgmekiaelcmaaPvEntry2
import Derived.Test.YtefgmekiaelcmaaPvDrawF
import Derived.Test.YtefgmekiaelcmaaPvNum
import Derived.Test.YtefgmekiaelcmaaPvOpsE
set_option linter.all false
namespace Pv
set_option maxRecDepth 20000
set_option maxHeartbeats 4000000
open Go Go.Proofs Go.RowKit
def tb9_10Ri5 : Tab := [[], [0], [], [2], [2, 3], [], [5], [5, 6], [5, 6, 7], [5, 6, 7, 8], [2, 3, 4, 5, 6, 7, 8, 9], [2, 3, 4, 5, 6, 7, 8, 9, 10], [0, 1, 2, 3, 4, 5, 6, 7, 8, 9, 10, 11], [0, 1, 2, 3, 4, 5, 6, 7, 8, 9, 10, 11, 12], [0, 1, 2, 3, 4, 5, 6, 7, 8, 9, 10, 11, 12, 13]]
def pl9_10Ri5 : Plan := [(0, true, []), (1, true, []), (2, true, []), (3, true, []), (4, true, []), (5, true, []), (6, true, []), (7, true, []), (8, false, [0, 1, 2, 3, 4]), (9, true, []), (10, true, []), (11, false, [0, 1]), (12, false, []), (13, true, []), (14, false, [])]
def tb9_5Ri5 : Tab := [[], [0], [0, 1], [0, 1, 2], [0, 1, 2, 3], [0, 1, 2, 3, 4], [0, 1, 2, 3, 4, 5], [0, 1, 2, 3, 4, 5, 6], [0, 1, 2, 3, 4, 5, 6, 7], [0, 1, 2, 3, 4, 5, 6], [0, 1, 2, 3, 4, 5, 6, 9], [0, 1, 2, 3, 4, 5, 6, 7, 8, 9, 10], [0, 1, 2, 3, 4, 5, 6, 7, 8, 9, 10, 11], [0, 1, 2, 3, 4, 5, 6, 7, 8, 9, 10, 11, 12], [0, 1, 2, 3, 4, 5, 6, 7, 8, 9, 10, 11, 12, 13], [0, 1, 2, 3, 4, 5, 6, 7, 8, 9, 10, 11, 12, 13], [0, 1, 2, 3, 4, 5, 6, 7, 8, 9, 10, 11, 12, 13, 14, 15], [0, 1, 2, 3, 4, 5, 6, 7, 8, 9, 10, 11, 12, 13, 14, 15, 16], [0, 1, 2, 3, 4, 5, 6, 7, 8, 9, 10, 11, 12, 13], [0, 1, 2, 3, 4, 5, 6, 7, 8, 9, 10, 11, 12, 13], [0, 1, 2, 3, 4, 5, 6, 7, 8, 9, 10, 11, 12, 13, 18, 19], [0, 1, 2, 3, 4, 5, 6, 7, 8, 9, 10, 11, 12, 13, 14, 15, 16, 17, 18, 19, 20], [0, 1, 2, 3, 4, 5, 6, 7, 8, 9, 10, 11, 12, 13, 14, 15, 16, 17, 18, 19, 20, 21]]
def pl9_5Ri5 : Plan := [(0, true, []), (1, true, []), (2, true, []), (3, true, []), (4, true, []), (5, true, []), (6, true, []), (7, true, []), (8, true, []), (9, true, []), (10, true, []), (11, true, []), (12, true, []), (13, true, []), (14, true, []), (15, true, []), (16, true, []), (18, true, []), (19, true, []), (20, true, []), (17, false, [18, 19, 20]), (21, true, []), (22, true, [])]
variable {w0 : World}

theorem dec24_short : Fn (Cx w0) 9 [.str []] (.tuple [.agg (rgC [] 0), .int .i64 11]) := by
  refine fn_H ([Go.ResultVar.cell 2 25, Go.ResultVar.tmp 3]) Try.func9 rfl rfl (by decide) fun ph hW Q hQ => ?_
  simp only [start, List.length_cons, List.length_nil, List.cons_append, List.nil_append, Nat.reduceAdd, Nat.reduceSub, List.replicate_succ, List.replicate_zero, Try.ntmps9]
  repeat' first
    | simp -implicitDefEqProofs (maxSteps := 400000) (disch := first | with_reducible rfl | omega | (simp only [h_n, PH.n_push, PH.n_put, List.length_cons, List.length_nil] <;> omega) | decide) only [wkAll, wkL, popO, wantedP, if_true, if_false, reduceIte, ne_eq, Nat.reduceAdd, Nat.reduceSub, Nat.reduceMul, Nat.reduceLeDiff, Nat.reduceLT, ofCells, ofCell, reduceCtorEq, Int.reduceLE, Int.reduceLT, Int.reduceToNat, Int.reduceAdd, Int.reduceSub, Int.reduceMul, Int.reduceNeg, Int.reduceBEq, Int.reduceBNe, Int.reduceEq, eqCell, eqCells, binP, unP, convP, lenP, builtinP, sliceDataP, unsafeStringP, appendT, appendS, appendP, copyP, srcP, mmsP, mmP, indexOp, indexAddrOp, sliceOp, bndsP, bndP, capw, capCut, loadOp, storeOp, loadP, fieldOp, fieldAddrOp, arrayAtOp, buildP, buildSliceP, makeSliceP, placeF, fillP, setL, PK.agg, isZero, gt_iff_lt, Nat.reducePow, Nat.reduceGT, reps, seg, wkN, if_pos, if_neg, tf2, Try.ze2, tf3, Try.ze3, tf4, Try.ze4, tf5, Try.ze5, tf9, Try.ze9, tf22, Try.ze22, tf23, Try.ze23, tf25, Try.ze25, tf44, Try.ze44, tf52, Try.ze52, tf59, Try.ze59, pl9_5Ri5, pl9_10Ri5]
    | refine w_dec (fun _ => ?_) (fun _ => ?_)
    | refine w_eqc (fun _ => ?_) (fun _ => ?_)
    | refine w_neqc (fun _ => ?_) (fun _ => ?_)
    | refine w_nneqc (fun _ => ?_) (fun _ => ?_)
    | ((first | refine w_split (fun h => ?_) (fun h => ?_) | refine d_split (fun h => ?_) (fun h => ?_) | refine w_csplit (fun h => ?_) (fun h => ?_)) <;> (try simp only [wkS] at h) <;> (have h2 := h) <;> (try simp only [wkT, ne_eq] at h2) <;> (try simp only [h]))
    | refine w_drawnF (id := 5) tb9_5Ri5 pl9_5Ri5 42 (by kernel_rfl) (by kernel_rfl) (by simp) ?_
    | refine w_drawnF (id := 10) tb9_10Ri5 pl9_10Ri5 68 (by kernel_rfl) (by kernel_rfl) (by simp) ?_
  refine hQ (by first | exact .inr rfl | exact .inl rfl) (by first | exact trivial | exact marks1) (by first | (simp -implicitDefEqProofs (maxSteps := 400000) (disch := first | with_reducible rfl | omega | (simp only [h_n, PH.n_push, PH.n_put, List.length_cons, List.length_nil] <;> omega) | decide) only [wkAll, wkL, popO, wantedP, if_true, if_false, reduceIte, ne_eq, Nat.reduceAdd, Nat.reduceSub, Nat.reduceMul, Nat.reduceLeDiff, Nat.reduceLT, ofCells, ofCell, reduceCtorEq, Int.reduceLE, Int.reduceLT, Int.reduceToNat, Int.reduceAdd, Int.reduceSub, Int.reduceMul, Int.reduceNeg, Int.reduceBEq, Int.reduceBNe, Int.reduceEq, eqCell, eqCells, binP, unP, convP, lenP, builtinP, sliceDataP, unsafeStringP, appendT, appendS, appendP, copyP, srcP, mmsP, mmP, indexOp, indexAddrOp, sliceOp, bndsP, bndP, capw, capCut, loadOp, storeOp, loadP, fieldOp, fieldAddrOp, arrayAtOp, buildP, buildSliceP, makeSliceP, placeF, fillP, setL, PK.agg, isZero, gt_iff_lt, Nat.reducePow, Nat.reduceGT, reps, seg, wkN, if_pos, if_neg, tf2, Try.ze2, tf3, Try.ze3, tf4, Try.ze4, tf5, Try.ze5, tf9, Try.ze9, tf22, Try.ze22, tf23, Try.ze23, tf25, Try.ze25, tf44, Try.ze44, tf52, Try.ze52, tf59, Try.ze59, pl9_5Ri5, pl9_10Ri5, resP, resPs, resP1]; rfl) | rfl) ⟨6, by repeat' first | exact frz_scalar rfl | apply frz_tuple | apply frz_agg | apply frz_fsl | apply frz_gsl (by omega) | exact frzs_nil | apply frzs_cons⟩ (by first | exact keepsH0 | exact keeps1 (by assumption) | exact keepsH (fun _ _ h => h) (fun p hp => by simp only [upF]; (repeat rw [if_neg (by omega)])) | exact keeps1t (by assumption) (fun p hp => by simp only [upF]; (repeat rw [if_neg (by omega)])) | (subst hT; exact keepsH (fun _ _ h => h) fun _ _ => rfl)) ?_
  repeat' first | exact nw_nil | exact nw_zsl | apply nw_tuple | apply nw_agg | exact nws_nil | apply nws_cons | exact nw_eq rfl | apply nw_eq

def kk : List UInt8 := List.replicate 32 107
/-- The ring after i rounds of awake. -/
def awR : Nat → List RK × UInt32
  | 0 => ([⟨1, kk, 0⟩], 2)
  | i + 1 => (rotG (awR i).1 (awR i).2 kk (i : Int)).1
theorem awR_st : ∀ i, i ≤ 8 → 0 < (awR i).1.length ∧ (awR i).1.length ≤ 8 ∧ (rotG (awR i).1 (awR i).2 kk (i : Int)).2 = 0 := by decide +kernel
theorem awR8 : awR 8 = ([⟨2, kk, 0⟩, ⟨3, kk, 1⟩, ⟨4, kk, 2⟩, ⟨5, kk, 3⟩, ⟨6, kk, 4⟩, ⟨7, kk, 5⟩, ⟨8, kk, 6⟩, ⟨9, kk, 7⟩], 10) := by decide +kernel

theorem awake24_ok : Fn (Cx w0) 8 [] (.bool true) := by
  have hn := ringNew_ok (w0 := w0) kk 0
  rw [show newG kk 0 = (awR 0, 0) from rfl] at hn
  have hd := dec24_short (w0 := w0)
  refine fn_H ([Go.ResultVar.tmp 0]) Try.func8 rfl rfl (by decide) fun ph hW Q hQ => ?_
  simp only [start, List.length_cons, List.length_nil, List.cons_append, List.nil_append, Nat.reduceAdd, Nat.reduceSub, List.replicate_succ, List.replicate_zero, Try.ntmps8]
  repeat' first
    | simp -implicitDefEqProofs (maxSteps := 400000) (disch := first | with_reducible rfl | omega | (simp only [h_n, PH.n_push, PH.n_put, List.length_cons, List.length_nil] <;> omega) | decide) only [wkAll, wkL, popO, wantedP, if_true, if_false, reduceIte, ne_eq, Nat.reduceAdd, Nat.reduceSub, Nat.reduceMul, Nat.reduceLeDiff, Nat.reduceLT, ofCells, ofCell, reduceCtorEq, Int.reduceLE, Int.reduceLT, Int.reduceToNat, Int.reduceAdd, Int.reduceSub, Int.reduceMul, Int.reduceNeg, Int.reduceBEq, Int.reduceBNe, Int.reduceEq, eqCell, eqCells, binP, unP, convP, lenP, builtinP, sliceDataP, unsafeStringP, appendT, appendS, appendP, copyP, srcP, mmsP, mmP, indexOp, indexAddrOp, sliceOp, bndsP, bndP, capw, capCut, loadOp, storeOp, loadP, fieldOp, fieldAddrOp, arrayAtOp, buildP, buildSliceP, makeSliceP, placeF, fillP, setL, PK.agg, isZero, gt_iff_lt, Nat.reducePow, Nat.reduceGT, reps, seg, wkN, if_pos, if_neg, tf2, Try.ze2, tf3, Try.ze3, tf9, Try.ze9, tf22, Try.ze22, tf23, Try.ze23, tf25, Try.ze25, tf27, Try.ze27, tf44, Try.ze44]
    | refine w_dec (fun _ => ?_) (fun _ => ?_)
    | refine w_eqc (fun _ => ?_) (fun _ => ?_)
    | refine w_neqc (fun _ => ?_) (fun _ => ?_)
    | refine w_nneqc (fun _ => ?_) (fun _ => ?_)
    | ((first | refine w_split (fun h => ?_) (fun h => ?_) | refine d_split (fun h => ?_) (fun h => ?_) | refine w_csplit (fun h => ?_) (fun h => ?_)) <;> (try simp only [wkS] at h) <;> (have h2 := h) <;> (try simp only [wkT, ne_eq] at h2) <;> (try simp only [h]))
  refine w_loopH (α := Nat) ph ph.ob ph.ty (fun i => [.undef, .str (List.replicate i 107), .undef, .undef, .undef, .undef, .undef, .int .i64 i, .undef, .undef, .undef, .undef, .undef, .undef, .undef, .undef, .undef, .undef, .undef, .undef, .undef, .undef, .undef, .undef, .undef, .undef, .undef, .undef, .undef, .undef, .undef, .undef, .undef, .undef, .undef, .undef, .undef, .undef, .undef, .undef, .undef, .undef, .undef, .undef, .undef, .undef, .undef, .undef, .undef, .undef, .undef, .undef, .undef, .undef, .undef, .undef, .undef, .undef, .undef, .undef, .undef, .undef, .undef, .undef, .undef, .undef, .undef, .undef, .undef, .undef, .undef, .undef, .undef]) (fun _ => []) (fun i => i ≤ 32) (fun i => 32 - i) 0 (by simp) (fun _ _ => by simp) (.eq (by simp [FadeTo]) rfl) ?_
  intro i hi K hK
  have hl : (List.replicate i (107 : UInt8)).length = i := List.length_replicate
  have hs : List.replicate i (107 : UInt8) ++ [107] = List.replicate (i + 1) 107 := List.replicate_succ'.symm
  rcases Nat.lt_or_ge i 32 with hlt | hge
  · have hlt' : (i : Int) < 32 := by omega
    generalize List.replicate (i + 1) (107 : UInt8) = s' at *
    repeat' first
      | simp -implicitDefEqProofs (maxSteps := 400000) (disch := first | with_reducible rfl | omega | (simp only [h_n, PH.n_push, PH.n_put, List.length_cons, List.length_nil] <;> omega) | decide) only [wkAll, wkL, popO, wantedP, if_true, if_false, reduceIte, ne_eq, Nat.reduceAdd, Nat.reduceSub, Nat.reduceMul, Nat.reduceLeDiff, Nat.reduceLT, ofCells, ofCell, reduceCtorEq, Int.reduceLE, Int.reduceLT, Int.reduceToNat, Int.reduceAdd, Int.reduceSub, Int.reduceMul, Int.reduceNeg, Int.reduceBEq, Int.reduceBNe, Int.reduceEq, eqCell, eqCells, binP, unP, convP, lenP, builtinP, sliceDataP, unsafeStringP, appendT, appendS, appendP, copyP, srcP, mmsP, mmP, indexOp, indexAddrOp, sliceOp, bndsP, bndP, capw, capCut, loadOp, storeOp, loadP, fieldOp, fieldAddrOp, arrayAtOp, buildP, buildSliceP, makeSliceP, placeF, fillP, setL, PK.agg, isZero, gt_iff_lt, Nat.reducePow, Nat.reduceGT, reps, seg, wkN, if_pos, if_neg, tf2, Try.ze2, tf3, Try.ze3, tf9, Try.ze9, tf22, Try.ze22, tf23, Try.ze23, tf25, Try.ze25, tf27, Try.ze27, tf44, Try.ze44, hlt', hl, hs]
      | refine w_dec (fun _ => ?_) (fun _ => ?_)
      | refine w_eqc (fun _ => ?_) (fun _ => ?_)
      | refine w_neqc (fun _ => ?_) (fun _ => ?_)
      | refine w_nneqc (fun _ => ?_) (fun _ => ?_)
      | ((first | refine w_split (fun h => ?_) (fun h => ?_) | refine d_split (fun h => ?_) (fun h => ?_) | refine w_csplit (fun h => ?_) (fun h => ?_)) <;> (try simp only [wkS] at h) <;> (have h2 := h) <;> (try simp only [wkT, ne_eq] at h2) <;> (try simp only [h]))
    refine hK (i + 1) _ _ (by omega) (by omega) (.eq (by simp [FadeTo]; rw [← hs]; simp [List.replicate_succ']) rfl)
  · have hge' : ¬ (i : Int) < 32 := by omega
    have : i = 32 := by omega
    subst this
    rw [show List.replicate 32 (107 : UInt8) = kk from rfl]
    clear hl hs
    simp only [rgC] at hn
    repeat' first
      | simp -implicitDefEqProofs (maxSteps := 400000) (disch := first | with_reducible rfl | omega | (simp only [h_n, PH.n_push, PH.n_put, List.length_cons, List.length_nil] <;> omega) | decide) only [wkAll, wkL, popO, wantedP, if_true, if_false, reduceIte, ne_eq, Nat.reduceAdd, Nat.reduceSub, Nat.reduceMul, Nat.reduceLeDiff, Nat.reduceLT, ofCells, ofCell, reduceCtorEq, Int.reduceLE, Int.reduceLT, Int.reduceToNat, Int.reduceAdd, Int.reduceSub, Int.reduceMul, Int.reduceNeg, Int.reduceBEq, Int.reduceBNe, Int.reduceEq, eqCell, eqCells, binP, unP, convP, lenP, builtinP, sliceDataP, unsafeStringP, appendT, appendS, appendP, copyP, srcP, mmsP, mmP, indexOp, indexAddrOp, sliceOp, bndsP, bndP, capw, capCut, loadOp, storeOp, loadP, fieldOp, fieldAddrOp, arrayAtOp, buildP, buildSliceP, makeSliceP, placeF, fillP, setL, PK.agg, isZero, gt_iff_lt, Nat.reducePow, Nat.reduceGT, reps, seg, wkN, if_pos, if_neg, tf2, Try.ze2, tf3, Try.ze3, tf9, Try.ze9, tf22, Try.ze22, tf23, Try.ze23, tf25, Try.ze25, tf27, Try.ze27, tf44, Try.ze44, hge']
      | refine w_pure (hn) ?_
      | refine w_dec (fun _ => ?_) (fun _ => ?_)
      | refine w_eqc (fun _ => ?_) (fun _ => ?_)
      | refine w_neqc (fun _ => ?_) (fun _ => ?_)
      | refine w_nneqc (fun _ => ?_) (fun _ => ?_)
      | ((first | refine w_split (fun h => ?_) (fun h => ?_) | refine d_split (fun h => ?_) (fun h => ?_) | refine w_csplit (fun h => ?_) (fun h => ?_)) <;> (try simp only [wkS] at h) <;> (have h2 := h) <;> (try simp only [wkT, ne_eq] at h2) <;> (try simp only [h]))
    refine w_loopH (α := Nat) ph ph.ob ph.ty (fun i => [.undef, .str kk, .ptr ph.n 0, .int .i64 0, .undef, .undef, .undef, .undef, .undef, .undef, .undef, .undef, .undef, .undef, .undef, .undef, .undef, .int .i64 i, .undef, .undef, .undef, .undef, .undef, .undef, .undef, .undef, .undef, .undef, .undef, .undef, .undef, .undef, .undef, .undef, .undef, .undef, .undef, .undef, .undef, .undef, .undef, .undef, .undef, .undef, .undef, .undef, .undef, .undef, .undef, .undef, .undef, .undef, .undef, .undef, .undef, .undef, .undef, .undef, .undef, .undef, .undef, .undef, .undef, .undef, .undef, .undef, .undef, .undef, .undef, .undef, .undef, .undef, .undef]) (fun i => [some (.own [.fsl 3 (awR i).1.length (rksC (awR i).1), .int .u32 (awR i).2.toNat])]) (fun i => i ≤ 8) (fun i => 8 - i) 0 (by simp) (fun _ _ => by simp) (.eq (by simp [FadeTo]) rfl) ?_
    clear hK
    intro i hi K hK
    obtain ⟨h1, h2, h3⟩ := awR_st i hi
    rcases Nat.lt_or_ge i 8 with hlt | hge
    · have hlt2 : (i : Int) < 8 := by omega
      have hr := rotate_ok (w0 := w0) (awR i).1 (awR i).2 kk (i : Int) h1 h2
      rw [h3, show (rotG (awR i).1 (awR i).2 kk (i : Int)).1 = awR (i + 1) from rfl] at hr
      simp only [rgC] at hr
      have hlen : (0 : Int) < ((awR i).1.length : Int) := by omega
      repeat' first
        | simp -implicitDefEqProofs (maxSteps := 400000) (disch := first | with_reducible rfl | omega | (simp only [h_n, PH.n_push, PH.n_put, List.length_cons, List.length_nil] <;> omega) | decide) only [wkAll, wkL, popO, wantedP, if_true, if_false, reduceIte, ne_eq, Nat.reduceAdd, Nat.reduceSub, Nat.reduceMul, Nat.reduceLeDiff, Nat.reduceLT, ofCells, ofCell, reduceCtorEq, Int.reduceLE, Int.reduceLT, Int.reduceToNat, Int.reduceAdd, Int.reduceSub, Int.reduceMul, Int.reduceNeg, Int.reduceBEq, Int.reduceBNe, Int.reduceEq, eqCell, eqCells, binP, unP, convP, lenP, builtinP, sliceDataP, unsafeStringP, appendT, appendS, appendP, copyP, srcP, mmsP, mmP, indexOp, indexAddrOp, sliceOp, bndsP, bndP, capw, capCut, loadOp, storeOp, loadP, fieldOp, fieldAddrOp, arrayAtOp, buildP, buildSliceP, makeSliceP, placeF, fillP, setL, PK.agg, isZero, gt_iff_lt, Nat.reducePow, Nat.reduceGT, reps, seg, wkN, if_pos, if_neg, tf2, Try.ze2, tf3, Try.ze3, tf9, Try.ze9, tf22, Try.ze22, tf23, Try.ze23, tf25, Try.ze25, tf27, Try.ze27, tf44, Try.ze44, hlt2, gt_iff_lt, hlen]
        | refine w_pure (hr) ?_
        | refine w_dec (fun _ => ?_) (fun _ => ?_)
        | refine w_eqc (fun _ => ?_) (fun _ => ?_)
        | refine w_neqc (fun _ => ?_) (fun _ => ?_)
        | refine w_nneqc (fun _ => ?_) (fun _ => ?_)
        | ((first | refine w_split (fun h => ?_) (fun h => ?_) | refine d_split (fun h => ?_) (fun h => ?_) | refine w_csplit (fun h => ?_) (fun h => ?_)) <;> (try simp only [wkS] at h) <;> (have h2 := h) <;> (try simp only [wkT, ne_eq] at h2) <;> (try simp only [h]))
      refine hK (i + 1) _ _ (by omega) (by omega) (.eq (by simp [FadeTo]) rfl)
    · have hge2 : ¬ (i : Int) < 8 := by omega
      have : i = 8 := by omega
      subst this
      rw [show rksC (awR 8).1 = [.int .u32 2, .str kk, .int .i64 0, .int .u32 3, .str kk, .int .i64 1, .int .u32 4, .str kk, .int .i64 2, .int .u32 5, .str kk, .int .i64 3, .int .u32 6, .str kk, .int .i64 4, .int .u32 7, .str kk, .int .i64 5, .int .u32 8, .str kk, .int .i64 6, .int .u32 9, .str kk, .int .i64 7] from by rw [awR8]; rfl, show (awR 8).1.length = 8 from by rw [awR8]; rfl, show ((awR 8).2.toNat : Int) = 10 from by rw [awR8]; rfl]
      simp only [rgC] at hd
      repeat' first
        | simp -implicitDefEqProofs (maxSteps := 400000) (disch := first | with_reducible rfl | omega | (simp only [h_n, PH.n_push, PH.n_put, List.length_cons, List.length_nil] <;> omega) | decide) only [wkAll, wkL, popO, wantedP, if_true, if_false, reduceIte, ne_eq, Nat.reduceAdd, Nat.reduceSub, Nat.reduceMul, Nat.reduceLeDiff, Nat.reduceLT, ofCells, ofCell, reduceCtorEq, Int.reduceLE, Int.reduceLT, Int.reduceToNat, Int.reduceAdd, Int.reduceSub, Int.reduceMul, Int.reduceNeg, Int.reduceBEq, Int.reduceBNe, Int.reduceEq, eqCell, eqCells, binP, unP, convP, lenP, builtinP, sliceDataP, unsafeStringP, appendT, appendS, appendP, copyP, srcP, mmsP, mmP, indexOp, indexAddrOp, sliceOp, bndsP, bndP, capw, capCut, loadOp, storeOp, loadP, fieldOp, fieldAddrOp, arrayAtOp, buildP, buildSliceP, makeSliceP, placeF, fillP, setL, PK.agg, isZero, gt_iff_lt, Nat.reducePow, Nat.reduceGT, reps, seg, wkN, if_pos, if_neg, tf2, Try.ze2, tf3, Try.ze3, tf9, Try.ze9, tf22, Try.ze22, tf23, Try.ze23, tf25, Try.ze25, tf27, Try.ze27, tf44, Try.ze44, hge2]
        | refine w_pure (hd) ?_
        | refine w_dec (fun _ => ?_) (fun _ => ?_)
        | refine w_eqc (fun _ => ?_) (fun _ => ?_)
        | refine w_neqc (fun _ => ?_) (fun _ => ?_)
        | refine w_nneqc (fun _ => ?_) (fun _ => ?_)
        | ((first | refine w_split (fun h => ?_) (fun h => ?_) | refine d_split (fun h => ?_) (fun h => ?_) | refine w_csplit (fun h => ?_) (fun h => ?_)) <;> (try simp only [wkS] at h) <;> (have h2 := h) <;> (try simp only [wkT, ne_eq] at h2) <;> (try simp only [h]))
      refine hQ (by first | exact .inr rfl | exact .inl rfl) (by first | exact trivial | exact marks1) (by first | (simp -implicitDefEqProofs (maxSteps := 400000) (disch := first | with_reducible rfl | omega | (simp only [h_n, PH.n_push, PH.n_put, List.length_cons, List.length_nil] <;> omega) | decide) only [wkAll, wkL, popO, wantedP, if_true, if_false, reduceIte, ne_eq, Nat.reduceAdd, Nat.reduceSub, Nat.reduceMul, Nat.reduceLeDiff, Nat.reduceLT, ofCells, ofCell, reduceCtorEq, Int.reduceLE, Int.reduceLT, Int.reduceToNat, Int.reduceAdd, Int.reduceSub, Int.reduceMul, Int.reduceNeg, Int.reduceBEq, Int.reduceBNe, Int.reduceEq, eqCell, eqCells, binP, unP, convP, lenP, builtinP, sliceDataP, unsafeStringP, appendT, appendS, appendP, copyP, srcP, mmsP, mmP, indexOp, indexAddrOp, sliceOp, bndsP, bndP, capw, capCut, loadOp, storeOp, loadP, fieldOp, fieldAddrOp, arrayAtOp, buildP, buildSliceP, makeSliceP, placeF, fillP, setL, PK.agg, isZero, gt_iff_lt, Nat.reducePow, Nat.reduceGT, reps, seg, wkN, if_pos, if_neg, tf2, Try.ze2, tf3, Try.ze3, tf9, Try.ze9, tf22, Try.ze22, tf23, Try.ze23, tf25, Try.ze25, tf27, Try.ze27, tf44, Try.ze44, resP, resPs, resP1]; rfl) | rfl) ⟨6, by repeat' first | exact frz_scalar rfl | apply frz_tuple | apply frz_agg | apply frz_fsl | apply frz_gsl (by omega) | exact frzs_nil | apply frzs_cons⟩ (by first | exact keepsH0 | exact keeps1 (by assumption) | exact keepsH (fun _ _ h => h) (fun p hp => by simp only [upF]; (repeat rw [if_neg (by omega)])) | exact keeps1t (by assumption) (fun p hp => by simp only [upF]; (repeat rw [if_neg (by omega)])) | (subst hT; exact keepsH (fun _ _ h => h) fun _ _ => rfl)) (nw_eq ?_)
      rfl

/-! ### Rings as arguments -/
theorem wf_i64b {n : Int} (h : (Lit.int .i64 n).wf = true) : -9223372036854775808 ≤ n ∧ n ≤ 9223372036854775807 := by
  simp [Lit.wf, IntKind.min, IntKind.max, IntKind.signed, IntKind.bits] at h; omega
theorem okL_rks : ∀ {n : Nat} {c : List PV}, OkR [.int .u32, .str, .int .i64] n c → ∃ L : List RK, L.length = n ∧ (∀ k ∈ L, k.key.length ≤ maxLen ∧ mB k) ∧ c = rksC L := by
  intro n
  induction n with
  | zero => intro c h; cases h; exact ⟨[], rfl, by simp, rfl⟩
  | succ n ih =>
    intro c h
    cases h with
    | cons _ _ c r hc hr =>
      obtain ⟨p, ps, rfl, h1, h2⟩ := okL_cons hc
      obtain ⟨p2, ps, rfl, h3, h4⟩ := okL_cons h2
      obtain ⟨p3, ps, rfl, h5, h6⟩ := okL_cons h4
      obtain rfl := okL_nil h6
      obtain ⟨id, rfl⟩ := okC_u32 h1
      obtain ⟨l, hl, rfl⟩ := okC_str h3
      cases h5 with
      | int _ m hm =>
        obtain ⟨L, e1, e2, rfl⟩ := ih hr
        refine ⟨⟨id, l, m⟩ :: L, by simp [e1], ?_, rfl⟩
        intro k hk
        rcases List.mem_cons.1 hk with rfl | hk
        · refine ⟨hl, ?_⟩
          exact wf_i64b hm
        · exact e2 k hk
theorem okL_ring {c : List PV} (h : OkL [.sl [.int .u32, .str, .int .i64], .int .u32] c) : ∃ (L : List RK) (nx : UInt32), L.length ≤ maxLen ∧ (∀ k ∈ L, k.key.length ≤ maxLen ∧ mB k) ∧ c = rgC L nx := by
  obtain ⟨p, ps, rfl, h1, h2⟩ := okL_cons h
  obtain ⟨p2, ps, rfl, h3, h4⟩ := okL_cons h2
  obtain rfl := okL_nil h4
  obtain ⟨nx, rfl⟩ := okC_u32 h3
  cases h1 with
  | sl row len cells hl hc =>
    obtain ⟨L, rfl, e2, rfl⟩ := okL_rks hc
    exact ⟨L, nx, hl, e2, rfl⟩

end Pv

namespace Pv
open Go

/-! ### What Fit says, and what becomes of it -/
def KeyAt (L : List RK) (nx : UInt32) (i : Nat) (k : RK) : Prop :=
  k.key.length = 32 ∧ k.id = nx - UInt32.ofNat (L.length - i) ∧ (i = 0 ∨ ∀ p, L[i - 1]? = some p → p.made ≤ k.made)
def FitP (L : List RK) (nx : UInt32) : Prop := ∀ i k, L[i]? = some k → KeyAt L nx i k
theorem fitG_iffP (L : List RK) (nx : UInt32) : fitG L nx = true ↔ 1 ≤ L.length ∧ L.length ≤ 8 ∧ FitP L nx := by
  simp only [fitG, Bool.and_eq_true, decide_eq_true_eq, List.all_eq_true, List.mem_range]
  constructor
  · rintro ⟨⟨h1, h2⟩, h3⟩
    refine ⟨h1, h2, fun i k hk => ?_⟩
    have hi := (List.getElem?_eq_some_iff.1 hk).1
    have := h3 i hi
    rw [fitK, hk] at this
    simp only [Bool.and_eq_true, decide_eq_true_eq, beq_iff_eq, Bool.or_eq_true] at this
    refine ⟨this.1.1, this.1.2, this.2.imp id fun h p hp => ?_⟩
    rw [hp] at h; simpa using h
  · rintro ⟨h1, h2, h3⟩
    refine ⟨⟨h1, h2⟩, fun i hi => ?_⟩
    obtain ⟨k, hk⟩ := getR hi
    obtain ⟨a, b, c⟩ := h3 i k hk
    rw [fitK, hk]
    simp only [Bool.and_eq_true, decide_eq_true_eq, beq_iff_eq, Bool.or_eq_true]
    refine ⟨⟨a, b⟩, c.imp id fun h => ?_⟩
    cases hp : L[i - 1]? with
    | none => rfl
    | some p => simpa using h p hp

theorem sub_of (x : UInt32) (a : Nat) : (x - UInt32.ofNat a).toNat = (2 ^ 32 - a % 2 ^ 32 + x.toNat) % 2 ^ 32 := by
  rw [UInt32.toNat_sub, UInt32.toNat_ofNat']
theorem sub_inj {x : UInt32} {a b : Nat} (ha : a < 2 ^ 32) (hb : b < 2 ^ 32) (h : x - UInt32.ofNat a = x - UInt32.ofNat b) : a = b := by
  have h1 := congrArg UInt32.toNat h
  rw [sub_of, sub_of] at h1
  have := x.toNat_lt
  omega
theorem sub_next (x : UInt32) {a : Nat} (ha : a + 1 < 2 ^ 32) : x + 1 - UInt32.ofNat (a + 1) = x - UInt32.ofNat a := by
  apply UInt32.toNat_inj.1
  rw [sub_of, sub_of, UInt32.toNat_add]
  have := x.toNat_lt
  have h1 : UInt32.toNat 1 = 1 := rfl
  rw [h1]
  omega

theorem FitP.drop {L : List RK} {nx : UInt32} (h : FitP L nx) (m : Nat) : FitP (L.drop m) nx := by
  intro i k hk
  rw [List.getElem?_drop] at hk
  obtain ⟨a, b, c⟩ := h (m + i) k hk
  have hi := (List.getElem?_eq_some_iff.1 hk).1
  refine ⟨a, by rw [b, List.length_drop]; congr 2; omega, ?_⟩
  rcases Nat.eq_zero_or_pos i with h0 | h0
  · exact .inl h0
  · refine .inr fun p hp => ?_
    rw [List.getElem?_drop] at hp
    rcases c with c | c
    · omega
    · exact c p (by rw [show m + i - 1 = m + (i - 1) by omega]; exact hp)
theorem FitP.snoc {L : List RK} {nx : UInt32} (h : FitP L nx) (hl : L.length < 2 ^ 31) {key : List UInt8} {now : Int} (hk : key.length = 32) (hm : ∀ k, L[L.length - 1]? = some k → k.made ≤ now) : FitP (L ++ [(⟨nx, key, now⟩ : RK)]) (nx + 1) := by
  intro i k hi
  have hlen : (L ++ [(⟨nx, key, now⟩ : RK)]).length = L.length + 1 := by simp
  rcases Nat.lt_or_ge i L.length with h1 | h1
  · rw [List.getElem?_append_left h1] at hi
    obtain ⟨a, b, c⟩ := h i k hi
    refine ⟨a, ?_, ?_⟩
    · rw [hlen, show L.length + 1 - i = L.length - i + 1 by omega, sub_next _ (by omega), b]
    · refine c.imp id fun c p hp => c p ?_
      rw [List.getElem?_append_left (by omega)] at hp; exact hp
  · rw [List.getElem?_append_right h1] at hi
    have h0 : i = L.length := by
      have := (List.getElem?_eq_some_iff.1 hi).1
      simp at this; omega
    subst h0
    simp at hi
    subst hi
    refine ⟨hk, ?_, ?_⟩
    · rw [hlen, show L.length + 1 - L.length = 0 + 1 by omega, sub_next _ (by omega)]
      apply UInt32.toNat_inj.1; rw [sub_of]; have := nx.toNat_lt; show nx.toNat = _; omega
    · rcases Nat.eq_zero_or_pos L.length with h0 | h0
      · exact .inl h0
      · refine .inr fun p hp => hm p ?_
        rw [List.getElem?_append_left (by omega)] at hp; exact hp

theorem FitP.at {L : List RK} {nx : UInt32} (h : FitP L nx) (hl : L.length < 2 ^ 31) {i : Nat} {k : RK} (hk : L[i]? = some k) : idxG (fun x => x.id == k.id) L = (i : Int) := by
  have hi := (List.getElem?_eq_some_iff.1 hk).1
  rw [idxG, idxG_found (i := i) (r := k) ?_ hk (by simp)]
  rw [List.any_eq_false]
  intro x hx
  obtain ⟨j, hj, rfl⟩ := List.mem_take_iff_getElem.1 hx
  have hj2 : j < L.length := by omega
  have hx2 := (h j L[j] (List.getElem?_eq_getElem hj2)).2.1
  have hk2 := (h i k hk).2.1
  simp only [beq_iff_eq]
  intro he
  rw [hx2, hk2] at he
  have := sub_inj (by omega) (by omega) he
  omega
end Pv

namespace Pv
set_option maxRecDepth 20000
set_option maxHeartbeats 4000000
open Go Go.Proofs Go.RowKit
variable {w0 : World}

theorem rotG_cases (L : List RK) (nx : UInt32) (key : List UInt8) (now : Int) : ((rotG L nx key now).2 ≠ 0 ∧ (rotG L nx key now).1 = (L, nx)) ∨
    ((rotG L nx key now).2 = 0 ∧ (rotG L nx key now).1 = ((L ++ [(⟨nx, key, now⟩ : RK)]).drop (L.length + 1 - 8), nx + 1) ∧ key.length = 32 ∧ ∀ k, L[L.length - 1]? = some k → k.made ≤ now) := by
  by_cases h1 : key.length = 32
  · cases hg : L[L.length - 1]? with
    | none =>
      right
      rw [rotG, if_neg (by simpa using h1), List.getLast?_eq_getElem?, hg]
      exact ⟨rfl, rfl, h1, by simp⟩
    | some k =>
      by_cases h2 : now < k.made
      · left; rw [rot_time L nx key now k h1 hg h2]; exact ⟨by simp, rfl⟩
      · right; rw [rot_good L nx key now k h1 hg h2]; exact ⟨rfl, rfl, h1, by intro x hx; cases hx; omega⟩
  · left; rw [rot_key L nx key now h1]; exact ⟨by simp, rfl⟩

theorem retN_lt (L : List RK) (now window : Int) (h0 : 0 < L.length) : retN L now window < L.length := by
  rw [retN]
  cases hf : L.findIdx? (youngK now window) with
  | none => show L.length - 1 < _; omega
  | some i => exact (List.findIdx?_eq_some_iff_getElem.1 hf).1

end Pv

namespace Pv
open Go Go.RowKit

/-! ### Numbers as bytes, highest first -/
/-- The j-th of k bytes of n. -/
def beAt (n k j : Nat) : UInt8 := UInt8.ofNat (n / 2 ^ (8 * (k - 1 - j)))
def beP (n k : Nat) (p : Nat → Bool) : List UInt8 := (List.range k).map fun j => if p j then beAt n k j else 0
def beL (n k : Nat) : List UInt8 := (List.range k).map (beAt n k)
theorem beP_len (n k : Nat) (p : Nat → Bool) : (beP n k p).length = k := by simp [beP]
theorem beL_len (n k : Nat) : (beL n k).length = k := by simp [beL]
theorem beP_all {n k : Nat} {p : Nat → Bool} (h : ∀ j, j < k → p j = true) : beP n k p = beL n k := by
  unfold beP beL; apply List.map_congr_left; intro j hj; rw [if_pos (h j (List.mem_range.1 hj))]
theorem beP_none {n k : Nat} {p : Nat → Bool} (h : ∀ j, j < k → p j = false) : beP n k p = List.replicate k 0 := by
  apply List.ext_getElem
  · simp [beP]
  · intro i h1 h2
    have hi : i < k := by simpa [beP] using h1
    simp [beP, h i hi]
theorem beP_set {n k m : Nat} {p p' : Nat → Bool} (h : ∀ j, j < k → p' j = (p j || j == m)) : (beP n k p).set m (beAt n k m) = beP n k p' := by
  apply List.ext_getElem
  · simp [beP]
  · intro i h1 h2
    have hi : i < k := by simpa [beP] using h2
    rw [List.getElem_set]
    simp only [beP, List.getElem_map, List.getElem_range]
    rw [h i hi]
    by_cases hm : m = i
    · subst hm; simp
    · have : (i == m) = false := by rw [beq_eq_false_iff_ne]; omega
      rw [if_neg hm, this, Bool.or_false]
theorem bytesPV_setb (l : List UInt8) (i : Nat) (b : UInt8) : (bytesPV l).set i (.int .u8 (b.toNat : Int)) = bytesPV (l.set i b) := by simp [bytesPV, List.map_set]
theorem wrap_u8n (n : Nat) : IntKind.wrap .u8 (n : Int) = ((UInt8.ofNat n).toNat : Int) := by
  simp [IntKind.wrap, IntKind.bits, IntKind.signed]
theorem shr_n (n m : Nat) (h : m < 64) : shrP .u64 (n : Int) (m : Int) = ((n / 2 ^ m : Nat) : Int) := by
  have : min (Int.toNat (m : Int)) (IntKind.bits .u64) = m := by simp [IntKind.bits]; omega
  rw [shrP, this, Int.fdiv_eq_ediv_of_nonneg _ (by exact_mod_cast Nat.zero_le _)]
  norm_cast

/-- What bytes are. -/
def valN (s : List UInt8) : Nat := s.foldl (fun n c => n * 256 + c.toNat) 0
theorem valN_snoc (s : List UInt8) (c : UInt8) : valN (s ++ [c]) = valN s * 256 + c.toNat := by simp [valN]
theorem valN_go : ∀ (s : List UInt8) (a : Nat), s.foldl (fun n c => n * 256 + c.toNat) a = a * 256 ^ s.length + valN s
  | [], a => by simp [valN]
  | c :: s, a => by
    have e : valN (c :: s) = (0 * 256 + c.toNat) * 256 ^ s.length + valN s := by rw [valN, List.foldl_cons, valN_go s]
    rw [List.foldl_cons, valN_go s, e, List.length_cons, Nat.pow_succ, Nat.add_mul, Nat.zero_mul, Nat.zero_add, Nat.add_assoc, Nat.mul_assoc, Nat.mul_comm 256]
theorem valN_cons (c : UInt8) (s : List UInt8) : valN (c :: s) = c.toNat * 256 ^ s.length + valN s := by
  have := valN_go (c :: s) 0
  rw [valN, List.foldl_cons, valN_go, Nat.zero_mul, Nat.zero_add]
theorem valN_lt : ∀ (s : List UInt8), valN s < 256 ^ s.length
  | [] => by simp [valN]
  | c :: s => by
    have h1 := valN_lt s
    have h2 := c.toNat_lt
    rw [valN_cons, List.length_cons, Nat.pow_succ]
    have h3 : (c.toNat + 1) * 256 ^ s.length ≤ 256 * 256 ^ s.length := Nat.mul_le_mul_right _ (by omega)
    rw [Nat.add_mul, Nat.one_mul] at h3
    omega
theorem beL_succ (n k : Nat) : beL n (k + 1) = UInt8.ofNat (n / 2 ^ (8 * k)) :: beL n k := by
  unfold beL
  rw [List.range_succ_eq_map, List.map_cons, List.map_map]
  congr 1
  apply List.map_congr_left
  intro j hj
  simp only [Function.comp, beAt]
  rw [show k + 1 - 1 - (j + 1) = k - 1 - j by omega]
theorem val_be (n : Nat) : ∀ k, valN (beL n k) = n % 256 ^ k
  | 0 => by simp [beL, valN, Nat.mod_one]
  | k + 1 => by
    rw [beL_succ, valN_cons, val_be n k, beL_len, UInt8.toNat_ofNat', show (2 : Nat) ^ (8 * k) = 256 ^ k by rw [Nat.pow_mul], Nat.pow_succ 256, Nat.mod_mul (x := n), Nat.mul_comm, Nat.add_comm]
theorem shl_or (n : Nat) (c : UInt8) (h : n < 2 ^ 56) : bitsP .or .u64 (shlP .u64 (n : Int) 8) (c.toNat : Int) = ((n * 256 + c.toNat : Nat) : Int) := by
  have hc := c.toNat_lt
  have e1 : shlP .u64 (n : Int) 8 = ((n * 256 : Nat) : Int) := by
    have : min (Int.toNat 8) (IntKind.bits .u64) = 8 := rfl
    rw [shlP, this]
    rw [show ((n : Int) * 2 ^ 8) = ((n * 256 : Nat) : Int) from by rw [Int.natCast_mul]; rfl]
    exact IntWalk.u64_in _ (by omega)
  rw [e1]
  show IntKind.wrap .u64 (((BitVec.ofInt 64 ((n * 256 : Nat) : Int)) ||| (BitVec.ofInt 64 (c.toNat : Int))).toNat : Int) = _
  rw [ofInt_nat, ofInt_nat, BitVec.toNat_or, BitVec.toNat_ofNat, BitVec.toNat_ofNat, Nat.mod_eq_of_lt (by omega), Nat.mod_eq_of_lt (by omega)]
  have e2 : n * 256 ||| c.toNat = n * 256 + c.toNat := by
    have := Nat.two_pow_add_eq_or_of_lt (i := 8) (b := c.toNat) hc n
    rw [show (2 : Nat) ^ 8 * n = n * 256 by rw [Nat.mul_comm]] at this
    exact this.symm
  rw [e2]
  exact IntWalk.u64_in _ (by omega)
end Pv
