/- Part of the proof: the layer of pure values, or walks through functions (PvSv4). -/
import Derived.Test.YtbocckencbkdeaaPvSv3
import Derived.Test.YtbocckencbkdeaaPvAe6
set_option linter.all false
namespace Pv
set_option maxRecDepth 20000
set_option maxHeartbeats 4000000
open Go Go.Proofs Go.RowKit
def tb36_6Sv4 : Tab := [[], [], [], [2], [2, 3], [1, 2, 3, 4], [], [0], [0, 1, 2, 3, 4, 5, 7], [0, 1, 2, 3, 4, 5, 6, 7, 8]]
def pl36_6Sv4 : Plan := [(0, true, []), (1, true, []), (2, true, []), (3, true, []), (4, true, []), (5, true, []), (6, true, []), (7, false, [1, 2, 3, 4, 5, 6]), (8, false, [6]), (9, false, [])]
variable {w0 : World}

theorem and_u8_127 (a : UInt8) : bitsP .and .u8 a.toNat 127 = ((a &&& 127).toNat : Int) := and_u8 a 127
theorem sivStream_ok (k v s : List UInt8) (hk : goodK k) (hv : v.length = 16) (hs : s.length ≤ 65536) : Fn (Cx w0) 39 [.str k, .str v, .str s] (.str (svS k v s)) := by
  have hml : (maskV v).length = 16 := by rw [maskV_len, hv]
  have st := stream_ok (w0 := w0) k (maskV v) (s.length : Int) (by rw [hml]; decide)
  rw [str_good hk hml hs] at st
  have hsl := strL_len hml (words16 hk) s.length
  rw [svS]
  generalize strL (wordsL k) (maskV v) s.length = t at *
  have xx := sivXor_ok (w0 := w0) s t (by omega) (by omega)
  generalize xorB s t = y at *
  obtain ⟨x8, h8⟩ := get_someW (show 8 < v.length by omega)
  obtain ⟨x12, h12⟩ := get_someW (show 12 < v.length by omega)
  have hm : maskV v = (v.set 8 (x8 &&& 127)).set 12 (x12 &&& 127) := by rw [maskV, List.getD_eq_getElem?_getD, List.getD_eq_getElem?_getD, h8, h12]; rfl
  rw [hm] at st hml
  have h12' : (v.set 8 (x8 &&& 127))[12]? = some x12 := by rw [List.getElem?_set_ne (by decide)]; exact h12
  have hl8 : (v.set 8 (x8 &&& 127)).length = 16 := by rw [List.length_set, hv]
  generalize hA : v.set 8 (x8 &&& 127) = A at *
  generalize hB : A.set 12 (x12 &&& 127) = B at *
  have k4 : List.take 16 (bytesPV B) = bytesPV B := List.take_of_length_le (by rw [bytesPV_len]; omega)
  refine fn_H ([Go.ResultVar.tmp 6]) Try.func39 rfl rfl (by decide) fun ph hW Q hQ => ?_
  simp only [start, List.length_cons, List.length_nil, List.cons_append, List.nil_append, Nat.reduceAdd, Nat.reduceSub, List.replicate_succ, List.replicate_zero, Try.ntmps39]
  repeat' first
    | simp -implicitDefEqProofs (maxSteps := 400000) (disch := first | with_reducible rfl | omega | (simp only [h_n, PH.n_push, PH.n_put, List.length_cons, List.length_nil] <;> omega) | decide) only [wkAll, wkL, popO, wantedP, if_true, if_false, reduceIte, ne_eq, Nat.reduceAdd, Nat.reduceSub, Nat.reduceMul, Nat.reduceLeDiff, Nat.reduceLT, ofCells, ofCell, reduceCtorEq, Int.reduceLE, Int.reduceLT, Int.reduceToNat, Int.reduceAdd, Int.reduceSub, Int.reduceMul, Int.reduceNeg, Int.reduceBEq, Int.reduceBNe, Int.reduceEq, eqCell, eqCells, binP, unP, convP, lenP, builtinP, sliceDataP, unsafeStringP, appendT, appendS, appendP, copyP, srcP, mmsP, mmP, indexOp, indexAddrOp, sliceOp, bndsP, bndP, capw, capCut, loadOp, storeOp, loadP, fieldOp, fieldAddrOp, arrayAtOp, buildP, buildSliceP, makeSliceP, placeF, fillP, setL, PK.agg, isZero, gt_iff_lt, Nat.reducePow, Nat.reduceGT, reps, seg, wkN, if_pos, if_neg, tf3, Try.ze3, tf5, Try.ze5, tf9, Try.ze9, tf36, Try.ze36, hv, h8, h12', hl8, hml, and_u8_127, bytesPV_set, hA, hB, k4, bytesX_bytesPV]
    | refine w_pure (st) ?_
    | refine w_pure (xx) ?_
    | refine w_dec (fun _ => ?_) (fun _ => ?_)
    | refine w_eqc (fun _ => ?_) (fun _ => ?_)
    | refine w_neqc (fun _ => ?_) (fun _ => ?_)
    | refine w_nneqc (fun _ => ?_) (fun _ => ?_)
    | ((first | refine w_split (fun h => ?_) (fun h => ?_) | refine d_split (fun h => ?_) (fun h => ?_) | refine w_csplit (fun h => ?_) (fun h => ?_)) <;> (try simp only [wkS] at h) <;> (have h2 := h) <;> (try simp only [wkT, ne_eq] at h2) <;> (try simp only [h]))
  refine hQ (by first | exact .inr rfl | exact .inl rfl) (by first | exact trivial | exact marks1) (by first | (simp -implicitDefEqProofs (maxSteps := 400000) (disch := first | with_reducible rfl | omega | (simp only [h_n, PH.n_push, PH.n_put, List.length_cons, List.length_nil] <;> omega) | decide) only [wkAll, wkL, popO, wantedP, if_true, if_false, reduceIte, ne_eq, Nat.reduceAdd, Nat.reduceSub, Nat.reduceMul, Nat.reduceLeDiff, Nat.reduceLT, ofCells, ofCell, reduceCtorEq, Int.reduceLE, Int.reduceLT, Int.reduceToNat, Int.reduceAdd, Int.reduceSub, Int.reduceMul, Int.reduceNeg, Int.reduceBEq, Int.reduceBNe, Int.reduceEq, eqCell, eqCells, binP, unP, convP, lenP, builtinP, sliceDataP, unsafeStringP, appendT, appendS, appendP, copyP, srcP, mmsP, mmP, indexOp, indexAddrOp, sliceOp, bndsP, bndP, capw, capCut, loadOp, storeOp, loadP, fieldOp, fieldAddrOp, arrayAtOp, buildP, buildSliceP, makeSliceP, placeF, fillP, setL, PK.agg, isZero, gt_iff_lt, Nat.reducePow, Nat.reduceGT, reps, seg, wkN, if_pos, if_neg, tf3, Try.ze3, tf5, Try.ze5, tf9, Try.ze9, tf36, Try.ze36, resP, resPs, resP1]; rfl) | rfl) ⟨6, by repeat' first | exact frz_scalar rfl | apply frz_tuple | apply frz_agg | apply frz_fsl | apply frz_gsl (by omega) | exact frzs_nil | apply frzs_cons⟩ (by first | exact keepsH0 | exact keeps1 (by assumption) | exact keepsH (fun _ _ h => h) (fun p hp => by simp only [upF]; (repeat rw [if_neg (by omega)])) | exact keeps1t (by assumption) (fun p hp => by simp only [upF]; (repeat rw [if_neg (by omega)])) | (subst hT; exact keepsH (fun _ _ h => h) fun _ _ => rfl)) (nw_eq ?_)
  rfl
theorem goodS_b {key : List UInt8} (h : ¬ goodS key) : ((key.length : Int) != 32) = true ∧ ((key.length : Int) != 64) = true := by
  rw [goodS, not_or] at h
  exact ⟨by rw [bne_iff_ne]; omega, by rw [bne_iff_ne]; omega⟩
theorem halves_ok (key : List UInt8) (n : Nat) (C : List PV) (hk : goodS key) (hn : n ≤ 126) : Fn (Cx w0) 36 [.str key, .fsl 1 n C] (.tuple [.agg (mkC (svA key)), .str (svB key), .int .i64 0]) := by
  have bg := sivBegin_ok (w0 := w0) (svA key) (svA_good hk)
  obtain ⟨b1, b2, q1, q0, hbb⟩ : ∃ b1 b2 : Bool, ((key.length : Int) != 32) = b1 ∧ ((key.length : Int) != 64) = b2 ∧ (b1 && b2) = false := ⟨_, _, rfl, rfl, by rcases hk with h | h <;> simp [h]⟩
  have d1 : Int.tdiv (key.length : Int) 2 = ((key.length / 2 : Nat) : Int) := tdivN key.length 2 (by decide)
  have hlk : key.length ≤ 64 := by rcases hk with h | h <;> omega
  obtain ⟨m, hm⟩ : ∃ m, m = key.length / 2 := ⟨_, rfl⟩
  rw [svA, svB] at *
  rw [← hm] at d1 bg ⊢
  have d2 : (m : Int) ≤ (key.length : Int) := by omega
  have d3 : m ≤ key.length := by omega
  have hdt : (key.drop m).take (key.length - m) = key.drop m := List.take_of_length_le (by rw [List.length_drop]; exact Nat.le_refl _)
  have g1 : ¬ (127 : Int) ≤ (n : Int) := by omega
  have hmk : (mkC (key.take m)).length = 3 := rfl
  have hmk2 : (mkC (key.take m)).all cellOk = true := rfl
  have hmk3 : List.take 3 (mkC (key.take m)) = mkC (key.take m) := rfl
  have hmk4 : (mkC (key.take m)).all scalarV = true := rfl
  have hset : ∀ c : List PV, c.length = 3 → setL c 0 (mkC (key.take m)) = mkC (key.take m) := fun c hc => setL_all _ _ (by rw [hc, hmk])
  generalize mkC (key.take m) = M at *
  cases b1 <;> cases b2 <;> simp only [Bool.and_self, Bool.and_true, Bool.true_and, reduceCtorEq] at hbb
  all_goals
    refine fn_H ([Go.ResultVar.cell 4 63, Go.ResultVar.tmp 5, Go.ResultVar.tmp 6]) Try.func36 rfl rfl (by decide) fun ph hW Q hQ => ?_
    simp only [start, List.length_cons, List.length_nil, List.cons_append, List.nil_append, Nat.reduceAdd, Nat.reduceSub, List.replicate_succ, List.replicate_zero, Try.ntmps36]
    repeat' first
      | simp -implicitDefEqProofs (maxSteps := 400000) (disch := first | with_reducible rfl | omega | (simp only [h_n, PH.n_push, PH.n_put, List.length_cons, List.length_nil] <;> omega) | decide) only [wkAll, wkL, popO, wantedP, if_true, if_false, reduceIte, ne_eq, Nat.reduceAdd, Nat.reduceSub, Nat.reduceMul, Nat.reduceLeDiff, Nat.reduceLT, ofCells, ofCell, reduceCtorEq, Int.reduceLE, Int.reduceLT, Int.reduceToNat, Int.reduceAdd, Int.reduceSub, Int.reduceMul, Int.reduceNeg, Int.reduceBEq, Int.reduceBNe, Int.reduceEq, eqCell, eqCells, binP, unP, convP, lenP, builtinP, sliceDataP, unsafeStringP, appendT, appendS, appendP, copyP, srcP, mmsP, mmP, indexOp, indexAddrOp, sliceOp, bndsP, bndP, capw, capCut, loadOp, storeOp, loadP, fieldOp, fieldAddrOp, arrayAtOp, buildP, buildSliceP, makeSliceP, placeF, fillP, setL, PK.agg, isZero, gt_iff_lt, Nat.reducePow, Nat.reduceGT, reps, seg, wkN, if_pos, if_neg, tf3, Try.ze3, tf9, Try.ze9, tf38, Try.ze38, tf63, Try.ze63, pl36_6Sv4, ge_iff_le, q1, q0, g1, d1, d2, d3, hdt, hmk, hmk2, hmk3, hset]
      | refine w_pure (bg) ?_
      | refine w_dec (fun _ => ?_) (fun _ => ?_)
      | refine w_eqc (fun _ => ?_) (fun _ => ?_)
      | refine w_neqc (fun _ => ?_) (fun _ => ?_)
      | refine w_nneqc (fun _ => ?_) (fun _ => ?_)
      | ((first | refine w_split (fun h => ?_) (fun h => ?_) | refine d_split (fun h => ?_) (fun h => ?_) | refine w_csplit (fun h => ?_) (fun h => ?_)) <;> (try simp only [wkS] at h) <;> (have h2 := h) <;> (try simp only [wkT, ne_eq] at h2) <;> (try simp only [h]))
      | refine w_drawnF (id := 6) tb36_6Sv4 pl36_6Sv4 38 (by kernel_rfl) (by kernel_rfl) (by simp) ?_
    refine hQ (by first | exact .inr rfl | exact .inl rfl) (by first | exact trivial | exact marks1) (by first | (simp -implicitDefEqProofs (maxSteps := 400000) (disch := first | with_reducible rfl | omega | (simp only [h_n, PH.n_push, PH.n_put, List.length_cons, List.length_nil] <;> omega) | decide) only [wkAll, wkL, popO, wantedP, if_true, if_false, reduceIte, ne_eq, Nat.reduceAdd, Nat.reduceSub, Nat.reduceMul, Nat.reduceLeDiff, Nat.reduceLT, ofCells, ofCell, reduceCtorEq, Int.reduceLE, Int.reduceLT, Int.reduceToNat, Int.reduceAdd, Int.reduceSub, Int.reduceMul, Int.reduceNeg, Int.reduceBEq, Int.reduceBNe, Int.reduceEq, eqCell, eqCells, binP, unP, convP, lenP, builtinP, sliceDataP, unsafeStringP, appendT, appendS, appendP, copyP, srcP, mmsP, mmP, indexOp, indexAddrOp, sliceOp, bndsP, bndP, capw, capCut, loadOp, storeOp, loadP, fieldOp, fieldAddrOp, arrayAtOp, buildP, buildSliceP, makeSliceP, placeF, fillP, setL, PK.agg, isZero, gt_iff_lt, Nat.reducePow, Nat.reduceGT, reps, seg, wkN, if_pos, if_neg, tf3, Try.ze3, tf9, Try.ze9, tf38, Try.ze38, tf63, Try.ze63, pl36_6Sv4, resP, resPs, resP1, hmk3]; rfl) | rfl) ⟨6, by repeat' first | exact frz_scalar rfl | apply frz_tuple | apply frz_agg | apply frz_fsl | apply frz_gsl (by omega) | exact frzs_nil | apply frzs_cons | exact frzs_scalars (hmk4)⟩ (by first | exact keepsH0 | exact keeps1 (by assumption) | exact keepsH (fun _ _ h => h) (fun p hp => by simp only [upF]; (repeat rw [if_neg (by omega)])) | exact keeps1t (by assumption) (fun p hp => by simp only [upF]; (repeat rw [if_neg (by omega)])) | (subst hT; exact keepsH (fun _ _ h => h) fun _ _ => rfl)) (nw_eq ?_)
    rfl
theorem halves_no (key : List UInt8) (n : Nat) (C : List PV) (e : Int) (h : (¬ goodS key ∧ e = 13) ∨ (goodS key ∧ 127 ≤ n ∧ e = 18)) : Fn (Cx w0) 36 [.str key, .fsl 1 n C] (.tuple [.agg [.str [], .str [], .str []], .str [], .int .i64 e]) := by
  rcases h with ⟨hk, rfl⟩ | ⟨hk, hn, rfl⟩
  · obtain ⟨q1, q0⟩ := goodS_b hk
    refine fn_H ([Go.ResultVar.cell 4 63, Go.ResultVar.tmp 5, Go.ResultVar.tmp 6]) Try.func36 rfl rfl (by decide) fun ph hW Q hQ => ?_
    simp only [start, List.length_cons, List.length_nil, List.cons_append, List.nil_append, Nat.reduceAdd, Nat.reduceSub, List.replicate_succ, List.replicate_zero, Try.ntmps36]
    repeat' first
      | simp -implicitDefEqProofs (maxSteps := 400000) (disch := first | with_reducible rfl | omega | (simp only [h_n, PH.n_push, PH.n_put, List.length_cons, List.length_nil] <;> omega) | decide) only [wkAll, wkL, popO, wantedP, if_true, if_false, reduceIte, ne_eq, Nat.reduceAdd, Nat.reduceSub, Nat.reduceMul, Nat.reduceLeDiff, Nat.reduceLT, ofCells, ofCell, reduceCtorEq, Int.reduceLE, Int.reduceLT, Int.reduceToNat, Int.reduceAdd, Int.reduceSub, Int.reduceMul, Int.reduceNeg, Int.reduceBEq, Int.reduceBNe, Int.reduceEq, eqCell, eqCells, binP, unP, convP, lenP, builtinP, sliceDataP, unsafeStringP, appendT, appendS, appendP, copyP, srcP, mmsP, mmP, indexOp, indexAddrOp, sliceOp, bndsP, bndP, capw, capCut, loadOp, storeOp, loadP, fieldOp, fieldAddrOp, arrayAtOp, buildP, buildSliceP, makeSliceP, placeF, fillP, setL, PK.agg, isZero, gt_iff_lt, Nat.reducePow, Nat.reduceGT, reps, seg, wkN, if_pos, if_neg, tf3, Try.ze3, tf9, Try.ze9, tf38, Try.ze38, tf63, Try.ze63, pl36_6Sv4, q1, q0]
      | refine w_dec (fun _ => ?_) (fun _ => ?_)
      | refine w_eqc (fun _ => ?_) (fun _ => ?_)
      | refine w_neqc (fun _ => ?_) (fun _ => ?_)
      | refine w_nneqc (fun _ => ?_) (fun _ => ?_)
      | ((first | refine w_split (fun h => ?_) (fun h => ?_) | refine d_split (fun h => ?_) (fun h => ?_) | refine w_csplit (fun h => ?_) (fun h => ?_)) <;> (try simp only [wkS] at h) <;> (have h2 := h) <;> (try simp only [wkT, ne_eq] at h2) <;> (try simp only [h]))
      | refine w_drawnF (id := 6) tb36_6Sv4 pl36_6Sv4 38 (by kernel_rfl) (by kernel_rfl) (by simp) ?_
    refine hQ (by first | exact .inr rfl | exact .inl rfl) (by first | exact trivial | exact marks1) (by first | (simp -implicitDefEqProofs (maxSteps := 400000) (disch := first | with_reducible rfl | omega | (simp only [h_n, PH.n_push, PH.n_put, List.length_cons, List.length_nil] <;> omega) | decide) only [wkAll, wkL, popO, wantedP, if_true, if_false, reduceIte, ne_eq, Nat.reduceAdd, Nat.reduceSub, Nat.reduceMul, Nat.reduceLeDiff, Nat.reduceLT, ofCells, ofCell, reduceCtorEq, Int.reduceLE, Int.reduceLT, Int.reduceToNat, Int.reduceAdd, Int.reduceSub, Int.reduceMul, Int.reduceNeg, Int.reduceBEq, Int.reduceBNe, Int.reduceEq, eqCell, eqCells, binP, unP, convP, lenP, builtinP, sliceDataP, unsafeStringP, appendT, appendS, appendP, copyP, srcP, mmsP, mmP, indexOp, indexAddrOp, sliceOp, bndsP, bndP, capw, capCut, loadOp, storeOp, loadP, fieldOp, fieldAddrOp, arrayAtOp, buildP, buildSliceP, makeSliceP, placeF, fillP, setL, PK.agg, isZero, gt_iff_lt, Nat.reducePow, Nat.reduceGT, reps, seg, wkN, if_pos, if_neg, tf3, Try.ze3, tf9, Try.ze9, tf38, Try.ze38, tf63, Try.ze63, pl36_6Sv4, resP, resPs, resP1]; rfl) | rfl) ⟨6, by repeat' first | exact frz_scalar rfl | apply frz_tuple | apply frz_agg | apply frz_fsl | apply frz_gsl (by omega) | exact frzs_nil | apply frzs_cons⟩ (by first | exact keepsH0 | exact keeps1 (by assumption) | exact keepsH (fun _ _ h => h) (fun p hp => by simp only [upF]; (repeat rw [if_neg (by omega)])) | exact keeps1t (by assumption) (fun p hp => by simp only [upF]; (repeat rw [if_neg (by omega)])) | (subst hT; exact keepsH (fun _ _ h => h) fun _ _ => rfl)) (nw_eq ?_)
    rfl
  · obtain ⟨b1, b2, q1, q0, hbb⟩ : ∃ b1 b2 : Bool, ((key.length : Int) != 32) = b1 ∧ ((key.length : Int) != 64) = b2 ∧ (b1 && b2) = false := ⟨_, _, rfl, rfl, by rcases hk with h | h <;> simp [h]⟩
    have g1 : (127 : Int) ≤ (n : Int) := by omega
    cases b1 <;> cases b2 <;> simp only [Bool.and_self, Bool.and_true, Bool.true_and, reduceCtorEq] at hbb
    all_goals
      refine fn_H ([Go.ResultVar.cell 4 63, Go.ResultVar.tmp 5, Go.ResultVar.tmp 6]) Try.func36 rfl rfl (by decide) fun ph hW Q hQ => ?_
      simp only [start, List.length_cons, List.length_nil, List.cons_append, List.nil_append, Nat.reduceAdd, Nat.reduceSub, List.replicate_succ, List.replicate_zero, Try.ntmps36]
      repeat' first
        | simp -implicitDefEqProofs (maxSteps := 400000) (disch := first | with_reducible rfl | omega | (simp only [h_n, PH.n_push, PH.n_put, List.length_cons, List.length_nil] <;> omega) | decide) only [wkAll, wkL, popO, wantedP, if_true, if_false, reduceIte, ne_eq, Nat.reduceAdd, Nat.reduceSub, Nat.reduceMul, Nat.reduceLeDiff, Nat.reduceLT, ofCells, ofCell, reduceCtorEq, Int.reduceLE, Int.reduceLT, Int.reduceToNat, Int.reduceAdd, Int.reduceSub, Int.reduceMul, Int.reduceNeg, Int.reduceBEq, Int.reduceBNe, Int.reduceEq, eqCell, eqCells, binP, unP, convP, lenP, builtinP, sliceDataP, unsafeStringP, appendT, appendS, appendP, copyP, srcP, mmsP, mmP, indexOp, indexAddrOp, sliceOp, bndsP, bndP, capw, capCut, loadOp, storeOp, loadP, fieldOp, fieldAddrOp, arrayAtOp, buildP, buildSliceP, makeSliceP, placeF, fillP, setL, PK.agg, isZero, gt_iff_lt, Nat.reducePow, Nat.reduceGT, reps, seg, wkN, if_pos, if_neg, tf3, Try.ze3, tf9, Try.ze9, tf38, Try.ze38, tf63, Try.ze63, pl36_6Sv4, ge_iff_le, q1, q0, g1]
        | refine w_dec (fun _ => ?_) (fun _ => ?_)
        | refine w_eqc (fun _ => ?_) (fun _ => ?_)
        | refine w_neqc (fun _ => ?_) (fun _ => ?_)
        | refine w_nneqc (fun _ => ?_) (fun _ => ?_)
        | ((first | refine w_split (fun h => ?_) (fun h => ?_) | refine d_split (fun h => ?_) (fun h => ?_) | refine w_csplit (fun h => ?_) (fun h => ?_)) <;> (try simp only [wkS] at h) <;> (have h2 := h) <;> (try simp only [wkT, ne_eq] at h2) <;> (try simp only [h]))
        | refine w_drawnF (id := 6) tb36_6Sv4 pl36_6Sv4 38 (by kernel_rfl) (by kernel_rfl) (by simp) ?_
      refine hQ (by first | exact .inr rfl | exact .inl rfl) (by first | exact trivial | exact marks1) (by first | (simp -implicitDefEqProofs (maxSteps := 400000) (disch := first | with_reducible rfl | omega | (simp only [h_n, PH.n_push, PH.n_put, List.length_cons, List.length_nil] <;> omega) | decide) only [wkAll, wkL, popO, wantedP, if_true, if_false, reduceIte, ne_eq, Nat.reduceAdd, Nat.reduceSub, Nat.reduceMul, Nat.reduceLeDiff, Nat.reduceLT, ofCells, ofCell, reduceCtorEq, Int.reduceLE, Int.reduceLT, Int.reduceToNat, Int.reduceAdd, Int.reduceSub, Int.reduceMul, Int.reduceNeg, Int.reduceBEq, Int.reduceBNe, Int.reduceEq, eqCell, eqCells, binP, unP, convP, lenP, builtinP, sliceDataP, unsafeStringP, appendT, appendS, appendP, copyP, srcP, mmsP, mmP, indexOp, indexAddrOp, sliceOp, bndsP, bndP, capw, capCut, loadOp, storeOp, loadP, fieldOp, fieldAddrOp, arrayAtOp, buildP, buildSliceP, makeSliceP, placeF, fillP, setL, PK.agg, isZero, gt_iff_lt, Nat.reducePow, Nat.reduceGT, reps, seg, wkN, if_pos, if_neg, tf3, Try.ze3, tf9, Try.ze9, tf38, Try.ze38, tf63, Try.ze63, pl36_6Sv4, resP, resPs, resP1]; rfl) | rfl) ⟨6, by repeat' first | exact frz_scalar rfl | apply frz_tuple | apply frz_agg | apply frz_fsl | apply frz_gsl (by omega) | exact frzs_nil | apply frzs_cons⟩ (by first | exact keepsH0 | exact keeps1 (by assumption) | exact keepsH (fun _ _ h => h) (fun p hp => by simp only [upF]; (repeat rw [if_neg (by omega)])) | exact keeps1t (by assumption) (fun p hp => by simp only [upF]; (repeat rw [if_neg (by omega)])) | (subst hT; exact keepsH (fun _ _ h => h) fun _ _ => rfl)) (nw_eq ?_)
      rfl
end Pv
