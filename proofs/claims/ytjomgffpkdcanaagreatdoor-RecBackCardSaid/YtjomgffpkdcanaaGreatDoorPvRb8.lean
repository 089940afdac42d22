/- Part of the proof: the layer of pure values, or walks through functions (PvRb8). -/
import Derived.Test.YtjomgffpkdcanaaGreatDoorPvRb7
import Derived.Test.YtjomgffpkdcanaaGreatDoorPvEntry
set_option linter.all false
--nosplit
--keep2
namespace Pv
set_option maxRecDepth 20000
set_option maxHeartbeats 4000000
open Go Go.Proofs Go.RowKit
variable {w0 : World}

theorem prot_fail {key iv : List UInt8} {q K : Int} {b : List UInt8} {pad : Int} (h : (protL key iv q K b pad).2.2 ≠ 0) : (protL key iv q K b pad).1 = q ∧ (protL key iv q K b pad).2.1 = [] := by
  unfold protL at h ⊢
  split
  · exact ⟨rfl, rfl⟩
  · split
    · exact ⟨rfl, rfl⟩
    · split
      · exact ⟨rfl, rfl⟩
      · split
        · exact ⟨rfl, rfl⟩
        · split
          · exact ⟨rfl, rfl⟩
          · rename_i h1 h2 h3 h4 h5
            rw [if_neg h1, if_neg h2, if_neg h3, if_neg h4, if_neg h5] at h
            exact absurd rfl h
theorem prot_ok {key iv : List UInt8} {q K : Int} {b : List UInt8} {pad : Int} (h : (protL key iv q K b pad).2.2 = 0) : knB K = true ∧ (0 ≤ pad ∧ (b.length : Int) + pad ≤ 16384) ∧ key.length = 16 ∧ iv.length = 12 ∧ q ≠ 18446744073709551615 ∧ protL key iv q K b pad = (q + 1, adL K b pad ++ sealL key iv q K b pad, 0) := by
  unfold protL at h ⊢
  by_cases h1 : knB K = false
  · rw [if_pos h1] at h; cases h
  · rw [if_neg h1] at h ⊢
    by_cases h2 : 16384 < (b.length : Int)
    · rw [if_pos h2] at h; cases h
    · rw [if_neg h2] at h ⊢
      by_cases h3 : pad < 0 ∨ 16384 - (b.length : Int) < pad
      · rw [if_pos h3] at h; cases h
      · rw [if_neg h3] at h ⊢
        by_cases h4 : ¬ (key.length = 16 ∧ iv.length = 12)
        · rw [if_pos h4] at h; cases h
        · rw [if_neg h4] at h ⊢
          by_cases h5 : q = 18446744073709551615
          · rw [if_pos h5] at h; cases h
          · rw [if_neg h5]
            have h4' : key.length = 16 ∧ iv.length = 12 := by simpa using h4
            exact ⟨by simpa using h1, by omega, h4'.1, h4'.2, h5, rfl⟩
theorem bneT13 {a : Int} (h : a ≠ 0) : (a != 0) = true := by rw [bne_iff_ne]; exact h
theorem RecBack_main (key iv : List UInt8) (q K : Int) (b : List UInt8) (pad : Int) (more : List UInt8) (hq : 0 ≤ q ∧ q ≤ 18446744073709551615) (hb : b.length < 2 ^ 47) (tf : Fn (Cx w0) 4 [.str b] (.bool true)) (aw : Fn (Cx w0) 5 [] (.bool true)) (gx : ¬ 300 < pad) (gy : ¬ 300 < pad) (g4 : more.length ≤ 1000) : Fn (Cx w0) 3 [.agg [.str key, .str iv, .int .u64 q], .agg [.int .i64 K, .str b], .int .i64 pad, .str more] (.bool true) := by
  have g4' : ¬ (1000 : Int) < (more.length : Int) := by omega
  have t1 := recFrame_ok (w0 := w0) K b (Nat.lt_trans hb (by decide))
  have t2 := recProtect_ok (w0 := w0) key iv q K b pad hq (Nat.lt_trans hb (by decide))
  -- the frame's part
  have hfr : (∃ e, e ≠ 0 ∧ frameL K b = ([], e)) ∨ (knB K = true ∧ (b.length : Int) ≤ mostL K ∧ frameL K b = (headL K b.length ++ b, 0)) := by
    unfold frameL
    by_cases h1 : knB K = false
    · rw [if_pos h1]; exact .inl ⟨23, by decide, rfl⟩
    · rw [if_neg h1]
      by_cases h2 : mostL K < (b.length : Int)
      · rw [if_pos h2]; exact .inl ⟨12, by decide, rfl⟩
      · rw [if_neg h2]; exact .inr ⟨by simpa using h1, by omega, rfl⟩
  -- what is sealed
  have hpr : (∃ e, e ≠ 0 ∧ protL key iv q K b pad = (q, [], e)) ∨ (knB K = true ∧ (0 ≤ pad ∧ (b.length : Int) + pad ≤ 16384) ∧ key.length = 16 ∧ iv.length = 12 ∧ q ≠ 18446744073709551615 ∧ protL key iv q K b pad = (q + 1, adL K b pad ++ sealL key iv q K b pad, 0)) := by
    by_cases h : (protL key iv q K b pad).2.2 = 0
    · exact .inr (prot_ok h)
    · obtain ⟨h1, h2⟩ := prot_fail h
      exact .inl ⟨_, h, Prod.ext h1 (Prod.ext h2 rfl)⟩
  have hfrP : ∀ Z : Prop, (∀ (a : List UInt8) (e : Int), (Fn (Cx w0) 6 [.agg [.int .i64 K, .str b]] (.tuple [.str a, .int .i64 e])) → ((e = 0 ∧ a.length = 5 + b.length ∧ Fn (Cx w0) 7 [.str (a ++ more)] (.tuple [.agg [.int .i64 K, .str b], .str more, .int .i64 0])) ∨ e ≠ 0) → Z) → Z := by
    intro Z hZ
    rcases hfr with ⟨e, he, h⟩ | ⟨h1, h2, h⟩
    · rw [h] at t1; exact hZ _ _ t1 (.inr he)
    · rw [h] at t1; exact hZ _ _ t1 (.inl ⟨rfl, by simp [headL]; omega, recUnframe_ok K b more h1 h2 (by omega)⟩)
  refine hfrP _ ?_
  clear hfrP hfr t1
  intro a e t1 hae
  rcases hpr with ⟨f, hf, h⟩ | ⟨p1, p2, p3, p4, p5, h⟩
  · rw [h] at t2
    have hf' := bneT13 hf
    rcases hae with ⟨he, hal, tu⟩ | he
    · have he' : (e == 0) = true := by rw [beq_iff_eq]; exact he
      have f1 : (a.length + more.length ≤ 9223372036854775807) = True := by simp; omega
      refine fn_H ([Go.ResultVar.tmp 8]) Tryz.func3 rfl rfl (by decide) fun ph hW Q hQ => ?_
      simp only [start, List.length_cons, List.length_nil, List.cons_append, List.nil_append, Nat.reduceAdd, Nat.reduceSub, List.replicate_succ, List.replicate_zero, Tryz.ntmps3]
      repeat' first | simp -implicitDefEqProofs (maxSteps := 400000) (disch := first | with_reducible rfl | omega | (simp only [wkH] <;> omega) | decide) only [wkAll, wkL, popO, wantedP, if_true, if_false, reduceIte, ne_eq, Nat.reduceAdd, Nat.reduceSub, Nat.reduceMul, Nat.reduceLeDiff, Nat.reduceLT, ofCells, ofCell, reduceCtorEq, Int.reduceLE, Int.reduceLT, Int.reduceToNat, Int.reduceAdd, Int.reduceSub, Int.reduceMul, Int.reduceNeg, Int.reduceBEq, Int.reduceBNe, Int.reduceEq, eqCell, eqCells, binP, unP, convP, lenP, builtinP, sliceDataP, unsafeStringP, appendT, appendS, appendP, copyP, srcP, mmsP, mmP, indexOp, indexAddrOp, sliceOp, bndsP, bndP, capw, capCut, loadOp, storeOp, loadP, fieldOp, fieldAddrOp, arrayAtOp, buildP, buildSliceP, makeSliceP, placeF, fillP, setL, PK.agg, isZero, gt_iff_lt, Nat.reducePow, Nat.reduceGT, reps, seg, wkN, if_pos, if_neg, tf3, Tryz.ze3, tf4, Tryz.ze4, tf9, Tryz.ze9, tf22, Tryz.ze22, tf24, Tryz.ze24, tf26, Tryz.ze26, tf29, Tryz.ze29, gx, gy, g4', he', hf', f1, gt_iff_lt, bne_self_eq_false, beq_self_eq_true] | refine w_pure (tf) ?_ | refine w_pure (t1) ?_ | refine w_pure (tu) ?_ | refine w_pure (t2) ?_ | refine w_pure (aw) ?_
      refine hQ (by first | exact .inr rfl | exact .inl rfl) (by first | exact trivial | exact marks1) (by first | (simp -implicitDefEqProofs (maxSteps := 400000) (disch := first | with_reducible rfl | omega | (simp only [wkH] <;> omega) | decide) only [wkAll, wkL, popO, wantedP, if_true, if_false, reduceIte, ne_eq, Nat.reduceAdd, Nat.reduceSub, Nat.reduceMul, Nat.reduceLeDiff, Nat.reduceLT, ofCells, ofCell, reduceCtorEq, Int.reduceLE, Int.reduceLT, Int.reduceToNat, Int.reduceAdd, Int.reduceSub, Int.reduceMul, Int.reduceNeg, Int.reduceBEq, Int.reduceBNe, Int.reduceEq, eqCell, eqCells, loadOp, storeOp, loadP, setL, PK.agg, isZero, gt_iff_lt, Nat.reducePow, Nat.reduceGT, reps, seg, wkN, if_pos, if_neg, tf3, Tryz.ze3, tf4, Tryz.ze4, tf9, Tryz.ze9, tf22, Tryz.ze22, tf24, Tryz.ze24, tf26, Tryz.ze26, tf29, Tryz.ze29, resP, resPs, resP1]; rfl) | rfl) ⟨6, by repeat' first | exact frz_scalar rfl | apply frz_tuple | apply frz_agg | apply frz_fsl | apply frz_gsl (by omega) | exact frzs_nil | apply frzs_cons⟩ (by first | exact keepsH0 | exact keeps1 (by assumption)) (nw_eq ?_)
      rfl
    · have he' : (e == 0) = false := by rw [beq_eq_false_iff_ne]; exact he
      refine fn_H ([Go.ResultVar.tmp 8]) Tryz.func3 rfl rfl (by decide) fun ph hW Q hQ => ?_
      simp only [start, List.length_cons, List.length_nil, List.cons_append, List.nil_append, Nat.reduceAdd, Nat.reduceSub, List.replicate_succ, List.replicate_zero, Tryz.ntmps3]
      repeat' first | simp -implicitDefEqProofs (maxSteps := 400000) (disch := first | with_reducible rfl | omega | (simp only [wkH] <;> omega) | decide) only [wkAll, wkL, popO, wantedP, if_true, if_false, reduceIte, ne_eq, Nat.reduceAdd, Nat.reduceSub, Nat.reduceMul, Nat.reduceLeDiff, Nat.reduceLT, ofCells, ofCell, reduceCtorEq, Int.reduceLE, Int.reduceLT, Int.reduceToNat, Int.reduceAdd, Int.reduceSub, Int.reduceMul, Int.reduceNeg, Int.reduceBEq, Int.reduceBNe, Int.reduceEq, eqCell, eqCells, binP, unP, convP, lenP, builtinP, sliceDataP, unsafeStringP, appendT, appendS, appendP, copyP, srcP, mmsP, mmP, indexOp, indexAddrOp, sliceOp, bndsP, bndP, capw, capCut, loadOp, storeOp, loadP, fieldOp, fieldAddrOp, arrayAtOp, buildP, buildSliceP, makeSliceP, placeF, fillP, setL, PK.agg, isZero, gt_iff_lt, Nat.reducePow, Nat.reduceGT, reps, seg, wkN, if_pos, if_neg, tf3, Tryz.ze3, tf4, Tryz.ze4, tf9, Tryz.ze9, tf22, Tryz.ze22, tf24, Tryz.ze24, tf26, Tryz.ze26, tf29, Tryz.ze29, gx, gy, g4', he', hf', gt_iff_lt, bne_self_eq_false, beq_self_eq_true] | refine w_pure (tf) ?_ | refine w_pure (t1) ?_ | refine w_pure (t2) ?_ | refine w_pure (aw) ?_
      refine hQ (by first | exact .inr rfl | exact .inl rfl) (by first | exact trivial | exact marks1) (by first | (simp -implicitDefEqProofs (maxSteps := 400000) (disch := first | with_reducible rfl | omega | (simp only [wkH] <;> omega) | decide) only [wkAll, wkL, popO, wantedP, if_true, if_false, reduceIte, ne_eq, Nat.reduceAdd, Nat.reduceSub, Nat.reduceMul, Nat.reduceLeDiff, Nat.reduceLT, ofCells, ofCell, reduceCtorEq, Int.reduceLE, Int.reduceLT, Int.reduceToNat, Int.reduceAdd, Int.reduceSub, Int.reduceMul, Int.reduceNeg, Int.reduceBEq, Int.reduceBNe, Int.reduceEq, eqCell, eqCells, loadOp, storeOp, loadP, setL, PK.agg, isZero, gt_iff_lt, Nat.reducePow, Nat.reduceGT, reps, seg, wkN, if_pos, if_neg, tf3, Tryz.ze3, tf4, Tryz.ze4, tf9, Tryz.ze9, tf22, Tryz.ze22, tf24, Tryz.ze24, tf26, Tryz.ze26, tf29, Tryz.ze29, resP, resPs, resP1]; rfl) | rfl) ⟨6, by repeat' first | exact frz_scalar rfl | apply frz_tuple | apply frz_agg | apply frz_fsl | apply frz_gsl (by omega) | exact frzs_nil | apply frzs_cons⟩ (by first | exact keepsH0 | exact keeps1 (by assumption)) (nw_eq ?_)
      rfl
  · rw [h] at t2
    have t3 := recUnprotect_ok (w0 := w0) key iv q K b pad ⟨hq.1, by omega⟩ p3 p4 p1 p2
    have hPl : (plainL K b pad).length = b.length + 1 + pad.toNat := by simp [plainL]; omega
    have hol := (open_seal (ad := adL K b pad) (.inl p3) (nonce_len p4 q) (show (plainL K b pad).length ≤ 65536 by omega)).2
    have hCl : (sealL key iv q K b pad).length = (plainL K b pad).length + 16 := hol
    have hs : adL K b pad ++ sealL key iv q K b pad = headL 23 ((sealL key iv q K b pad).length : Int) ++ sealL key iv q K b pad := by rw [hCl]; rfl
    have t4 := recUnframe_ok (w0 := w0) 23 (sealL key iv q K b pad) more rfl (by rw [hCl, hPl]; show ((b.length + 1 + pad.toNat + 16 : Nat) : Int) ≤ 16640; omega) (by omega)
    rw [← hs] at t4
    have hsl : (adL K b pad ++ sealL key iv q K b pad).length = b.length + pad.toNat + 22 := by rw [List.length_append, hCl, hPl]; show 5 + _ = _; omega
    generalize sealL key iv q K b pad = C at *
    generalize adL K b pad ++ C = S at *
    have f2 : (S.length + more.length ≤ 9223372036854775807) = True := by simp; omega
    have hwr : IntKind.wrap .u64 (q + 1) = q + 1 := IntWalk.u64_in _ (by omega)
    rcases hae with ⟨he, hal, tu⟩ | he
    · have he' : (e == 0) = true := by rw [beq_iff_eq]; exact he
      have f1 : (a.length + more.length ≤ 9223372036854775807) = True := by simp; omega
      refine fn_H ([Go.ResultVar.tmp 8]) Tryz.func3 rfl rfl (by decide) fun ph hW Q hQ => ?_
      simp only [start, List.length_cons, List.length_nil, List.cons_append, List.nil_append, Nat.reduceAdd, Nat.reduceSub, List.replicate_succ, List.replicate_zero, Tryz.ntmps3]
      repeat' first | simp -implicitDefEqProofs (maxSteps := 400000) (disch := first | with_reducible rfl | omega | (simp only [wkH] <;> omega) | decide) only [wkAll, wkL, popO, wantedP, if_true, if_false, reduceIte, ne_eq, Nat.reduceAdd, Nat.reduceSub, Nat.reduceMul, Nat.reduceLeDiff, Nat.reduceLT, ofCells, ofCell, reduceCtorEq, Int.reduceLE, Int.reduceLT, Int.reduceToNat, Int.reduceAdd, Int.reduceSub, Int.reduceMul, Int.reduceNeg, Int.reduceBEq, Int.reduceBNe, Int.reduceEq, eqCell, eqCells, binP, unP, convP, lenP, builtinP, sliceDataP, unsafeStringP, appendT, appendS, appendP, copyP, srcP, mmsP, mmP, indexOp, indexAddrOp, sliceOp, bndsP, bndP, capw, capCut, loadOp, storeOp, loadP, fieldOp, fieldAddrOp, arrayAtOp, buildP, buildSliceP, makeSliceP, placeF, fillP, setL, PK.agg, isZero, gt_iff_lt, Nat.reducePow, Nat.reduceGT, reps, seg, wkN, if_pos, if_neg, tf3, Tryz.ze3, tf4, Tryz.ze4, tf9, Tryz.ze9, tf22, Tryz.ze22, tf24, Tryz.ze24, tf26, Tryz.ze26, tf29, Tryz.ze29, gx, gy, g4', he', f1, f2, hwr, gt_iff_lt, bne_self_eq_false, beq_self_eq_true] | refine w_pure (tf) ?_ | refine w_pure (t1) ?_ | refine w_pure (tu) ?_ | refine w_pure (t2) ?_ | refine w_pure (t4) ?_ | refine w_pure (t3) ?_ | refine w_pure (aw) ?_
      refine hQ (by first | exact .inr rfl | exact .inl rfl) (by first | exact trivial | exact marks1) (by first | (simp -implicitDefEqProofs (maxSteps := 400000) (disch := first | with_reducible rfl | omega | (simp only [wkH] <;> omega) | decide) only [wkAll, wkL, popO, wantedP, if_true, if_false, reduceIte, ne_eq, Nat.reduceAdd, Nat.reduceSub, Nat.reduceMul, Nat.reduceLeDiff, Nat.reduceLT, ofCells, ofCell, reduceCtorEq, Int.reduceLE, Int.reduceLT, Int.reduceToNat, Int.reduceAdd, Int.reduceSub, Int.reduceMul, Int.reduceNeg, Int.reduceBEq, Int.reduceBNe, Int.reduceEq, eqCell, eqCells, loadOp, storeOp, loadP, setL, PK.agg, isZero, gt_iff_lt, Nat.reducePow, Nat.reduceGT, reps, seg, wkN, if_pos, if_neg, tf3, Tryz.ze3, tf4, Tryz.ze4, tf9, Tryz.ze9, tf22, Tryz.ze22, tf24, Tryz.ze24, tf26, Tryz.ze26, tf29, Tryz.ze29, resP, resPs, resP1]; rfl) | rfl) ⟨6, by repeat' first | exact frz_scalar rfl | apply frz_tuple | apply frz_agg | apply frz_fsl | apply frz_gsl (by omega) | exact frzs_nil | apply frzs_cons⟩ (by first | exact keepsH0 | exact keeps1 (by assumption)) (nw_eq ?_)
      rfl
    · have he' : (e == 0) = false := by rw [beq_eq_false_iff_ne]; exact he
      refine fn_H ([Go.ResultVar.tmp 8]) Tryz.func3 rfl rfl (by decide) fun ph hW Q hQ => ?_
      simp only [start, List.length_cons, List.length_nil, List.cons_append, List.nil_append, Nat.reduceAdd, Nat.reduceSub, List.replicate_succ, List.replicate_zero, Tryz.ntmps3]
      repeat' first | simp -implicitDefEqProofs (maxSteps := 400000) (disch := first | with_reducible rfl | omega | (simp only [wkH] <;> omega) | decide) only [wkAll, wkL, popO, wantedP, if_true, if_false, reduceIte, ne_eq, Nat.reduceAdd, Nat.reduceSub, Nat.reduceMul, Nat.reduceLeDiff, Nat.reduceLT, ofCells, ofCell, reduceCtorEq, Int.reduceLE, Int.reduceLT, Int.reduceToNat, Int.reduceAdd, Int.reduceSub, Int.reduceMul, Int.reduceNeg, Int.reduceBEq, Int.reduceBNe, Int.reduceEq, eqCell, eqCells, binP, unP, convP, lenP, builtinP, sliceDataP, unsafeStringP, appendT, appendS, appendP, copyP, srcP, mmsP, mmP, indexOp, indexAddrOp, sliceOp, bndsP, bndP, capw, capCut, loadOp, storeOp, loadP, fieldOp, fieldAddrOp, arrayAtOp, buildP, buildSliceP, makeSliceP, placeF, fillP, setL, PK.agg, isZero, gt_iff_lt, Nat.reducePow, Nat.reduceGT, reps, seg, wkN, if_pos, if_neg, tf3, Tryz.ze3, tf4, Tryz.ze4, tf9, Tryz.ze9, tf22, Tryz.ze22, tf24, Tryz.ze24, tf26, Tryz.ze26, tf29, Tryz.ze29, gx, gy, g4', he', f2, hwr, gt_iff_lt, bne_self_eq_false, beq_self_eq_true] | refine w_pure (tf) ?_ | refine w_pure (t1) ?_ | refine w_pure (t2) ?_ | refine w_pure (t4) ?_ | refine w_pure (t3) ?_ | refine w_pure (aw) ?_
      refine hQ (by first | exact .inr rfl | exact .inl rfl) (by first | exact trivial | exact marks1) (by first | (simp -implicitDefEqProofs (maxSteps := 400000) (disch := first | with_reducible rfl | omega | (simp only [wkH] <;> omega) | decide) only [wkAll, wkL, popO, wantedP, if_true, if_false, reduceIte, ne_eq, Nat.reduceAdd, Nat.reduceSub, Nat.reduceMul, Nat.reduceLeDiff, Nat.reduceLT, ofCells, ofCell, reduceCtorEq, Int.reduceLE, Int.reduceLT, Int.reduceToNat, Int.reduceAdd, Int.reduceSub, Int.reduceMul, Int.reduceNeg, Int.reduceBEq, Int.reduceBNe, Int.reduceEq, eqCell, eqCells, loadOp, storeOp, loadP, setL, PK.agg, isZero, gt_iff_lt, Nat.reducePow, Nat.reduceGT, reps, seg, wkN, if_pos, if_neg, tf3, Tryz.ze3, tf4, Tryz.ze4, tf9, Tryz.ze9, tf22, Tryz.ze22, tf24, Tryz.ze24, tf26, Tryz.ze26, tf29, Tryz.ze29, resP, resPs, resP1]; rfl) | rfl) ⟨6, by repeat' first | exact frz_scalar rfl | apply frz_tuple | apply frz_agg | apply frz_fsl | apply frz_gsl (by omega) | exact frzs_nil | apply frzs_cons⟩ (by first | exact keepsH0 | exact keeps1 (by assumption)) (nw_eq ?_)
      rfl
theorem RecBack_main2 (key iv : List UInt8) (q K : Int) (b : List UInt8) (pad : Int) (more : List UInt8) (hq : 0 ≤ q ∧ q ≤ 18446744073709551615) (hb : b.length < 2 ^ 47) (tf : Fn (Cx w0) 4 [.str b] (.bool true)) (aw : Fn (Cx w0) 5 [] (.bool true)) (gx : 300 < pad) (gy : ¬ pad ≤ 16384) (g4 : more.length ≤ 1000) : Fn (Cx w0) 3 [.agg [.str key, .str iv, .int .u64 q], .agg [.int .i64 K, .str b], .int .i64 pad, .str more] (.bool true) := by
  have g4' : ¬ (1000 : Int) < (more.length : Int) := by omega
  have t1 := recFrame_ok (w0 := w0) K b (Nat.lt_trans hb (by decide))
  have t2 := recProtect_ok (w0 := w0) key iv q K b pad hq (Nat.lt_trans hb (by decide))
  -- the frame's part
  have hfr : (∃ e, e ≠ 0 ∧ frameL K b = ([], e)) ∨ (knB K = true ∧ (b.length : Int) ≤ mostL K ∧ frameL K b = (headL K b.length ++ b, 0)) := by
    unfold frameL
    by_cases h1 : knB K = false
    · rw [if_pos h1]; exact .inl ⟨23, by decide, rfl⟩
    · rw [if_neg h1]
      by_cases h2 : mostL K < (b.length : Int)
      · rw [if_pos h2]; exact .inl ⟨12, by decide, rfl⟩
      · rw [if_neg h2]; exact .inr ⟨by simpa using h1, by omega, rfl⟩
  -- what is sealed
  have hpr : (∃ e, e ≠ 0 ∧ protL key iv q K b pad = (q, [], e)) ∨ (knB K = true ∧ (0 ≤ pad ∧ (b.length : Int) + pad ≤ 16384) ∧ key.length = 16 ∧ iv.length = 12 ∧ q ≠ 18446744073709551615 ∧ protL key iv q K b pad = (q + 1, adL K b pad ++ sealL key iv q K b pad, 0)) := by
    by_cases h : (protL key iv q K b pad).2.2 = 0
    · exact .inr (prot_ok h)
    · obtain ⟨h1, h2⟩ := prot_fail h
      exact .inl ⟨_, h, Prod.ext h1 (Prod.ext h2 rfl)⟩
  have hfrP : ∀ Z : Prop, (∀ (a : List UInt8) (e : Int), (Fn (Cx w0) 6 [.agg [.int .i64 K, .str b]] (.tuple [.str a, .int .i64 e])) → ((e = 0 ∧ a.length = 5 + b.length ∧ Fn (Cx w0) 7 [.str (a ++ more)] (.tuple [.agg [.int .i64 K, .str b], .str more, .int .i64 0])) ∨ e ≠ 0) → Z) → Z := by
    intro Z hZ
    rcases hfr with ⟨e, he, h⟩ | ⟨h1, h2, h⟩
    · rw [h] at t1; exact hZ _ _ t1 (.inr he)
    · rw [h] at t1; exact hZ _ _ t1 (.inl ⟨rfl, by simp [headL]; omega, recUnframe_ok K b more h1 h2 (by omega)⟩)
  refine hfrP _ ?_
  clear hfrP hfr t1
  intro a e t1 hae
  rcases hpr with ⟨f, hf, h⟩ | ⟨p1, p2, p3, p4, p5, h⟩
  · rw [h] at t2
    have hf' := bneT13 hf
    rcases hae with ⟨he, hal, tu⟩ | he
    · have he' : (e == 0) = true := by rw [beq_iff_eq]; exact he
      have f1 : (a.length + more.length ≤ 9223372036854775807) = True := by simp; omega
      refine fn_H ([Go.ResultVar.tmp 8]) Tryz.func3 rfl rfl (by decide) fun ph hW Q hQ => ?_
      simp only [start, List.length_cons, List.length_nil, List.cons_append, List.nil_append, Nat.reduceAdd, Nat.reduceSub, List.replicate_succ, List.replicate_zero, Tryz.ntmps3]
      repeat' first | simp -implicitDefEqProofs (maxSteps := 400000) (disch := first | with_reducible rfl | omega | (simp only [wkH] <;> omega) | decide) only [wkAll, wkL, popO, wantedP, if_true, if_false, reduceIte, ne_eq, Nat.reduceAdd, Nat.reduceSub, Nat.reduceMul, Nat.reduceLeDiff, Nat.reduceLT, ofCells, ofCell, reduceCtorEq, Int.reduceLE, Int.reduceLT, Int.reduceToNat, Int.reduceAdd, Int.reduceSub, Int.reduceMul, Int.reduceNeg, Int.reduceBEq, Int.reduceBNe, Int.reduceEq, eqCell, eqCells, binP, unP, convP, lenP, builtinP, sliceDataP, unsafeStringP, appendT, appendS, appendP, copyP, srcP, mmsP, mmP, indexOp, indexAddrOp, sliceOp, bndsP, bndP, capw, capCut, loadOp, storeOp, loadP, fieldOp, fieldAddrOp, arrayAtOp, buildP, buildSliceP, makeSliceP, placeF, fillP, setL, PK.agg, isZero, gt_iff_lt, Nat.reducePow, Nat.reduceGT, reps, seg, wkN, if_pos, if_neg, tf3, Tryz.ze3, tf4, Tryz.ze4, tf9, Tryz.ze9, tf22, Tryz.ze22, tf24, Tryz.ze24, tf26, Tryz.ze26, tf29, Tryz.ze29, gx, gy, g4', he', hf', f1, gt_iff_lt, bne_self_eq_false, beq_self_eq_true] | refine w_pure (tf) ?_ | refine w_pure (t1) ?_ | refine w_pure (tu) ?_ | refine w_pure (t2) ?_ | refine w_pure (aw) ?_
      refine hQ (by first | exact .inr rfl | exact .inl rfl) (by first | exact trivial | exact marks1) (by first | (simp -implicitDefEqProofs (maxSteps := 400000) (disch := first | with_reducible rfl | omega | (simp only [wkH] <;> omega) | decide) only [wkAll, wkL, popO, wantedP, if_true, if_false, reduceIte, ne_eq, Nat.reduceAdd, Nat.reduceSub, Nat.reduceMul, Nat.reduceLeDiff, Nat.reduceLT, ofCells, ofCell, reduceCtorEq, Int.reduceLE, Int.reduceLT, Int.reduceToNat, Int.reduceAdd, Int.reduceSub, Int.reduceMul, Int.reduceNeg, Int.reduceBEq, Int.reduceBNe, Int.reduceEq, eqCell, eqCells, loadOp, storeOp, loadP, setL, PK.agg, isZero, gt_iff_lt, Nat.reducePow, Nat.reduceGT, reps, seg, wkN, if_pos, if_neg, tf3, Tryz.ze3, tf4, Tryz.ze4, tf9, Tryz.ze9, tf22, Tryz.ze22, tf24, Tryz.ze24, tf26, Tryz.ze26, tf29, Tryz.ze29, resP, resPs, resP1]; rfl) | rfl) ⟨6, by repeat' first | exact frz_scalar rfl | apply frz_tuple | apply frz_agg | apply frz_fsl | apply frz_gsl (by omega) | exact frzs_nil | apply frzs_cons⟩ (by first | exact keepsH0 | exact keeps1 (by assumption)) (nw_eq ?_)
      rfl
    · have he' : (e == 0) = false := by rw [beq_eq_false_iff_ne]; exact he
      refine fn_H ([Go.ResultVar.tmp 8]) Tryz.func3 rfl rfl (by decide) fun ph hW Q hQ => ?_
      simp only [start, List.length_cons, List.length_nil, List.cons_append, List.nil_append, Nat.reduceAdd, Nat.reduceSub, List.replicate_succ, List.replicate_zero, Tryz.ntmps3]
      repeat' first | simp -implicitDefEqProofs (maxSteps := 400000) (disch := first | with_reducible rfl | omega | (simp only [wkH] <;> omega) | decide) only [wkAll, wkL, popO, wantedP, if_true, if_false, reduceIte, ne_eq, Nat.reduceAdd, Nat.reduceSub, Nat.reduceMul, Nat.reduceLeDiff, Nat.reduceLT, ofCells, ofCell, reduceCtorEq, Int.reduceLE, Int.reduceLT, Int.reduceToNat, Int.reduceAdd, Int.reduceSub, Int.reduceMul, Int.reduceNeg, Int.reduceBEq, Int.reduceBNe, Int.reduceEq, eqCell, eqCells, binP, unP, convP, lenP, builtinP, sliceDataP, unsafeStringP, appendT, appendS, appendP, copyP, srcP, mmsP, mmP, indexOp, indexAddrOp, sliceOp, bndsP, bndP, capw, capCut, loadOp, storeOp, loadP, fieldOp, fieldAddrOp, arrayAtOp, buildP, buildSliceP, makeSliceP, placeF, fillP, setL, PK.agg, isZero, gt_iff_lt, Nat.reducePow, Nat.reduceGT, reps, seg, wkN, if_pos, if_neg, tf3, Tryz.ze3, tf4, Tryz.ze4, tf9, Tryz.ze9, tf22, Tryz.ze22, tf24, Tryz.ze24, tf26, Tryz.ze26, tf29, Tryz.ze29, gx, gy, g4', he', hf', gt_iff_lt, bne_self_eq_false, beq_self_eq_true] | refine w_pure (tf) ?_ | refine w_pure (t1) ?_ | refine w_pure (t2) ?_ | refine w_pure (aw) ?_
      refine hQ (by first | exact .inr rfl | exact .inl rfl) (by first | exact trivial | exact marks1) (by first | (simp -implicitDefEqProofs (maxSteps := 400000) (disch := first | with_reducible rfl | omega | (simp only [wkH] <;> omega) | decide) only [wkAll, wkL, popO, wantedP, if_true, if_false, reduceIte, ne_eq, Nat.reduceAdd, Nat.reduceSub, Nat.reduceMul, Nat.reduceLeDiff, Nat.reduceLT, ofCells, ofCell, reduceCtorEq, Int.reduceLE, Int.reduceLT, Int.reduceToNat, Int.reduceAdd, Int.reduceSub, Int.reduceMul, Int.reduceNeg, Int.reduceBEq, Int.reduceBNe, Int.reduceEq, eqCell, eqCells, loadOp, storeOp, loadP, setL, PK.agg, isZero, gt_iff_lt, Nat.reducePow, Nat.reduceGT, reps, seg, wkN, if_pos, if_neg, tf3, Tryz.ze3, tf4, Tryz.ze4, tf9, Tryz.ze9, tf22, Tryz.ze22, tf24, Tryz.ze24, tf26, Tryz.ze26, tf29, Tryz.ze29, resP, resPs, resP1]; rfl) | rfl) ⟨6, by repeat' first | exact frz_scalar rfl | apply frz_tuple | apply frz_agg | apply frz_fsl | apply frz_gsl (by omega) | exact frzs_nil | apply frzs_cons⟩ (by first | exact keepsH0 | exact keeps1 (by assumption)) (nw_eq ?_)
      rfl
  · exfalso; omega
theorem RecBack_law (key iv : List UInt8) (q K : Int) (b : List UInt8) (pad : Int) (more : List UInt8) (hq : 0 ≤ q ∧ q ≤ 18446744073709551615) (hb : b.length < 2 ^ 47) : Fn (Cx w0) 3 [.agg [.str key, .str iv, .int .u64 q], .agg [.int .i64 K, .str b], .int .i64 pad, .str more] (.bool true) := by
  have aw := awake13_ok (w0 := w0)
  have tf := few13_ok (w0 := w0) b
  by_cases g1 : (decide (b.length ≤ 700) || decide (16656 < b.length)) = true
  · rw [g1] at tf
    by_cases g0 : 300 < pad ∧ pad ≤ 16384
    · obtain ⟨g2, g3⟩ := g0
      refine fn_H ([Go.ResultVar.tmp 8]) Tryz.func3 rfl rfl (by decide) fun ph hW Q hQ => ?_
      simp only [start, List.length_cons, List.length_nil, List.cons_append, List.nil_append, Nat.reduceAdd, Nat.reduceSub, List.replicate_succ, List.replicate_zero, Tryz.ntmps3]
      repeat' first | simp -implicitDefEqProofs (maxSteps := 400000) (disch := first | with_reducible rfl | omega | (simp only [wkH] <;> omega) | decide) only [wkAll, wkL, popO, wantedP, if_true, if_false, reduceIte, ne_eq, Nat.reduceAdd, Nat.reduceSub, Nat.reduceMul, Nat.reduceLeDiff, Nat.reduceLT, ofCells, ofCell, reduceCtorEq, Int.reduceLE, Int.reduceLT, Int.reduceToNat, Int.reduceAdd, Int.reduceSub, Int.reduceMul, Int.reduceNeg, Int.reduceBEq, Int.reduceBNe, Int.reduceEq, eqCell, eqCells, binP, unP, convP, lenP, builtinP, sliceDataP, unsafeStringP, appendT, appendS, appendP, copyP, srcP, mmsP, mmP, indexOp, indexAddrOp, sliceOp, bndsP, bndP, capw, capCut, loadOp, storeOp, loadP, fieldOp, fieldAddrOp, arrayAtOp, buildP, buildSliceP, makeSliceP, placeF, fillP, setL, PK.agg, isZero, gt_iff_lt, Nat.reducePow, Nat.reduceGT, reps, seg, wkN, if_pos, if_neg, tf3, Tryz.ze3, tf4, Tryz.ze4, tf9, Tryz.ze9, tf22, Tryz.ze22, tf24, Tryz.ze24, tf26, Tryz.ze26, tf29, Tryz.ze29, g2, g3, gt_iff_lt] | refine w_pure (tf) ?_ | refine w_pure (aw) ?_
      refine hQ (by first | exact .inr rfl | exact .inl rfl) (by first | exact trivial | exact marks1) (by first | (simp -implicitDefEqProofs (maxSteps := 400000) (disch := first | with_reducible rfl | omega | (simp only [wkH] <;> omega) | decide) only [wkAll, wkL, popO, wantedP, if_true, if_false, reduceIte, ne_eq, Nat.reduceAdd, Nat.reduceSub, Nat.reduceMul, Nat.reduceLeDiff, Nat.reduceLT, ofCells, ofCell, reduceCtorEq, Int.reduceLE, Int.reduceLT, Int.reduceToNat, Int.reduceAdd, Int.reduceSub, Int.reduceMul, Int.reduceNeg, Int.reduceBEq, Int.reduceBNe, Int.reduceEq, eqCell, eqCells, loadOp, storeOp, loadP, setL, PK.agg, isZero, gt_iff_lt, Nat.reducePow, Nat.reduceGT, reps, seg, wkN, if_pos, if_neg, tf3, Tryz.ze3, tf4, Tryz.ze4, tf9, Tryz.ze9, tf22, Tryz.ze22, tf24, Tryz.ze24, tf26, Tryz.ze26, tf29, Tryz.ze29, resP, resPs, resP1]; rfl) | rfl) ⟨6, by repeat' first | exact frz_scalar rfl | apply frz_tuple | apply frz_agg | apply frz_fsl | apply frz_gsl (by omega) | exact frzs_nil | apply frzs_cons⟩ (by first | exact keepsH0 | exact keeps1 (by assumption)) (nw_eq ?_)
      rfl
    have hor : ¬ 300 < pad ∨ (300 < pad ∧ ¬ pad ≤ 16384) := by omega
    have hmin : maxLen < 2 ^ 63 := by decide
    rcases hor with gx | ⟨gx, gy⟩
    · have gy := gx
      by_cases g4 : more.length ≤ 1000
      · exact RecBack_main key iv q K b pad more hq hb tf aw gx gy g4
      · have g4' : (1000 : Int) < (more.length : Int) := by omega
        refine fn_H ([Go.ResultVar.tmp 8]) Tryz.func3 rfl rfl (by decide) fun ph hW Q hQ => ?_
        simp only [start, List.length_cons, List.length_nil, List.cons_append, List.nil_append, Nat.reduceAdd, Nat.reduceSub, List.replicate_succ, List.replicate_zero, Tryz.ntmps3]
        repeat' first | simp -implicitDefEqProofs (maxSteps := 400000) (disch := first | with_reducible rfl | omega | (simp only [wkH] <;> omega) | decide) only [wkAll, wkL, popO, wantedP, if_true, if_false, reduceIte, ne_eq, Nat.reduceAdd, Nat.reduceSub, Nat.reduceMul, Nat.reduceLeDiff, Nat.reduceLT, ofCells, ofCell, reduceCtorEq, Int.reduceLE, Int.reduceLT, Int.reduceToNat, Int.reduceAdd, Int.reduceSub, Int.reduceMul, Int.reduceNeg, Int.reduceBEq, Int.reduceBNe, Int.reduceEq, eqCell, eqCells, binP, unP, convP, lenP, builtinP, sliceDataP, unsafeStringP, appendT, appendS, appendP, copyP, srcP, mmsP, mmP, indexOp, indexAddrOp, sliceOp, bndsP, bndP, capw, capCut, loadOp, storeOp, loadP, fieldOp, fieldAddrOp, arrayAtOp, buildP, buildSliceP, makeSliceP, placeF, fillP, setL, PK.agg, isZero, gt_iff_lt, Nat.reducePow, Nat.reduceGT, reps, seg, wkN, if_pos, if_neg, tf3, Tryz.ze3, tf4, Tryz.ze4, tf9, Tryz.ze9, tf22, Tryz.ze22, tf24, Tryz.ze24, tf26, Tryz.ze26, tf29, Tryz.ze29, gx, gy, g4', gt_iff_lt] | refine w_pure (tf) ?_ | refine w_pure (aw) ?_
        refine hQ (by first | exact .inr rfl | exact .inl rfl) (by first | exact trivial | exact marks1) (by first | (simp -implicitDefEqProofs (maxSteps := 400000) (disch := first | with_reducible rfl | omega | (simp only [wkH] <;> omega) | decide) only [wkAll, wkL, popO, wantedP, if_true, if_false, reduceIte, ne_eq, Nat.reduceAdd, Nat.reduceSub, Nat.reduceMul, Nat.reduceLeDiff, Nat.reduceLT, ofCells, ofCell, reduceCtorEq, Int.reduceLE, Int.reduceLT, Int.reduceToNat, Int.reduceAdd, Int.reduceSub, Int.reduceMul, Int.reduceNeg, Int.reduceBEq, Int.reduceBNe, Int.reduceEq, eqCell, eqCells, loadOp, storeOp, loadP, setL, PK.agg, isZero, gt_iff_lt, Nat.reducePow, Nat.reduceGT, reps, seg, wkN, if_pos, if_neg, tf3, Tryz.ze3, tf4, Tryz.ze4, tf9, Tryz.ze9, tf22, Tryz.ze22, tf24, Tryz.ze24, tf26, Tryz.ze26, tf29, Tryz.ze29, resP, resPs, resP1]; rfl) | rfl) ⟨6, by repeat' first | exact frz_scalar rfl | apply frz_tuple | apply frz_agg | apply frz_fsl | apply frz_gsl (by omega) | exact frzs_nil | apply frzs_cons⟩ (by first | exact keepsH0 | exact keeps1 (by assumption)) (nw_eq ?_)
        rfl
    · by_cases g4 : more.length ≤ 1000
      · exact RecBack_main2 key iv q K b pad more hq hb tf aw gx gy g4
      · have g4' : (1000 : Int) < (more.length : Int) := by omega
        refine fn_H ([Go.ResultVar.tmp 8]) Tryz.func3 rfl rfl (by decide) fun ph hW Q hQ => ?_
        simp only [start, List.length_cons, List.length_nil, List.cons_append, List.nil_append, Nat.reduceAdd, Nat.reduceSub, List.replicate_succ, List.replicate_zero, Tryz.ntmps3]
        repeat' first | simp -implicitDefEqProofs (maxSteps := 400000) (disch := first | with_reducible rfl | omega | (simp only [wkH] <;> omega) | decide) only [wkAll, wkL, popO, wantedP, if_true, if_false, reduceIte, ne_eq, Nat.reduceAdd, Nat.reduceSub, Nat.reduceMul, Nat.reduceLeDiff, Nat.reduceLT, ofCells, ofCell, reduceCtorEq, Int.reduceLE, Int.reduceLT, Int.reduceToNat, Int.reduceAdd, Int.reduceSub, Int.reduceMul, Int.reduceNeg, Int.reduceBEq, Int.reduceBNe, Int.reduceEq, eqCell, eqCells, binP, unP, convP, lenP, builtinP, sliceDataP, unsafeStringP, appendT, appendS, appendP, copyP, srcP, mmsP, mmP, indexOp, indexAddrOp, sliceOp, bndsP, bndP, capw, capCut, loadOp, storeOp, loadP, fieldOp, fieldAddrOp, arrayAtOp, buildP, buildSliceP, makeSliceP, placeF, fillP, setL, PK.agg, isZero, gt_iff_lt, Nat.reducePow, Nat.reduceGT, reps, seg, wkN, if_pos, if_neg, tf3, Tryz.ze3, tf4, Tryz.ze4, tf9, Tryz.ze9, tf22, Tryz.ze22, tf24, Tryz.ze24, tf26, Tryz.ze26, tf29, Tryz.ze29, gx, gy, g4', gt_iff_lt] | refine w_pure (tf) ?_ | refine w_pure (aw) ?_
        refine hQ (by first | exact .inr rfl | exact .inl rfl) (by first | exact trivial | exact marks1) (by first | (simp -implicitDefEqProofs (maxSteps := 400000) (disch := first | with_reducible rfl | omega | (simp only [wkH] <;> omega) | decide) only [wkAll, wkL, popO, wantedP, if_true, if_false, reduceIte, ne_eq, Nat.reduceAdd, Nat.reduceSub, Nat.reduceMul, Nat.reduceLeDiff, Nat.reduceLT, ofCells, ofCell, reduceCtorEq, Int.reduceLE, Int.reduceLT, Int.reduceToNat, Int.reduceAdd, Int.reduceSub, Int.reduceMul, Int.reduceNeg, Int.reduceBEq, Int.reduceBNe, Int.reduceEq, eqCell, eqCells, loadOp, storeOp, loadP, setL, PK.agg, isZero, gt_iff_lt, Nat.reducePow, Nat.reduceGT, reps, seg, wkN, if_pos, if_neg, tf3, Tryz.ze3, tf4, Tryz.ze4, tf9, Tryz.ze9, tf22, Tryz.ze22, tf24, Tryz.ze24, tf26, Tryz.ze26, tf29, Tryz.ze29, resP, resPs, resP1]; rfl) | rfl) ⟨6, by repeat' first | exact frz_scalar rfl | apply frz_tuple | apply frz_agg | apply frz_fsl | apply frz_gsl (by omega) | exact frzs_nil | apply frzs_cons⟩ (by first | exact keepsH0 | exact keeps1 (by assumption)) (nw_eq ?_)
        rfl
  · have g1' : (decide (b.length ≤ 700) || decide (16656 < b.length)) = false := by simpa using g1
    rw [g1'] at tf
    refine fn_H ([Go.ResultVar.tmp 8]) Tryz.func3 rfl rfl (by decide) fun ph hW Q hQ => ?_
    simp only [start, List.length_cons, List.length_nil, List.cons_append, List.nil_append, Nat.reduceAdd, Nat.reduceSub, List.replicate_succ, List.replicate_zero, Tryz.ntmps3]
    repeat' first | simp -implicitDefEqProofs (maxSteps := 400000) (disch := first | with_reducible rfl | omega | (simp only [wkH] <;> omega) | decide) only [wkAll, wkL, popO, wantedP, if_true, if_false, reduceIte, ne_eq, Nat.reduceAdd, Nat.reduceSub, Nat.reduceMul, Nat.reduceLeDiff, Nat.reduceLT, ofCells, ofCell, reduceCtorEq, Int.reduceLE, Int.reduceLT, Int.reduceToNat, Int.reduceAdd, Int.reduceSub, Int.reduceMul, Int.reduceNeg, Int.reduceBEq, Int.reduceBNe, Int.reduceEq, eqCell, eqCells, binP, unP, convP, lenP, builtinP, sliceDataP, unsafeStringP, appendT, appendS, appendP, copyP, srcP, mmsP, mmP, indexOp, indexAddrOp, sliceOp, bndsP, bndP, capw, capCut, loadOp, storeOp, loadP, fieldOp, fieldAddrOp, arrayAtOp, buildP, buildSliceP, makeSliceP, placeF, fillP, setL, PK.agg, isZero, gt_iff_lt, Nat.reducePow, Nat.reduceGT, reps, seg, wkN, if_pos, if_neg, tf3, Tryz.ze3, tf4, Tryz.ze4, tf9, Tryz.ze9, tf22, Tryz.ze22, tf24, Tryz.ze24, tf26, Tryz.ze26, tf29, Tryz.ze29] | refine w_pure (tf) ?_ | refine w_pure (aw) ?_
    refine hQ (by first | exact .inr rfl | exact .inl rfl) (by first | exact trivial | exact marks1) (by first | (simp -implicitDefEqProofs (maxSteps := 400000) (disch := first | with_reducible rfl | omega | (simp only [wkH] <;> omega) | decide) only [wkAll, wkL, popO, wantedP, if_true, if_false, reduceIte, ne_eq, Nat.reduceAdd, Nat.reduceSub, Nat.reduceMul, Nat.reduceLeDiff, Nat.reduceLT, ofCells, ofCell, reduceCtorEq, Int.reduceLE, Int.reduceLT, Int.reduceToNat, Int.reduceAdd, Int.reduceSub, Int.reduceMul, Int.reduceNeg, Int.reduceBEq, Int.reduceBNe, Int.reduceEq, eqCell, eqCells, loadOp, storeOp, loadP, setL, PK.agg, isZero, gt_iff_lt, Nat.reducePow, Nat.reduceGT, reps, seg, wkN, if_pos, if_neg, tf3, Tryz.ze3, tf4, Tryz.ze4, tf9, Tryz.ze9, tf22, Tryz.ze22, tf24, Tryz.ze24, tf26, Tryz.ze26, tf29, Tryz.ze29, resP, resPs, resP1]; rfl) | rfl) ⟨6, by repeat' first | exact frz_scalar rfl | apply frz_tuple | apply frz_agg | apply frz_fsl | apply frz_gsl (by omega) | exact frzs_nil | apply frzs_cons⟩ (by first | exact keepsH0 | exact keeps1 (by assumption)) (nw_eq ?_)
    rfl
theorem RecBack_ok (W : World) (c0 : List PV) (o0 : OkL [.str, .str, .int .u64] c0) (c1 : List PV) (o1 : OkL [.int .i64, .str] c1) (b1 : ∀ p ∈ c1, BdV p) (c2 : Int) (c3 : List UInt8) : Fn (Cx W) 3 [.agg c0, .agg c1, .int .i64 c2, .str c3] (.bool true) := by
  cases o0 with | cons _ _ p1 ps1 g1 o0 =>
  cases o0 with | cons _ _ p2 ps2 g2 o0 =>
  cases o0 with | cons _ _ p3 ps3 g3 o0 =>
  cases o0
  cases o1 with | cons _ _ p4 ps4 g4 o1 =>
  cases o1 with | cons _ _ p5 ps5 g5 o1 =>
  cases o1
  cases g1 with | str key _ =>
  cases g2 with | str iv _ =>
  cases g3 with | int _ q wq =>
  cases g4 with | int _ K _ =>
  cases g5 with | str b _ =>
  have hb := b1 (.str b) (by simp)
  cases hb with | str _ hb =>
  have hq : 0 ≤ q ∧ q ≤ 18446744073709551615 := by
    have h1 : IntKind.min .u64 = 0 := by decide
    have h2 : IntKind.max .u64 = 18446744073709551615 := by decide
    have : IntKind.min .u64 ≤ q ∧ q ≤ IntKind.max .u64 := by simpa [Lit.wf] using wq
    omega
  exact RecBack_law key iv q K b c2 c3 hq hb
end Pv
