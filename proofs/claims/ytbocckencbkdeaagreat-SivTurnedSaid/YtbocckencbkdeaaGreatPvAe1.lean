/- Part of the proof: the layer of pure values, or walks through functions (PvAe1, PvH4). -/
import Derived.Test.YtbocckencbkdeaaGreatPvDrawF
import Derived.Test.YtbocckencbkdeaaGreatPvNum
set_option linter.all false
--nosplit
--keep2
namespace Pv
set_option maxRecDepth 20000
set_option maxHeartbeats 4000000
open Go Go.Proofs Go.RowKit
def tb118_1Ae1 : Tab := [[], [], [0, 1], [], [], [4], [3, 4, 5], [0, 1, 2, 3, 4, 5, 6], [0, 1, 2, 3, 4, 5, 6, 7]]
def pl118_1Ae1 : Plan := [(0, true, []), (1, true, []), (2, true, []), (3, true, []), (4, true, []), (5, true, []), (6, true, []), (7, true, []), (8, false, [])]
variable {w0 : World}

/-! ### Numbers of 8 bits -/
theorem mul_u8 (a b : UInt8) : IntKind.wrap .u8 ((a.toNat : Int) * (b.toNat : Int)) = ((a * b).toNat : Int) := by
  rw [show (a.toNat : Int) * (b.toNat : Int) = ((a.toNat * b.toNat : Nat) : Int) by simp, wrap_u8n, UInt8.toNat_ofNat', UInt8.toNat_mul]
theorem shl_u8 (x : UInt8) (m : Nat) (h : m < 8) : shlP .u8 (x.toNat : Int) (m : Int) = ((x <<< UInt8.ofNat m).toNat : Int) := by
  have : ∀ m : Fin 8, ∀ x : Fin 256, shlP .u8 (x.val : Int) (m.val : Int) = (((UInt8.ofNat x.val) <<< UInt8.ofNat m.val).toNat : Int) := by decide +kernel
  have := this ⟨m, h⟩ ⟨x.toNat, x.toNat_lt⟩
  simpa using this
theorem shr_u8 (x : UInt8) (m : Nat) (h : m < 8) : shrP .u8 (x.toNat : Int) (m : Int) = ((x >>> UInt8.ofNat m).toNat : Int) := by
  have : ∀ m : Fin 8, ∀ x : Fin 256, shrP .u8 (x.val : Int) (m.val : Int) = (((UInt8.ofNat x.val) >>> UInt8.ofNat m.val).toNat : Int) := by decide +kernel
  have := this ⟨m, h⟩ ⟨x.toNat, x.toNat_lt⟩
  simpa using this
theorem shl_u8_1 (x : UInt8) : shlP .u8 (x.toNat : Int) 1 = ((x <<< 1).toNat : Int) := shl_u8 x 1 (by decide)
theorem shr_u8_1 (x : UInt8) : shrP .u8 (x.toNat : Int) 1 = ((x >>> 1).toNat : Int) := shr_u8 x 1 (by decide)
theorem shr_u8_7 (x : UInt8) : shrP .u8 (x.toNat : Int) 7 = ((x >>> 7).toNat : Int) := shr_u8 x 7 (by decide)
theorem and_u8_1 (a : UInt8) : bitsP .and .u8 a.toNat 1 = ((a &&& 1).toNat : Int) := and_u8 a 1
theorem and_u8_128 (a : UInt8) : bitsP .and .u8 a.toNat 128 = ((a &&& 128).toNat : Int) := and_u8 a 128
theorem xor_u8_27 (a : UInt8) : bitsP .xor .u8 a.toNat 27 = ((a ^^^ 27).toNat : Int) := xor_u8 a 27
theorem xor_u8_99 (a : UInt8) : bitsP .xor .u8 a.toNat 99 = ((a ^^^ 99).toNat : Int) := xor_u8 a 99
theorem mul_u8_27 (a : UInt8) : IntKind.wrap .u8 ((a.toNat : Int) * 27) = ((a * 27).toNat : Int) := mul_u8 a 27

/-! ### Times -/
/-- The second factor after i rounds. -/
def shB (b : UInt8) : Nat → UInt8
  | 0 => b
  | i + 1 => shB b i >>> 1
def xtI (a : UInt8) : Nat → UInt8
  | 0 => a
  | i + 1 => xt (xtI a i)
def grI (a b : UInt8) : Nat → UInt8
  | 0 => 0
  | i + 1 => grI a b i ^^^ (xtI a i * (shB b i &&& 1))
theorem gmR_at (a b : UInt8) : ∀ n i, gmR n (grI a b i) (xtI a i) (shB b i) = grI a b (i + n)
  | 0, i => rfl
  | n + 1, i => by rw [gmR, show i + (n + 1) = i + 1 + n by omega, ← gmR_at a b n (i + 1)]; rfl
theorem gm_grI (a b : UInt8) : gm a b = grI a b 8 := gmR_at a b 8 0
theorem shB_8 (b : UInt8) : shB b 8 = 0 := byte_all (p := fun b => shB b 8 = 0) (by decide +kernel) b
theorem gm_early (a b : UInt8) (i : Nat) (h : i ≤ 8) (h0 : shB b i = 0) : grI a b i = gm a b := by
  rw [gm_grI]
  have := gmR_at a b (8 - i) i
  rw [h0, gmR_b0, show i + (8 - i) = 8 by omega] at this; exact this
theorem shB_i (b : UInt8) (i : Nat) (h : i ≤ 8) (h0 : shB b i ≠ 0) : i < 8 := by
  rcases Nat.lt_or_ge i 8 with h1 | h1
  · exact h1
  · have : i = 8 := by omega
    subst this; exact absurd (shB_8 b) h0
theorem nz_u8 (b : UInt8) : (0 : Int) < (b.toNat : Int) ↔ b ≠ 0 := by
  constructor
  · rintro h rfl; simp at h
  · intro h; have : b.toNat ≠ 0 := fun h2 => h (UInt8.toNat_inj.1 h2); omega

theorem times8_ok (a b : UInt8) : Fn (Cx w0) 109 [.int .u8 a.toNat, .int .u8 b.toNat] (.int .u8 (gm a b).toNat) := by
  refine fn_H ([Go.ResultVar.tmp 4]) Tryz.func109 rfl rfl (by decide) fun ph hW Q hQ => ?_
  simp only [start, List.length_cons, List.length_nil, List.cons_append, List.nil_append, Nat.reduceAdd, Nat.reduceSub, List.replicate_succ, List.replicate_zero, Tryz.ntmps109]
  repeat' first | simp -implicitDefEqProofs (maxSteps := 400000) (disch := first | with_reducible rfl | omega | (simp only [wkH] <;> omega) | decide) only [wkAll, wkL, popO, wantedP, if_true, if_false, reduceIte, ne_eq, Nat.reduceAdd, Nat.reduceSub, Nat.reduceMul, Nat.reduceLeDiff, Nat.reduceLT, ofCells, ofCell, reduceCtorEq, Int.reduceLE, Int.reduceLT, Int.reduceToNat, Int.reduceAdd, Int.reduceSub, Int.reduceMul, Int.reduceNeg, Int.reduceBEq, Int.reduceBNe, Int.reduceEq, eqCell, eqCells, binP, unP, convP, lenP, builtinP, sliceDataP, unsafeStringP, appendT, appendS, appendP, copyP, srcP, mmsP, mmP, indexOp, indexAddrOp, sliceOp, bndsP, bndP, capw, capCut, loadOp, storeOp, loadP, fieldOp, fieldAddrOp, arrayAtOp, buildP, buildSliceP, makeSliceP, placeF, fillP, setL, PK.agg, isZero, gt_iff_lt, Nat.reducePow, Nat.reduceGT, reps, seg, wkN, if_pos, if_neg, tf5, Tryz.ze5]
  refine w_loopH (α := Nat) ph ph.ob ph.ty (fun i => [.int .u8 (xtI a i).toNat, .int .u8 (shB b i).toNat, .undef, .undef, .undef, .int .u8 (grI a b i).toNat, .undef, .undef, .undef, .undef, .undef, .undef, .undef, .undef, .undef, .undef, .undef, .undef, .undef, .undef, .undef, .undef, .undef]) (fun i => []) (fun i => i ≤ 8) (fun i => 8 - i) 0 (by simp) (fun _ _ => by simp) (.eq (by simp [FadeTo, xtI, shB, grI]) rfl) ?_
  intro i hi K hK
  have hnz := nz_u8 (shB b i)
  by_cases h0 : shB b i = 0
  · have q : ¬ (0 : Int) < ((shB b i).toNat : Int) := by rw [hnz]; simpa using h0
    rw [gm_early a b i hi h0] at *
    generalize gm a b = g at *
    generalize xtI a i = x at *
    generalize shB b i = y at *
    repeat' first | simp -implicitDefEqProofs (maxSteps := 400000) (disch := first | with_reducible rfl | omega | (simp only [wkH] <;> omega) | decide) only [wkAll, wkL, popO, wantedP, if_true, if_false, reduceIte, ne_eq, Nat.reduceAdd, Nat.reduceSub, Nat.reduceMul, Nat.reduceLeDiff, Nat.reduceLT, ofCells, ofCell, reduceCtorEq, Int.reduceLE, Int.reduceLT, Int.reduceToNat, Int.reduceAdd, Int.reduceSub, Int.reduceMul, Int.reduceNeg, Int.reduceBEq, Int.reduceBNe, Int.reduceEq, eqCell, eqCells, binP, unP, convP, lenP, builtinP, sliceDataP, unsafeStringP, appendT, appendS, appendP, copyP, srcP, mmsP, mmP, indexOp, indexAddrOp, sliceOp, bndsP, bndP, capw, capCut, loadOp, storeOp, loadP, fieldOp, fieldAddrOp, arrayAtOp, buildP, buildSliceP, makeSliceP, placeF, fillP, setL, PK.agg, isZero, gt_iff_lt, Nat.reducePow, Nat.reduceGT, reps, seg, wkN, if_pos, if_neg, tf5, Tryz.ze5, gt_iff_lt, q]
    refine hQ (by first | exact .inr rfl | exact .inl rfl) (by first | exact trivial | exact marks1) (by first | (simp -implicitDefEqProofs (maxSteps := 400000) (disch := first | with_reducible rfl | omega | (simp only [wkH] <;> omega) | decide) only [wkAll, wkL, popO, wantedP, if_true, if_false, reduceIte, ne_eq, Nat.reduceAdd, Nat.reduceSub, Nat.reduceMul, Nat.reduceLeDiff, Nat.reduceLT, ofCells, ofCell, reduceCtorEq, Int.reduceLE, Int.reduceLT, Int.reduceToNat, Int.reduceAdd, Int.reduceSub, Int.reduceMul, Int.reduceNeg, Int.reduceBEq, Int.reduceBNe, Int.reduceEq, eqCell, eqCells, loadOp, storeOp, loadP, setL, PK.agg, isZero, gt_iff_lt, Nat.reducePow, Nat.reduceGT, reps, seg, wkN, if_pos, if_neg, tf5, Tryz.ze5, resP, resPs, resP1]; rfl) | rfl) ⟨6, by repeat' first | exact frz_scalar rfl | apply frz_tuple | apply frz_agg | apply frz_fsl | apply frz_gsl (by omega) | exact frzs_nil | apply frzs_cons⟩ (by first | exact keepsH0 | exact keeps1 (by assumption)) (nw_eq ?_)
    rfl
  · have q : (0 : Int) < ((shB b i).toNat : Int) := hnz.2 h0
    have hlt := shB_i b i hi h0
    have hx : xtI a (i + 1) = (xtI a i <<< 1) ^^^ ((xtI a i >>> 7) * 27) := rfl
    have hy : shB b (i + 1) = shB b i >>> 1 := rfl
    have hg : grI a b (i + 1) = grI a b i ^^^ (xtI a i * (shB b i &&& 1)) := rfl
    have hK1 := fun tm ph' => hK (i + 1) tm ph' (by omega) (by omega)
    rw [hx, hy, hg] at hK1
    clear hK hx hy hg
    generalize xtI a i = x at *
    generalize shB b i = y at *
    generalize grI a b i = z at *
    repeat' first | simp -implicitDefEqProofs (maxSteps := 400000) (disch := first | with_reducible rfl | omega | (simp only [wkH] <;> omega) | decide) only [wkAll, wkL, popO, wantedP, if_true, if_false, reduceIte, ne_eq, Nat.reduceAdd, Nat.reduceSub, Nat.reduceMul, Nat.reduceLeDiff, Nat.reduceLT, ofCells, ofCell, reduceCtorEq, Int.reduceLE, Int.reduceLT, Int.reduceToNat, Int.reduceAdd, Int.reduceSub, Int.reduceMul, Int.reduceNeg, Int.reduceBEq, Int.reduceBNe, Int.reduceEq, eqCell, eqCells, binP, unP, convP, lenP, builtinP, sliceDataP, unsafeStringP, appendT, appendS, appendP, copyP, srcP, mmsP, mmP, indexOp, indexAddrOp, sliceOp, bndsP, bndP, capw, capCut, loadOp, storeOp, loadP, fieldOp, fieldAddrOp, arrayAtOp, buildP, buildSliceP, makeSliceP, placeF, fillP, setL, PK.agg, isZero, gt_iff_lt, Nat.reducePow, Nat.reduceGT, reps, seg, wkN, if_pos, if_neg, tf5, Tryz.ze5, gt_iff_lt, q, and_u8_1, mul_u8, xor_u8, shl_u8_1, shr_u8_7, shr_u8_1, mul_u8_27]
    exact hK1 _ _ (.eq (by simp [FadeTo]) rfl)
theorem eq1_u8 (b : UInt8) : ((b.toNat : Int) == 1) = decide (b = 1) := by
  by_cases h : b = 1
  · subst h; rfl
  · rw [decide_eq_false h, beq_eq_false_iff_ne]
    intro h2; apply h; apply UInt8.toNat_inj.1; show b.toNat = 1; omega
theorem ne0_u8 (b : UInt8) : ((b.toNat : Int) != 0) = decide (b ≠ 0) := by
  by_cases h : b = 0
  · subst h; rfl
  · rw [decide_eq_true h, bne_iff_ne]
    intro h2; apply h; apply UInt8.toNat_inj.1; show b.toNat = 0; omega
theorem xt_high (a : UInt8) (h : a &&& 128 ≠ 0) : (a <<< 1) ^^^ 27 = xt a := by
  have := byte_all (p := fun a => a &&& 128 = 0 ∨ (a <<< 1) ^^^ 27 = xt a) (by decide +kernel) a
  exact this.resolve_left h
theorem xt_low (a : UInt8) (h : a &&& 128 = 0) : a <<< 1 = xt a := by
  have := byte_all (p := fun a => a &&& 128 ≠ 0 ∨ a <<< 1 = xt a) (by decide +kernel) a
  exact this.resolve_left (by simpa using h)
theorem refTimes8_ok (a b : UInt8) : Fn (Cx w0) 80 [.int .u8 a.toNat, .int .u8 b.toNat] (.int .u8 (gm a b).toNat) := by
  refine fn_H ([Go.ResultVar.tmp 4]) Tryz.func80 rfl rfl (by decide) fun ph hW Q hQ => ?_
  simp only [start, List.length_cons, List.length_nil, List.cons_append, List.nil_append, Nat.reduceAdd, Nat.reduceSub, List.replicate_succ, List.replicate_zero, Tryz.ntmps80]
  repeat' first | simp -implicitDefEqProofs (maxSteps := 400000) (disch := first | with_reducible rfl | omega | (simp only [wkH] <;> omega) | decide) only [wkAll, wkL, popO, wantedP, if_true, if_false, reduceIte, ne_eq, Nat.reduceAdd, Nat.reduceSub, Nat.reduceMul, Nat.reduceLeDiff, Nat.reduceLT, ofCells, ofCell, reduceCtorEq, Int.reduceLE, Int.reduceLT, Int.reduceToNat, Int.reduceAdd, Int.reduceSub, Int.reduceMul, Int.reduceNeg, Int.reduceBEq, Int.reduceBNe, Int.reduceEq, eqCell, eqCells, binP, unP, convP, lenP, builtinP, sliceDataP, unsafeStringP, appendT, appendS, appendP, copyP, srcP, mmsP, mmP, indexOp, indexAddrOp, sliceOp, bndsP, bndP, capw, capCut, loadOp, storeOp, loadP, fieldOp, fieldAddrOp, arrayAtOp, buildP, buildSliceP, makeSliceP, placeF, fillP, setL, PK.agg, isZero, gt_iff_lt, Nat.reducePow, Nat.reduceGT, reps, seg, wkN, if_pos, if_neg, tf3, Tryz.ze3, tf5, Tryz.ze5]
  refine w_loopH (α := Nat) ph ph.ob ph.ty (fun i => [.int .u8 (xtI a i).toNat, .int .u8 (shB b i).toNat, .undef, .undef, .undef, .int .u8 (grI a b i).toNat, .int .i64 i, .undef, .undef, .undef, .undef, .undef, .undef, .undef, .undef, .undef, .undef, .undef, .undef, .undef, .undef, .undef, .undef, .undef, .undef, .undef, .undef, .undef, .undef]) (fun i => []) (fun i => i ≤ 8) (fun i => 8 - i) 0 (by simp) (fun _ _ => by simp) (.eq (by simp [FadeTo, xtI, shB, grI]) rfl) ?_
  intro i hi K hK
  rcases Nat.lt_or_ge i 8 with hlt | hge
  · have hlt' : (i : Int) < 8 := by omega
    have hx : xtI a (i + 1) = xt (xtI a i) := rfl
    have hy : shB b (i + 1) = shB b i >>> 1 := rfl
    have hg : grI a b (i + 1) = grI a b i ^^^ (xtI a i * (shB b i &&& 1)) := rfl
    have hK1 := fun tm ph' => hK (i + 1) tm ph' (by omega) (by omega)
    rw [hx, hy, hg] at hK1
    clear hK hx hy hg
    generalize xtI a i = x at *
    generalize shB b i = y at *
    generalize grI a b i = z at *
    have e1 := eq1_u8 (y &&& 1)
    have e2 := ne0_u8 (x &&& 128)
    by_cases h1 : y &&& 1 = 1
    · rw [h1, UInt8.mul_one] at hK1
      rw [decide_eq_true h1] at e1
      by_cases h2 : x &&& 128 = 0
      · rw [← xt_low x h2] at hK1
        rw [decide_eq_false (by simpa using h2)] at e2
        repeat' first | simp -implicitDefEqProofs (maxSteps := 400000) (disch := first | with_reducible rfl | omega | (simp only [wkH] <;> omega) | decide) only [wkAll, wkL, popO, wantedP, if_true, if_false, reduceIte, ne_eq, Nat.reduceAdd, Nat.reduceSub, Nat.reduceMul, Nat.reduceLeDiff, Nat.reduceLT, ofCells, ofCell, reduceCtorEq, Int.reduceLE, Int.reduceLT, Int.reduceToNat, Int.reduceAdd, Int.reduceSub, Int.reduceMul, Int.reduceNeg, Int.reduceBEq, Int.reduceBNe, Int.reduceEq, eqCell, eqCells, binP, unP, convP, lenP, builtinP, sliceDataP, unsafeStringP, appendT, appendS, appendP, copyP, srcP, mmsP, mmP, indexOp, indexAddrOp, sliceOp, bndsP, bndP, capw, capCut, loadOp, storeOp, loadP, fieldOp, fieldAddrOp, arrayAtOp, buildP, buildSliceP, makeSliceP, placeF, fillP, setL, PK.agg, isZero, gt_iff_lt, Nat.reducePow, Nat.reduceGT, reps, seg, wkN, if_pos, if_neg, tf3, Tryz.ze3, tf5, Tryz.ze5, hlt', and_u8_1, and_u8_128, e1, e2, shl_u8_1, shr_u8_1, xor_u8, xor_u8_27]
        exact hK1 _ _ (.eq (by simp [FadeTo]) rfl)
      · rw [← xt_high x h2] at hK1
        rw [decide_eq_true h2] at e2
        repeat' first | simp -implicitDefEqProofs (maxSteps := 400000) (disch := first | with_reducible rfl | omega | (simp only [wkH] <;> omega) | decide) only [wkAll, wkL, popO, wantedP, if_true, if_false, reduceIte, ne_eq, Nat.reduceAdd, Nat.reduceSub, Nat.reduceMul, Nat.reduceLeDiff, Nat.reduceLT, ofCells, ofCell, reduceCtorEq, Int.reduceLE, Int.reduceLT, Int.reduceToNat, Int.reduceAdd, Int.reduceSub, Int.reduceMul, Int.reduceNeg, Int.reduceBEq, Int.reduceBNe, Int.reduceEq, eqCell, eqCells, binP, unP, convP, lenP, builtinP, sliceDataP, unsafeStringP, appendT, appendS, appendP, copyP, srcP, mmsP, mmP, indexOp, indexAddrOp, sliceOp, bndsP, bndP, capw, capCut, loadOp, storeOp, loadP, fieldOp, fieldAddrOp, arrayAtOp, buildP, buildSliceP, makeSliceP, placeF, fillP, setL, PK.agg, isZero, gt_iff_lt, Nat.reducePow, Nat.reduceGT, reps, seg, wkN, if_pos, if_neg, tf3, Tryz.ze3, tf5, Tryz.ze5, hlt', and_u8_1, and_u8_128, e1, e2, shl_u8_1, shr_u8_1, xor_u8, xor_u8_27]
        exact hK1 _ _ (.eq (by simp [FadeTo]) rfl)
    · rw [(bit0 y).resolve_right h1, UInt8.mul_zero, UInt8.xor_zero] at hK1
      rw [decide_eq_false h1] at e1
      by_cases h2 : x &&& 128 = 0
      · rw [← xt_low x h2] at hK1
        rw [decide_eq_false (by simpa using h2)] at e2
        repeat' first | simp -implicitDefEqProofs (maxSteps := 400000) (disch := first | with_reducible rfl | omega | (simp only [wkH] <;> omega) | decide) only [wkAll, wkL, popO, wantedP, if_true, if_false, reduceIte, ne_eq, Nat.reduceAdd, Nat.reduceSub, Nat.reduceMul, Nat.reduceLeDiff, Nat.reduceLT, ofCells, ofCell, reduceCtorEq, Int.reduceLE, Int.reduceLT, Int.reduceToNat, Int.reduceAdd, Int.reduceSub, Int.reduceMul, Int.reduceNeg, Int.reduceBEq, Int.reduceBNe, Int.reduceEq, eqCell, eqCells, binP, unP, convP, lenP, builtinP, sliceDataP, unsafeStringP, appendT, appendS, appendP, copyP, srcP, mmsP, mmP, indexOp, indexAddrOp, sliceOp, bndsP, bndP, capw, capCut, loadOp, storeOp, loadP, fieldOp, fieldAddrOp, arrayAtOp, buildP, buildSliceP, makeSliceP, placeF, fillP, setL, PK.agg, isZero, gt_iff_lt, Nat.reducePow, Nat.reduceGT, reps, seg, wkN, if_pos, if_neg, tf3, Tryz.ze3, tf5, Tryz.ze5, hlt', and_u8_1, and_u8_128, e1, e2, shl_u8_1, shr_u8_1, xor_u8, xor_u8_27]
        exact hK1 _ _ (.eq (by simp [FadeTo]) rfl)
      · rw [← xt_high x h2] at hK1
        rw [decide_eq_true h2] at e2
        repeat' first | simp -implicitDefEqProofs (maxSteps := 400000) (disch := first | with_reducible rfl | omega | (simp only [wkH] <;> omega) | decide) only [wkAll, wkL, popO, wantedP, if_true, if_false, reduceIte, ne_eq, Nat.reduceAdd, Nat.reduceSub, Nat.reduceMul, Nat.reduceLeDiff, Nat.reduceLT, ofCells, ofCell, reduceCtorEq, Int.reduceLE, Int.reduceLT, Int.reduceToNat, Int.reduceAdd, Int.reduceSub, Int.reduceMul, Int.reduceNeg, Int.reduceBEq, Int.reduceBNe, Int.reduceEq, eqCell, eqCells, binP, unP, convP, lenP, builtinP, sliceDataP, unsafeStringP, appendT, appendS, appendP, copyP, srcP, mmsP, mmP, indexOp, indexAddrOp, sliceOp, bndsP, bndP, capw, capCut, loadOp, storeOp, loadP, fieldOp, fieldAddrOp, arrayAtOp, buildP, buildSliceP, makeSliceP, placeF, fillP, setL, PK.agg, isZero, gt_iff_lt, Nat.reducePow, Nat.reduceGT, reps, seg, wkN, if_pos, if_neg, tf3, Tryz.ze3, tf5, Tryz.ze5, hlt', and_u8_1, and_u8_128, e1, e2, shl_u8_1, shr_u8_1, xor_u8, xor_u8_27]
        exact hK1 _ _ (.eq (by simp [FadeTo]) rfl)
  · have hge' : ¬ (i : Int) < 8 := by omega
    have : i = 8 := by omega
    subst this
    rw [← gm_grI a b]
    repeat' first | simp -implicitDefEqProofs (maxSteps := 400000) (disch := first | with_reducible rfl | omega | (simp only [wkH] <;> omega) | decide) only [wkAll, wkL, popO, wantedP, if_true, if_false, reduceIte, ne_eq, Nat.reduceAdd, Nat.reduceSub, Nat.reduceMul, Nat.reduceLeDiff, Nat.reduceLT, ofCells, ofCell, reduceCtorEq, Int.reduceLE, Int.reduceLT, Int.reduceToNat, Int.reduceAdd, Int.reduceSub, Int.reduceMul, Int.reduceNeg, Int.reduceBEq, Int.reduceBNe, Int.reduceEq, eqCell, eqCells, binP, unP, convP, lenP, builtinP, sliceDataP, unsafeStringP, appendT, appendS, appendP, copyP, srcP, mmsP, mmP, indexOp, indexAddrOp, sliceOp, bndsP, bndP, capw, capCut, loadOp, storeOp, loadP, fieldOp, fieldAddrOp, arrayAtOp, buildP, buildSliceP, makeSliceP, placeF, fillP, setL, PK.agg, isZero, gt_iff_lt, Nat.reducePow, Nat.reduceGT, reps, seg, wkN, if_pos, if_neg, tf3, Tryz.ze3, tf5, Tryz.ze5, hge']
    refine hQ (by first | exact .inr rfl | exact .inl rfl) (by first | exact trivial | exact marks1) (by first | (simp -implicitDefEqProofs (maxSteps := 400000) (disch := first | with_reducible rfl | omega | (simp only [wkH] <;> omega) | decide) only [wkAll, wkL, popO, wantedP, if_true, if_false, reduceIte, ne_eq, Nat.reduceAdd, Nat.reduceSub, Nat.reduceMul, Nat.reduceLeDiff, Nat.reduceLT, ofCells, ofCell, reduceCtorEq, Int.reduceLE, Int.reduceLT, Int.reduceToNat, Int.reduceAdd, Int.reduceSub, Int.reduceMul, Int.reduceNeg, Int.reduceBEq, Int.reduceBNe, Int.reduceEq, eqCell, eqCells, loadOp, storeOp, loadP, setL, PK.agg, isZero, gt_iff_lt, Nat.reducePow, Nat.reduceGT, reps, seg, wkN, if_pos, if_neg, tf3, Tryz.ze3, tf5, Tryz.ze5, resP, resPs, resP1]; rfl) | rfl) ⟨6, by repeat' first | exact frz_scalar rfl | apply frz_tuple | apply frz_agg | apply frz_fsl | apply frz_gsl (by omega) | exact frzs_nil | apply frzs_cons⟩ (by first | exact keepsH0 | exact keeps1 (by assumption)) (nw_eq ?_)
    rfl

/-! ### Sub -/
theorem turn8_ok (b : UInt8) (n : Nat) (h : n < 8) (h0 : 0 < n) : Fn (Cx w0) 118 [.int .u8 b.toNat, .int .i64 n] (.int .u8 (rotB b (UInt8.ofNat n)).toNat) := by
  have e1 := shl_u8 b n h
  have e0 : (8 : Int) - (n : Int) = ((8 - n : Nat) : Int) := by omega
  have e2 := shr_u8 b (8 - n) (by omega)
  have e3 : (0 : Int) ≤ (n : Int) := by omega
  have e4 : (0 : Int) ≤ ((8 - n : Nat) : Int) := by omega
  have e5 : UInt8.ofNat (8 - n) = 8 - UInt8.ofNat n := by
    have : ∀ n : Fin 8, UInt8.ofNat (8 - n.val) = 8 - UInt8.ofNat n.val := by decide
    exact this ⟨n, h⟩
  rw [e5] at e2
  refine fn_H ([Go.ResultVar.tmp 4]) Tryz.func118 rfl rfl (by decide) fun ph hW Q hQ => ?_
  simp only [start, List.length_cons, List.length_nil, List.cons_append, List.nil_append, Nat.reduceAdd, Nat.reduceSub, List.replicate_succ, List.replicate_zero, Tryz.ntmps118]
  repeat' first | simp -implicitDefEqProofs (maxSteps := 400000) (disch := first | with_reducible rfl | omega | (simp only [wkH] <;> omega) | decide) only [wkAll, wkL, popO, wantedP, if_true, if_false, reduceIte, ne_eq, Nat.reduceAdd, Nat.reduceSub, Nat.reduceMul, Nat.reduceLeDiff, Nat.reduceLT, ofCells, ofCell, reduceCtorEq, Int.reduceLE, Int.reduceLT, Int.reduceToNat, Int.reduceAdd, Int.reduceSub, Int.reduceMul, Int.reduceNeg, Int.reduceBEq, Int.reduceBNe, Int.reduceEq, eqCell, eqCells, binP, unP, convP, lenP, builtinP, sliceDataP, unsafeStringP, appendT, appendS, appendP, copyP, srcP, mmsP, mmP, indexOp, indexAddrOp, sliceOp, bndsP, bndP, capw, capCut, loadOp, storeOp, loadP, fieldOp, fieldAddrOp, arrayAtOp, buildP, buildSliceP, makeSliceP, placeF, fillP, setL, PK.agg, isZero, gt_iff_lt, Nat.reducePow, Nat.reduceGT, reps, seg, wkN, if_pos, if_neg, tf3, Tryz.ze3, tf5, Tryz.ze5, pl118_1Ae1, e0, e1, e2, e3, e4, or_u8] | refine w_drawnF (id := 1) tb118_1Ae1 pl118_1Ae1 13 (by kernel_rfl) (by kernel_rfl) (by simp) ?_
  refine hQ (by first | exact .inr rfl | exact .inl rfl) (by first | exact trivial | exact marks1) (by first | (simp -implicitDefEqProofs (maxSteps := 400000) (disch := first | with_reducible rfl | omega | (simp only [wkH] <;> omega) | decide) only [wkAll, wkL, popO, wantedP, if_true, if_false, reduceIte, ne_eq, Nat.reduceAdd, Nat.reduceSub, Nat.reduceMul, Nat.reduceLeDiff, Nat.reduceLT, ofCells, ofCell, reduceCtorEq, Int.reduceLE, Int.reduceLT, Int.reduceToNat, Int.reduceAdd, Int.reduceSub, Int.reduceMul, Int.reduceNeg, Int.reduceBEq, Int.reduceBNe, Int.reduceEq, eqCell, eqCells, loadOp, storeOp, loadP, setL, PK.agg, isZero, gt_iff_lt, Nat.reducePow, Nat.reduceGT, reps, seg, wkN, if_pos, if_neg, tf3, Tryz.ze3, tf5, Tryz.ze5, pl118_1Ae1, resP, resPs, resP1]; rfl) | rfl) ⟨6, by repeat' first | exact frz_scalar rfl | apply frz_tuple | apply frz_agg | apply frz_fsl | apply frz_gsl (by omega) | exact frzs_nil | apply frzs_cons⟩ (by first | exact keepsH0 | exact keeps1 (by assumption)) (nw_eq ?_)
  rfl
/-- The inverse's pair after i rounds. -/
def invI (b : UInt8) : Nat → UInt8 × UInt8
  | 0 => (1, b)
  | i + 1 => (gm (invI b i).1 (gm (invI b i).2 (invI b i).2), gm (invI b i).2 (invI b i).2)
theorem invS_at (b : UInt8) : ∀ n i, invS n (invI b i).1 (invI b i).2 = (invI b (i + n)).1
  | 0, i => rfl
  | n + 1, i => by rw [invS, show i + (n + 1) = i + 1 + n by omega, ← invS_at b n (i + 1)]; rfl
theorem inv_invI (b : UInt8) : invB b = (invI b 7).1 := invS_at b 7 0
theorem inverse8_ok (b : UInt8) : Fn (Cx w0) 117 [.int .u8 b.toNat] (.int .u8 (invB b).toNat) := by
  refine fn_H ([Go.ResultVar.tmp 2]) Tryz.func117 rfl rfl (by decide) fun ph hW Q hQ => ?_
  simp only [start, List.length_cons, List.length_nil, List.cons_append, List.nil_append, Nat.reduceAdd, Nat.reduceSub, List.replicate_succ, List.replicate_zero, Tryz.ntmps117]
  repeat' first | simp -implicitDefEqProofs (maxSteps := 400000) (disch := first | with_reducible rfl | omega | (simp only [wkH] <;> omega) | decide) only [wkAll, wkL, popO, wantedP, if_true, if_false, reduceIte, ne_eq, Nat.reduceAdd, Nat.reduceSub, Nat.reduceMul, Nat.reduceLeDiff, Nat.reduceLT, ofCells, ofCell, reduceCtorEq, Int.reduceLE, Int.reduceLT, Int.reduceToNat, Int.reduceAdd, Int.reduceSub, Int.reduceMul, Int.reduceNeg, Int.reduceBEq, Int.reduceBNe, Int.reduceEq, eqCell, eqCells, binP, unP, convP, lenP, builtinP, sliceDataP, unsafeStringP, appendT, appendS, appendP, copyP, srcP, mmsP, mmP, indexOp, indexAddrOp, sliceOp, bndsP, bndP, capw, capCut, loadOp, storeOp, loadP, fieldOp, fieldAddrOp, arrayAtOp, buildP, buildSliceP, makeSliceP, placeF, fillP, setL, PK.agg, isZero, gt_iff_lt, Nat.reducePow, Nat.reduceGT, reps, seg, wkN, if_pos, if_neg, tf3, Tryz.ze3, tf5, Tryz.ze5]
  refine w_loopH (α := Nat) ph ph.ob ph.ty (fun i => [.undef, .undef, .undef, .int .u8 (invI b i).1.toNat, .int .u8 (invI b i).2.toNat, .undef, .int .i64 i, .undef, .undef, .undef, .undef, .undef, .undef, .undef, .undef, .undef]) (fun i => []) (fun i => i ≤ 7) (fun i => 7 - i) 0 (by simp) (fun _ _ => by simp) (.eq (by simp [FadeTo, invI]) rfl) ?_
  intro i hi K hK
  rcases Nat.lt_or_ge i 7 with hlt | hge
  · have hlt' : (i : Int) < 7 := by omega
    have t1 := times8_ok (w0 := w0) (invI b i).2 (invI b i).2
    have t2 := times8_ok (w0 := w0) (invI b i).1 (gm (invI b i).2 (invI b i).2)
    have hK1 := fun tm ph' => hK (i + 1) tm ph' (by omega) (by omega)
    rw [invI] at hK1
    clear hK
    generalize (invI b i).1 = x at *
    generalize (invI b i).2 = y at *
    generalize gm y y = z at *
    generalize gm x z = u at *
    repeat' first | simp -implicitDefEqProofs (maxSteps := 400000) (disch := first | with_reducible rfl | omega | (simp only [wkH] <;> omega) | decide) only [wkAll, wkL, popO, wantedP, if_true, if_false, reduceIte, ne_eq, Nat.reduceAdd, Nat.reduceSub, Nat.reduceMul, Nat.reduceLeDiff, Nat.reduceLT, ofCells, ofCell, reduceCtorEq, Int.reduceLE, Int.reduceLT, Int.reduceToNat, Int.reduceAdd, Int.reduceSub, Int.reduceMul, Int.reduceNeg, Int.reduceBEq, Int.reduceBNe, Int.reduceEq, eqCell, eqCells, binP, unP, convP, lenP, builtinP, sliceDataP, unsafeStringP, appendT, appendS, appendP, copyP, srcP, mmsP, mmP, indexOp, indexAddrOp, sliceOp, bndsP, bndP, capw, capCut, loadOp, storeOp, loadP, fieldOp, fieldAddrOp, arrayAtOp, buildP, buildSliceP, makeSliceP, placeF, fillP, setL, PK.agg, isZero, gt_iff_lt, Nat.reducePow, Nat.reduceGT, reps, seg, wkN, if_pos, if_neg, tf3, Tryz.ze3, tf5, Tryz.ze5, hlt'] | refine w_pure (t1) ?_ | refine w_pure (t2) ?_
    exact hK1 _ _ (.eq (by simp [FadeTo]) rfl)
  · have hge' : ¬ (i : Int) < 7 := by omega
    have : i = 7 := by omega
    subst this
    rw [← inv_invI b]
    repeat' first | simp -implicitDefEqProofs (maxSteps := 400000) (disch := first | with_reducible rfl | omega | (simp only [wkH] <;> omega) | decide) only [wkAll, wkL, popO, wantedP, if_true, if_false, reduceIte, ne_eq, Nat.reduceAdd, Nat.reduceSub, Nat.reduceMul, Nat.reduceLeDiff, Nat.reduceLT, ofCells, ofCell, reduceCtorEq, Int.reduceLE, Int.reduceLT, Int.reduceToNat, Int.reduceAdd, Int.reduceSub, Int.reduceMul, Int.reduceNeg, Int.reduceBEq, Int.reduceBNe, Int.reduceEq, eqCell, eqCells, binP, unP, convP, lenP, builtinP, sliceDataP, unsafeStringP, appendT, appendS, appendP, copyP, srcP, mmsP, mmP, indexOp, indexAddrOp, sliceOp, bndsP, bndP, capw, capCut, loadOp, storeOp, loadP, fieldOp, fieldAddrOp, arrayAtOp, buildP, buildSliceP, makeSliceP, placeF, fillP, setL, PK.agg, isZero, gt_iff_lt, Nat.reducePow, Nat.reduceGT, reps, seg, wkN, if_pos, if_neg, tf3, Tryz.ze3, tf5, Tryz.ze5, hge']
    refine hQ (by first | exact .inr rfl | exact .inl rfl) (by first | exact trivial | exact marks1) (by first | (simp -implicitDefEqProofs (maxSteps := 400000) (disch := first | with_reducible rfl | omega | (simp only [wkH] <;> omega) | decide) only [wkAll, wkL, popO, wantedP, if_true, if_false, reduceIte, ne_eq, Nat.reduceAdd, Nat.reduceSub, Nat.reduceMul, Nat.reduceLeDiff, Nat.reduceLT, ofCells, ofCell, reduceCtorEq, Int.reduceLE, Int.reduceLT, Int.reduceToNat, Int.reduceAdd, Int.reduceSub, Int.reduceMul, Int.reduceNeg, Int.reduceBEq, Int.reduceBNe, Int.reduceEq, eqCell, eqCells, loadOp, storeOp, loadP, setL, PK.agg, isZero, gt_iff_lt, Nat.reducePow, Nat.reduceGT, reps, seg, wkN, if_pos, if_neg, tf3, Tryz.ze3, tf5, Tryz.ze5, resP, resPs, resP1]; rfl) | rfl) ⟨6, by repeat' first | exact frz_scalar rfl | apply frz_tuple | apply frz_agg | apply frz_fsl | apply frz_gsl (by omega) | exact frzs_nil | apply frzs_cons⟩ (by first | exact keepsH0 | exact keeps1 (by assumption)) (nw_eq ?_)
    rfl
theorem sub8_ok (b : UInt8) : Fn (Cx w0) 108 [.int .u8 b.toNat] (.int .u8 (sbox b).toNat) := by
  rw [← sub_box]
  have i1 := inverse8_ok (w0 := w0) b
  have t1 := turn8_ok (w0 := w0) (invB b) 1 (by decide) (by decide)
  have t2 := turn8_ok (w0 := w0) (invB b) 2 (by decide) (by decide)
  have t3 := turn8_ok (w0 := w0) (invB b) 3 (by decide) (by decide)
  have t4 := turn8_ok (w0 := w0) (invB b) 4 (by decide) (by decide)
  rw [subB]
  generalize invB b = x at *
  rw [show UInt8.ofNat 1 = 1 from rfl] at t1
  rw [show UInt8.ofNat 2 = 2 from rfl] at t2
  rw [show UInt8.ofNat 3 = 3 from rfl] at t3
  rw [show UInt8.ofNat 4 = 4 from rfl] at t4
  generalize rotB x 1 = x1 at *
  generalize rotB x 2 = x2 at *
  generalize rotB x 3 = x3 at *
  generalize rotB x 4 = x4 at *
  refine fn_H ([Go.ResultVar.tmp 2]) Tryz.func108 rfl rfl (by decide) fun ph hW Q hQ => ?_
  simp only [start, List.length_cons, List.length_nil, List.cons_append, List.nil_append, Nat.reduceAdd, Nat.reduceSub, List.replicate_succ, List.replicate_zero, Tryz.ntmps108]
  repeat' first | simp -implicitDefEqProofs (maxSteps := 400000) (disch := first | with_reducible rfl | omega | (simp only [wkH] <;> omega) | decide) only [wkAll, wkL, popO, wantedP, if_true, if_false, reduceIte, ne_eq, Nat.reduceAdd, Nat.reduceSub, Nat.reduceMul, Nat.reduceLeDiff, Nat.reduceLT, ofCells, ofCell, reduceCtorEq, Int.reduceLE, Int.reduceLT, Int.reduceToNat, Int.reduceAdd, Int.reduceSub, Int.reduceMul, Int.reduceNeg, Int.reduceBEq, Int.reduceBNe, Int.reduceEq, eqCell, eqCells, binP, unP, convP, lenP, builtinP, sliceDataP, unsafeStringP, appendT, appendS, appendP, copyP, srcP, mmsP, mmP, indexOp, indexAddrOp, sliceOp, bndsP, bndP, capw, capCut, loadOp, storeOp, loadP, fieldOp, fieldAddrOp, arrayAtOp, buildP, buildSliceP, makeSliceP, placeF, fillP, setL, PK.agg, isZero, gt_iff_lt, Nat.reducePow, Nat.reduceGT, reps, seg, wkN, if_pos, if_neg, tf3, Tryz.ze3, tf5, Tryz.ze5, xor_u8, xor_u8_99] | refine w_pure (i1) ?_ | refine w_pure (t1) ?_ | refine w_pure (t2) ?_ | refine w_pure (t3) ?_ | refine w_pure (t4) ?_
  refine hQ (by first | exact .inr rfl | exact .inl rfl) (by first | exact trivial | exact marks1) (by first | (simp -implicitDefEqProofs (maxSteps := 400000) (disch := first | with_reducible rfl | omega | (simp only [wkH] <;> omega) | decide) only [wkAll, wkL, popO, wantedP, if_true, if_false, reduceIte, ne_eq, Nat.reduceAdd, Nat.reduceSub, Nat.reduceMul, Nat.reduceLeDiff, Nat.reduceLT, ofCells, ofCell, reduceCtorEq, Int.reduceLE, Int.reduceLT, Int.reduceToNat, Int.reduceAdd, Int.reduceSub, Int.reduceMul, Int.reduceNeg, Int.reduceBEq, Int.reduceBNe, Int.reduceEq, eqCell, eqCells, loadOp, storeOp, loadP, setL, PK.agg, isZero, gt_iff_lt, Nat.reducePow, Nat.reduceGT, reps, seg, wkN, if_pos, if_neg, tf3, Tryz.ze3, tf5, Tryz.ze5, resP, resPs, resP1]; rfl) | rfl) ⟨6, by repeat' first | exact frz_scalar rfl | apply frz_tuple | apply frz_agg | apply frz_fsl | apply frz_gsl (by omega) | exact frzs_nil | apply frzs_cons⟩ (by first | exact keepsH0 | exact keeps1 (by assumption)) (nw_eq ?_)
  rfl
theorem refSub8_ok (b : UInt8) : Fn (Cx w0) 79 [.int .u8 b.toNat] (.int .u8 (sbox b).toNat) := by
  have hb : ∀ X : List UInt8, X = boxL → X[b.toNat]? = some (sbox b) := fun X h => by rw [h]; exact boxL_at b
  refine fn_H ([Go.ResultVar.tmp 2]) Tryz.func79 rfl rfl (by decide) fun ph hW Q hQ => ?_
  simp only [start, List.length_cons, List.length_nil, List.cons_append, List.nil_append, Nat.reduceAdd, Nat.reduceSub, List.replicate_succ, List.replicate_zero, Tryz.ntmps79]
  repeat' first | simp -implicitDefEqProofs (maxSteps := 400000) (disch := first | with_reducible rfl | omega | (simp only [wkH] <;> omega) | decide) only [wkAll, wkL, popO, wantedP, if_true, if_false, reduceIte, ne_eq, Nat.reduceAdd, Nat.reduceSub, Nat.reduceMul, Nat.reduceLeDiff, Nat.reduceLT, ofCells, ofCell, reduceCtorEq, Int.reduceLE, Int.reduceLT, Int.reduceToNat, Int.reduceAdd, Int.reduceSub, Int.reduceMul, Int.reduceNeg, Int.reduceBEq, Int.reduceBNe, Int.reduceEq, eqCell, eqCells, binP, unP, convP, lenP, builtinP, sliceDataP, unsafeStringP, appendT, appendS, appendP, copyP, srcP, mmsP, mmP, indexOp, indexAddrOp, sliceOp, bndsP, bndP, capw, capCut, loadOp, storeOp, loadP, fieldOp, fieldAddrOp, arrayAtOp, buildP, buildSliceP, makeSliceP, placeF, fillP, setL, PK.agg, isZero, gt_iff_lt, Nat.reducePow, Nat.reduceGT, reps, seg, wkN, if_pos, if_neg, tf9, Tryz.ze9]
  rw [hb _ (by decide +kernel)]
  repeat' first | simp -implicitDefEqProofs (maxSteps := 400000) (disch := first | with_reducible rfl | omega | (simp only [wkH] <;> omega) | decide) only [wkAll, wkL, popO, wantedP, if_true, if_false, reduceIte, ne_eq, Nat.reduceAdd, Nat.reduceSub, Nat.reduceMul, Nat.reduceLeDiff, Nat.reduceLT, ofCells, ofCell, reduceCtorEq, Int.reduceLE, Int.reduceLT, Int.reduceToNat, Int.reduceAdd, Int.reduceSub, Int.reduceMul, Int.reduceNeg, Int.reduceBEq, Int.reduceBNe, Int.reduceEq, eqCell, eqCells, binP, unP, convP, lenP, builtinP, sliceDataP, unsafeStringP, appendT, appendS, appendP, copyP, srcP, mmsP, mmP, indexOp, indexAddrOp, sliceOp, bndsP, bndP, capw, capCut, loadOp, storeOp, loadP, fieldOp, fieldAddrOp, arrayAtOp, buildP, buildSliceP, makeSliceP, placeF, fillP, setL, PK.agg, isZero, gt_iff_lt, Nat.reducePow, Nat.reduceGT, reps, seg, wkN, if_pos, if_neg, tf9, Tryz.ze9]
  refine hQ (by first | exact .inr rfl | exact .inl rfl) (by first | exact trivial | exact marks1) (by first | (simp -implicitDefEqProofs (maxSteps := 400000) (disch := first | with_reducible rfl | omega | (simp only [wkH] <;> omega) | decide) only [wkAll, wkL, popO, wantedP, if_true, if_false, reduceIte, ne_eq, Nat.reduceAdd, Nat.reduceSub, Nat.reduceMul, Nat.reduceLeDiff, Nat.reduceLT, ofCells, ofCell, reduceCtorEq, Int.reduceLE, Int.reduceLT, Int.reduceToNat, Int.reduceAdd, Int.reduceSub, Int.reduceMul, Int.reduceNeg, Int.reduceBEq, Int.reduceBNe, Int.reduceEq, eqCell, eqCells, loadOp, storeOp, loadP, setL, PK.agg, isZero, gt_iff_lt, Nat.reducePow, Nat.reduceGT, reps, seg, wkN, if_pos, if_neg, tf9, Tryz.ze9, resP, resPs, resP1]; rfl) | rfl) ⟨6, by repeat' first | exact frz_scalar rfl | apply frz_tuple | apply frz_agg | apply frz_fsl | apply frz_gsl (by omega) | exact frzs_nil | apply frzs_cons⟩ (by first | exact keepsH0 | exact keeps1 (by assumption)) (nw_eq ?_)
  rfl
end Pv

namespace Pv
open Go Go.RowKit
variable {X : Ctx} {ph : PH} {ρ : Option Nat} {n0 : Nat} {Q : Exit → PSt → PH → Prop}

/-- **A loop** that writes into blocks that were there: the base turns with the rounds. -/
theorem w_loopB {α : Type} {c : Code} {tm : List PV} {ms : List Nat} (n : Nat) (ob : Nat → Option PObj) (ty : Nat → Option TypeId) (b : α → PH) (st : α → List PV) (hl : α → List (Option Blk)) (Inv : α → Prop) (μ : α → Nat) (a0 : α) (h0 : Inv a0) (hb : ∀ a, Inv a → (b a).n = n) (hn : ∀ a, Inv a → n0 ≤ n + (hl a).length)
    (hi : HTo (b a0) (hl a0) ob ty (st a0) tm ph)
    (round : ∀ a, Inv a → ∀ B, B = b a → B.n = n → ∀ K : PSt → PH → Prop, (∀ a' tm ph', Inv a' → μ a' < μ a → HTo (b a') (hl a') ob ty (st a') tm ph' → K ⟨tm, ms⟩ ph') → vc X ρ n0 c (PExit.seq K Q) ⟨st a, ms⟩ (H B (hl a) ob ty)) : vc X ρ n0 (.loop c) Q ⟨tm, ms⟩ ph := by
  show PWp X ρ n0 (.loop c) Q ⟨tm, ms⟩ ph
  have hn' : ∀ a, Inv a → n0 ≤ (b a).n + (hl a).length := fun a h => by rw [hb a h]; exact hn a h
  refine PWp.weak (s' := ⟨st a0, ms⟩) (ph' := H (b a0) (hl a0) ob ty) (hi.weak (hn' _ h0)) rfl ?_
  refine pwp_loopN (I := fun j s' ph' => ∃ a, Inv a ∧ μ a = j ∧ HTo (b a) (hl a) ob ty (st a) s'.tm ph' ∧ s'.ms = ms) (μ a0) ⟨a0, h0, rfl, .same (by
    clear hi round
    generalize st a0 = s
    induction s with
    | nil => trivial
    | cons p ps ih => exact ⟨.inr rfl, ih⟩), rfl⟩ ?_
  rintro j s' ph' ⟨a, hI, rfl, hT, hm⟩
  refine PWp.weak (s' := ⟨st a, ms⟩) (ph' := H (b a) (hl a) ob ty) (hT.weak (hn' a hI)) hm.symm ?_
  refine vc_ok _ _ _ _ (round a hI _ rfl (hb a hI) _ ?_)
  intro a' tm' ph' h1 h2 h3
  exact ⟨μ a', h2, a', h1, rfl, h3, rfl⟩

theorem put_putS (p : Nat) (c d : List PV) : (ph.put p c).put p d = ph.put p d := by simp [PH.put]
theorem get_putS {p : Nat} (c : List PV) (h : p < ph.n) : (ph.put p c).get p = some c := by rw [PH.get_put h, if_pos rfl]
theorem get_putO {p q : Nat} (c : List PV) (h : p < ph.n) (hne : q ≠ p) : (ph.put p c).get q = ph.get q := by rw [PH.get_put h, if_neg hne]

/-! A base that has been written into. -/
section
variable {B : PH} {p q k : Nat} {c d : List PV} {l : List (Option Blk)} {ob : Nat → Option PObj} {ty : Nat → Option TypeId}
theorem hp_get : (H (B.put p c) l ob ty).get (B.n + k) = (l[k]?).join.bind Blk.cells := by have := h_get (b := B.put p c) (l := l) (ob := ob) (ty := ty) (k := k); rwa [PH.n_put] at this
theorem hp_get0 : (H (B.put p c) l ob ty).get B.n = (l[0]?).join.bind Blk.cells := hp_get (k := 0)
theorem hp_put : (H (B.put p c) l ob ty).put (B.n + k) d = H (B.put p c) (l.set k (some (.own d))) ob ty := by have := h_put (b := B.put p c) (l := l) (ob := ob) (ty := ty) (k := k) (c := d); rwa [PH.n_put] at this
theorem hp_put0 : (H (B.put p c) l ob ty).put B.n d = H (B.put p c) (l.set 0 (some (.own d))) ob ty := hp_put (k := 0)
theorem hp_getS (hp : p < B.n) : (H (B.put p c) l ob ty).get p = some c := by rw [h_getlt (by rw [PH.n_put]; exact hp)]; exact get_putS _ hp
theorem hp_putS (hp : p < B.n) : (H (B.put p c) l ob ty).put p d = H (B.put p d) l ob ty := by rw [h_putlt (by rw [PH.n_put]; exact hp), put_putS]
theorem hp_n : (B.put p c).n = B.n := PH.n_put ..
end
/-- .. as one. -/
theorem wkP : type_of% (And.intro (And.intro @hp_get @hp_get0) (And.intro (And.intro @hp_put @hp_put0) @hp_n)) := And.intro (And.intro @hp_get @hp_get0) (And.intro (And.intro @hp_put @hp_put0) @hp_n)
end Pv
