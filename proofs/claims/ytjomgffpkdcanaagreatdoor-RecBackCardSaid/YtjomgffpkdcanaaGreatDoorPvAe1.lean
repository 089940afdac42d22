/- Part of the proof: the layer of pure values, or walks through functions (PvAe1, PvAe2). -/
import Derived.Test.YtjomgffpkdcanaaGreatDoorPvDrawP
import Derived.Test.YtjomgffpkdcanaaGreatDoorPvRb3
import Derived.Test.YtjomgffpkdcanaaGreatDoorPvRb2
set_option linter.all false
--nosplit
--keep2
namespace Pv
set_option maxRecDepth 20000
set_option maxHeartbeats 4000000
open Go Go.Proofs Go.RowKit
def tb98_1Ae1 : Tab := [[], [], [0, 1], [], [], [4], [3, 4, 5], [0, 1, 2, 3, 4, 5, 6], [0, 1, 2, 3, 4, 5, 6, 7]]
def pl98_1Ae1 : Plan := [(0, true, []), (1, true, []), (2, true, []), (3, true, []), (4, true, []), (5, true, []), (6, true, []), (7, true, []), (8, false, [])]
variable {w0 : World}

/-! ### Numbers of 8 bits -/
theorem mul_u8 (a b : UInt8) : IntKind.wrap .u8 ((a.toNat : Int) * (b.toNat : Int)) = ((a * b).toNat : Int) := by
  rw [show (a.toNat : Int) * (b.toNat : Int) = ((a.toNat * b.toNat : Nat) : Int) by simp, wrap_u8n, UInt8.toNat_ofNat', UInt8.toNat_mul]
theorem shl_u8 (x : UInt8) (m : Nat) (h : m < 8) : shlP .u8 (x.toNat : Int) (m : Int) = ((x <<< UInt8.ofNat m).toNat : Int) := by
  have : ∀ m : Fin 8, ∀ x : Fin 256, shlP .u8 (x.val : Int) (m.val : Int) = (((UInt8.ofNat x.val) <<< UInt8.ofNat m.val).toNat : Int) := by decide +kernel
  have := this ⟨m, h⟩ ⟨x.toNat, x.toNat_lt⟩
  simpa using this
theorem shr_u8 (x : UInt8) (m : Nat) (h : m < 8) : shrP .u8 (x.toNat : Int) (m : Int) = ((x >>> UInt8.ofNat m).toNat : Int) := by
  have : ∀ m : Fin 8, ∀ x : Fin 256, shrP .u8 (x.val : Int) (m.val : Int) = (((UInt8.ofNat x.val) >>> UInt8.ofNat m.val).toNat : Int) := by decide +kernel
  have := this ⟨m, h⟩ ⟨x.toNat, x.toNat_lt⟩
  simpa using this
theorem shl_u8_1 (x : UInt8) : shlP .u8 (x.toNat : Int) 1 = ((x <<< 1).toNat : Int) := shl_u8 x 1 (by decide)
theorem shr_u8_1 (x : UInt8) : shrP .u8 (x.toNat : Int) 1 = ((x >>> 1).toNat : Int) := shr_u8 x 1 (by decide)
theorem shr_u8_7 (x : UInt8) : shrP .u8 (x.toNat : Int) 7 = ((x >>> 7).toNat : Int) := shr_u8 x 7 (by decide)
theorem and_u8_1 (a : UInt8) : bitsP .and .u8 a.toNat 1 = ((a &&& 1).toNat : Int) := and_u8 a 1
theorem xor_u8_99 (a : UInt8) : bitsP .xor .u8 a.toNat 99 = ((a ^^^ 99).toNat : Int) := xor_u8 a 99
theorem mul_u8_27 (a : UInt8) : IntKind.wrap .u8 ((a.toNat : Int) * 27) = ((a * 27).toNat : Int) := mul_u8 a 27

/-! ### Times -/
/-- The second factor after i rounds. -/
def shB (b : UInt8) : Nat → UInt8
  | 0 => b
  | i + 1 => shB b i >>> 1
def xtI (a : UInt8) : Nat → UInt8
  | 0 => a
  | i + 1 => xt (xtI a i)
def grI (a b : UInt8) : Nat → UInt8
  | 0 => 0
  | i + 1 => grI a b i ^^^ (xtI a i * (shB b i &&& 1))
theorem gmR_at (a b : UInt8) : ∀ n i, gmR n (grI a b i) (xtI a i) (shB b i) = grI a b (i + n)
  | 0, i => rfl
  | n + 1, i => by rw [gmR, show i + (n + 1) = i + 1 + n by omega, ← gmR_at a b n (i + 1)]; rfl
theorem gm_grI (a b : UInt8) : gm a b = grI a b 8 := gmR_at a b 8 0
theorem shB_8 (b : UInt8) : shB b 8 = 0 := byte_all (p := fun b => shB b 8 = 0) (by decide +kernel) b
theorem gm_early (a b : UInt8) (i : Nat) (h : i ≤ 8) (h0 : shB b i = 0) : grI a b i = gm a b := by
  rw [gm_grI]
  have := gmR_at a b (8 - i) i
  rw [h0, gmR_b0, show i + (8 - i) = 8 by omega] at this; exact this
theorem shB_i (b : UInt8) (i : Nat) (h : i ≤ 8) (h0 : shB b i ≠ 0) : i < 8 := by
  rcases Nat.lt_or_ge i 8 with h1 | h1
  · exact h1
  · have : i = 8 := by omega
    subst this; exact absurd (shB_8 b) h0
theorem nz_u8 (b : UInt8) : (0 : Int) < (b.toNat : Int) ↔ b ≠ 0 := by
  constructor
  · rintro h rfl; simp at h
  · intro h; have : b.toNat ≠ 0 := fun h2 => h (UInt8.toNat_inj.1 h2); omega

theorem times8_ok (a b : UInt8) : Fn (Cx w0) 89 [.int .u8 a.toNat, .int .u8 b.toNat] (.int .u8 (gm a b).toNat) := by
  refine fn_H ([Go.ResultVar.tmp 4]) Tryz.func89 rfl rfl (by decide) fun ph hW Q hQ => ?_
  simp only [start, List.length_cons, List.length_nil, List.cons_append, List.nil_append, Nat.reduceAdd, Nat.reduceSub, List.replicate_succ, List.replicate_zero, Tryz.ntmps89]
  repeat' first | simp -implicitDefEqProofs (maxSteps := 400000) (disch := first | with_reducible rfl | omega | (simp only [wkH] <;> omega) | decide) only [wkAll, wkL, popO, wantedP, if_true, if_false, reduceIte, ne_eq, Nat.reduceAdd, Nat.reduceSub, Nat.reduceMul, Nat.reduceLeDiff, Nat.reduceLT, ofCells, ofCell, reduceCtorEq, Int.reduceLE, Int.reduceLT, Int.reduceToNat, Int.reduceAdd, Int.reduceSub, Int.reduceMul, Int.reduceNeg, Int.reduceBEq, Int.reduceBNe, Int.reduceEq, eqCell, eqCells, binP, unP, convP, lenP, builtinP, sliceDataP, unsafeStringP, appendT, appendS, appendP, copyP, srcP, mmsP, mmP, indexOp, indexAddrOp, sliceOp, bndsP, bndP, capw, capCut, loadOp, storeOp, loadP, fieldOp, fieldAddrOp, arrayAtOp, buildP, buildSliceP, makeSliceP, placeF, fillP, setL, PK.agg, isZero, gt_iff_lt, Nat.reducePow, Nat.reduceGT, reps, seg, wkN, if_pos, if_neg, tf5, Tryz.ze5]
  refine w_loopH (α := Nat) ph ph.ob ph.ty (fun i => [.int .u8 (xtI a i).toNat, .int .u8 (shB b i).toNat, .undef, .undef, .undef, .int .u8 (grI a b i).toNat, .undef, .undef, .undef, .undef, .undef, .undef, .undef, .undef, .undef, .undef, .undef, .undef, .undef, .undef, .undef, .undef, .undef]) (fun i => []) (fun i => i ≤ 8) (fun i => 8 - i) 0 (by simp) (fun _ _ => by simp) (.eq (by simp [FadeTo, xtI, shB, grI]) rfl) ?_
  intro i hi K hK
  have hnz := nz_u8 (shB b i)
  by_cases h0 : shB b i = 0
  · have q : ¬ (0 : Int) < ((shB b i).toNat : Int) := by rw [hnz]; simpa using h0
    rw [gm_early a b i hi h0] at *
    generalize gm a b = g at *
    generalize xtI a i = x at *
    generalize shB b i = y at *
    repeat' first | simp -implicitDefEqProofs (maxSteps := 400000) (disch := first | with_reducible rfl | omega | (simp only [wkH] <;> omega) | decide) only [wkAll, wkL, popO, wantedP, if_true, if_false, reduceIte, ne_eq, Nat.reduceAdd, Nat.reduceSub, Nat.reduceMul, Nat.reduceLeDiff, Nat.reduceLT, ofCells, ofCell, reduceCtorEq, Int.reduceLE, Int.reduceLT, Int.reduceToNat, Int.reduceAdd, Int.reduceSub, Int.reduceMul, Int.reduceNeg, Int.reduceBEq, Int.reduceBNe, Int.reduceEq, eqCell, eqCells, binP, unP, convP, lenP, builtinP, sliceDataP, unsafeStringP, appendT, appendS, appendP, copyP, srcP, mmsP, mmP, indexOp, indexAddrOp, sliceOp, bndsP, bndP, capw, capCut, loadOp, storeOp, loadP, fieldOp, fieldAddrOp, arrayAtOp, buildP, buildSliceP, makeSliceP, placeF, fillP, setL, PK.agg, isZero, gt_iff_lt, Nat.reducePow, Nat.reduceGT, reps, seg, wkN, if_pos, if_neg, tf5, Tryz.ze5, gt_iff_lt, q]
    refine hQ (by first | exact .inr rfl | exact .inl rfl) (by first | exact trivial | exact marks1) (by first | (simp -implicitDefEqProofs (maxSteps := 400000) (disch := first | with_reducible rfl | omega | (simp only [wkH] <;> omega) | decide) only [wkAll, wkL, popO, wantedP, if_true, if_false, reduceIte, ne_eq, Nat.reduceAdd, Nat.reduceSub, Nat.reduceMul, Nat.reduceLeDiff, Nat.reduceLT, ofCells, ofCell, reduceCtorEq, Int.reduceLE, Int.reduceLT, Int.reduceToNat, Int.reduceAdd, Int.reduceSub, Int.reduceMul, Int.reduceNeg, Int.reduceBEq, Int.reduceBNe, Int.reduceEq, eqCell, eqCells, loadOp, storeOp, loadP, setL, PK.agg, isZero, gt_iff_lt, Nat.reducePow, Nat.reduceGT, reps, seg, wkN, if_pos, if_neg, tf5, Tryz.ze5, resP, resPs, resP1]; rfl) | rfl) ⟨6, by repeat' first | exact frz_scalar rfl | apply frz_tuple | apply frz_agg | apply frz_fsl | apply frz_gsl (by omega) | exact frzs_nil | apply frzs_cons⟩ (by first | exact keepsH0 | exact keeps1 (by assumption)) (nw_eq ?_)
    rfl
  · have q : (0 : Int) < ((shB b i).toNat : Int) := hnz.2 h0
    have hlt := shB_i b i hi h0
    have hx : xtI a (i + 1) = (xtI a i <<< 1) ^^^ ((xtI a i >>> 7) * 27) := rfl
    have hy : shB b (i + 1) = shB b i >>> 1 := rfl
    have hg : grI a b (i + 1) = grI a b i ^^^ (xtI a i * (shB b i &&& 1)) := rfl
    have hK1 := fun tm ph' => hK (i + 1) tm ph' (by omega) (by omega)
    rw [hx, hy, hg] at hK1
    clear hK hx hy hg
    generalize xtI a i = x at *
    generalize shB b i = y at *
    generalize grI a b i = z at *
    repeat' first | simp -implicitDefEqProofs (maxSteps := 400000) (disch := first | with_reducible rfl | omega | (simp only [wkH] <;> omega) | decide) only [wkAll, wkL, popO, wantedP, if_true, if_false, reduceIte, ne_eq, Nat.reduceAdd, Nat.reduceSub, Nat.reduceMul, Nat.reduceLeDiff, Nat.reduceLT, ofCells, ofCell, reduceCtorEq, Int.reduceLE, Int.reduceLT, Int.reduceToNat, Int.reduceAdd, Int.reduceSub, Int.reduceMul, Int.reduceNeg, Int.reduceBEq, Int.reduceBNe, Int.reduceEq, eqCell, eqCells, binP, unP, convP, lenP, builtinP, sliceDataP, unsafeStringP, appendT, appendS, appendP, copyP, srcP, mmsP, mmP, indexOp, indexAddrOp, sliceOp, bndsP, bndP, capw, capCut, loadOp, storeOp, loadP, fieldOp, fieldAddrOp, arrayAtOp, buildP, buildSliceP, makeSliceP, placeF, fillP, setL, PK.agg, isZero, gt_iff_lt, Nat.reducePow, Nat.reduceGT, reps, seg, wkN, if_pos, if_neg, tf5, Tryz.ze5, gt_iff_lt, q, and_u8_1, mul_u8, xor_u8, shl_u8_1, shr_u8_7, shr_u8_1, mul_u8_27]
    exact hK1 _ _ (.eq (by simp [FadeTo]) rfl)
theorem ne0_u8 (b : UInt8) : ((b.toNat : Int) != 0) = decide (b ≠ 0) := by
  by_cases h : b = 0
  · subst h; rfl
  · rw [decide_eq_true h, bne_iff_ne]
    intro h2; apply h; apply UInt8.toNat_inj.1; show b.toNat = 0; omega
theorem turn8_ok (b : UInt8) (n : Nat) (h : n < 8) (h0 : 0 < n) : Fn (Cx w0) 98 [.int .u8 b.toNat, .int .i64 n] (.int .u8 (rotB b (UInt8.ofNat n)).toNat) := by
  have e1 := shl_u8 b n h
  have e0 : (8 : Int) - (n : Int) = ((8 - n : Nat) : Int) := by omega
  have e2 := shr_u8 b (8 - n) (by omega)
  have e3 : (0 : Int) ≤ (n : Int) := by omega
  have e4 : (0 : Int) ≤ ((8 - n : Nat) : Int) := by omega
  have e5 : UInt8.ofNat (8 - n) = 8 - UInt8.ofNat n := by
    have : ∀ n : Fin 8, UInt8.ofNat (8 - n.val) = 8 - UInt8.ofNat n.val := by decide
    exact this ⟨n, h⟩
  rw [e5] at e2
  refine fn_H ([Go.ResultVar.tmp 4]) Tryz.func98 rfl rfl (by decide) fun ph hW Q hQ => ?_
  simp only [start, List.length_cons, List.length_nil, List.cons_append, List.nil_append, Nat.reduceAdd, Nat.reduceSub, List.replicate_succ, List.replicate_zero, Tryz.ntmps98]
  repeat' first | simp -implicitDefEqProofs (maxSteps := 400000) (disch := first | with_reducible rfl | omega | (simp only [wkH] <;> omega) | decide) only [wkAll, wkL, popO, wantedP, if_true, if_false, reduceIte, ne_eq, Nat.reduceAdd, Nat.reduceSub, Nat.reduceMul, Nat.reduceLeDiff, Nat.reduceLT, ofCells, ofCell, reduceCtorEq, Int.reduceLE, Int.reduceLT, Int.reduceToNat, Int.reduceAdd, Int.reduceSub, Int.reduceMul, Int.reduceNeg, Int.reduceBEq, Int.reduceBNe, Int.reduceEq, eqCell, eqCells, binP, unP, convP, lenP, builtinP, sliceDataP, unsafeStringP, appendT, appendS, appendP, copyP, srcP, mmsP, mmP, indexOp, indexAddrOp, sliceOp, bndsP, bndP, capw, capCut, loadOp, storeOp, loadP, fieldOp, fieldAddrOp, arrayAtOp, buildP, buildSliceP, makeSliceP, placeF, fillP, setL, PK.agg, isZero, gt_iff_lt, Nat.reducePow, Nat.reduceGT, reps, seg, wkN, if_pos, if_neg, tf3, Tryz.ze3, tf5, Tryz.ze5, pl98_1Ae1, e0, e1, e2, e3, e4, or_u8] | refine w_drawnF (id := 1) tb98_1Ae1 pl98_1Ae1 13 (by kernel_rfl) (by kernel_rfl) (by simp) ?_
  refine hQ (by first | exact .inr rfl | exact .inl rfl) (by first | exact trivial | exact marks1) (by first | (simp -implicitDefEqProofs (maxSteps := 400000) (disch := first | with_reducible rfl | omega | (simp only [wkH] <;> omega) | decide) only [wkAll, wkL, popO, wantedP, if_true, if_false, reduceIte, ne_eq, Nat.reduceAdd, Nat.reduceSub, Nat.reduceMul, Nat.reduceLeDiff, Nat.reduceLT, ofCells, ofCell, reduceCtorEq, Int.reduceLE, Int.reduceLT, Int.reduceToNat, Int.reduceAdd, Int.reduceSub, Int.reduceMul, Int.reduceNeg, Int.reduceBEq, Int.reduceBNe, Int.reduceEq, eqCell, eqCells, loadOp, storeOp, loadP, setL, PK.agg, isZero, gt_iff_lt, Nat.reducePow, Nat.reduceGT, reps, seg, wkN, if_pos, if_neg, tf3, Tryz.ze3, tf5, Tryz.ze5, pl98_1Ae1, resP, resPs, resP1]; rfl) | rfl) ⟨6, by repeat' first | exact frz_scalar rfl | apply frz_tuple | apply frz_agg | apply frz_fsl | apply frz_gsl (by omega) | exact frzs_nil | apply frzs_cons⟩ (by first | exact keepsH0 | exact keeps1 (by assumption)) (nw_eq ?_)
  rfl
/-- The inverse's pair after i rounds. -/
def invI (b : UInt8) : Nat → UInt8 × UInt8
  | 0 => (1, b)
  | i + 1 => (gm (invI b i).1 (gm (invI b i).2 (invI b i).2), gm (invI b i).2 (invI b i).2)
theorem invS_at (b : UInt8) : ∀ n i, invS n (invI b i).1 (invI b i).2 = (invI b (i + n)).1
  | 0, i => rfl
  | n + 1, i => by rw [invS, show i + (n + 1) = i + 1 + n by omega, ← invS_at b n (i + 1)]; rfl
theorem inv_invI (b : UInt8) : invB b = (invI b 7).1 := invS_at b 7 0
theorem inverse8_ok (b : UInt8) : Fn (Cx w0) 97 [.int .u8 b.toNat] (.int .u8 (invB b).toNat) := by
  refine fn_H ([Go.ResultVar.tmp 2]) Tryz.func97 rfl rfl (by decide) fun ph hW Q hQ => ?_
  simp only [start, List.length_cons, List.length_nil, List.cons_append, List.nil_append, Nat.reduceAdd, Nat.reduceSub, List.replicate_succ, List.replicate_zero, Tryz.ntmps97]
  repeat' first | simp -implicitDefEqProofs (maxSteps := 400000) (disch := first | with_reducible rfl | omega | (simp only [wkH] <;> omega) | decide) only [wkAll, wkL, popO, wantedP, if_true, if_false, reduceIte, ne_eq, Nat.reduceAdd, Nat.reduceSub, Nat.reduceMul, Nat.reduceLeDiff, Nat.reduceLT, ofCells, ofCell, reduceCtorEq, Int.reduceLE, Int.reduceLT, Int.reduceToNat, Int.reduceAdd, Int.reduceSub, Int.reduceMul, Int.reduceNeg, Int.reduceBEq, Int.reduceBNe, Int.reduceEq, eqCell, eqCells, binP, unP, convP, lenP, builtinP, sliceDataP, unsafeStringP, appendT, appendS, appendP, copyP, srcP, mmsP, mmP, indexOp, indexAddrOp, sliceOp, bndsP, bndP, capw, capCut, loadOp, storeOp, loadP, fieldOp, fieldAddrOp, arrayAtOp, buildP, buildSliceP, makeSliceP, placeF, fillP, setL, PK.agg, isZero, gt_iff_lt, Nat.reducePow, Nat.reduceGT, reps, seg, wkN, if_pos, if_neg, tf3, Tryz.ze3, tf5, Tryz.ze5]
  refine w_loopH (α := Nat) ph ph.ob ph.ty (fun i => [.undef, .undef, .undef, .int .u8 (invI b i).1.toNat, .int .u8 (invI b i).2.toNat, .undef, .int .i64 i, .undef, .undef, .undef, .undef, .undef, .undef, .undef, .undef, .undef]) (fun i => []) (fun i => i ≤ 7) (fun i => 7 - i) 0 (by simp) (fun _ _ => by simp) (.eq (by simp [FadeTo, invI]) rfl) ?_
  intro i hi K hK
  rcases Nat.lt_or_ge i 7 with hlt | hge
  · have hlt' : (i : Int) < 7 := by omega
    have t1 := times8_ok (w0 := w0) (invI b i).2 (invI b i).2
    have t2 := times8_ok (w0 := w0) (invI b i).1 (gm (invI b i).2 (invI b i).2)
    have hK1 := fun tm ph' => hK (i + 1) tm ph' (by omega) (by omega)
    rw [invI] at hK1
    clear hK
    generalize (invI b i).1 = x at *
    generalize (invI b i).2 = y at *
    generalize gm y y = z at *
    generalize gm x z = u at *
    repeat' first | simp -implicitDefEqProofs (maxSteps := 400000) (disch := first | with_reducible rfl | omega | (simp only [wkH] <;> omega) | decide) only [wkAll, wkL, popO, wantedP, if_true, if_false, reduceIte, ne_eq, Nat.reduceAdd, Nat.reduceSub, Nat.reduceMul, Nat.reduceLeDiff, Nat.reduceLT, ofCells, ofCell, reduceCtorEq, Int.reduceLE, Int.reduceLT, Int.reduceToNat, Int.reduceAdd, Int.reduceSub, Int.reduceMul, Int.reduceNeg, Int.reduceBEq, Int.reduceBNe, Int.reduceEq, eqCell, eqCells, binP, unP, convP, lenP, builtinP, sliceDataP, unsafeStringP, appendT, appendS, appendP, copyP, srcP, mmsP, mmP, indexOp, indexAddrOp, sliceOp, bndsP, bndP, capw, capCut, loadOp, storeOp, loadP, fieldOp, fieldAddrOp, arrayAtOp, buildP, buildSliceP, makeSliceP, placeF, fillP, setL, PK.agg, isZero, gt_iff_lt, Nat.reducePow, Nat.reduceGT, reps, seg, wkN, if_pos, if_neg, tf3, Tryz.ze3, tf5, Tryz.ze5, hlt'] | refine w_pure (t1) ?_ | refine w_pure (t2) ?_
    exact hK1 _ _ (.eq (by simp [FadeTo]) rfl)
  · have hge' : ¬ (i : Int) < 7 := by omega
    have : i = 7 := by omega
    subst this
    rw [← inv_invI b]
    repeat' first | simp -implicitDefEqProofs (maxSteps := 400000) (disch := first | with_reducible rfl | omega | (simp only [wkH] <;> omega) | decide) only [wkAll, wkL, popO, wantedP, if_true, if_false, reduceIte, ne_eq, Nat.reduceAdd, Nat.reduceSub, Nat.reduceMul, Nat.reduceLeDiff, Nat.reduceLT, ofCells, ofCell, reduceCtorEq, Int.reduceLE, Int.reduceLT, Int.reduceToNat, Int.reduceAdd, Int.reduceSub, Int.reduceMul, Int.reduceNeg, Int.reduceBEq, Int.reduceBNe, Int.reduceEq, eqCell, eqCells, binP, unP, convP, lenP, builtinP, sliceDataP, unsafeStringP, appendT, appendS, appendP, copyP, srcP, mmsP, mmP, indexOp, indexAddrOp, sliceOp, bndsP, bndP, capw, capCut, loadOp, storeOp, loadP, fieldOp, fieldAddrOp, arrayAtOp, buildP, buildSliceP, makeSliceP, placeF, fillP, setL, PK.agg, isZero, gt_iff_lt, Nat.reducePow, Nat.reduceGT, reps, seg, wkN, if_pos, if_neg, tf3, Tryz.ze3, tf5, Tryz.ze5, hge']
    refine hQ (by first | exact .inr rfl | exact .inl rfl) (by first | exact trivial | exact marks1) (by first | (simp -implicitDefEqProofs (maxSteps := 400000) (disch := first | with_reducible rfl | omega | (simp only [wkH] <;> omega) | decide) only [wkAll, wkL, popO, wantedP, if_true, if_false, reduceIte, ne_eq, Nat.reduceAdd, Nat.reduceSub, Nat.reduceMul, Nat.reduceLeDiff, Nat.reduceLT, ofCells, ofCell, reduceCtorEq, Int.reduceLE, Int.reduceLT, Int.reduceToNat, Int.reduceAdd, Int.reduceSub, Int.reduceMul, Int.reduceNeg, Int.reduceBEq, Int.reduceBNe, Int.reduceEq, eqCell, eqCells, loadOp, storeOp, loadP, setL, PK.agg, isZero, gt_iff_lt, Nat.reducePow, Nat.reduceGT, reps, seg, wkN, if_pos, if_neg, tf3, Tryz.ze3, tf5, Tryz.ze5, resP, resPs, resP1]; rfl) | rfl) ⟨6, by repeat' first | exact frz_scalar rfl | apply frz_tuple | apply frz_agg | apply frz_fsl | apply frz_gsl (by omega) | exact frzs_nil | apply frzs_cons⟩ (by first | exact keepsH0 | exact keeps1 (by assumption)) (nw_eq ?_)
    rfl
theorem sub8_ok (b : UInt8) : Fn (Cx w0) 88 [.int .u8 b.toNat] (.int .u8 (sbox b).toNat) := by
  rw [← sub_box]
  have i1 := inverse8_ok (w0 := w0) b
  have t1 := turn8_ok (w0 := w0) (invB b) 1 (by decide) (by decide)
  have t2 := turn8_ok (w0 := w0) (invB b) 2 (by decide) (by decide)
  have t3 := turn8_ok (w0 := w0) (invB b) 3 (by decide) (by decide)
  have t4 := turn8_ok (w0 := w0) (invB b) 4 (by decide) (by decide)
  rw [subB]
  generalize invB b = x at *
  rw [show UInt8.ofNat 1 = 1 from rfl] at t1
  rw [show UInt8.ofNat 2 = 2 from rfl] at t2
  rw [show UInt8.ofNat 3 = 3 from rfl] at t3
  rw [show UInt8.ofNat 4 = 4 from rfl] at t4
  generalize rotB x 1 = x1 at *
  generalize rotB x 2 = x2 at *
  generalize rotB x 3 = x3 at *
  generalize rotB x 4 = x4 at *
  refine fn_H ([Go.ResultVar.tmp 2]) Tryz.func88 rfl rfl (by decide) fun ph hW Q hQ => ?_
  simp only [start, List.length_cons, List.length_nil, List.cons_append, List.nil_append, Nat.reduceAdd, Nat.reduceSub, List.replicate_succ, List.replicate_zero, Tryz.ntmps88]
  repeat' first | simp -implicitDefEqProofs (maxSteps := 400000) (disch := first | with_reducible rfl | omega | (simp only [wkH] <;> omega) | decide) only [wkAll, wkL, popO, wantedP, if_true, if_false, reduceIte, ne_eq, Nat.reduceAdd, Nat.reduceSub, Nat.reduceMul, Nat.reduceLeDiff, Nat.reduceLT, ofCells, ofCell, reduceCtorEq, Int.reduceLE, Int.reduceLT, Int.reduceToNat, Int.reduceAdd, Int.reduceSub, Int.reduceMul, Int.reduceNeg, Int.reduceBEq, Int.reduceBNe, Int.reduceEq, eqCell, eqCells, binP, unP, convP, lenP, builtinP, sliceDataP, unsafeStringP, appendT, appendS, appendP, copyP, srcP, mmsP, mmP, indexOp, indexAddrOp, sliceOp, bndsP, bndP, capw, capCut, loadOp, storeOp, loadP, fieldOp, fieldAddrOp, arrayAtOp, buildP, buildSliceP, makeSliceP, placeF, fillP, setL, PK.agg, isZero, gt_iff_lt, Nat.reducePow, Nat.reduceGT, reps, seg, wkN, if_pos, if_neg, tf3, Tryz.ze3, tf5, Tryz.ze5, xor_u8, xor_u8_99] | refine w_pure (i1) ?_ | refine w_pure (t1) ?_ | refine w_pure (t2) ?_ | refine w_pure (t3) ?_ | refine w_pure (t4) ?_
  refine hQ (by first | exact .inr rfl | exact .inl rfl) (by first | exact trivial | exact marks1) (by first | (simp -implicitDefEqProofs (maxSteps := 400000) (disch := first | with_reducible rfl | omega | (simp only [wkH] <;> omega) | decide) only [wkAll, wkL, popO, wantedP, if_true, if_false, reduceIte, ne_eq, Nat.reduceAdd, Nat.reduceSub, Nat.reduceMul, Nat.reduceLeDiff, Nat.reduceLT, ofCells, ofCell, reduceCtorEq, Int.reduceLE, Int.reduceLT, Int.reduceToNat, Int.reduceAdd, Int.reduceSub, Int.reduceMul, Int.reduceNeg, Int.reduceBEq, Int.reduceBNe, Int.reduceEq, eqCell, eqCells, loadOp, storeOp, loadP, setL, PK.agg, isZero, gt_iff_lt, Nat.reducePow, Nat.reduceGT, reps, seg, wkN, if_pos, if_neg, tf3, Tryz.ze3, tf5, Tryz.ze5, resP, resPs, resP1]; rfl) | rfl) ⟨6, by repeat' first | exact frz_scalar rfl | apply frz_tuple | apply frz_agg | apply frz_fsl | apply frz_gsl (by omega) | exact frzs_nil | apply frzs_cons⟩ (by first | exact keepsH0 | exact keeps1 (by assumption)) (nw_eq ?_)
  rfl
end Pv

--nosplit
--keep2
namespace Pv
set_option maxRecDepth 20000
set_option maxHeartbeats 4000000
open Go Go.Proofs Go.RowKit
def tb69_4Ae2 : Tab := [[], [], [0], [0, 1, 2], [0, 1, 2, 3], [], [5], [5, 6], [0, 1, 2, 3, 4, 5, 6, 7], [0], [0, 1, 2, 3, 4, 5, 6, 7, 8, 9], [0, 1, 2, 3, 4, 5, 6, 7, 8, 9, 10]]
def pl69_4Ae2 : Plan := [(0, true, []), (1, true, []), (2, true, []), (3, true, []), (4, true, []), (5, true, []), (6, true, []), (7, true, []), (8, true, []), (9, true, []), (10, true, []), (11, false, [])]
variable {w0 : World}

theorem bytesPV_set (l : List UInt8) (i : Nat) (b : UInt8) : (bytesPV l).set i (.int .u8 (b.toNat : Int)) = bytesPV (l.set i b) := by simp [bytesPV, List.map_set]
theorem bytesPV_cok (l : List UInt8) : (bytesPV l).all cellOk = true := by simp [bytesPV, cellOk]
theorem get_someW {α : Type} {l : List α} {i : Nat} (h : i < l.length) : ∃ x, l[i]? = some x := ⟨_, List.getElem?_eq_getElem h⟩
theorem set_both {α : Type} {m l : List α} {i : Nat} {x : α} (hi : i < l.length) (hm : m[i]? = some x) : (m.take i ++ l.drop i).set i x = m.take (i + 1) ++ l.drop (i + 1) := by
  have hl : (m.take i).length = i := by rw [List.length_take]; have := (List.getElem?_eq_some_iff.1 hm).1; omega
  rw [List.set_append_right _ _ (by omega), hl, Nat.sub_self, List.drop_eq_getElem_cons hi, List.set_cons_zero, List.take_add_one, hm, List.append_assoc]; rfl
/-- The first i of m, and the others of l. -/
def midB (m l : List UInt8) (i : Nat) : List UInt8 := m.take i ++ l.drop i
theorem midB_0 (m l : List UInt8) : midB m l 0 = l := by simp [midB]
theorem midB_all {m l : List UInt8} {i : Nat} (h1 : m.length ≤ i) (h2 : l.length ≤ i) : midB m l i = m := by simp [midB, List.take_of_length_le h1, List.drop_eq_nil_of_le h2]
theorem midB_len {m l : List UInt8} (h : m.length = l.length) (i : Nat) : (midB m l i).length = l.length := by simp [midB]; omega
theorem midB_at {m l : List UInt8} (h : m.length = l.length) {i : Nat} (hi : i < l.length) : (midB m l i)[i]? = l[i]? := by
  rw [midB, List.getElem?_append_right (by simp; omega), List.getElem?_drop]; congr 1; simp; omega
theorem midB_set {m l : List UInt8} {i : Nat} {x : UInt8} (hi : i < l.length) (hm : m[i]? = some x) : (midB m l i).set i x = midB m l (i + 1) := set_both hi hm
theorem scs_b16 {n : Nat} (l : List UInt8) : Scs n (bytesPV l) := scs_scalars (bytesPV_scalar l)

theorem plus8_ok (ph : PH) (p : Nat) (b k : List UInt8) (hb : b.length = 16) (hk : k.length = 16) (h : ph.get p = some (bytesPV b)) : Eff (Cx w0) 69 [.ptr p 0, .agg (bytesPV k)] ph (.tuple []) (ph.put p (bytesPV (xorB b k))) := by
  have hp := PH.get_lt h
  have hx : (xorB b k).length = 16 := by rw [xorB_len, hb, hk]; rfl
  refine eff_of ([]) Tryz.func69 rfl rfl (by decide) (PH.n_put ..) (fun hW => hW.put hp (scs_b16 _)) fun hW Q hQ => ?_
  simp only [start, List.length_cons, List.length_nil, List.cons_append, List.nil_append, Nat.reduceAdd, Nat.reduceSub, List.replicate_succ, List.replicate_zero, Tryz.ntmps69]
  repeat' first | simp -implicitDefEqProofs (maxSteps := 400000) (disch := first | with_reducible rfl | omega | (simp only [wkH] <;> omega) | decide) only [wkAll, wkL, popO, wantedP, if_true, if_false, reduceIte, ne_eq, Nat.reduceAdd, Nat.reduceSub, Nat.reduceMul, Nat.reduceLeDiff, Nat.reduceLT, ofCells, ofCell, reduceCtorEq, Int.reduceLE, Int.reduceLT, Int.reduceToNat, Int.reduceAdd, Int.reduceSub, Int.reduceMul, Int.reduceNeg, Int.reduceBEq, Int.reduceBNe, Int.reduceEq, eqCell, eqCells, binP, unP, convP, lenP, builtinP, sliceDataP, unsafeStringP, appendT, appendS, appendP, copyP, srcP, mmsP, mmP, indexOp, indexAddrOp, sliceOp, bndsP, bndP, capw, capCut, loadOp, storeOp, loadP, fieldOp, fieldAddrOp, arrayAtOp, buildP, buildSliceP, makeSliceP, placeF, fillP, setL, PK.agg, isZero, gt_iff_lt, Nat.reducePow, Nat.reduceGT, reps, seg, wkN, if_pos, if_neg, tf3, Tryz.ze3, tf5, Tryz.ze5, tf121, Tryz.ze121, pl69_4Ae2, bytesPV_cok] | refine w_drawnF (id := 4) tb69_4Ae2 pl69_4Ae2 19 (by kernel_rfl) (by kernel_rfl) (by simp) ?_
  refine w_loopB (α := Nat) ph.n ph.ob ph.ty (fun i => ph.put p (bytesPV (midB (xorB b k) b i))) (fun i => [.ptr p 0, .undef, .undef, .ptr ph.n 0, .undef, .int .i64 i, .undef, .undef, .undef, .undef, .undef, .undef, .undef, .undef, .undef, .undef, .undef, .undef, .undef, .undef]) (fun i => [some (.own (bytesPV k))]) (fun i => i ≤ 16) (fun i => 16 - i) 0 (by simp) (fun _ _ => PH.n_put ..) (fun _ _ => by simp) (.eq (by simp [FadeTo]) (by rw [midB_0, put_self h])) ?_
  intro i hi B hB hn K hK
  have e2 : B.get p = some (bytesPV (midB (xorB b k) b i)) := by rw [hB]; exact get_putS _ hp
  have hpB : p < B.n := by rw [hn]; exact hp
  have hml := midB_len (m := xorB b k) (l := b) (by omega) i
  rw [← hn]
  rcases Nat.lt_or_ge i 16 with hlt | hge
  · have hlt' : (i : Int) < 16 := by omega
    obtain ⟨x, hbx⟩ := get_someW (show i < b.length by omega)
    obtain ⟨y, hky⟩ := get_someW (show i < k.length by omega)
    have hm : (xorB b k)[i]? = some (x ^^^ y) := by rw [xorB, List.getElem?_zipWith, hbx, hky]
    have ha := midB_at (m := xorB b k) (l := b) (by omega) (i := i) (by omega)
    rw [hbx] at ha
    have hs := midB_set (m := xorB b k) (l := b) (by omega) hm
    repeat' first | simp -implicitDefEqProofs (maxSteps := 400000) (disch := first | with_reducible rfl | omega | (simp only [wkH] <;> omega) | decide) only [wkAll, wkL, popO, wantedP, if_true, if_false, reduceIte, ne_eq, Nat.reduceAdd, Nat.reduceSub, Nat.reduceMul, Nat.reduceLeDiff, Nat.reduceLT, ofCells, ofCell, reduceCtorEq, Int.reduceLE, Int.reduceLT, Int.reduceToNat, Int.reduceAdd, Int.reduceSub, Int.reduceMul, Int.reduceNeg, Int.reduceBEq, Int.reduceBNe, Int.reduceEq, eqCell, eqCells, binP, unP, convP, lenP, builtinP, sliceDataP, unsafeStringP, appendT, appendS, appendP, copyP, srcP, mmsP, mmP, indexOp, indexAddrOp, sliceOp, bndsP, bndP, capw, capCut, loadOp, storeOp, loadP, fieldOp, fieldAddrOp, arrayAtOp, buildP, buildSliceP, makeSliceP, placeF, fillP, setL, PK.agg, isZero, gt_iff_lt, Nat.reducePow, Nat.reduceGT, reps, seg, wkN, if_pos, if_neg, tf3, Tryz.ze3, tf5, Tryz.ze5, tf121, Tryz.ze121, pl69_4Ae2, hlt', h_getlt hpB, h_putlt hpB, e2, hml, hb, hk, ha, hky, xor_u8, bytesPV_set, hs] | refine w_drawnF (id := 4) tb69_4Ae2 pl69_4Ae2 19 (by kernel_rfl) (by kernel_rfl) (by simp) ?_
    refine hK (i + 1) _ _ (by omega) (by omega) (.eq (by simp [FadeTo, hn]) (by rw [hB, put_putS]))
  · have hge' : ¬ (i : Int) < 16 := by omega
    have : i = 16 := by omega
    subst this
    rw [midB_all (by omega) (by omega)] at hB
    repeat' first | simp -implicitDefEqProofs (maxSteps := 400000) (disch := first | with_reducible rfl | omega | (simp only [wkH] <;> omega) | decide) only [wkAll, wkL, popO, wantedP, if_true, if_false, reduceIte, ne_eq, Nat.reduceAdd, Nat.reduceSub, Nat.reduceMul, Nat.reduceLeDiff, Nat.reduceLT, ofCells, ofCell, reduceCtorEq, Int.reduceLE, Int.reduceLT, Int.reduceToNat, Int.reduceAdd, Int.reduceSub, Int.reduceMul, Int.reduceNeg, Int.reduceBEq, Int.reduceBNe, Int.reduceEq, eqCell, eqCells, binP, unP, convP, lenP, builtinP, sliceDataP, unsafeStringP, appendT, appendS, appendP, copyP, srcP, mmsP, mmP, indexOp, indexAddrOp, sliceOp, bndsP, bndP, capw, capCut, loadOp, storeOp, loadP, fieldOp, fieldAddrOp, arrayAtOp, buildP, buildSliceP, makeSliceP, placeF, fillP, setL, PK.agg, isZero, gt_iff_lt, Nat.reducePow, Nat.reduceGT, reps, seg, wkN, if_pos, if_neg, tf3, Tryz.ze3, tf5, Tryz.ze5, tf121, Tryz.ze121, pl69_4Ae2, hge'] | refine w_drawnF (id := 4) tb69_4Ae2 pl69_4Ae2 19 (by kernel_rfl) (by kernel_rfl) (by simp) ?_
    subst hB
    refine hQ (by first | exact .inr rfl | exact .inl rfl) (by first | exact trivial | exact marks1) (by first | (simp -implicitDefEqProofs (maxSteps := 400000) (disch := first | with_reducible rfl | omega | (simp only [wkH] <;> omega) | decide) only [wkAll, wkL, popO, wantedP, if_true, if_false, reduceIte, ne_eq, Nat.reduceAdd, Nat.reduceSub, Nat.reduceMul, Nat.reduceLeDiff, Nat.reduceLT, ofCells, ofCell, reduceCtorEq, Int.reduceLE, Int.reduceLT, Int.reduceToNat, Int.reduceAdd, Int.reduceSub, Int.reduceMul, Int.reduceNeg, Int.reduceBEq, Int.reduceBNe, Int.reduceEq, eqCell, eqCells, loadOp, storeOp, loadP, setL, PK.agg, isZero, gt_iff_lt, Nat.reducePow, Nat.reduceGT, reps, seg, wkN, if_pos, if_neg, tf3, Tryz.ze3, tf5, Tryz.ze5, tf121, Tryz.ze121, pl69_4Ae2, resP, resPs, resP1]; rfl) | rfl) ⟨6, by repeat' first | exact frz_scalar rfl | apply frz_tuple | apply frz_agg | apply frz_fsl | apply frz_gsl (by omega) | exact frzs_nil | apply frzs_cons⟩ (by first | exact keepsH0 | exact keeps1 (by assumption)) (nw_eq ?_)
    rfl
end Pv
