/- Part of the proof: the layer of pure values, or walks through functions (PvWr1). -/
import Derived.Test.YtbocckencbkdeabDoorPvDrawF
import Derived.Test.YtbocckencbkdeabDoorPvBldX
import Derived.Test.YtbocckencbkdeabDoorPvWrE
set_option linter.all false
--nosplit
--keep2
namespace Pv
set_option maxRecDepth 20000
set_option maxHeartbeats 4000000
open Go Go.Proofs Go.RowKit
variable {w0 : World}

theorem getW {α : Type} {l : List α} {i : Nat} (h : i < l.length) : ∃ x, l[i]? = some x := ⟨_, List.getElem?_eq_getElem h⟩
theorem takeW {α : Type} {l : List α} {i : Nat} {x : α} (h : l[i]? = some x) : l.take (i + 1) = l.take i ++ [x] := by rw [List.take_add_one, h]; rfl
theorem beL2 (n : Nat) : beL n 2 = [UInt8.ofNat (n / 256), UInt8.ofNat n] := by
  show [UInt8.ofNat (n / 2 ^ (8 * (2 - 1 - 0))), UInt8.ofNat (n / 2 ^ (8 * (2 - 1 - 1)))] = _
  rw [show 2 ^ (8 * (2 - 1 - 0)) = 256 from rfl, show 2 ^ (8 * (2 - 1 - 1)) = 1 from rfl, Nat.div_one]
theorem shr_i64_8 (n : Nat) : shrP .i64 (n : Int) 8 = ((n / 256 : Nat) : Int) := by rw [shr8 _ _ (by decide)]; omega
theorem wireTwo_ok (n : Nat) (hn : n < 2 ^ 62) : Fn (Cx w0) 33 [.int .i64 n] (.str (beL n 2)) := by
  have w1 := wrap_u8n (n / 256)
  have w2 := wrap_u8n n
  have w3 := shr_i64_8 n
  have w4 : IntKind.wrap .i64 ((n / 256 : Nat) : Int) = ((n / 256 : Nat) : Int) := IntWalk.i64_in _ (by omega)
  have hb := beL2 n
  have hx : bytesX [PV.int .u8 ((UInt8.ofNat (n / 256)).toNat : Int), PV.int .u8 ((UInt8.ofNat n).toNat : Int)] = some [UInt8.ofNat (n / 256), UInt8.ofNat n] := bytesX_bytesPV [UInt8.ofNat (n / 256), UInt8.ofNat n]
  rw [hb]
  refine fn_H ([Go.ResultVar.tmp 2]) Tryd.func33 rfl rfl (by decide) fun ph hW Q hQ => ?_
  simp only [start, List.length_cons, List.length_nil, List.cons_append, List.nil_append, Nat.reduceAdd, Nat.reduceSub, List.replicate_succ, List.replicate_zero, Tryd.ntmps33]
  repeat' first | simp -implicitDefEqProofs (maxSteps := 400000) (disch := first | with_reducible rfl | omega | (simp only [wkH] <;> omega) | decide) only [wkAll, wkL, popO, wantedP, if_true, if_false, reduceIte, ne_eq, Nat.reduceAdd, Nat.reduceSub, Nat.reduceMul, Nat.reduceLeDiff, Nat.reduceLT, ofCells, ofCell, reduceCtorEq, Int.reduceLE, Int.reduceLT, Int.reduceToNat, Int.reduceAdd, Int.reduceSub, Int.reduceMul, Int.reduceNeg, Int.reduceBEq, Int.reduceBNe, Int.reduceEq, eqCell, eqCells, binP, unP, convP, lenP, builtinP, sliceDataP, unsafeStringP, appendT, appendS, appendP, copyP, srcP, mmsP, mmP, indexOp, indexAddrOp, sliceOp, bndsP, bndP, capw, capCut, loadOp, storeOp, loadP, fieldOp, fieldAddrOp, arrayAtOp, buildP, buildSliceP, makeSliceP, placeF, fillP, setL, PK.agg, isZero, gt_iff_lt, Nat.reducePow, Nat.reduceGT, reps, seg, wkN, if_pos, if_neg, tf3, Tryd.ze3, tf5, Tryd.ze5, tf9, Tryd.ze9, tf66, Tryd.ze66, w3, w4, w1, w2, hx, UInt8.ofNat_toNat]
  refine hQ (by first | exact .inr rfl | exact .inl rfl) (by first | exact trivial | exact marks1) (by first | (simp -implicitDefEqProofs (maxSteps := 400000) (disch := first | with_reducible rfl | omega | (simp only [wkH] <;> omega) | decide) only [wkAll, wkL, popO, wantedP, if_true, if_false, reduceIte, ne_eq, Nat.reduceAdd, Nat.reduceSub, Nat.reduceMul, Nat.reduceLeDiff, Nat.reduceLT, ofCells, ofCell, reduceCtorEq, Int.reduceLE, Int.reduceLT, Int.reduceToNat, Int.reduceAdd, Int.reduceSub, Int.reduceMul, Int.reduceNeg, Int.reduceBEq, Int.reduceBNe, Int.reduceEq, eqCell, eqCells, loadOp, storeOp, loadP, setL, PK.agg, isZero, gt_iff_lt, Nat.reducePow, Nat.reduceGT, reps, seg, wkN, if_pos, if_neg, tf3, Tryd.ze3, tf5, Tryd.ze5, tf9, Tryd.ze9, tf66, Tryd.ze66, resP, resPs, resP1]; rfl) | rfl) ⟨6, by repeat' first | exact frz_scalar rfl | apply frz_tuple | apply frz_agg | apply frz_fsl | apply frz_gsl (by omega) | exact frzs_nil | apply frzs_cons⟩ (by first | exact keepsH0 | exact keeps1 (by assumption)) (nw_eq ?_)
  rfl
theorem valT {s : List UInt8} {i : Nat} (h : i < s.length) (h8 : s.length ≤ 8) : valN (s.take i) < 2 ^ 56 := by
  have h1 := valN_lt (s.take i)
  rw [List.length_take, Nat.min_eq_left (by omega)] at h1
  have h2 : 256 ^ i ≤ 256 ^ 7 := Nat.pow_le_pow_right (by decide) (by omega)
  have h3 : (256 : Nat) ^ 7 = 2 ^ 56 := by decide
  omega
theorem wireValue_ok (s : List UInt8) (h8 : s.length ≤ 8) : Fn (Cx w0) 27 [.str s] (.int .u64 (valN s : Nat)) := by
  refine fn_H ([Go.ResultVar.tmp 2]) Tryd.func27 rfl rfl (by decide) fun ph hW Q hQ => ?_
  simp only [start, List.length_cons, List.length_nil, List.cons_append, List.nil_append, Nat.reduceAdd, Nat.reduceSub, List.replicate_succ, List.replicate_zero, Tryd.ntmps27]
  repeat' first | simp -implicitDefEqProofs (maxSteps := 400000) (disch := first | with_reducible rfl | omega | (simp only [wkH] <;> omega) | decide) only [wkAll, wkL, popO, wantedP, if_true, if_false, reduceIte, ne_eq, Nat.reduceAdd, Nat.reduceSub, Nat.reduceMul, Nat.reduceLeDiff, Nat.reduceLT, ofCells, ofCell, reduceCtorEq, Int.reduceLE, Int.reduceLT, Int.reduceToNat, Int.reduceAdd, Int.reduceSub, Int.reduceMul, Int.reduceNeg, Int.reduceBEq, Int.reduceBNe, Int.reduceEq, eqCell, eqCells, binP, unP, convP, lenP, builtinP, sliceDataP, unsafeStringP, appendT, appendS, appendP, copyP, srcP, mmsP, mmP, indexOp, indexAddrOp, sliceOp, bndsP, bndP, capw, capCut, loadOp, storeOp, loadP, fieldOp, fieldAddrOp, arrayAtOp, buildP, buildSliceP, makeSliceP, placeF, fillP, setL, PK.agg, isZero, gt_iff_lt, Nat.reducePow, Nat.reduceGT, reps, seg, wkN, if_pos, if_neg, tf3, Tryd.ze3, tf5, Tryd.ze5, tf9, Tryd.ze9, tf23, Tryd.ze23]
  refine w_loopH (α := Nat) ph ph.ob ph.ty (fun i => [.str s, .undef, .undef, .int .u64 ((valN (s.take i) : Nat) : Int), .undef, .undef, .int .i64 s.length, .int .i64 i, .undef, .undef, .undef, .undef, .undef, .undef, .undef, .undef, .undef, .undef, .undef]) (fun i => []) (fun i => i ≤ s.length) (fun i => s.length - i) 0 (by simp) (fun _ _ => by simp) (.eq (by simp [FadeTo, valN]) rfl) ?_
  intro i hi K hK
  rcases Nat.lt_or_ge i s.length with hlt | hge
  · have hlt' : (i : Int) < (s.length : Int) := by omega
    obtain ⟨c, hc⟩ := getW hlt
    have hso := shl_or (valN (s.take i)) c (valT hlt h8)
    rw [← valN_snoc, ← takeW hc] at hso
    have hwc : IntKind.wrap .u64 (c.toNat : Int) = (c.toNat : Int) := by have := c.toNat_lt; exact IntWalk.u64_in _ (by omega)
    repeat' first | simp -implicitDefEqProofs (maxSteps := 400000) (disch := first | with_reducible rfl | omega | (simp only [wkH] <;> omega) | decide) only [wkAll, wkL, popO, wantedP, if_true, if_false, reduceIte, ne_eq, Nat.reduceAdd, Nat.reduceSub, Nat.reduceMul, Nat.reduceLeDiff, Nat.reduceLT, ofCells, ofCell, reduceCtorEq, Int.reduceLE, Int.reduceLT, Int.reduceToNat, Int.reduceAdd, Int.reduceSub, Int.reduceMul, Int.reduceNeg, Int.reduceBEq, Int.reduceBNe, Int.reduceEq, eqCell, eqCells, binP, unP, convP, lenP, builtinP, sliceDataP, unsafeStringP, appendT, appendS, appendP, copyP, srcP, mmsP, mmP, indexOp, indexAddrOp, sliceOp, bndsP, bndP, capw, capCut, loadOp, storeOp, loadP, fieldOp, fieldAddrOp, arrayAtOp, buildP, buildSliceP, makeSliceP, placeF, fillP, setL, PK.agg, isZero, gt_iff_lt, Nat.reducePow, Nat.reduceGT, reps, seg, wkN, if_pos, if_neg, tf3, Tryd.ze3, tf5, Tryd.ze5, tf9, Tryd.ze9, tf23, Tryd.ze23, hlt', hc, hwc, hso]
    refine hK (i + 1) _ _ (by omega) (by omega) (.eq (by simp [FadeTo]) rfl)
  · have hge' : ¬ (i : Int) < (s.length : Int) := by omega
    rw [List.take_of_length_le hge]
    repeat' first | simp -implicitDefEqProofs (maxSteps := 400000) (disch := first | with_reducible rfl | omega | (simp only [wkH] <;> omega) | decide) only [wkAll, wkL, popO, wantedP, if_true, if_false, reduceIte, ne_eq, Nat.reduceAdd, Nat.reduceSub, Nat.reduceMul, Nat.reduceLeDiff, Nat.reduceLT, ofCells, ofCell, reduceCtorEq, Int.reduceLE, Int.reduceLT, Int.reduceToNat, Int.reduceAdd, Int.reduceSub, Int.reduceMul, Int.reduceNeg, Int.reduceBEq, Int.reduceBNe, Int.reduceEq, eqCell, eqCells, binP, unP, convP, lenP, builtinP, sliceDataP, unsafeStringP, appendT, appendS, appendP, copyP, srcP, mmsP, mmP, indexOp, indexAddrOp, sliceOp, bndsP, bndP, capw, capCut, loadOp, storeOp, loadP, fieldOp, fieldAddrOp, arrayAtOp, buildP, buildSliceP, makeSliceP, placeF, fillP, setL, PK.agg, isZero, gt_iff_lt, Nat.reducePow, Nat.reduceGT, reps, seg, wkN, if_pos, if_neg, tf3, Tryd.ze3, tf5, Tryd.ze5, tf9, Tryd.ze9, tf23, Tryd.ze23, hge']
    refine hQ (by first | exact .inr rfl | exact .inl rfl) (by first | exact trivial | exact marks1) (by first | (simp -implicitDefEqProofs (maxSteps := 400000) (disch := first | with_reducible rfl | omega | (simp only [wkH] <;> omega) | decide) only [wkAll, wkL, popO, wantedP, if_true, if_false, reduceIte, ne_eq, Nat.reduceAdd, Nat.reduceSub, Nat.reduceMul, Nat.reduceLeDiff, Nat.reduceLT, ofCells, ofCell, reduceCtorEq, Int.reduceLE, Int.reduceLT, Int.reduceToNat, Int.reduceAdd, Int.reduceSub, Int.reduceMul, Int.reduceNeg, Int.reduceBEq, Int.reduceBNe, Int.reduceEq, eqCell, eqCells, loadOp, storeOp, loadP, setL, PK.agg, isZero, gt_iff_lt, Nat.reducePow, Nat.reduceGT, reps, seg, wkN, if_pos, if_neg, tf3, Tryd.ze3, tf5, Tryd.ze5, tf9, Tryd.ze9, tf23, Tryd.ze23, resP, resPs, resP1]; rfl) | rfl) ⟨6, by repeat' first | exact frz_scalar rfl | apply frz_tuple | apply frz_agg | apply frz_fsl | apply frz_gsl (by omega) | exact frzs_nil | apply frzs_cons⟩ (by first | exact keepsH0 | exact keeps1 (by assumption)) (nw_eq ?_)
    rfl
theorem refValue_ok (s : List UInt8) (h8 : s.length ≤ 8) : Fn (Cx w0) 36 [.str s] (.int .u64 (valN s : Nat)) := by
  refine fn_H ([Go.ResultVar.tmp 2]) Tryd.func36 rfl rfl (by decide) fun ph hW Q hQ => ?_
  simp only [start, List.length_cons, List.length_nil, List.cons_append, List.nil_append, Nat.reduceAdd, Nat.reduceSub, List.replicate_succ, List.replicate_zero, Tryd.ntmps36]
  repeat' first | simp -implicitDefEqProofs (maxSteps := 400000) (disch := first | with_reducible rfl | omega | (simp only [wkH] <;> omega) | decide) only [wkAll, wkL, popO, wantedP, if_true, if_false, reduceIte, ne_eq, Nat.reduceAdd, Nat.reduceSub, Nat.reduceMul, Nat.reduceLeDiff, Nat.reduceLT, ofCells, ofCell, reduceCtorEq, Int.reduceLE, Int.reduceLT, Int.reduceToNat, Int.reduceAdd, Int.reduceSub, Int.reduceMul, Int.reduceNeg, Int.reduceBEq, Int.reduceBNe, Int.reduceEq, eqCell, eqCells, binP, unP, convP, lenP, builtinP, sliceDataP, unsafeStringP, appendT, appendS, appendP, copyP, srcP, mmsP, mmP, indexOp, indexAddrOp, sliceOp, bndsP, bndP, capw, capCut, loadOp, storeOp, loadP, fieldOp, fieldAddrOp, arrayAtOp, buildP, buildSliceP, makeSliceP, placeF, fillP, setL, PK.agg, isZero, gt_iff_lt, Nat.reducePow, Nat.reduceGT, reps, seg, wkN, if_pos, if_neg, tf3, Tryd.ze3, tf5, Tryd.ze5, tf9, Tryd.ze9, tf23, Tryd.ze23]
  refine w_loopH (α := Nat) ph ph.ob ph.ty (fun i => [.str s, .undef, .undef, .int .u64 ((valN (s.take i) : Nat) : Int), .int .i64 i, .undef, .undef, .undef, .undef, .undef, .undef, .undef, .undef, .undef, .undef, .undef, .undef, .undef, .undef]) (fun i => []) (fun i => i ≤ s.length) (fun i => s.length - i) 0 (by simp) (fun _ _ => by simp) (.eq (by simp [FadeTo, valN]) rfl) ?_
  intro i hi K hK
  rcases Nat.lt_or_ge i s.length with hlt | hge
  · have hlt' : (i : Int) < (s.length : Int) := by omega
    obtain ⟨c, hc⟩ := getW hlt
    have hso := shl_or (valN (s.take i)) c (valT hlt h8)
    rw [← valN_snoc, ← takeW hc] at hso
    have hwc : IntKind.wrap .u64 (c.toNat : Int) = (c.toNat : Int) := by have := c.toNat_lt; exact IntWalk.u64_in _ (by omega)
    repeat' first | simp -implicitDefEqProofs (maxSteps := 400000) (disch := first | with_reducible rfl | omega | (simp only [wkH] <;> omega) | decide) only [wkAll, wkL, popO, wantedP, if_true, if_false, reduceIte, ne_eq, Nat.reduceAdd, Nat.reduceSub, Nat.reduceMul, Nat.reduceLeDiff, Nat.reduceLT, ofCells, ofCell, reduceCtorEq, Int.reduceLE, Int.reduceLT, Int.reduceToNat, Int.reduceAdd, Int.reduceSub, Int.reduceMul, Int.reduceNeg, Int.reduceBEq, Int.reduceBNe, Int.reduceEq, eqCell, eqCells, binP, unP, convP, lenP, builtinP, sliceDataP, unsafeStringP, appendT, appendS, appendP, copyP, srcP, mmsP, mmP, indexOp, indexAddrOp, sliceOp, bndsP, bndP, capw, capCut, loadOp, storeOp, loadP, fieldOp, fieldAddrOp, arrayAtOp, buildP, buildSliceP, makeSliceP, placeF, fillP, setL, PK.agg, isZero, gt_iff_lt, Nat.reducePow, Nat.reduceGT, reps, seg, wkN, if_pos, if_neg, tf3, Tryd.ze3, tf5, Tryd.ze5, tf9, Tryd.ze9, tf23, Tryd.ze23, hlt', hc, hwc, hso]
    refine hK (i + 1) _ _ (by omega) (by omega) (.eq (by simp [FadeTo]) rfl)
  · have hge' : ¬ (i : Int) < (s.length : Int) := by omega
    rw [List.take_of_length_le hge]
    repeat' first | simp -implicitDefEqProofs (maxSteps := 400000) (disch := first | with_reducible rfl | omega | (simp only [wkH] <;> omega) | decide) only [wkAll, wkL, popO, wantedP, if_true, if_false, reduceIte, ne_eq, Nat.reduceAdd, Nat.reduceSub, Nat.reduceMul, Nat.reduceLeDiff, Nat.reduceLT, ofCells, ofCell, reduceCtorEq, Int.reduceLE, Int.reduceLT, Int.reduceToNat, Int.reduceAdd, Int.reduceSub, Int.reduceMul, Int.reduceNeg, Int.reduceBEq, Int.reduceBNe, Int.reduceEq, eqCell, eqCells, binP, unP, convP, lenP, builtinP, sliceDataP, unsafeStringP, appendT, appendS, appendP, copyP, srcP, mmsP, mmP, indexOp, indexAddrOp, sliceOp, bndsP, bndP, capw, capCut, loadOp, storeOp, loadP, fieldOp, fieldAddrOp, arrayAtOp, buildP, buildSliceP, makeSliceP, placeF, fillP, setL, PK.agg, isZero, gt_iff_lt, Nat.reducePow, Nat.reduceGT, reps, seg, wkN, if_pos, if_neg, tf3, Tryd.ze3, tf5, Tryd.ze5, tf9, Tryd.ze9, tf23, Tryd.ze23, hge']
    refine hQ (by first | exact .inr rfl | exact .inl rfl) (by first | exact trivial | exact marks1) (by first | (simp -implicitDefEqProofs (maxSteps := 400000) (disch := first | with_reducible rfl | omega | (simp only [wkH] <;> omega) | decide) only [wkAll, wkL, popO, wantedP, if_true, if_false, reduceIte, ne_eq, Nat.reduceAdd, Nat.reduceSub, Nat.reduceMul, Nat.reduceLeDiff, Nat.reduceLT, ofCells, ofCell, reduceCtorEq, Int.reduceLE, Int.reduceLT, Int.reduceToNat, Int.reduceAdd, Int.reduceSub, Int.reduceMul, Int.reduceNeg, Int.reduceBEq, Int.reduceBNe, Int.reduceEq, eqCell, eqCells, loadOp, storeOp, loadP, setL, PK.agg, isZero, gt_iff_lt, Nat.reducePow, Nat.reduceGT, reps, seg, wkN, if_pos, if_neg, tf3, Tryd.ze3, tf5, Tryd.ze5, tf9, Tryd.ze9, tf23, Tryd.ze23, resP, resPs, resP1]; rfl) | rfl) ⟨6, by repeat' first | exact frz_scalar rfl | apply frz_tuple | apply frz_agg | apply frz_fsl | apply frz_gsl (by omega) | exact frzs_nil | apply frzs_cons⟩ (by first | exact keepsH0 | exact keeps1 (by assumption)) (nw_eq ?_)
    rfl
/-- Bytes laid over others. -/
def wrL (B : List UInt8) (off : Nat) (x : List UInt8) : List UInt8 := B.take off ++ x ++ B.drop (off + x.length)
theorem wrL_nil (B : List UInt8) (off : Nat) : wrL B off [] = B := by simp [wrL]
theorem wrL_len {B x : List UInt8} {off : Nat} (h : off + x.length ≤ B.length) : (wrL B off x).length = B.length := by simp [wrL]; omega
theorem wrL_set {B x : List UInt8} {off i : Nat} {c : UInt8} (h : off + x.length ≤ B.length) (hc : x[i]? = some c) : (wrL B off (x.take i)).set (off + i) c = wrL B off (x.take (i + 1)) := by
  have hi := (List.getElem?_eq_some_iff.1 hc).1
  have l1 : (B.take off).length = off := by rw [List.length_take]; omega
  have l2 : (x.take i).length = i := by rw [List.length_take]; omega
  rw [wrL, wrL, takeW hc, List.append_assoc, List.append_assoc, List.set_append_right _ _ (by omega), l1, List.set_append_right _ _ (by omega), l2, show off + i - off - i = 0 by omega, List.drop_eq_getElem_cons (by omega), List.set_cons_zero]
  simp [l2, List.append_assoc, Nat.add_assoc]
theorem scs_bW {n : Nat} (l : List UInt8) : Scs n (bytesPV l) := scs_scalars (bytesPV_scalar l)
theorem bytesPV_setW (l : List UInt8) (i : Nat) (b : UInt8) : (bytesPV l).set i (.int .u8 (b.toNat : Int)) = bytesPV (l.set i b) := by simp [bytesPV, List.map_set]
theorem wirePut_ok (ph : PH) (p off k : Nat) (cp : Option Nat) (B : List UInt8) (n : Nat) (hk : k ≤ 8) (hoff : off + k ≤ B.length) (hB : B.length < 2 ^ 40) (h : ph.get p = some (bytesPV B)) :
    Eff (Cx w0) 29 [.sl p off 1 k cp, .int .u64 n] ph (.tuple []) (ph.put p (bytesPV (wrL B off (beL n k)))) := by
  have hp := PH.get_lt h
  have hbl := beL_len n k
  refine eff_of ([]) Tryd.func29 rfl rfl (by decide) (PH.n_put ..) (fun hW => hW.put hp (scs_bW _)) fun hW Q hQ => ?_
  simp only [start, List.length_cons, List.length_nil, List.cons_append, List.nil_append, Nat.reduceAdd, Nat.reduceSub, List.replicate_succ, List.replicate_zero, Tryd.ntmps29]
  repeat' first | simp -implicitDefEqProofs (maxSteps := 400000) (disch := first | with_reducible rfl | omega | (simp only [wkH] <;> omega) | decide) only [wkAll, wkL, popO, wantedP, if_true, if_false, reduceIte, ne_eq, Nat.reduceAdd, Nat.reduceSub, Nat.reduceMul, Nat.reduceLeDiff, Nat.reduceLT, ofCells, ofCell, reduceCtorEq, Int.reduceLE, Int.reduceLT, Int.reduceToNat, Int.reduceAdd, Int.reduceSub, Int.reduceMul, Int.reduceNeg, Int.reduceBEq, Int.reduceBNe, Int.reduceEq, eqCell, eqCells, binP, unP, convP, lenP, builtinP, sliceDataP, unsafeStringP, appendT, appendS, appendP, copyP, srcP, mmsP, mmP, indexOp, indexAddrOp, sliceOp, bndsP, bndP, capw, capCut, loadOp, storeOp, loadP, fieldOp, fieldAddrOp, arrayAtOp, buildP, buildSliceP, makeSliceP, placeF, fillP, setL, PK.agg, isZero, gt_iff_lt, Nat.reducePow, Nat.reduceGT, reps, seg, wkN, if_pos, if_neg, tf3, Tryd.ze3, tf5, Tryd.ze5, tf23, Tryd.ze23, tf66, Tryd.ze66]
  refine w_loopB (α := Nat) ph.n ph.ob ph.ty (fun i => ph.put p (bytesPV (wrL B off ((beL n k).take i)))) (fun i => [.sl p off 1 k cp, .int .u64 n, .undef, .undef, .undef, .undef, .int .i64 k, .int .i64 i, .undef, .undef, .undef, .undef, .undef, .undef, .undef, .undef, .undef, .undef, .undef, .undef, .undef, .undef, .undef]) (fun i => []) (fun i => i ≤ k) (fun i => k - i) 0 (by simp) (fun _ _ => PH.n_put ..) (fun _ _ => by simp) (.eq (by simp [FadeTo]) (by rw [List.take_zero, wrL_nil, put_self h])) ?_
  intro i hi D hD hn K hK
  have e2 : D.get p = some (bytesPV (wrL B off ((beL n k).take i))) := by rw [hD]; exact get_putS _ hp
  have hpD : p < D.n := by rw [hn]; exact hp
  have hml := wrL_len (B := B) (x := (beL n k).take i) (off := off) (by rw [List.length_take]; omega)
  rcases Nat.lt_or_ge i k with hlt | hge
  · have hlt' : (i : Int) < (k : Int) := by omega
    have e1 : 8 * ((k : Int) - 1 - (i : Int)) = ((8 * (k - 1 - i) : Nat) : Int) := by omega
    have e3 := shr_n n (8 * (k - 1 - i)) (by omega)
    have e4 := wrap_u8n (n / 2 ^ (8 * (k - 1 - i)))
    rw [show UInt8.ofNat (n / 2 ^ (8 * (k - 1 - i))) = beAt n k i from rfl] at e4
    have e5 : (0 : Int) ≤ ((8 * (k - 1 - i) : Nat) : Int) := by omega
    have hs := wrL_set (B := B) (off := off) (x := beL n k) (by omega) (beL_at hlt)
    generalize hM' : wrL B off ((beL n k).take (i + 1)) = M' at *
    generalize wrL B off ((beL n k).take i) = M at *
    generalize beAt n k i = c at *
    repeat' first | simp -implicitDefEqProofs (maxSteps := 400000) (disch := first | with_reducible rfl | omega | (simp only [wkH] <;> omega) | decide) only [wkAll, wkL, popO, wantedP, if_true, if_false, reduceIte, ne_eq, Nat.reduceAdd, Nat.reduceSub, Nat.reduceMul, Nat.reduceLeDiff, Nat.reduceLT, ofCells, ofCell, reduceCtorEq, Int.reduceLE, Int.reduceLT, Int.reduceToNat, Int.reduceAdd, Int.reduceSub, Int.reduceMul, Int.reduceNeg, Int.reduceBEq, Int.reduceBNe, Int.reduceEq, eqCell, eqCells, binP, unP, convP, lenP, builtinP, sliceDataP, unsafeStringP, appendT, appendS, appendP, copyP, srcP, mmsP, mmP, indexOp, indexAddrOp, sliceOp, bndsP, bndP, capw, capCut, loadOp, storeOp, loadP, fieldOp, fieldAddrOp, arrayAtOp, buildP, buildSliceP, makeSliceP, placeF, fillP, setL, PK.agg, isZero, gt_iff_lt, Nat.reducePow, Nat.reduceGT, reps, seg, wkN, if_pos, if_neg, tf3, Tryd.ze3, tf5, Tryd.ze5, tf23, Tryd.ze23, tf66, Tryd.ze66, hlt', h_getlt hpD, h_putlt hpD, e1, e2, e3, e4, e5, hml, bytesPV_setW, hs]
    refine hK (i + 1) _ _ (by omega) (by omega) (.eq (by simp [FadeTo, hn]) (by rw [hM', hD, put_putS]))
  · have hge' : ¬ (i : Int) < (k : Int) := by omega
    have : i = k := by omega
    subst this
    rw [List.take_of_length_le (by omega)] at hD
    repeat' first | simp -implicitDefEqProofs (maxSteps := 400000) (disch := first | with_reducible rfl | omega | (simp only [wkH] <;> omega) | decide) only [wkAll, wkL, popO, wantedP, if_true, if_false, reduceIte, ne_eq, Nat.reduceAdd, Nat.reduceSub, Nat.reduceMul, Nat.reduceLeDiff, Nat.reduceLT, ofCells, ofCell, reduceCtorEq, Int.reduceLE, Int.reduceLT, Int.reduceToNat, Int.reduceAdd, Int.reduceSub, Int.reduceMul, Int.reduceNeg, Int.reduceBEq, Int.reduceBNe, Int.reduceEq, eqCell, eqCells, binP, unP, convP, lenP, builtinP, sliceDataP, unsafeStringP, appendT, appendS, appendP, copyP, srcP, mmsP, mmP, indexOp, indexAddrOp, sliceOp, bndsP, bndP, capw, capCut, loadOp, storeOp, loadP, fieldOp, fieldAddrOp, arrayAtOp, buildP, buildSliceP, makeSliceP, placeF, fillP, setL, PK.agg, isZero, gt_iff_lt, Nat.reducePow, Nat.reduceGT, reps, seg, wkN, if_pos, if_neg, tf3, Tryd.ze3, tf5, Tryd.ze5, tf23, Tryd.ze23, tf66, Tryd.ze66, hge']
    subst hD
    refine hQ (by first | exact .inr rfl | exact .inl rfl) (by first | exact trivial | exact marks1) (by first | (simp -implicitDefEqProofs (maxSteps := 400000) (disch := first | with_reducible rfl | omega | (simp only [wkH] <;> omega) | decide) only [wkAll, wkL, popO, wantedP, if_true, if_false, reduceIte, ne_eq, Nat.reduceAdd, Nat.reduceSub, Nat.reduceMul, Nat.reduceLeDiff, Nat.reduceLT, ofCells, ofCell, reduceCtorEq, Int.reduceLE, Int.reduceLT, Int.reduceToNat, Int.reduceAdd, Int.reduceSub, Int.reduceMul, Int.reduceNeg, Int.reduceBEq, Int.reduceBNe, Int.reduceEq, eqCell, eqCells, loadOp, storeOp, loadP, setL, PK.agg, isZero, gt_iff_lt, Nat.reducePow, Nat.reduceGT, reps, seg, wkN, if_pos, if_neg, tf3, Tryd.ze3, tf5, Tryd.ze5, tf23, Tryd.ze23, tf66, Tryd.ze66, resP, resPs, resP1]; rfl) | rfl) ⟨6, by repeat' first | exact frz_scalar rfl | apply frz_tuple | apply frz_agg | apply frz_fsl | apply frz_gsl (by omega) | exact frzs_nil | apply frzs_cons⟩ (by first | exact keepsH0 | exact keeps1 (by assumption)) (nw_eq ?_)
    rfl
end Pv
