/- Part of the proof: the layer of pure values, or walks through functions (PvAe5, PvGrowB, PvAe6, PvH5). -/
import Derived.Test.YtjomgffpkdcanaaGreatDoorPvAe3
import Derived.Test.YtjomgffpkdcanaaGreatDoorPvDrawP
import Derived.Test.YtjomgffpkdcanaaGreatDoorPvRb2
import Derived.Shelf.Spec.SlicesGrow
import Derived.Test.YtjomgffpkdcanaaGreatDoorPvRb3
set_option linter.all false
--nosplit
--keep2
namespace Pv
set_option maxRecDepth 20000
set_option maxHeartbeats 4000000
open Go Go.Proofs Go.RowKit
def tb82_4Ae5 : Tab := [[], [], [], [], [], [], [5], [0], [0, 7], [0, 1, 4, 7, 8], [0, 1, 4, 7, 8, 9], [2], [2, 11], [0, 1, 2, 3, 4, 5, 6, 7, 8, 9, 10, 11, 12], [0, 1, 2, 3, 4, 5, 6, 7, 8, 9, 10, 11, 12, 13]]
def pl82_4Ae5 : Plan := [(0, true, []), (1, true, []), (2, true, []), (3, true, []), (4, true, []), (5, true, []), (6, true, []), (7, true, []), (8, true, []), (9, true, []), (11, true, []), (12, true, []), (10, false, [2, 3, 5, 6, 11, 12]), (13, true, []), (14, false, [])]
def tb82_8Ae5 : Tab := [[], [], [], [], [3], [], [3, 4, 5], [0], [0, 7], [0, 1, 7, 8], [0, 1, 2, 3, 4, 5, 6, 7, 8, 9], [0, 1, 2, 3, 4, 5, 6, 7, 8, 9, 10]]
def pl82_8Ae5 : Plan := [(0, true, []), (1, true, []), (2, true, []), (3, true, []), (4, true, []), (5, true, []), (7, true, []), (8, true, []), (9, true, []), (6, false, [0, 1, 2, 7, 8, 9]), (10, true, []), (11, false, [])]
variable {w0 : World}

theorem tables8_ok (ph : PH) (q : Nat) (key : List UInt8) (d s : Int) (r : PV) (hr : r = .nilsl) (h : ph.get q = some (cC key d s (tabI 0) r)) :
    Eff (Cx w0) 82 [.ptr q 0] ph (.tuple []) (ph.put q (cC key d s tabL r)) := by
  have hq := PH.get_lt h
  have hsc : ∀ n : Nat, Sc n r := fun n => by rw [hr]; trivial
  refine eff_of ([]) Tryz.func82 rfl rfl (by decide) (PH.n_put ..) (fun hW => hW.put hq (cC_scs (hsc _))) fun hW Q hQ => ?_
  simp only [start, List.length_cons, List.length_nil, List.cons_append, List.nil_append, Nat.reduceAdd, Nat.reduceSub, List.replicate_succ, List.replicate_zero, Tryz.ntmps82]
  repeat' first | simp -implicitDefEqProofs (maxSteps := 400000) (disch := first | with_reducible rfl | omega | (simp only [wkH] <;> omega) | decide) only [wkAll, wkL, popO, wantedP, if_true, if_false, reduceIte, ne_eq, Nat.reduceAdd, Nat.reduceSub, Nat.reduceMul, Nat.reduceLeDiff, Nat.reduceLT, ofCells, ofCell, reduceCtorEq, Int.reduceLE, Int.reduceLT, Int.reduceToNat, Int.reduceAdd, Int.reduceSub, Int.reduceMul, Int.reduceNeg, Int.reduceBEq, Int.reduceBNe, Int.reduceEq, eqCell, eqCells, binP, unP, convP, lenP, builtinP, sliceDataP, unsafeStringP, appendT, appendS, appendP, copyP, srcP, mmsP, mmP, indexOp, indexAddrOp, sliceOp, bndsP, bndP, capw, capCut, loadOp, storeOp, loadP, fieldOp, fieldAddrOp, arrayAtOp, buildP, buildSliceP, makeSliceP, placeF, fillP, setL, PK.agg, isZero, gt_iff_lt, Nat.reducePow, Nat.reduceGT, reps, seg, wkN, if_pos, if_neg, tf3, Tryz.ze3, tf5, Tryz.ze5, tf9, Tryz.ze9, tf21, Tryz.ze21, tf49, Tryz.ze49, tf99, Tryz.ze99, tf121, Tryz.ze121, tf135, Tryz.ze135, tf137, Tryz.ze137, tf139, Tryz.ze139, tf141, Tryz.ze141, tf142, Tryz.ze142, tf143, Tryz.ze143, tf144, Tryz.ze144, tf146, Tryz.ze146, pl82_4Ae5, pl82_8Ae5] | refine w_drawnF (id := 4) tb82_4Ae5 pl82_4Ae5 25 (by kernel_rfl) (by kernel_rfl) (by simp) ?_ | refine w_drawnF (id := 8) tb82_8Ae5 pl82_8Ae5 42 (by kernel_rfl) (by kernel_rfl) (by simp) ?_
  refine w_loopB (α := Nat) ph.n ph.ob ph.ty (fun i => ph.put q (cC key d s (tabI i) r)) (fun i => [.ptr q 0, .undef, .undef, .undef, .undef, .undef, .int .i64 i, .undef, .undef, .undef, .undef, .undef, .undef, .undef, .undef, .undef, .undef, .undef, .undef, .undef, .undef, .undef, .undef, .undef, .undef, .undef, .undef, .undef, .undef, .undef, .undef, .undef, .undef, .undef, .undef, .undef, .undef, .undef, .undef, .undef, .undef, .undef, .undef, .undef]) (fun i => []) (fun i => i ≤ 256) (fun i => 256 - i) 0 (by simp) (fun _ _ => PH.n_put ..) (fun _ _ => by simp) (.eq (by simp [FadeTo]) (by rw [put_self h])) ?_
  intro i hi B hB hn K hK
  have e2 : B.get q = some (cC key d s (tabI i) r) := by rw [hB]; exact get_putS _ hq
  have hqB : q < B.n := by rw [hn]; exact hq
  have hl2 := tabI_len i
  rcases Nat.lt_or_ge i 256 with hlt | hge
  · have hlt' : (i : Int) < 256 := by omega
    obtain ⟨bi, hbi⟩ : ∃ bi, bi = UInt8.ofNat i := ⟨_, rfl⟩
    have hbn : bi.toNat = i := by rw [hbi, UInt8.toNat_ofNat']; omega
    have w1 : IntKind.wrap .u8 (i : Int) = (bi.toNat : Int) := by rw [wrap_u8n, hbi]
    have t1 := sub8_ok (w0 := w0) bi
    obtain ⟨sb, hsb⟩ : ∃ sb, sb = sbox bi := ⟨_, rfl⟩
    rw [← hsb] at t1
    have hsb2 : (sb.toNat : Int) < 256 := by have := sb.toNat_lt; omega
    obtain ⟨T, hT⟩ : ∃ T, T = tabI i := ⟨_, rfl⟩
    obtain ⟨T2, hT2⟩ : ∃ T2, T2 = (T.set i sb).set (256 + sb.toNat) bi := ⟨_, rfl⟩
    have hTn : tabI (i + 1) = byI T2 i 7 := by rw [tabI_next, hT2, hT, hsb, hbi]
    rw [← hT] at hl2 e2 hB
    have hl3 : T2.length = 4608 := by rw [hT2, List.length_set, List.length_set, hl2]
    have s1 : (cC key d s T r).set (4 + i) (.int .u8 (sb.toNat : Int)) = cC key d s (T.set i sb) r := cC_set (by omega)
    have s2 : (cC key d s (T.set i sb) r).set (260 + sb.toNat) (.int .u8 (bi.toNat : Int)) = cC key d s T2 r := by
      rw [show 260 + sb.toNat = 4 + (256 + sb.toNat) by omega, cC_set (by rw [List.length_set]; omega), hT2]
    have cl : ∀ T : List UInt8, T.length = 4608 → (cC key d s T r).length = 4613 := fun T h => by rw [cC_len, h]
    have cl1 := cl T hl2
    have cl2 := cl (T.set i sb) (by rw [List.length_set]; exact hl2)
    have cl3 := cl T2 hl3
    rw [← hn]
    repeat' first | simp -implicitDefEqProofs (maxSteps := 400000) (disch := first | with_reducible rfl | omega | (simp only [wkH] <;> omega) | decide) only [wkAll, wkL, popO, wantedP, if_true, if_false, reduceIte, ne_eq, Nat.reduceAdd, Nat.reduceSub, Nat.reduceMul, Nat.reduceLeDiff, Nat.reduceLT, ofCells, ofCell, reduceCtorEq, Int.reduceLE, Int.reduceLT, Int.reduceToNat, Int.reduceAdd, Int.reduceSub, Int.reduceMul, Int.reduceNeg, Int.reduceBEq, Int.reduceBNe, Int.reduceEq, eqCell, eqCells, binP, unP, convP, lenP, builtinP, sliceDataP, unsafeStringP, appendT, appendS, appendP, copyP, srcP, mmsP, mmP, indexOp, indexAddrOp, sliceOp, bndsP, bndP, capw, capCut, loadOp, storeOp, loadP, fieldOp, fieldAddrOp, arrayAtOp, buildP, buildSliceP, makeSliceP, placeF, fillP, setL, PK.agg, isZero, gt_iff_lt, Nat.reducePow, Nat.reduceGT, reps, seg, wkN, if_pos, if_neg, tf3, Tryz.ze3, tf5, Tryz.ze5, tf9, Tryz.ze9, tf21, Tryz.ze21, tf49, Tryz.ze49, tf99, Tryz.ze99, tf121, Tryz.ze121, tf135, Tryz.ze135, tf137, Tryz.ze137, tf139, Tryz.ze139, tf141, Tryz.ze141, tf142, Tryz.ze142, tf143, Tryz.ze143, tf144, Tryz.ze144, tf146, Tryz.ze146, pl82_4Ae5, pl82_8Ae5, hlt', w1, h_getlt hqB, h_putlt hqB, e2, cl1, cl2, cl3, hsb2, s1, s2, wkP, hp_getS hqB, hp_putS hqB] | refine w_pure (t1) ?_ | refine w_drawnF (id := 4) tb82_4Ae5 pl82_4Ae5 25 (by kernel_rfl) (by kernel_rfl) (by simp) ?_ | refine w_drawnF (id := 8) tb82_8Ae5 pl82_8Ae5 42 (by kernel_rfl) (by kernel_rfl) (by simp) ?_
    rw [hn]
    have hW' : WF (ph.put q (cC key d s (tabI (i + 1)) r)) := hW.put hq (cC_scs (hsc _))
    have hb0 := byI_0 T2 i
    refine w_loopB (α := Nat) ph.n ph.ob ph.ty (fun k => ph.put q (cC key d s (byI T2 i k) r)) (fun k => [.ptr q 0, .undef, .int .i64 i, .undef, .undef, .undef, .int .i64 i, .undef, .undef, .undef, .undef, .undef, .undef, .undef, .undef, .undef, .undef, .undef, .undef, .undef, .undef, .undef, .undef, .undef, .undef, .sl ph.n 0 1 7 (some 7), .int .i64 7, .int .i64 k, .undef, .undef, .undef, .undef, .undef, .undef, .undef, .undef, .undef, .undef, .undef, .undef, .undef, .undef, .undef, .undef]) (fun k => [some (.own (bytesPV ks))]) (fun k => k ≤ 7) (fun k => 7 - k) 0 (by simp) (fun _ _ => PH.n_put ..) (fun _ _ => by simp) (.eq (by simp [FadeTo, hn]) (by rw [hB, put_putS, hb0]; rfl)) ?_
    intro k hk B2 hB2 hn2 K2 hK2
    have hqB2 : q < B2.n := by rw [hn2]; exact hq
    have e4 : B2.get q = some (cC key d s (byI T2 i k) r) := by rw [hB2]; exact get_putS _ hq
    have hl4 : (byI T2 i k).length = 4608 := by rw [byI_len, hl3]
    have hnk : byI T2 i (k + 1) = (byI T2 i k).set (512 + (ks.getD k 0).toNat * 256 + i) (gm bi (ks.getD k 0)) := by rw [hbi]; exact byI_next T2 i k
    rcases Nat.lt_or_ge k 7 with hlt7 | hge7
    · have hk' : (k : Int) < 7 := by omega
      obtain ⟨x, hx⟩ := get_someW (show k < ks.length from hlt7)
      have hgx : ks.getD k 0 = x := by rw [List.getD_eq_getElem?_getD, hx]; rfl
      have hx16 := ks_16 ⟨k, hlt7⟩
      simp only at hx16
      rw [hgx] at hx16 hnk
      have hx' : (x.toNat : Int) < 16 := by omega
      have t2 := times8_ok (w0 := w0) bi x
      have hkl : ks.length = 7 := rfl
      obtain ⟨U, hU⟩ : ∃ U, U = byI T2 i k := ⟨_, rfl⟩
      rw [← hU] at e4 hl4 hnk hB2
      obtain ⟨g, hg⟩ : ∃ g, g = gm bi x := ⟨_, rfl⟩
      rw [← hg] at t2 hnk
      have s3 : (cC key d s U r).set (516 + x.toNat * 256 + i) (.int .u8 (g.toNat : Int)) = cC key d s (byI T2 i (k + 1)) r := by
        rw [show 516 + x.toNat * 256 + i = 4 + (512 + x.toNat * 256 + i) by omega, cC_set (by omega), hnk]
      have cl4 := cl U hl4
      rw [← hn2]
      repeat' first | simp -implicitDefEqProofs (maxSteps := 400000) (disch := first | with_reducible rfl | omega | (simp only [wkH] <;> omega) | decide) only [wkAll, wkL, popO, wantedP, if_true, if_false, reduceIte, ne_eq, Nat.reduceAdd, Nat.reduceSub, Nat.reduceMul, Nat.reduceLeDiff, Nat.reduceLT, ofCells, ofCell, reduceCtorEq, Int.reduceLE, Int.reduceLT, Int.reduceToNat, Int.reduceAdd, Int.reduceSub, Int.reduceMul, Int.reduceNeg, Int.reduceBEq, Int.reduceBNe, Int.reduceEq, eqCell, eqCells, binP, unP, convP, lenP, builtinP, sliceDataP, unsafeStringP, appendT, appendS, appendP, copyP, srcP, mmsP, mmP, indexOp, indexAddrOp, sliceOp, bndsP, bndP, capw, capCut, loadOp, storeOp, loadP, fieldOp, fieldAddrOp, arrayAtOp, buildP, buildSliceP, makeSliceP, placeF, fillP, setL, PK.agg, isZero, gt_iff_lt, Nat.reducePow, Nat.reduceGT, reps, seg, wkN, if_pos, if_neg, tf3, Tryz.ze3, tf5, Tryz.ze5, tf9, Tryz.ze9, tf21, Tryz.ze21, tf49, Tryz.ze49, tf99, Tryz.ze99, tf121, Tryz.ze121, tf135, Tryz.ze135, tf137, Tryz.ze137, tf139, Tryz.ze139, tf141, Tryz.ze141, tf142, Tryz.ze142, tf143, Tryz.ze143, tf144, Tryz.ze144, tf146, Tryz.ze146, pl82_4Ae5, pl82_8Ae5, hk', w1, h_getlt hqB2, h_putlt hqB2, e4, cl4, hkl, hx, hx', s3, hlt'] | refine w_pure (t2) ?_ | refine w_drawnF (id := 4) tb82_4Ae5 pl82_4Ae5 25 (by kernel_rfl) (by kernel_rfl) (by simp) ?_ | refine w_drawnF (id := 8) tb82_8Ae5 pl82_8Ae5 42 (by kernel_rfl) (by kernel_rfl) (by simp) ?_
      refine hK2 (k + 1) _ _ (by omega) (by omega) (.eq (by simp [FadeTo, hn2]) (by rw [hB2, put_putS]))
    · have hk' : ¬ (k : Int) < 7 := by omega
      have : k = 7 := by omega
      subst this
      rw [← hTn] at hB2
      repeat' first | simp -implicitDefEqProofs (maxSteps := 400000) (disch := first | with_reducible rfl | omega | (simp only [wkH] <;> omega) | decide) only [wkAll, wkL, popO, wantedP, if_true, if_false, reduceIte, ne_eq, Nat.reduceAdd, Nat.reduceSub, Nat.reduceMul, Nat.reduceLeDiff, Nat.reduceLT, ofCells, ofCell, reduceCtorEq, Int.reduceLE, Int.reduceLT, Int.reduceToNat, Int.reduceAdd, Int.reduceSub, Int.reduceMul, Int.reduceNeg, Int.reduceBEq, Int.reduceBNe, Int.reduceEq, eqCell, eqCells, binP, unP, convP, lenP, builtinP, sliceDataP, unsafeStringP, appendT, appendS, appendP, copyP, srcP, mmsP, mmP, indexOp, indexAddrOp, sliceOp, bndsP, bndP, capw, capCut, loadOp, storeOp, loadP, fieldOp, fieldAddrOp, arrayAtOp, buildP, buildSliceP, makeSliceP, placeF, fillP, setL, PK.agg, isZero, gt_iff_lt, Nat.reducePow, Nat.reduceGT, reps, seg, wkN, if_pos, if_neg, tf3, Tryz.ze3, tf5, Tryz.ze5, tf9, Tryz.ze9, tf21, Tryz.ze21, tf49, Tryz.ze49, tf99, Tryz.ze99, tf121, Tryz.ze121, tf135, Tryz.ze135, tf137, Tryz.ze137, tf139, Tryz.ze139, tf141, Tryz.ze141, tf142, Tryz.ze142, tf143, Tryz.ze143, tf144, Tryz.ze144, tf146, Tryz.ze146, pl82_4Ae5, pl82_8Ae5, hk'] | refine w_drawnF (id := 4) tb82_4Ae5 pl82_4Ae5 25 (by kernel_rfl) (by kernel_rfl) (by simp) ?_ | refine w_drawnF (id := 8) tb82_8Ae5 pl82_8Ae5 42 (by kernel_rfl) (by kernel_rfl) (by simp) ?_
      subst hB2
      refine hK (i + 1) _ _ (by omega) (by omega) (.cut [_] hW' (by simp [FadeTo]) rfl (by simp [scs_cons, scs_nil, sc_ptr, sc_undef, sc_int, hq]) (by simp))
  · have hge' : ¬ (i : Int) < 256 := by omega
    have : i = 256 := by omega
    subst this
    rw [← tabL_eq] at *
    rw [← hn]
    repeat' first | simp -implicitDefEqProofs (maxSteps := 400000) (disch := first | with_reducible rfl | omega | (simp only [wkH] <;> omega) | decide) only [wkAll, wkL, popO, wantedP, if_true, if_false, reduceIte, ne_eq, Nat.reduceAdd, Nat.reduceSub, Nat.reduceMul, Nat.reduceLeDiff, Nat.reduceLT, ofCells, ofCell, reduceCtorEq, Int.reduceLE, Int.reduceLT, Int.reduceToNat, Int.reduceAdd, Int.reduceSub, Int.reduceMul, Int.reduceNeg, Int.reduceBEq, Int.reduceBNe, Int.reduceEq, eqCell, eqCells, binP, unP, convP, lenP, builtinP, sliceDataP, unsafeStringP, appendT, appendS, appendP, copyP, srcP, mmsP, mmP, indexOp, indexAddrOp, sliceOp, bndsP, bndP, capw, capCut, loadOp, storeOp, loadP, fieldOp, fieldAddrOp, arrayAtOp, buildP, buildSliceP, makeSliceP, placeF, fillP, setL, PK.agg, isZero, gt_iff_lt, Nat.reducePow, Nat.reduceGT, reps, seg, wkN, if_pos, if_neg, tf3, Tryz.ze3, tf5, Tryz.ze5, tf9, Tryz.ze9, tf21, Tryz.ze21, tf49, Tryz.ze49, tf99, Tryz.ze99, tf121, Tryz.ze121, tf135, Tryz.ze135, tf137, Tryz.ze137, tf139, Tryz.ze139, tf141, Tryz.ze141, tf142, Tryz.ze142, tf143, Tryz.ze143, tf144, Tryz.ze144, tf146, Tryz.ze146, pl82_4Ae5, pl82_8Ae5, hge'] | refine w_drawnF (id := 4) tb82_4Ae5 pl82_4Ae5 25 (by kernel_rfl) (by kernel_rfl) (by simp) ?_ | refine w_drawnF (id := 8) tb82_8Ae5 pl82_8Ae5 42 (by kernel_rfl) (by kernel_rfl) (by simp) ?_
    subst hB
    refine hQ (by first | exact .inr rfl | exact .inl rfl) (by first | exact trivial | exact marks1) (by first | (simp -implicitDefEqProofs (maxSteps := 400000) (disch := first | with_reducible rfl | omega | (simp only [wkH] <;> omega) | decide) only [wkAll, wkL, popO, wantedP, if_true, if_false, reduceIte, ne_eq, Nat.reduceAdd, Nat.reduceSub, Nat.reduceMul, Nat.reduceLeDiff, Nat.reduceLT, ofCells, ofCell, reduceCtorEq, Int.reduceLE, Int.reduceLT, Int.reduceToNat, Int.reduceAdd, Int.reduceSub, Int.reduceMul, Int.reduceNeg, Int.reduceBEq, Int.reduceBNe, Int.reduceEq, eqCell, eqCells, loadOp, storeOp, loadP, setL, PK.agg, isZero, gt_iff_lt, Nat.reducePow, Nat.reduceGT, reps, seg, wkN, if_pos, if_neg, tf3, Tryz.ze3, tf5, Tryz.ze5, tf9, Tryz.ze9, tf21, Tryz.ze21, tf49, Tryz.ze49, tf99, Tryz.ze99, tf121, Tryz.ze121, tf135, Tryz.ze135, tf137, Tryz.ze137, tf139, Tryz.ze139, tf141, Tryz.ze141, tf142, Tryz.ze142, tf143, Tryz.ze143, tf144, Tryz.ze144, tf146, Tryz.ze146, pl82_4Ae5, pl82_8Ae5, resP, resPs, resP1]; rfl) | rfl) ⟨6, by repeat' first | exact frz_scalar rfl | apply frz_tuple | apply frz_agg | apply frz_fsl | apply frz_gsl (by omega) | exact frzs_nil | apply frzs_cons⟩ (by first | exact keepsH0 | exact keeps1 (by assumption)) (nw_eq ?_)
    rfl
end Pv

namespace Go.Proofs
open Go.Shelf Go.RowKit
def Tryz.growB_ren : Go.Shelf.Ren := ⟨fun | 4 => 100 | n => n, fun | 22 => 49 | 25 => 5 | 3 => 3 | 4 => 4 | 9 => 9 | 20 => 20 | 0 => 0 | n => n, fun | n => n⟩
theorem Tryz.growB : Lays8.n4 Tryz.prog Tryz.growB_ren where
  mixed := by kernel_rfl
  f4 := ⟨Tryz.f100.name, by kernel_rfl, Tryz.func100.trans (congrArg some (by kernel_rfl))⟩
  t0 := Tryz.underlying0
  a0 := Tryz.isAgg0
  z0 := Tryz.sizeOf0
  v0 := Tryz.zeroValue0
  t3 := Tryz.underlying3
  a3 := Tryz.isAgg3
  z3 := Tryz.sizeOf3
  v3 := Tryz.zeroValue3
  t4 := Tryz.underlying4
  a4 := Tryz.isAgg4
  z4 := Tryz.sizeOf4
  v4 := Tryz.zeroValue4
  t9 := Tryz.underlying9
  a9 := Tryz.isAgg9
  z9 := Tryz.sizeOf9
  v9 := Tryz.zeroValue9
  t20 := Tryz.underlying20
  a20 := Tryz.isAgg20
  z20 := Tryz.sizeOf20
  v20 := Tryz.zeroValue20
  t22 := Tryz.underlying49
  a22 := Tryz.isAgg49
  z22 := Tryz.sizeOf49
  v22 := Tryz.zeroValue49
end Go.Proofs
namespace Pv
open Go Go.Proofs Go.RowKit
variable {w0 : World}
theorem zeroCells_size (z : Value) (k : Nat) : (Builtin.zeroCells #[z] k).size = k := by
  induction k with
  | zero => simp [Builtin.zeroCells]
  | succ k ih => simp [Builtin.zeroCells]
/-- slices.Grow of nil: an empty row, of which nothing is told but that it is one's own. -/
theorem growB_ok (n : Nat) (h1 : 1 ≤ n) (h2 : n ≤ 2 ^ 40) (ph : PH) : Eff (Cx w0) 100 [.nilsl, .int .i64 n] ph (.sl ph.n 0 1 0 none) (ph.push []) := by
  intro G w rargs hr ha
  cases ha with
  | cons _ a _ aas ha1 ha2 =>
  cases ha2 with
  | cons _ b _ bs hb1 hb2 =>
  cases hb2
  cases ha1
  cases hb1
  refine .inr ⟨w, run_enter (P := Tryz.prog) Tryz.func100 rfl (by kernel_rfl), ?_⟩
  obtain ⟨i0, hi0, hz0, hs0, hb0⟩ : ∃ i0, Tryz.prog.info? 5 = some i0 ∧ i0.zero = some (.int .u8 0) ∧ i0.size = 1 ∧ i0.bytes = 1 := ⟨Tryz.t5, by kernel_rfl, rfl, rfl, rfl⟩
  refine (Any8.slices_Grow_grow Tryz.growB i0 (.int .u8 0) hi0 hz0 (by omega) none 0 0 n [] w (Nat.le_refl _) (by omega) (by rw [hb0]; omega) (by omega) (by simp) (fun _ => rfl) (fun a h => by cases h)).mono ?_
  rintro e w' ⟨rfl, rfl⟩
  rw [show Tryz.growB_ren.t 25 = 5 from rfl]
  have hge := grownCap_ge w (0 + n) 0 5
  generalize hcap : grownCap w (0 + n) 0 5 = cap at hge ⊢
  generalize hcs : (([] : List Value).toArray ++ Builtin.zeroCells (Value.int .u8 0).cells (0 + n - 0) ++ Builtin.zeroCells (Value.int .u8 0).cells (cap - (0 + n)) : Array Value) = cs
  have hsz : cs.size = cap := by
    rw [← hcs, Array.size_append, Array.size_append]
    show 0 + (Builtin.zeroCells #[_] _).size + (Builtin.zeroCells #[_] _).size = cap
    rw [zeroCells_size, zeroCells_size]; omega
  have hd := hr.drew
  obtain ⟨w2, G', _, hw2, hle, hrel, hl⟩ := gives_new (h := hd) (cells := []) (vals := []) (extra := cs.toList) (cs := cs) (e := 5) .nil (by simp) (by simp)
  refine ⟨G', .sl ph.n 0 1 0 none, ph.push [], hle.n _, ?_, ?_, by simp, rfl, rfl⟩
  · rw [hw2] at hrel; exact hrel
  · exact .sl _ _ _ _ _ ⟨w.heap.size, 0, cs.size⟩ _ _ hl (Nat.zero_le _) (by show 0 + cap * 1 ≤ cs.size; omega) (by simp) (fun _ => rfl)
end Pv

--nosplit
--keep2
namespace Pv
set_option maxRecDepth 20000
set_option maxHeartbeats 4000000
open Go Go.Proofs Go.RowKit
variable {w0 : World}

/-- The first i texts, one behind the other. -/
def firstL (L : List (List UInt8)) (i : Nat) : List UInt8 := (L.take i).flatten
theorem firstL_next {L : List (List UInt8)} {i : Nat} {s : List UInt8} (h : L[i]? = some s) : firstL L (i + 1) = firstL L i ++ s := by rw [firstL, List.take_add_one, h, List.flatten_append]; simp [firstL]
theorem firstL_all (L : List (List UInt8)) : firstL L L.length = L.flatten := by rw [firstL, List.take_length]
theorem firstL_le (L : List (List UInt8)) (i : Nat) : (firstL L i).length ≤ L.flatten.length := by
  have : L.flatten = firstL L i ++ (L.drop i).flatten := by rw [firstL, ← List.flatten_append, List.take_append_drop]
  rw [this, List.length_append]; omega
/-- Rows of bytes, as cells. -/
def rowsC (L : List (List UInt8)) : List PV := L.map fun s => .fsl 1 s.length (bytesPV s)
theorem rowsC_len (L : List (List UInt8)) : (rowsC L).length = L.length := by simp [rowsC]
theorem rowsC_at {L : List (List UInt8)} {i : Nat} {s : List UInt8} (h : L[i]? = some s) : (rowsC L)[i]? = some (.fsl 1 s.length (bytesPV s)) := by simp [rowsC, h]

theorem concat8_ok (L : List (List UInt8)) (h1 : 1 ≤ L.flatten.length) (h2 : L.flatten.length ≤ 2 ^ 40) (hL : L.length < 2 ^ 40) : Fn (Cx w0) 91 [.fsl 1 L.length (rowsC L)] (.fsl 1 L.flatten.length (bytesPV L.flatten)) := by
  refine fn_H ([Go.ResultVar.tmp 2]) Tryz.func91 rfl rfl (by decide) fun ph hW Q hQ => ?_
  simp only [start, List.length_cons, List.length_nil, List.cons_append, List.nil_append, Nat.reduceAdd, Nat.reduceSub, List.replicate_succ, List.replicate_zero, Tryz.ntmps91]
  repeat' first | simp -implicitDefEqProofs (maxSteps := 400000) (disch := first | with_reducible rfl | omega | (simp only [wkH] <;> omega) | decide) only [wkAll, wkL, popO, wantedP, if_true, if_false, reduceIte, ne_eq, Nat.reduceAdd, Nat.reduceSub, Nat.reduceMul, Nat.reduceLeDiff, Nat.reduceLT, ofCells, ofCell, reduceCtorEq, Int.reduceLE, Int.reduceLT, Int.reduceToNat, Int.reduceAdd, Int.reduceSub, Int.reduceMul, Int.reduceNeg, Int.reduceBEq, Int.reduceBNe, Int.reduceEq, eqCell, eqCells, binP, unP, convP, lenP, builtinP, sliceDataP, unsafeStringP, appendT, appendS, appendP, copyP, srcP, mmsP, mmP, indexOp, indexAddrOp, sliceOp, bndsP, bndP, capw, capCut, loadOp, storeOp, loadP, fieldOp, fieldAddrOp, arrayAtOp, buildP, buildSliceP, makeSliceP, placeF, fillP, setL, PK.agg, isZero, gt_iff_lt, Nat.reducePow, Nat.reduceGT, reps, seg, wkN, if_pos, if_neg, tf3, Tryz.ze3, tf5, Tryz.ze5, tf49, Tryz.ze49, tf179, Tryz.ze179]
  refine w_loopH (α := Nat) ph ph.ob ph.ty (fun i => [.fsl 1 L.length (rowsC L), .undef, .undef, .int .i64 ((firstL L i).length : Nat), .undef, .undef, .undef, .undef, .undef, .fsl 1 L.length (rowsC L), .int .i64 L.length, .int .i64 i, .undef, .undef, .undef, .undef, .undef, .undef, .undef, .undef, .undef, .undef, .undef, .undef, .undef, .undef, .undef, .undef, .undef, .undef, .undef, .undef, .undef, .undef, .undef, .undef]) (fun i => []) (fun i => i ≤ L.length) (fun i => L.length - i) 0 (by simp) (fun _ _ => by simp) (.eq (by simp [FadeTo, firstL]) rfl) ?_
  intro i hi K hK
  have hle := firstL_le L i
  rcases Nat.lt_or_ge i L.length with hlt | hge
  · have hlt' : (i : Int) < (L.length : Int) := by omega
    obtain ⟨s, hs⟩ := get_someW hlt
    have hc := rowsC_at hs
    have hcd : ((rowsC L).drop i)[0]? = some (.fsl 1 s.length (bytesPV s)) := by rw [List.getElem?_drop]; exact hc
    have hn := firstL_next hs
    have hle2 := firstL_le L (i + 1)
    have hln : (firstL L (i + 1)).length = (firstL L i).length + s.length := by rw [hn, List.length_append]
    have e1 : ((firstL L i).length : Int) + (s.length : Int) = ((firstL L (i + 1)).length : Int) := by omega
    have e2 : ¬ ((firstL L (i + 1)).length : Int) < 0 := by omega
    repeat' first | simp -implicitDefEqProofs (maxSteps := 400000) (disch := first | with_reducible rfl | omega | (simp only [wkH] <;> omega) | decide) only [wkAll, wkL, popO, wantedP, if_true, if_false, reduceIte, ne_eq, Nat.reduceAdd, Nat.reduceSub, Nat.reduceMul, Nat.reduceLeDiff, Nat.reduceLT, ofCells, ofCell, reduceCtorEq, Int.reduceLE, Int.reduceLT, Int.reduceToNat, Int.reduceAdd, Int.reduceSub, Int.reduceMul, Int.reduceNeg, Int.reduceBEq, Int.reduceBNe, Int.reduceEq, eqCell, eqCells, binP, unP, convP, lenP, builtinP, sliceDataP, unsafeStringP, appendT, appendS, appendP, copyP, srcP, mmsP, mmP, indexOp, indexAddrOp, sliceOp, bndsP, bndP, capw, capCut, loadOp, storeOp, loadP, fieldOp, fieldAddrOp, arrayAtOp, buildP, buildSliceP, makeSliceP, placeF, fillP, setL, PK.agg, isZero, gt_iff_lt, Nat.reducePow, Nat.reduceGT, reps, seg, wkN, if_pos, if_neg, tf3, Tryz.ze3, tf5, Tryz.ze5, tf49, Tryz.ze49, tf179, Tryz.ze179, hlt', rowsC_len, hc, hcd, e1, e2]
    refine hK (i + 1) _ _ (by omega) (by omega) (.eq (by simp [FadeTo]) rfl)
  · have hge' : ¬ (i : Int) < (L.length : Int) := by omega
    have : i = L.length := by omega
    subst this
    rw [firstL_all] at *
    clear hK
    repeat' first | simp -implicitDefEqProofs (maxSteps := 400000) (disch := first | with_reducible rfl | omega | (simp only [wkH] <;> omega) | decide) only [wkAll, wkL, popO, wantedP, if_true, if_false, reduceIte, ne_eq, Nat.reduceAdd, Nat.reduceSub, Nat.reduceMul, Nat.reduceLeDiff, Nat.reduceLT, ofCells, ofCell, reduceCtorEq, Int.reduceLE, Int.reduceLT, Int.reduceToNat, Int.reduceAdd, Int.reduceSub, Int.reduceMul, Int.reduceNeg, Int.reduceBEq, Int.reduceBNe, Int.reduceEq, eqCell, eqCells, binP, unP, convP, lenP, builtinP, sliceDataP, unsafeStringP, appendT, appendS, appendP, copyP, srcP, mmsP, mmP, indexOp, indexAddrOp, sliceOp, bndsP, bndP, capw, capCut, loadOp, storeOp, loadP, fieldOp, fieldAddrOp, arrayAtOp, buildP, buildSliceP, makeSliceP, placeF, fillP, setL, PK.agg, isZero, gt_iff_lt, Nat.reducePow, Nat.reduceGT, reps, seg, wkN, if_pos, if_neg, tf3, Tryz.ze3, tf5, Tryz.ze5, tf49, Tryz.ze49, tf179, Tryz.ze179, hge'] | refine w_eff (growB_ok L.flatten.length h1 h2 _) ?_
    refine w_loopH (α := Nat) ph ph.ob ph.ty (fun i => [.fsl 1 L.length (rowsC L), .undef, .undef, .undef, .undef, .undef, .sl (ph.n + i) 0 1 (firstL L i).length none, .undef, .undef, .undef, .undef, .undef, .undef, .undef, .undef, .undef, .undef, .undef, .undef, .undef, .undef, .undef, .undef, .undef, .undef, .fsl 1 L.length (rowsC L), .int .i64 L.length, .int .i64 i, .undef, .undef, .undef, .undef, .undef, .undef, .undef, .undef]) (fun i => List.replicate i none ++ [some (Blk.own (bytesPV (firstL L i)))]) (fun i => i ≤ L.length) (fun i => L.length - i) 0 (by simp) (fun _ _ => by simp) (.eq (by simp [FadeTo, firstL]) (by simp [firstL, bytesPV])) ?_
    intro i hi K hK
    have hle := firstL_le L i
    rcases Nat.lt_or_ge i L.length with hlt | hge
    · have hlt' : (i : Int) < (L.length : Int) := by omega
      obtain ⟨s, hs⟩ := get_someW hlt
      have hc := rowsC_at hs
      have hcd : ((rowsC L).drop i)[0]? = some (.fsl 1 s.length (bytesPV s)) := by rw [List.getElem?_drop]; exact hc
      have hn := firstL_next hs
      have hle2 := firstL_le L (i + 1)
      have hln : (firstL L (i + 1)).length = (firstL L i).length + s.length := by rw [hn, List.length_append]
      have g1 : (List.replicate i (none : Option Blk) ++ [some (Blk.own (bytesPV (firstL L i)))])[i]? = some (some (.own (bytesPV (firstL L i)))) := by rw [List.getElem?_append_right (by simp)]; simp
      have g2 : (List.replicate i (none : Option Blk) ++ [some (Blk.own (bytesPV (firstL L i)))]).set i (none : Option Blk) = List.replicate (i + 1) none := by
        rw [List.set_append_right _ _ (by simp), List.length_replicate, Nat.sub_self, List.replicate_succ']; rfl
      have g3 : (List.replicate i (none : Option Blk) ++ [some (Blk.own (bytesPV (firstL L i)))]).length = i + 1 := by simp
      repeat' first | simp -implicitDefEqProofs (maxSteps := 400000) (disch := first | with_reducible rfl | omega | (simp only [wkH] <;> omega) | decide) only [wkAll, wkL, popO, wantedP, if_true, if_false, reduceIte, ne_eq, Nat.reduceAdd, Nat.reduceSub, Nat.reduceMul, Nat.reduceLeDiff, Nat.reduceLT, ofCells, ofCell, reduceCtorEq, Int.reduceLE, Int.reduceLT, Int.reduceToNat, Int.reduceAdd, Int.reduceSub, Int.reduceMul, Int.reduceNeg, Int.reduceBEq, Int.reduceBNe, Int.reduceEq, eqCell, eqCells, binP, unP, convP, lenP, builtinP, sliceDataP, unsafeStringP, appendT, appendS, appendP, copyP, srcP, mmsP, mmP, indexOp, indexAddrOp, sliceOp, bndsP, bndP, capw, capCut, loadOp, storeOp, loadP, fieldOp, fieldAddrOp, arrayAtOp, buildP, buildSliceP, makeSliceP, placeF, fillP, setL, PK.agg, isZero, gt_iff_lt, Nat.reducePow, Nat.reduceGT, reps, seg, wkN, if_pos, if_neg, tf3, Tryz.ze3, tf5, Tryz.ze5, tf49, Tryz.ze49, tf179, Tryz.ze179, hlt', rowsC_len, hc, hcd, g1, g2, g3, bytesPV_cok, hln]
      refine hK (i + 1) _ _ (by omega) (by omega) (.eq (by simp [FadeTo, hln, Nat.add_assoc]) (by rw [hn, bytesPV_append, List.replicate_succ]; rfl))
    · have hge' : ¬ (i : Int) < (L.length : Int) := by omega
      have : i = L.length := by omega
      subst this
      rw [firstL_all] at *
      repeat' first | simp -implicitDefEqProofs (maxSteps := 400000) (disch := first | with_reducible rfl | omega | (simp only [wkH] <;> omega) | decide) only [wkAll, wkL, popO, wantedP, if_true, if_false, reduceIte, ne_eq, Nat.reduceAdd, Nat.reduceSub, Nat.reduceMul, Nat.reduceLeDiff, Nat.reduceLT, ofCells, ofCell, reduceCtorEq, Int.reduceLE, Int.reduceLT, Int.reduceToNat, Int.reduceAdd, Int.reduceSub, Int.reduceMul, Int.reduceNeg, Int.reduceBEq, Int.reduceBNe, Int.reduceEq, eqCell, eqCells, binP, unP, convP, lenP, builtinP, sliceDataP, unsafeStringP, appendT, appendS, appendP, copyP, srcP, mmsP, mmP, indexOp, indexAddrOp, sliceOp, bndsP, bndP, capw, capCut, loadOp, storeOp, loadP, fieldOp, fieldAddrOp, arrayAtOp, buildP, buildSliceP, makeSliceP, placeF, fillP, setL, PK.agg, isZero, gt_iff_lt, Nat.reducePow, Nat.reduceGT, reps, seg, wkN, if_pos, if_neg, tf3, Tryz.ze3, tf5, Tryz.ze5, tf49, Tryz.ze49, tf179, Tryz.ze179, hge']
      have hg : ((H ph (List.replicate L.length none ++ [some (Blk.own (bytesPV L.flatten))]) ph.ob ph.ty).shut []).get (ph.n + L.length) = some (bytesPV L.flatten) := by
        rw [h_shut0, h_get, List.getElem?_append_right (by simp)]; simp [blk_own]
      have hsg : seg (bytesPV L.flatten) 0 (L.flatten.length * 1) = bytesPV L.flatten := by
        simp only [seg, List.drop_zero, Nat.mul_one]; exact List.take_of_length_le (by rw [bytesPV_len]; exact Nat.le_refl _)
      have hfz : ∀ q m d, frzs q m (d + 1) (seg (bytesPV L.flatten) 0 (L.flatten.length * 1)) = some (bytesPV L.flatten) := fun q m d => by rw [hsg]; exact frzs_scalars (bytesPV_scalar _)
      refine hQ (by first | exact .inr rfl | exact .inl rfl) (by first | exact trivial | exact marks1) (by first | (simp -implicitDefEqProofs (maxSteps := 400000) (disch := first | with_reducible rfl | omega | (simp only [wkH] <;> omega) | decide) only [wkAll, wkL, popO, wantedP, if_true, if_false, reduceIte, ne_eq, Nat.reduceAdd, Nat.reduceSub, Nat.reduceMul, Nat.reduceLeDiff, Nat.reduceLT, ofCells, ofCell, reduceCtorEq, Int.reduceLE, Int.reduceLT, Int.reduceToNat, Int.reduceAdd, Int.reduceSub, Int.reduceMul, Int.reduceNeg, Int.reduceBEq, Int.reduceBNe, Int.reduceEq, eqCell, eqCells, loadOp, storeOp, loadP, setL, PK.agg, isZero, gt_iff_lt, Nat.reducePow, Nat.reduceGT, reps, seg, wkN, if_pos, if_neg, tf3, Tryz.ze3, tf5, Tryz.ze5, tf49, Tryz.ze49, tf179, Tryz.ze179, resP, resPs, resP1]; rfl) | rfl) ⟨6, by repeat' first | exact frz_scalar rfl | apply frz_tuple | apply frz_agg | apply frz_fsl | apply frz_gsl (by omega) | exact frzs_nil | apply frzs_cons | exact frz_sl (by omega) hg (by rw [bytesPV_len]; omega) (hfz _ _ _)⟩ (by first | exact keepsH0 | exact keeps1 (by assumption)) (nw_eq ?_)
      rfl
end Pv

namespace Pv
open Go Go.RowKit
variable {X : Ctx} {G : Ghost} {ph : PH} {w : World} {ρ : Option Nat} {n0 : Nat} {Q : Exit → PSt → PH → Prop}

/-! ### Told otherwise: a block that was there -/
theorem gro_of_get {q : Nat} {C : List PV} (hq : ph.get q = some C) : ph.gro q = none := by
  unfold PH.gro; rw [PH.get_eq.1 hq]; rfl
theorem Weak.tellP {q : Nat} {C C' : List PV} {vs : List PV} (hq : ph.get q = some C) (h : ∀ (G : Ghost) vals, RVs G C vals → RVs G C' vals) : Weak X n0 ph vs (ph.put q C') vs := by
  intro G w rvs hr hv
  have hlt := PH.get_lt hq
  refine ⟨G, .refl _ _, hr.retell (PH.n_put ..) ?_ ?_ rfl rfl, hv⟩
  · intro p c' hc
    rw [PH.get_put hlt] at hc
    split at hc
    · rename_i e; cases hc; subst e; exact ⟨C, hq, h G⟩
    · exact ⟨c', hc, fun _ h => h⟩
  · intro p
    rw [PH.gro_put]
    split
    · rename_i e; subst e; rw [gro_of_get hq]
    · rfl
theorem Weak.growP {q sz : Nat} {e : TypeId} {C C' : List PV} {vs : List PV} (hq : ph.get q = some C) (hC : NilL ph.n sz C C') (hn : n0 ≤ ph.n) : Weak X n0 ph vs ((ph.pushG sz 0 e).put q C') vs := by
  intro G w rvs hr hv
  have hp := hr.pushG sz e
  have hle := hr.leG
  have hq' : (ph.pushG sz 0 e).get q = some C := by rw [PH.get_pushG]; exact hq
  have hlt := PH.get_lt hq'
  refine ⟨G.pushG, hle.n _, hp.retell (PH.n_put ..) ?_ ?_ rfl rfl, hv.mono hle⟩
  · intro p c' hc
    rw [PH.get_put hlt] at hc
    split at hc
    · rename_i e; cases hc; subst e
      refine ⟨C, hq', fun vals hv => ?_⟩
      have hself : NilL ph.n sz C C' := hC
      have key : ∀ {vs us : List PV} {rs : List Value}, NilL ph.n sz vs us → RVs G.pushG vs rs → RVs G.pushG us rs := by
        intro vs us rs h1 h2
        exact NilL.rvs (G := G.pushG) (G' := G.pushG) (.refl _) (fun v hv => by
          cases hv with
          | nilsl => exact rv_newG hr sz .nilsl) h1 h2
      exact key hself hv
    · exact ⟨c', hc, fun _ h => h⟩
  · intro p
    rw [PH.gro_put]
    split
    · rename_i e; subst e; rw [gro_of_get hq']
    · rfl
theorem hput_pushG {B : PH} {q sz : Nat} {e : TypeId} {C : List PV} {l : List (Option Blk)} {ob : Nat → Option PObj} {ty : Nat → Option TypeId} (hq : q < B.n) : ((H B l ob ty).pushG sz 0 e).put q C = H (B.put q C) (l ++ [some (.grow sz 0 e)]) ob ty := by
  rw [h_pushG, h_putlt hq]

/-- At a range over a function, and at a loop: what is told is told otherwise. -/
theorem w_weakR {f : Operand} {ps : Array Tmp} {assign body : Code} {tm tm' : List PV} {ms : List Nat} {ph' : PH} (hw : Weak X n0 ph tm ph' tm')
    (h : vc X ρ n0 (.rangeFunc f ps assign body) Q ⟨tm', ms⟩ ph') : vc X ρ n0 (.rangeFunc f ps assign body) Q ⟨tm, ms⟩ ph := by
  show PWp X ρ n0 _ Q ⟨tm, ms⟩ ph
  exact PWp.weak (s' := ⟨tm', ms⟩) (ph' := ph') hw rfl (vc_ok _ _ _ _ h)

theorem obsc1 {b : PH} (hb : WF b) {m r : Nat} (hm : b.n ≤ m) : ∀ k o, upF b.ob r (some .defd) k = some o → ObSc m o := by
  intro k o h
  simp only [upF] at h
  split at h
  · cases h; trivial
  · have := hb.ob k o h
    cases o with
    | loop L => exact Scs.mono hm this
    | defd => trivial

theorem obsc_up {f : Nat → Option PObj} {m r : Nat} {o' : PObj} (hf : ∀ k o, f k = some o → ObSc m o) (ho : ObSc m o') : ∀ k o, upF f r (some o') k = some o → ObSc m o := by
  intro k o h
  simp only [upF] at h
  split at h
  · cases h; exact ho
  · exact hf k o h
theorem obsc0 {b : PH} (hb : WF b) {m : Nat} (hm : b.n ≤ m) : ∀ k o, b.ob k = some o → ObSc m o := by
  intro k o h
  have := hb.ob k o h
  cases o with
  | loop L => exact Scs.mono hm this
  | defd => trivial
/-- Behind a round, the base written into: blocks that are named no more. -/
theorem HTo.cutP {b : PH} {q : Nat} {C : List PV} {l : List (Option Blk)} {ob : Nat → Option PObj} {st tm : List PV} {ph' : PH} (g : List (Option Blk)) (hW : WF b) (hq : q < b.n) (hC : Scs (b.n + l.length) C) (h : FadeTo tm st) (e : ph' = H (b.put q C) (l ++ g) ob b.ty)
    (h1 : Scs (b.n + l.length) st) (h2 : ∀ x ∈ l, ∀ c, x = some (Blk.own c) → Scs (b.n + l.length) c) (h4 : ∀ r o, ob r = some o → ObSc (b.n + l.length) o) : HTo (b.put q C) l ob b.ty st tm ph' := by
  refine ⟨h, g, ob, b.ty, e, fun _ _ h => h, fun _ _ h => h, .inr ⟨?_, ?_, ?_, ?_, ?_⟩⟩
  · rw [PH.n_put]; exact h1
  · rw [PH.n_put]; exact fun k c hk => h2 _ (List.mem_of_getElem? hk) c rfl
  · intro p c hp
    rw [PH.n_put]
    rw [PH.get_put hq] at hp
    split at hp
    · cases hp; exact hC
    · exact Scs.mono (Nat.le_add_right _ _) (hW.bl p c hp)
  · rw [PH.n_put]; exact h4
  · intro p e hp; rw [PH.n_put]; have := hW.ty p e hp; omega

/-- **A loop**; a round's end is told as a round's head by any 'Weak'. -/
theorem w_loopW {α : Type} {c : Code} {tm : List PV} {ms : List Nat} (n : Nat) (ob : Nat → Option PObj) (ty : Nat → Option TypeId) (b : α → PH) (st : α → List PV) (hl : α → List (Option Blk)) (Inv : α → Prop) (μ : α → Nat) (a0 : α) (h0 : Inv a0) (hb : ∀ a, Inv a → (b a).n = n)
    (hi : Weak X n0 ph tm (H (b a0) (hl a0) ob ty) (st a0))
    (round : ∀ a, Inv a → ∀ B, B = b a → B.n = n → ∀ K : PSt → PH → Prop, (∀ a' tm ph', Inv a' → μ a' < μ a → Weak X n0 ph' tm (H (b a') (hl a') ob ty) (st a') → K ⟨tm, ms⟩ ph') → vc X ρ n0 c (PExit.seq K Q) ⟨st a, ms⟩ (H B (hl a) ob ty)) : vc X ρ n0 (.loop c) Q ⟨tm, ms⟩ ph := by
  show PWp X ρ n0 (.loop c) Q ⟨tm, ms⟩ ph
  refine PWp.weak (s' := ⟨st a0, ms⟩) (ph' := H (b a0) (hl a0) ob ty) hi rfl ?_
  refine pwp_loopN (I := fun j s' ph' => ∃ a, Inv a ∧ μ a = j ∧ Weak X n0 ph' s'.tm (H (b a) (hl a) ob ty) (st a) ∧ s'.ms = ms) (μ a0) ⟨a0, h0, rfl, .refl _ _, rfl⟩ ?_
  rintro j s' ph' ⟨a, hI, rfl, hT, hm⟩
  refine PWp.weak (s' := ⟨st a, ms⟩) (ph' := H (b a) (hl a) ob ty) hT hm.symm ?_
  refine vc_ok _ _ _ _ (round a hI _ rfl (hb a hI) _ ?_)
  intro a' tm' ph' h1 h2 h3
  exact ⟨μ a', h2, a', h1, rfl, h3, rfl⟩
end Pv
