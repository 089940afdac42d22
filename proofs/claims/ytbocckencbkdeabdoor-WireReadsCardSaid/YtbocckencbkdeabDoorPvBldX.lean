/- Part of the proof: the layer of pure values, or walks through functions (PvBldX, PvBits, PvNbH, PvKeS). -/
import Derived.Test.YtbocckencbkdeabDoorPvDrawF
import Derived.Test.YtbocckencbkdeabDoorPvB0
import Derived.Laws.Externs
import Derived.Test.YtbocckencbkdeabDoorPvNum
import Derived.Test.YtbocckencbkdeabDoorPvOpsE
import Derived.Test.YtbocckencbkdeabDoorPvH
set_option linter.all false
namespace Pv
set_option maxRecDepth 20000
open Go Go.Proofs Go.RowKit
def tb34_1BldX : Tab := [[], [0], [0, 1], [0, 1, 2], [0, 1, 2, 3], [], [5], [5, 6], [5, 6, 7], [5, 6, 7, 8], [0, 1, 2, 3, 4, 5, 6, 7, 8, 9], [0, 1, 2, 3, 4, 5, 6, 7, 8, 9, 10]]
def pl34_1BldX : Plan := [(0, true, []), (1, true, []), (2, true, []), (3, true, []), (5, true, []), (6, true, []), (7, true, []), (8, true, []), (9, true, []), (4, false, [5, 6, 7, 8, 9]), (10, false, []), (11, false, [])]
variable {w0 : World}

/-- internal/abi.NoEscape: the pointer as it is. -/
theorem noEscape_ok (ph : PH) (v : PV) : Eff (Cx w0) 50 [v] ph v ph := by
  intro G w rargs hr ha
  cases ha with
  | cons _ u _ _ h1 h2 =>
    cases h2
    refine .inl ⟨u, w, ?_, G, v, ph, .refl _ _, hr, h1, Nat.le_refl _, rfl, rfl⟩
    have hrun := run_callFunc_extern (P := Tryd.prog) Tryd.func50 (by kernel_rfl) (by kernel_rfl) (by kernel_rfl) (show Extern.find Tryd.f50 = some Extern.AbiNoEscape.same by kernel_rfl) #[u] w
    show (callFunc 50 #[u]).run Tryd.prog w = _
    rw [hrun]; rfl

/-- (*Builder).Len -/
theorem bldLen_ok (ph : PH) (p q : Nat) (w : Bool) (s : List UInt8) (h : ph.get p = some (bldC w p q s)) : Eff (Cx w0) 31 [.ptr p 0] ph (.int .i64 s.length) ph := by
  have hp := PH.get_lt h
  unfold bldC at h
  refine eff_of ([Go.ResultVar.tmp 2]) Tryd.func31 rfl rfl (by decide) rfl (fun h => h) fun hW Q hQ => ?_
  simp only [start, List.length_cons, List.length_nil, List.cons_append, List.nil_append, Nat.reduceAdd, Nat.reduceSub, List.replicate_succ, List.replicate_zero, Tryd.ntmps31]
  repeat' first | simp -implicitDefEqProofs (maxSteps := 400000) (disch := first | with_reducible rfl | omega | (simp only [wkH] <;> omega) | decide) only [wkAll, wkL, popO, wantedP, if_true, if_false, reduceIte, ne_eq, Nat.reduceAdd, Nat.reduceSub, Nat.reduceMul, Nat.reduceLeDiff, Nat.reduceLT, ofCells, ofCell, reduceCtorEq, Int.reduceLE, Int.reduceLT, Int.reduceToNat, Int.reduceAdd, Int.reduceSub, Int.reduceMul, Int.reduceNeg, Int.reduceBEq, Int.reduceBNe, Int.reduceEq, eqCell, eqCells, binP, unP, convP, lenP, builtinP, sliceDataP, unsafeStringP, appendT, appendS, appendP, copyP, srcP, mmsP, mmP, indexOp, indexAddrOp, sliceOp, bndsP, bndP, capw, capCut, loadOp, storeOp, loadP, fieldOp, fieldAddrOp, arrayAtOp, buildP, buildSliceP, makeSliceP, placeF, fillP, setL, PK.agg, isZero, gt_iff_lt, Nat.reducePow, Nat.reduceGT, reps, seg, wkN, if_pos, if_neg, tf5, Tryd.ze5, tf66, Tryd.ze66, tf73, Tryd.ze73, tf75, Tryd.ze75, h_getlt hp, h] | refine w_dec (fun _ => ?_) (fun _ => ?_) | refine w_eqc (fun _ => ?_) (fun _ => ?_) | refine w_neqc (fun _ => ?_) (fun _ => ?_) | refine w_nneqc (fun _ => ?_) (fun _ => ?_) | ((first | refine w_split (fun h => ?_) (fun h => ?_) | refine d_split (fun h => ?_) (fun h => ?_) | refine w_csplit (fun h => ?_) (fun h => ?_)) <;> (try simp only [wkS] at h) <;> (have h2 := h) <;> (try simp only [wkT, ne_eq] at h2) <;> (try simp only [h]))
  refine hQ (by first | exact .inr rfl | exact .inl rfl) (by first | exact trivial | exact marks1) (by first | (simp -implicitDefEqProofs (maxSteps := 400000) (disch := first | with_reducible rfl | omega | (simp only [wkH] <;> omega) | decide) only [wkAll, wkL, popO, wantedP, if_true, if_false, reduceIte, ne_eq, Nat.reduceAdd, Nat.reduceSub, Nat.reduceMul, Nat.reduceLeDiff, Nat.reduceLT, ofCells, ofCell, reduceCtorEq, Int.reduceLE, Int.reduceLT, Int.reduceToNat, Int.reduceAdd, Int.reduceSub, Int.reduceMul, Int.reduceNeg, Int.reduceBEq, Int.reduceBNe, Int.reduceEq, eqCell, eqCells, loadOp, storeOp, loadP, setL, PK.agg, isZero, gt_iff_lt, Nat.reducePow, Nat.reduceGT, reps, seg, wkN, if_pos, if_neg, tf5, Tryd.ze5, tf66, Tryd.ze66, tf73, Tryd.ze73, tf75, Tryd.ze75, resP, resPs, resP1]; rfl) | rfl) ⟨6, by repeat' first | exact frz_scalar rfl | apply frz_tuple | apply frz_agg | apply frz_fsl | apply frz_gsl (by omega) | exact frzs_nil | apply frzs_cons⟩ (by first | exact keepsH0 | exact keeps1 (by assumption) | exact keepsH (fun _ _ h => h) (fun p hp => by simp only [upF]; (repeat rw [if_neg (by omega)])) | exact keeps1t (by assumption) (fun p hp => by simp only [upF]; (repeat rw [if_neg (by omega)])) | (subst hT; exact keepsH (fun _ _ h => h) fun _ _ => rfl)) (nw_eq ?_)
  rfl

/-- (*Builder).WriteString -/
theorem bldW_ok (ph : PH) (p q : Nat) (w : Bool) (s t : List UInt8) (h : ph.get p = some (bldC w p q s)) (hg : ph.gro q = some (1, s.length, 5)) (ht : ph.ty p = some 75) (hb : s.length + t.length ≤ 140737488355328) :
    Eff (Cx w0) 32 [.ptr p 0, .str t] ph (.tuple [.int .i64 t.length, .nilif]) ((ph.putG q 1 (s.length + t.length) 5).put p (bldC true p q (s ++ t))) := by
  have hp := PH.get_lt h
  have hq := PH.gro_lt hg
  have hne : p ≠ q := by
    rintro rfl
    rw [PH.get_eq] at h; rw [PH.gro_eq] at hg; rw [h] at hg; cases hg
  obtain ⟨T, hT⟩ : ∃ T, T = (ph.putG q 1 (s.length + t.length) 5).put p (bldC true p q (s ++ t)) := ⟨_, rfl⟩
  rw [← hT]
  have hTn : T.n = ph.n := by rw [hT]; simp
  have hTw : WF ph → WF T := fun hW => hT ▸ hW.putG.put (by simpa using hp) (by simp [bldC, Scs, Sc, hp, hq, adP_t]; exact scs_scalars (bytesPV_scalar _))
  unfold bldC at h
  refine eff_of ([Go.ResultVar.tmp 4, Go.ResultVar.tmp 5]) Tryd.func32 rfl rfl (by decide) hTn hTw fun hW Q hQ => ?_
  simp only [start, List.length_cons, List.length_nil, List.cons_append, List.nil_append, Nat.reduceAdd, Nat.reduceSub, List.replicate_succ, List.replicate_zero, Tryd.ntmps32]
  obtain ⟨B1, hB1⟩ : ∃ B1, B1 = ph.put p [.ptr p 0, .gsl q 1 s.length (bytesPV s)] := ⟨_, rfl⟩
  have hn1 : B1.n = ph.n := by rw [hB1]; simp
  have hpn : p < B1.n := by omega
  have hqn : q < B1.n := by omega
  have e1 : B1.gro q = some (1, s.length, 5) := by rw [hB1, PH.gro_put, if_neg (fun e => hne e.symm)]; exact hg
  have e2 : B1.get p = some [.ptr p 0, .gsl q 1 s.length (bytesPV s)] := by rw [hB1]; exact put_same hp
  obtain ⟨B2, hB2⟩ : ∃ B2, B2 = B1.putG q 1 (s.length + t.length) 5 := ⟨_, rfl⟩
  have hpn2 : p < B2.n := by rw [hB2]; simpa using hpn
  have e3 : B2.get p = some [.ptr p 0, .gsl q 1 s.length (bytesPV s)] := by rw [hB2, PH.get_putG, if_neg hne]; exact e2
  have e4 : B2.put p [.ptr p 0, .gsl q 1 (s.length + t.length) (bytesPV s ++ bytesPV t)] = T := by
    rw [hT, hB2, hB1, put_putG hne, put_put]; unfold bldC; rw [bytesPV_append, List.length_append]; rfl
  have hB1' := hB1.symm
  have hB2' := hB2.symm
  repeat' first | simp -implicitDefEqProofs (maxSteps := 400000) (disch := first | with_reducible rfl | omega | (simp only [wkH] <;> omega) | decide) only [wkAll, wkL, popO, wantedP, if_true, if_false, reduceIte, ne_eq, Nat.reduceAdd, Nat.reduceSub, Nat.reduceMul, Nat.reduceLeDiff, Nat.reduceLT, ofCells, ofCell, reduceCtorEq, Int.reduceLE, Int.reduceLT, Int.reduceToNat, Int.reduceAdd, Int.reduceSub, Int.reduceMul, Int.reduceNeg, Int.reduceBEq, Int.reduceBNe, Int.reduceEq, eqCell, eqCells, binP, unP, convP, lenP, builtinP, sliceDataP, unsafeStringP, appendT, appendS, appendP, copyP, srcP, mmsP, mmP, indexOp, indexAddrOp, sliceOp, bndsP, bndP, capw, capCut, loadOp, storeOp, loadP, fieldOp, fieldAddrOp, arrayAtOp, buildP, buildSliceP, makeSliceP, placeF, fillP, setL, PK.agg, isZero, gt_iff_lt, Nat.reducePow, Nat.reduceGT, reps, seg, wkN, if_pos, if_neg, tf5, Tryd.ze5, tf9, Tryd.ze9, tf66, Tryd.ze66, tf73, Tryd.ze73, tf75, Tryd.ze75] | refine w_dec (fun _ => ?_) (fun _ => ?_) | refine w_eqc (fun _ => ?_) (fun _ => ?_) | refine w_neqc (fun _ => ?_) (fun _ => ?_) | refine w_nneqc (fun _ => ?_) (fun _ => ?_) | ((first | refine w_split (fun h => ?_) (fun h => ?_) | refine d_split (fun h => ?_) (fun h => ?_) | refine w_csplit (fun h => ?_) (fun h => ?_)) <;> (try simp only [wkS] at h) <;> (have h2 := h) <;> (try simp only [wkT, ne_eq] at h2) <;> (try simp only [h]))
  cases w
  · simp only [adP_t, adP_f] at h ⊢
    refine w_inl ([]) Tryd.func42 rfl rfl (by decide) fun _ hI => ?_
    simp only [start, List.length_cons, List.length_nil, List.cons_append, List.nil_append, Nat.reduceAdd, Nat.reduceSub, List.replicate_succ, List.replicate_zero, Tryd.ntmps42]
    repeat' first | simp -implicitDefEqProofs (maxSteps := 400000) (disch := first | with_reducible rfl | omega | (simp only [wkH] <;> omega) | decide) only [wkAll, wkL, popO, wantedP, if_true, if_false, reduceIte, ne_eq, Nat.reduceAdd, Nat.reduceSub, Nat.reduceMul, Nat.reduceLeDiff, Nat.reduceLT, ofCells, ofCell, reduceCtorEq, Int.reduceLE, Int.reduceLT, Int.reduceToNat, Int.reduceAdd, Int.reduceSub, Int.reduceMul, Int.reduceNeg, Int.reduceBEq, Int.reduceBNe, Int.reduceEq, eqCell, eqCells, binP, unP, convP, lenP, builtinP, sliceDataP, unsafeStringP, appendT, appendS, appendP, copyP, srcP, mmsP, mmP, indexOp, indexAddrOp, sliceOp, bndsP, bndP, capw, capCut, loadOp, storeOp, loadP, fieldOp, fieldAddrOp, arrayAtOp, buildP, buildSliceP, makeSliceP, placeF, fillP, setL, PK.agg, isZero, gt_iff_lt, Nat.reducePow, Nat.reduceGT, reps, seg, wkN, if_pos, if_neg, tf5, Tryd.ze5, tf66, Tryd.ze66, tf73, Tryd.ze73, tf75, Tryd.ze75, Tryd.underlying96, h_getlt hp, h, h_putlt hp, ht, Tryd.underlying96] | refine w_dec (fun _ => ?_) (fun _ => ?_) | refine w_eqc (fun _ => ?_) (fun _ => ?_) | refine w_neqc (fun _ => ?_) (fun _ => ?_) | refine w_nneqc (fun _ => ?_) (fun _ => ?_) | ((first | refine w_split (fun h => ?_) (fun h => ?_) | refine d_split (fun h => ?_) (fun h => ?_) | refine w_csplit (fun h => ?_) (fun h => ?_)) <;> (try simp only [wkS] at h) <;> (have h2 := h) <;> (try simp only [wkT, ne_eq] at h2) <;> (try simp only [h]))
    refine w_eff (noEscape_ok _ _) ?_
    repeat' first | simp -implicitDefEqProofs (maxSteps := 400000) (disch := first | with_reducible rfl | omega | (simp only [wkH] <;> omega) | decide) only [wkAll, wkL, popO, wantedP, if_true, if_false, reduceIte, ne_eq, Nat.reduceAdd, Nat.reduceSub, Nat.reduceMul, Nat.reduceLeDiff, Nat.reduceLT, ofCells, ofCell, reduceCtorEq, Int.reduceLE, Int.reduceLT, Int.reduceToNat, Int.reduceAdd, Int.reduceSub, Int.reduceMul, Int.reduceNeg, Int.reduceBEq, Int.reduceBNe, Int.reduceEq, eqCell, eqCells, binP, unP, convP, lenP, builtinP, sliceDataP, unsafeStringP, appendT, appendS, appendP, copyP, srcP, mmsP, mmP, indexOp, indexAddrOp, sliceOp, bndsP, bndP, capw, capCut, loadOp, storeOp, loadP, fieldOp, fieldAddrOp, arrayAtOp, buildP, buildSliceP, makeSliceP, placeF, fillP, setL, PK.agg, isZero, gt_iff_lt, Nat.reducePow, Nat.reduceGT, reps, seg, wkN, if_pos, if_neg, tf5, Tryd.ze5, tf66, Tryd.ze66, tf73, Tryd.ze73, tf75, Tryd.ze75, Tryd.underlying96, h_getlt hp, h, h_putlt hp, ht, Tryd.underlying96] | refine w_dec (fun _ => ?_) (fun _ => ?_) | refine w_eqc (fun _ => ?_) (fun _ => ?_) | refine w_neqc (fun _ => ?_) (fun _ => ?_) | refine w_nneqc (fun _ => ?_) (fun _ => ?_) | ((first | refine w_split (fun h => ?_) (fun h => ?_) | refine d_split (fun h => ?_) (fun h => ?_) | refine w_csplit (fun h => ?_) (fun h => ?_)) <;> (try simp only [wkS] at h) <;> (have h2 := h) <;> (try simp only [wkT, ne_eq] at h2) <;> (try simp only [h]))
    refine hI (by first | exact .inr rfl | exact .inl rfl) trivial (by first | (simp -implicitDefEqProofs (maxSteps := 400000) (disch := first | with_reducible rfl | omega | (simp only [wkH] <;> omega) | decide) only [wkAll, wkL, popO, wantedP, if_true, if_false, reduceIte, ne_eq, Nat.reduceAdd, Nat.reduceSub, Nat.reduceMul, Nat.reduceLeDiff, Nat.reduceLT, ofCells, ofCell, reduceCtorEq, Int.reduceLE, Int.reduceLT, Int.reduceToNat, Int.reduceAdd, Int.reduceSub, Int.reduceMul, Int.reduceNeg, Int.reduceBEq, Int.reduceBNe, Int.reduceEq, eqCell, eqCells, loadOp, storeOp, loadP, setL, PK.agg, isZero, gt_iff_lt, Nat.reducePow, Nat.reduceGT, reps, seg, wkN, if_pos, if_neg, tf5, Tryd.ze5, tf66, Tryd.ze66, tf73, Tryd.ze73, tf75, Tryd.ze75, Tryd.underlying96, resP, resPs, resP1]; rfl) | rfl) ?_
    simp only [hB1']
    repeat' first | simp -implicitDefEqProofs (maxSteps := 400000) (disch := first | with_reducible rfl | omega | (simp only [wkH] <;> omega) | decide) only [wkAll, wkL, popO, wantedP, if_true, if_false, reduceIte, ne_eq, Nat.reduceAdd, Nat.reduceSub, Nat.reduceMul, Nat.reduceLeDiff, Nat.reduceLT, ofCells, ofCell, reduceCtorEq, Int.reduceLE, Int.reduceLT, Int.reduceToNat, Int.reduceAdd, Int.reduceSub, Int.reduceMul, Int.reduceNeg, Int.reduceBEq, Int.reduceBNe, Int.reduceEq, eqCell, eqCells, binP, unP, convP, lenP, builtinP, sliceDataP, unsafeStringP, appendT, appendS, appendP, copyP, srcP, mmsP, mmP, indexOp, indexAddrOp, sliceOp, bndsP, bndP, capw, capCut, loadOp, storeOp, loadP, fieldOp, fieldAddrOp, arrayAtOp, buildP, buildSliceP, makeSliceP, placeF, fillP, setL, PK.agg, isZero, gt_iff_lt, Nat.reducePow, Nat.reduceGT, reps, seg, wkN, if_pos, if_neg, tf5, Tryd.ze5, tf9, Tryd.ze9, tf66, Tryd.ze66, tf73, Tryd.ze73, tf75, Tryd.ze75, h_getlt hpn, h_grolt hqn, e1, e2, app_g, h_putGlt hqn, hB2', h_getlt hpn2, e3, h_putlt hpn2, e4] | refine w_dec (fun _ => ?_) (fun _ => ?_) | refine w_eqc (fun _ => ?_) (fun _ => ?_) | refine w_neqc (fun _ => ?_) (fun _ => ?_) | refine w_nneqc (fun _ => ?_) (fun _ => ?_) | ((first | refine w_split (fun h => ?_) (fun h => ?_) | refine d_split (fun h => ?_) (fun h => ?_) | refine w_csplit (fun h => ?_) (fun h => ?_)) <;> (try simp only [wkS] at h) <;> (have h2 := h) <;> (try simp only [wkT, ne_eq] at h2) <;> (try simp only [h]))
    refine hQ (by first | exact .inr rfl | exact .inl rfl) (by first | exact trivial | exact marks1) (by first | (simp -implicitDefEqProofs (maxSteps := 400000) (disch := first | with_reducible rfl | omega | (simp only [wkH] <;> omega) | decide) only [wkAll, wkL, popO, wantedP, if_true, if_false, reduceIte, ne_eq, Nat.reduceAdd, Nat.reduceSub, Nat.reduceMul, Nat.reduceLeDiff, Nat.reduceLT, ofCells, ofCell, reduceCtorEq, Int.reduceLE, Int.reduceLT, Int.reduceToNat, Int.reduceAdd, Int.reduceSub, Int.reduceMul, Int.reduceNeg, Int.reduceBEq, Int.reduceBNe, Int.reduceEq, eqCell, eqCells, loadOp, storeOp, loadP, setL, PK.agg, isZero, gt_iff_lt, Nat.reducePow, Nat.reduceGT, reps, seg, wkN, if_pos, if_neg, tf5, Tryd.ze5, tf9, Tryd.ze9, tf66, Tryd.ze66, tf73, Tryd.ze73, tf75, Tryd.ze75, resP, resPs, resP1]; rfl) | rfl) ⟨6, by repeat' first | exact frz_scalar rfl | apply frz_tuple | apply frz_agg | apply frz_fsl | apply frz_gsl (by omega) | exact frzs_nil | apply frzs_cons⟩ (by first | exact keepsH0 | exact keeps1 (by assumption) | exact keepsH (fun _ _ h => h) (fun p hp => by simp only [upF]; (repeat rw [if_neg (by omega)])) | exact keeps1t (by assumption) (fun p hp => by simp only [upF]; (repeat rw [if_neg (by omega)])) | (subst hT; exact keepsH (fun _ _ h => h) fun _ _ => rfl)) (nw_eq ?_)
    rfl
  · simp only [adP_t, adP_f] at h ⊢
    have hB3 : B1 = ph := by rw [hB1]; exact put_self h
    rw [hB3] at hB2 hB2'
    have hTo : T.ob = ph.ob := by rw [hT]; rfl
    refine w_inl ([]) Tryd.func42 rfl rfl (by decide) fun _ hI => ?_
    simp only [start, List.length_cons, List.length_nil, List.cons_append, List.nil_append, Nat.reduceAdd, Nat.reduceSub, List.replicate_succ, List.replicate_zero, Tryd.ntmps42]
    repeat' first | simp -implicitDefEqProofs (maxSteps := 400000) (disch := first | with_reducible rfl | omega | (simp only [wkH] <;> omega) | decide) only [wkAll, wkL, popO, wantedP, if_true, if_false, reduceIte, ne_eq, Nat.reduceAdd, Nat.reduceSub, Nat.reduceMul, Nat.reduceLeDiff, Nat.reduceLT, ofCells, ofCell, reduceCtorEq, Int.reduceLE, Int.reduceLT, Int.reduceToNat, Int.reduceAdd, Int.reduceSub, Int.reduceMul, Int.reduceNeg, Int.reduceBEq, Int.reduceBNe, Int.reduceEq, eqCell, eqCells, binP, unP, convP, lenP, builtinP, sliceDataP, unsafeStringP, appendT, appendS, appendP, copyP, srcP, mmsP, mmP, indexOp, indexAddrOp, sliceOp, bndsP, bndP, capw, capCut, loadOp, storeOp, loadP, fieldOp, fieldAddrOp, arrayAtOp, buildP, buildSliceP, makeSliceP, placeF, fillP, setL, PK.agg, isZero, gt_iff_lt, Nat.reducePow, Nat.reduceGT, reps, seg, wkN, if_pos, if_neg, tf5, Tryd.ze5, tf66, Tryd.ze66, tf73, Tryd.ze73, tf75, Tryd.ze75, Tryd.underlying96, h_getlt hp, h, h_putlt hp, ht] | refine w_dec (fun _ => ?_) (fun _ => ?_) | refine w_eqc (fun _ => ?_) (fun _ => ?_) | refine w_neqc (fun _ => ?_) (fun _ => ?_) | refine w_nneqc (fun _ => ?_) (fun _ => ?_) | ((first | refine w_split (fun h => ?_) (fun h => ?_) | refine d_split (fun h => ?_) (fun h => ?_) | refine w_csplit (fun h => ?_) (fun h => ?_)) <;> (try simp only [wkS] at h) <;> (have h2 := h) <;> (try simp only [wkT, ne_eq] at h2) <;> (try simp only [h]))
    refine hI (by first | exact .inr rfl | exact .inl rfl) trivial (by first | (simp -implicitDefEqProofs (maxSteps := 400000) (disch := first | with_reducible rfl | omega | (simp only [wkH] <;> omega) | decide) only [wkAll, wkL, popO, wantedP, if_true, if_false, reduceIte, ne_eq, Nat.reduceAdd, Nat.reduceSub, Nat.reduceMul, Nat.reduceLeDiff, Nat.reduceLT, ofCells, ofCell, reduceCtorEq, Int.reduceLE, Int.reduceLT, Int.reduceToNat, Int.reduceAdd, Int.reduceSub, Int.reduceMul, Int.reduceNeg, Int.reduceBEq, Int.reduceBNe, Int.reduceEq, eqCell, eqCells, loadOp, storeOp, loadP, setL, PK.agg, isZero, gt_iff_lt, Nat.reducePow, Nat.reduceGT, reps, seg, wkN, if_pos, if_neg, tf5, Tryd.ze5, tf66, Tryd.ze66, tf73, Tryd.ze73, tf75, Tryd.ze75, Tryd.underlying96, resP, resPs, resP1]; rfl) | rfl) ?_
    repeat' first | simp -implicitDefEqProofs (maxSteps := 400000) (disch := first | with_reducible rfl | omega | (simp only [wkH] <;> omega) | decide) only [wkAll, wkL, popO, wantedP, if_true, if_false, reduceIte, ne_eq, Nat.reduceAdd, Nat.reduceSub, Nat.reduceMul, Nat.reduceLeDiff, Nat.reduceLT, ofCells, ofCell, reduceCtorEq, Int.reduceLE, Int.reduceLT, Int.reduceToNat, Int.reduceAdd, Int.reduceSub, Int.reduceMul, Int.reduceNeg, Int.reduceBEq, Int.reduceBNe, Int.reduceEq, eqCell, eqCells, binP, unP, convP, lenP, builtinP, sliceDataP, unsafeStringP, appendT, appendS, appendP, copyP, srcP, mmsP, mmP, indexOp, indexAddrOp, sliceOp, bndsP, bndP, capw, capCut, loadOp, storeOp, loadP, fieldOp, fieldAddrOp, arrayAtOp, buildP, buildSliceP, makeSliceP, placeF, fillP, setL, PK.agg, isZero, gt_iff_lt, Nat.reducePow, Nat.reduceGT, reps, seg, wkN, if_pos, if_neg, tf5, Tryd.ze5, tf9, Tryd.ze9, tf66, Tryd.ze66, tf73, Tryd.ze73, tf75, Tryd.ze75, h_getlt hp, h_grolt hq, hg, h, app_g, h_putGlt hq, hB2', h_getlt hpn2, e3, h_putlt hpn2, e4] | refine w_dec (fun _ => ?_) (fun _ => ?_) | refine w_eqc (fun _ => ?_) (fun _ => ?_) | refine w_neqc (fun _ => ?_) (fun _ => ?_) | refine w_nneqc (fun _ => ?_) (fun _ => ?_) | ((first | refine w_split (fun h => ?_) (fun h => ?_) | refine d_split (fun h => ?_) (fun h => ?_) | refine w_csplit (fun h => ?_) (fun h => ?_)) <;> (try simp only [wkS] at h) <;> (have h2 := h) <;> (try simp only [wkT, ne_eq] at h2) <;> (try simp only [h]))
    refine hQ (by first | exact .inr rfl | exact .inl rfl) (by first | exact trivial | exact marks1) (by first | (simp -implicitDefEqProofs (maxSteps := 400000) (disch := first | with_reducible rfl | omega | (simp only [wkH] <;> omega) | decide) only [wkAll, wkL, popO, wantedP, if_true, if_false, reduceIte, ne_eq, Nat.reduceAdd, Nat.reduceSub, Nat.reduceMul, Nat.reduceLeDiff, Nat.reduceLT, ofCells, ofCell, reduceCtorEq, Int.reduceLE, Int.reduceLT, Int.reduceToNat, Int.reduceAdd, Int.reduceSub, Int.reduceMul, Int.reduceNeg, Int.reduceBEq, Int.reduceBNe, Int.reduceEq, eqCell, eqCells, loadOp, storeOp, loadP, setL, PK.agg, isZero, gt_iff_lt, Nat.reducePow, Nat.reduceGT, reps, seg, wkN, if_pos, if_neg, tf5, Tryd.ze5, tf9, Tryd.ze9, tf66, Tryd.ze66, tf73, Tryd.ze73, tf75, Tryd.ze75, resP, resPs, resP1]; rfl) | rfl) ⟨6, by repeat' first | exact frz_scalar rfl | apply frz_tuple | apply frz_agg | apply frz_fsl | apply frz_gsl (by omega) | exact frzs_nil | apply frzs_cons⟩ (by first | exact keepsH0 | exact keeps1 (by assumption) | exact keepsH (fun _ _ h => h) (fun p hp => by simp only [upF]; (repeat rw [if_neg (by omega)])) | exact keeps1t (by assumption) (fun p hp => by simp only [upF]; (repeat rw [if_neg (by omega)])) | (subst hT; exact keepsH (fun _ _ h => h) fun _ _ => rfl)) (nw_eq ?_)
    rfl

/-- (*Builder).String -/
theorem bldS_ok (ph : PH) (p q : Nat) (w : Bool) (s : List UInt8) (h : ph.get p = some (bldC w p q s)) (hg : ph.gro q = some (1, s.length, 5)) (hb : s.length < 4611686018427387904) : Eff (Cx w0) 34 [.ptr p 0] ph (.str s) ph := by
  have hp := PH.get_lt h
  have hq := PH.gro_lt hg
  unfold bldC at h
  refine eff_of ([Go.ResultVar.tmp 2]) Tryd.func34 rfl rfl (by decide) rfl (fun h => h) fun hW Q hQ => ?_
  simp only [start, List.length_cons, List.length_nil, List.cons_append, List.nil_append, Nat.reduceAdd, Nat.reduceSub, List.replicate_succ, List.replicate_zero, Tryd.ntmps34]
  cases hs : s.length with
  | zero =>
    obtain rfl := List.length_eq_zero_iff.1 hs
    simp only [List.length_nil] at h hg
    repeat' first | simp -implicitDefEqProofs (maxSteps := 400000) (disch := first | with_reducible rfl | omega | (simp only [wkH] <;> omega) | decide) only [wkAll, wkL, popO, wantedP, if_true, if_false, reduceIte, ne_eq, Nat.reduceAdd, Nat.reduceSub, Nat.reduceMul, Nat.reduceLeDiff, Nat.reduceLT, ofCells, ofCell, reduceCtorEq, Int.reduceLE, Int.reduceLT, Int.reduceToNat, Int.reduceAdd, Int.reduceSub, Int.reduceMul, Int.reduceNeg, Int.reduceBEq, Int.reduceBNe, Int.reduceEq, eqCell, eqCells, binP, unP, convP, lenP, builtinP, sliceDataP, unsafeStringP, appendT, appendS, appendP, copyP, srcP, mmsP, mmP, indexOp, indexAddrOp, sliceOp, bndsP, bndP, capw, capCut, loadOp, storeOp, loadP, fieldOp, fieldAddrOp, arrayAtOp, buildP, buildSliceP, makeSliceP, placeF, fillP, setL, PK.agg, isZero, gt_iff_lt, Nat.reducePow, Nat.reduceGT, reps, seg, wkN, if_pos, if_neg, tf3, Tryd.ze3, tf5, Tryd.ze5, tf66, Tryd.ze66, tf73, Tryd.ze73, tf75, Tryd.ze75, tf88, Tryd.ze88, pl34_1BldX, h_getlt hp, h] | refine w_dec (fun _ => ?_) (fun _ => ?_) | refine w_eqc (fun _ => ?_) (fun _ => ?_) | refine w_neqc (fun _ => ?_) (fun _ => ?_) | refine w_nneqc (fun _ => ?_) (fun _ => ?_) | ((first | refine w_split (fun h => ?_) (fun h => ?_) | refine d_split (fun h => ?_) (fun h => ?_) | refine w_csplit (fun h => ?_) (fun h => ?_)) <;> (try simp only [wkS] at h) <;> (have h2 := h) <;> (try simp only [wkT, ne_eq] at h2) <;> (try simp only [h])) | refine w_drawnF (id := 1) tb34_1BldX pl34_1BldX 14 (by kernel_rfl) (by kernel_rfl) (by simp) ?_
    refine hQ (by first | exact .inr rfl | exact .inl rfl) (by first | exact trivial | exact marks1) (by first | (simp -implicitDefEqProofs (maxSteps := 400000) (disch := first | with_reducible rfl | omega | (simp only [wkH] <;> omega) | decide) only [wkAll, wkL, popO, wantedP, if_true, if_false, reduceIte, ne_eq, Nat.reduceAdd, Nat.reduceSub, Nat.reduceMul, Nat.reduceLeDiff, Nat.reduceLT, ofCells, ofCell, reduceCtorEq, Int.reduceLE, Int.reduceLT, Int.reduceToNat, Int.reduceAdd, Int.reduceSub, Int.reduceMul, Int.reduceNeg, Int.reduceBEq, Int.reduceBNe, Int.reduceEq, eqCell, eqCells, loadOp, storeOp, loadP, setL, PK.agg, isZero, gt_iff_lt, Nat.reducePow, Nat.reduceGT, reps, seg, wkN, if_pos, if_neg, tf3, Tryd.ze3, tf5, Tryd.ze5, tf66, Tryd.ze66, tf73, Tryd.ze73, tf75, Tryd.ze75, tf88, Tryd.ze88, pl34_1BldX, resP, resPs, resP1]; rfl) | rfl) ⟨6, by repeat' first | exact frz_scalar rfl | apply frz_tuple | apply frz_agg | apply frz_fsl | apply frz_gsl (by omega) | exact frzs_nil | apply frzs_cons⟩ (by first | exact keepsH0 | exact keeps1 (by assumption) | exact keepsH (fun _ _ h => h) (fun p hp => by simp only [upF]; (repeat rw [if_neg (by omega)])) | exact keeps1t (by assumption) (fun p hp => by simp only [upF]; (repeat rw [if_neg (by omega)])) | (subst hT; exact keepsH (fun _ _ h => h) fun _ _ => rfl)) (nw_eq ?_)
    rfl
  | succ n =>
    rw [hs] at h hg
    repeat' first | simp -implicitDefEqProofs (maxSteps := 400000) (disch := first | with_reducible rfl | omega | (simp only [wkH] <;> omega) | decide) only [wkAll, wkL, popO, wantedP, if_true, if_false, reduceIte, ne_eq, Nat.reduceAdd, Nat.reduceSub, Nat.reduceMul, Nat.reduceLeDiff, Nat.reduceLT, ofCells, ofCell, reduceCtorEq, Int.reduceLE, Int.reduceLT, Int.reduceToNat, Int.reduceAdd, Int.reduceSub, Int.reduceMul, Int.reduceNeg, Int.reduceBEq, Int.reduceBNe, Int.reduceEq, eqCell, eqCells, binP, unP, convP, lenP, builtinP, sliceDataP, unsafeStringP, appendT, appendS, appendP, copyP, srcP, mmsP, mmP, indexOp, indexAddrOp, sliceOp, bndsP, bndP, capw, capCut, loadOp, storeOp, loadP, fieldOp, fieldAddrOp, arrayAtOp, buildP, buildSliceP, makeSliceP, placeF, fillP, setL, PK.agg, isZero, gt_iff_lt, Nat.reducePow, Nat.reduceGT, reps, seg, wkN, if_pos, if_neg, tf3, Tryd.ze3, tf5, Tryd.ze5, tf66, Tryd.ze66, tf73, Tryd.ze73, tf75, Tryd.ze75, tf88, Tryd.ze88, pl34_1BldX, h_getlt hp, h, h_grolt hq, hg, bytesX_bytesPV] | refine w_dec (fun _ => ?_) (fun _ => ?_) | refine w_eqc (fun _ => ?_) (fun _ => ?_) | refine w_neqc (fun _ => ?_) (fun _ => ?_) | refine w_nneqc (fun _ => ?_) (fun _ => ?_) | ((first | refine w_split (fun h => ?_) (fun h => ?_) | refine d_split (fun h => ?_) (fun h => ?_) | refine w_csplit (fun h => ?_) (fun h => ?_)) <;> (try simp only [wkS] at h) <;> (have h2 := h) <;> (try simp only [wkT, ne_eq] at h2) <;> (try simp only [h])) | refine w_drawnF (id := 1) tb34_1BldX pl34_1BldX 14 (by kernel_rfl) (by kernel_rfl) (by simp) ?_
    refine hQ (by first | exact .inr rfl | exact .inl rfl) (by first | exact trivial | exact marks1) (by first | (simp -implicitDefEqProofs (maxSteps := 400000) (disch := first | with_reducible rfl | omega | (simp only [wkH] <;> omega) | decide) only [wkAll, wkL, popO, wantedP, if_true, if_false, reduceIte, ne_eq, Nat.reduceAdd, Nat.reduceSub, Nat.reduceMul, Nat.reduceLeDiff, Nat.reduceLT, ofCells, ofCell, reduceCtorEq, Int.reduceLE, Int.reduceLT, Int.reduceToNat, Int.reduceAdd, Int.reduceSub, Int.reduceMul, Int.reduceNeg, Int.reduceBEq, Int.reduceBNe, Int.reduceEq, eqCell, eqCells, loadOp, storeOp, loadP, setL, PK.agg, isZero, gt_iff_lt, Nat.reducePow, Nat.reduceGT, reps, seg, wkN, if_pos, if_neg, tf3, Tryd.ze3, tf5, Tryd.ze5, tf66, Tryd.ze66, tf73, Tryd.ze73, tf75, Tryd.ze75, tf88, Tryd.ze88, pl34_1BldX, resP, resPs, resP1]; rfl) | rfl) ⟨6, by repeat' first | exact frz_scalar rfl | apply frz_tuple | apply frz_agg | apply frz_fsl | apply frz_gsl (by omega) | exact frzs_nil | apply frzs_cons⟩ (by first | exact keepsH0 | exact keeps1 (by assumption) | exact keepsH (fun _ _ h => h) (fun p hp => by simp only [upF]; (repeat rw [if_neg (by omega)])) | exact keeps1t (by assumption) (fun p hp => by simp only [upF]; (repeat rw [if_neg (by omega)])) | (subst hT; exact keepsH (fun _ _ h => h) fun _ _ => rfl)) (nw_eq ?_)
    rfl
end Pv

namespace Pv
open Go Go.RowKit

/-! ### Bits of numbers -/
theorem ofInt_nat (w n : Nat) : BitVec.ofInt w (n : Int) = BitVec.ofNat w n := by simp

theorem and_i64 (a b : Nat) (ha : a < 2 ^ 63) (hb : b < 2 ^ 63) : bitsP .and .i64 a b = ((a &&& b : Nat) : Int) := by
  have h : (a &&& b) ≤ a := Nat.and_le_left
  show IntKind.wrap .i64 (((BitVec.ofInt 64 (a : Int)) &&& (BitVec.ofInt 64 (b : Int))).toNat : Int) = _
  rw [ofInt_nat, ofInt_nat, BitVec.toNat_and, BitVec.toNat_ofNat, BitVec.toNat_ofNat, Nat.mod_eq_of_lt (by omega), Nat.mod_eq_of_lt (by omega)]
  exact IntWalk.i64_in _ (by omega)
end Pv

namespace Pv
open Go Go.RowKit

/-! ### Numbers as bytes, highest first -/
/-- The j-th of k bytes of n. -/
def beAt (n k j : Nat) : UInt8 := UInt8.ofNat (n / 2 ^ (8 * (k - 1 - j)))
def beP (n k : Nat) (p : Nat → Bool) : List UInt8 := (List.range k).map fun j => if p j then beAt n k j else 0
def beL (n k : Nat) : List UInt8 := (List.range k).map (beAt n k)
theorem beP_len (n k : Nat) (p : Nat → Bool) : (beP n k p).length = k := by simp [beP]
theorem beL_len (n k : Nat) : (beL n k).length = k := by simp [beL]
theorem beP_all {n k : Nat} {p : Nat → Bool} (h : ∀ j, j < k → p j = true) : beP n k p = beL n k := by
  unfold beP beL; apply List.map_congr_left; intro j hj; rw [if_pos (h j (List.mem_range.1 hj))]
theorem beP_none {n k : Nat} {p : Nat → Bool} (h : ∀ j, j < k → p j = false) : beP n k p = List.replicate k 0 := by
  apply List.ext_getElem
  · simp [beP]
  · intro i h1 h2
    have hi : i < k := by simpa [beP] using h1
    simp [beP, h i hi]
theorem beP_set {n k m : Nat} {p p' : Nat → Bool} (h : ∀ j, j < k → p' j = (p j || j == m)) : (beP n k p).set m (beAt n k m) = beP n k p' := by
  apply List.ext_getElem
  · simp [beP]
  · intro i h1 h2
    have hi : i < k := by simpa [beP] using h2
    rw [List.getElem_set]
    simp only [beP, List.getElem_map, List.getElem_range]
    rw [h i hi]
    by_cases hm : m = i
    · subst hm; simp
    · have : (i == m) = false := by rw [beq_eq_false_iff_ne]; omega
      rw [if_neg hm, this, Bool.or_false]
theorem beL_at {n k j : Nat} (h : j < k) : (beL n k)[j]? = some (beAt n k j) := by simp [beL, h]
theorem bytesPV_setb (l : List UInt8) (i : Nat) (b : UInt8) : (bytesPV l).set i (.int .u8 (b.toNat : Int)) = bytesPV (l.set i b) := by simp [bytesPV, List.map_set]
theorem wrap_u8n (n : Nat) : IntKind.wrap .u8 (n : Int) = ((UInt8.ofNat n).toNat : Int) := by
  simp [IntKind.wrap, IntKind.bits, IntKind.signed]
theorem shr_n (n m : Nat) (h : m < 64) : shrP .u64 (n : Int) (m : Int) = ((n / 2 ^ m : Nat) : Int) := by
  have : min (Int.toNat (m : Int)) (IntKind.bits .u64) = m := by simp [IntKind.bits]; omega
  rw [shrP, this, Int.fdiv_eq_ediv_of_nonneg _ (by exact_mod_cast Nat.zero_le _)]
  norm_cast

/-- What bytes are. -/
def valN (s : List UInt8) : Nat := s.foldl (fun n c => n * 256 + c.toNat) 0
theorem valN_snoc (s : List UInt8) (c : UInt8) : valN (s ++ [c]) = valN s * 256 + c.toNat := by simp [valN]
theorem valN_go : ∀ (s : List UInt8) (a : Nat), s.foldl (fun n c => n * 256 + c.toNat) a = a * 256 ^ s.length + valN s
  | [], a => by simp [valN]
  | c :: s, a => by
    have e : valN (c :: s) = (0 * 256 + c.toNat) * 256 ^ s.length + valN s := by rw [valN, List.foldl_cons, valN_go s]
    rw [List.foldl_cons, valN_go s, e, List.length_cons, Nat.pow_succ, Nat.add_mul, Nat.zero_mul, Nat.zero_add, Nat.add_assoc, Nat.mul_assoc, Nat.mul_comm 256]
theorem valN_cons (c : UInt8) (s : List UInt8) : valN (c :: s) = c.toNat * 256 ^ s.length + valN s := by
  have := valN_go (c :: s) 0
  rw [valN, List.foldl_cons, valN_go, Nat.zero_mul, Nat.zero_add]
theorem valN_lt : ∀ (s : List UInt8), valN s < 256 ^ s.length
  | [] => by simp [valN]
  | c :: s => by
    have h1 := valN_lt s
    have h2 := c.toNat_lt
    rw [valN_cons, List.length_cons, Nat.pow_succ]
    have h3 : (c.toNat + 1) * 256 ^ s.length ≤ 256 * 256 ^ s.length := Nat.mul_le_mul_right _ (by omega)
    rw [Nat.add_mul, Nat.one_mul] at h3
    omega
theorem beL_succ (n k : Nat) : beL n (k + 1) = UInt8.ofNat (n / 2 ^ (8 * k)) :: beL n k := by
  unfold beL
  rw [List.range_succ_eq_map, List.map_cons, List.map_map]
  congr 1
  apply List.map_congr_left
  intro j hj
  simp only [Function.comp, beAt]
  rw [show k + 1 - 1 - (j + 1) = k - 1 - j by omega]
theorem val_be (n : Nat) : ∀ k, valN (beL n k) = n % 256 ^ k
  | 0 => by simp [beL, valN, Nat.mod_one]
  | k + 1 => by
    rw [beL_succ, valN_cons, val_be n k, beL_len, UInt8.toNat_ofNat', show (2 : Nat) ^ (8 * k) = 256 ^ k by rw [Nat.pow_mul], Nat.pow_succ 256, Nat.mod_mul (x := n), Nat.mul_comm, Nat.add_comm]
theorem be_val : ∀ (s : List UInt8) (n : Nat), n % 256 ^ s.length = valN s → beL n s.length = s
  | [], n, _ => rfl
  | c :: s, n, h => by
    rw [List.length_cons, beL_succ]
    rw [valN_cons, List.length_cons, Nat.pow_succ, Nat.mod_mul] at h
    have h1 := valN_lt s
    have hp : 0 < 256 ^ s.length := Nat.pow_pos (by decide)
    have h2 : n % 256 ^ s.length < 256 ^ s.length := Nat.mod_lt _ hp
    have hq : n / 256 ^ s.length % 256 = c.toNat := by
      have e1 := congrArg (· / 256 ^ s.length) h
      rw [Nat.add_mul_div_left _ _ hp, Nat.div_eq_of_lt h2, Nat.zero_add, Nat.add_comm (c.toNat * _), Nat.add_mul_div_right _ _ hp, Nat.div_eq_of_lt h1, Nat.zero_add] at e1
      exact e1
    have hr : n % 256 ^ s.length = valN s := by
      have e1 := congrArg (· % 256 ^ s.length) h
      rw [Nat.add_mul_mod_self_left, Nat.mod_eq_of_lt h2, Nat.add_comm (c.toNat * _), Nat.add_mul_mod_self_right, Nat.mod_eq_of_lt h1] at e1
      exact e1
    rw [be_val s n hr, show (2 : Nat) ^ (8 * s.length) = 256 ^ s.length by rw [Nat.pow_mul]]
    congr 1
    apply UInt8.toNat_inj.1
    rw [UInt8.toNat_ofNat']; exact hq
theorem shl_or (n : Nat) (c : UInt8) (h : n < 2 ^ 56) : bitsP .or .u64 (shlP .u64 (n : Int) 8) (c.toNat : Int) = ((n * 256 + c.toNat : Nat) : Int) := by
  have hc := c.toNat_lt
  have e1 : shlP .u64 (n : Int) 8 = ((n * 256 : Nat) : Int) := by
    have : min (Int.toNat 8) (IntKind.bits .u64) = 8 := rfl
    rw [shlP, this]
    rw [show ((n : Int) * 2 ^ 8) = ((n * 256 : Nat) : Int) from by rw [Int.natCast_mul]; rfl]
    exact IntWalk.u64_in _ (by omega)
  rw [e1]
  show IntKind.wrap .u64 (((BitVec.ofInt 64 ((n * 256 : Nat) : Int)) ||| (BitVec.ofInt 64 (c.toNat : Int))).toNat : Int) = _
  rw [ofInt_nat, ofInt_nat, BitVec.toNat_or, BitVec.toNat_ofNat, BitVec.toNat_ofNat, Nat.mod_eq_of_lt (by omega), Nat.mod_eq_of_lt (by omega)]
  have e2 : n * 256 ||| c.toNat = n * 256 + c.toNat := by
    have := Nat.two_pow_add_eq_or_of_lt (i := 8) (b := c.toNat) hc n
    rw [show (2 : Nat) ^ 8 * n = n * 256 by rw [Nat.mul_comm]] at this
    exact this.symm
  rw [e2]
  exact IntWalk.u64_in _ (by omega)
end Pv

namespace Pv
open Go

/-! ### Rows -/
theorem rows_drop {α : Type} (f : α → List PV) (n : Nat) (hf : ∀ a, (f a).length = n) : ∀ (l : List α) (i : Nat) (r : α), l[i]? = some r → (l.flatMap f).drop (i * n) = f r ++ (l.drop (i + 1)).flatMap f
  | [], i, r, h => by simp at h
  | a :: l, 0, r, h => by simp at h; subst h; simp
  | a :: l, i + 1, r, h => by
    simp only [List.getElem?_cons_succ] at h
    rw [List.flatMap_cons, Nat.add_mul, Nat.one_mul, Nat.add_comm, ← List.drop_drop, ← hf a, List.drop_left, hf a]
    exact rows_drop f n hf l i r h

theorem rows_len {α : Type} (f : α → List PV) (n : Nat) (hf : ∀ a, (f a).length = n) (l : List α) : (l.flatMap f).length = l.length * n := by
  induction l with
  | nil => simp
  | cons a l ih => simp [ih, hf, Nat.add_mul]; omega

end Pv
