/- Part of the proof: the layer of pure values, or a walk through a function (PvSha2). -/
import Derived.Test.YthegpibaoikoeaaPvSha1
set_option linter.all false
namespace Pv
set_option maxRecDepth 20000
set_option maxHeartbeats 4000000
open Go Go.Proofs Go.RowKit
variable {w0 : World}

theorem refBeginning_ok : Fn (Cx w0) 41 [] (.agg (wC shaH0)) := by
  refine fn_H ([Go.ResultVar.cell 0 62]) Try.func41 rfl rfl (by decide) fun ph hW Q hQ => ?_
  simp only [start, List.length_cons, List.length_nil, List.cons_append, List.nil_append, Nat.reduceAdd, Nat.reduceSub, List.replicate_succ, List.replicate_zero, Try.ntmps41]
  repeat' first
    | simp -implicitDefEqProofs (maxSteps := 400000) (disch := first | with_reducible rfl | omega | (simp only [h_n, PH.n_push, PH.n_put, List.length_cons, List.length_nil] <;> omega) | decide) only [wkAll, wkL, popO, wantedP, if_true, if_false, reduceIte, ne_eq, Nat.reduceAdd, Nat.reduceSub, Nat.reduceMul, Nat.reduceLeDiff, Nat.reduceLT, ofCells, ofCell, reduceCtorEq, Int.reduceLE, Int.reduceLT, Int.reduceToNat, Int.reduceAdd, Int.reduceSub, Int.reduceMul, Int.reduceNeg, Int.reduceBEq, Int.reduceBNe, Int.reduceEq, eqCell, eqCells, binP, unP, convP, lenP, builtinP, sliceDataP, unsafeStringP, appendT, appendS, appendP, copyP, srcP, mmsP, mmP, indexOp, indexAddrOp, sliceOp, bndsP, bndP, capw, capCut, loadOp, storeOp, loadP, fieldOp, fieldAddrOp, arrayAtOp, buildP, buildSliceP, makeSliceP, placeF, fillP, setL, PK.agg, isZero, gt_iff_lt, Nat.reducePow, Nat.reduceGT, reps, seg, wkN, if_pos, if_neg, tf61, Try.ze61, tf62, Try.ze62]
    | refine w_dec (fun _ => ?_) (fun _ => ?_)
    | refine w_eqc (fun _ => ?_) (fun _ => ?_)
    | refine w_neqc (fun _ => ?_) (fun _ => ?_)
    | refine w_nneqc (fun _ => ?_) (fun _ => ?_)
    | ((first | refine w_split (fun h => ?_) (fun h => ?_) | refine d_split (fun h => ?_) (fun h => ?_) | refine w_csplit (fun h => ?_) (fun h => ?_)) <;> (try simp only [Bool.not_eq_true', Bool.not_eq_false', Bool.not_true, Bool.not_false] at h) <;> (have h2 := h) <;> (try simp only [decide_eq_true_eq, decide_eq_false_iff_not, beq_iff_eq, beq_eq_false_iff_ne, bne_iff_ne, bne_eq_false_iff_eq, Int.not_lt, Int.not_le, ne_eq] at h2) <;> (try simp only [h]))
  refine hQ (by first | exact .inr rfl | exact .inl rfl) (by first | exact trivial | exact marks1) (by first | (simp -implicitDefEqProofs (maxSteps := 400000) (disch := first | with_reducible rfl | omega | (simp only [h_n, PH.n_push, PH.n_put, List.length_cons, List.length_nil] <;> omega) | decide) only [wkAll, wkL, popO, wantedP, if_true, if_false, reduceIte, ne_eq, Nat.reduceAdd, Nat.reduceSub, Nat.reduceMul, Nat.reduceLeDiff, Nat.reduceLT, ofCells, ofCell, reduceCtorEq, Int.reduceLE, Int.reduceLT, Int.reduceToNat, Int.reduceAdd, Int.reduceSub, Int.reduceMul, Int.reduceNeg, Int.reduceBEq, Int.reduceBNe, Int.reduceEq, eqCell, eqCells, binP, unP, convP, lenP, builtinP, sliceDataP, unsafeStringP, appendT, appendS, appendP, copyP, srcP, mmsP, mmP, indexOp, indexAddrOp, sliceOp, bndsP, bndP, capw, capCut, loadOp, storeOp, loadP, fieldOp, fieldAddrOp, arrayAtOp, buildP, buildSliceP, makeSliceP, placeF, fillP, setL, PK.agg, isZero, gt_iff_lt, Nat.reducePow, Nat.reduceGT, reps, seg, wkN, if_pos, if_neg, tf61, Try.ze61, tf62, Try.ze62, resP, resPs, resP1]; rfl) | rfl) ⟨6, by repeat' first | exact frz_scalar rfl | apply frz_tuple | apply frz_agg | apply frz_fsl | apply frz_gsl (by omega) | exact frzs_nil | apply frzs_cons⟩ (by first | exact keepsH0 | exact keeps1 (by assumption) | exact keepsH (fun _ _ h => h) (fun p hp => by simp only [upF]; (repeat rw [if_neg (by omega)])) | exact keeps1t (by assumption) (fun p hp => by simp only [upF]; (repeat rw [if_neg (by omega)])) | (subst hT; exact keepsH (fun _ _ h => h) fun _ _ => rfl)) (nw_eq ?_)
  rfl

theorem w_buildSl {X : Ctx} {ops : Array Oper} {Q : Exit → PSt → PH → Prop} {os : List Oper} {s : PSt} {ph : PH} {d : Option Tmp} {ty t : TypeId} {p : String} {af : Array Edge} {n : Nat} {parts : Array (Nat × Operand)} (v : PV) (ph' : PH)
  (hv : buildSliceP X.P ty n (parts.toList.map fun x => (x.1, s.ev x.2)) ph = some (v, ph')) (k : vcL X ops Q os (s.put d v) ph') :
  vcG X ops Q os s ph { dst := d, op := .buildSlice ty n parts, type := t, pos := p, after := af, guard := none } (some true) := by
  rw [w_true, w_op rfl]
  simp only [popO]
  rw [hv]
  exact k
theorem buildSl_of {P : Program} {t e : TypeId} {len sz : Nat} {parts : List (Nat × PV)} {ph : PH} {z : PV} {cs : List PV} (h1 : kSl P t = some e) (h2 : szP P e = some sz) (h3 : zeroP P e = some z) (h4 : z.cells.length = sz ∧ 0 < sz ∧ len * sz ≤ 2 ^ 24 ∧ parts.all (fun x => x.2.cells.all cellOk) = true)
  (h5 : fillP (fun i => some (i * sz, sz)) (reps len z.cells) parts = some cs) : buildSliceP P t len parts ph = some (.sl ph.n 0 sz len (some len), ph.push cs) := by
  simp only [buildSliceP, h1, h2, h3, if_pos h4, h5, Option.map_some]

theorem refConstants_ok : Fn (Cx w0) 47 [] (.fsl 1 64 (wC shaK)) := by
  refine fn_H ([Go.ResultVar.tmp 0]) Try.func47 rfl rfl (by decide) fun ph hW Q hQ => ?_
  simp only [start, List.length_cons, List.length_nil, List.cons_append, List.nil_append, Nat.reduceAdd, Nat.reduceSub, List.replicate_succ, List.replicate_zero, Try.ntmps47]
  simp only [w_seq, w_region, w_nil, w_cons, w_noguard, w_true, w_snormal, w_next, w_put, List.set_cons_zero, List.set_cons_succ]
  rw [w_op rfl]
  refine opK_of .nilsl (H ph [] ph.ob ph.ty) rfl ?_
  simp only [w_snormal, w_next, w_put, List.set_cons_zero, w_nil, w_seq, w_region, w_cons]
  rw [w_noguard]
  obtain ⟨ks, hks, hkl⟩ : ∃ l : List UInt32, shaK = l ∧ l.length = 64 := ⟨_, rfl, rfl⟩
  refine w_buildSl (.sl ph.n 0 1 64 (some 64)) (H ph [some (.own (wC ks))] ph.ob ph.ty) ?_ ?_
  · refine (buildSl_of (e := 61) (z := .int .u32 0) (cs := wC ks) Try.sl81 Try.sz61 Try.ze61 ?_ ?_).trans ?_
    · refine ⟨rfl, by decide, by decide, by kernel_rfl⟩
    · subst hks; kernel_rfl
    · simp only [h_n, h_push, List.length_nil, Nat.add_zero, List.nil_append]
  rw [hks] at hQ
  have e2 : (wC ks).length = 64 := by rw [wC_len, hkl]
  clear hks
  simp only [w_snormal, w_next, w_put, List.set_cons_zero, List.set_cons_succ, w_nil, w_seq, w_region, w_cons]
  repeat' first
    | simp -implicitDefEqProofs (maxSteps := 400000) (disch := first | with_reducible rfl | omega | (simp only [h_n, PH.n_push, PH.n_put, List.length_cons, List.length_nil] <;> omega) | decide) only [wkAll, wkL, popO, wantedP, if_true, if_false, reduceIte, ne_eq, Nat.reduceAdd, Nat.reduceSub, Nat.reduceMul, Nat.reduceLeDiff, Nat.reduceLT, ofCells, ofCell, reduceCtorEq, Int.reduceLE, Int.reduceLT, Int.reduceToNat, Int.reduceAdd, Int.reduceSub, Int.reduceMul, Int.reduceNeg, Int.reduceBEq, Int.reduceBNe, Int.reduceEq, eqCell, eqCells, binP, unP, convP, lenP, builtinP, sliceDataP, unsafeStringP, appendT, appendS, appendP, copyP, srcP, mmsP, mmP, indexOp, indexAddrOp, sliceOp, bndsP, bndP, capw, capCut, loadOp, storeOp, loadP, fieldOp, fieldAddrOp, arrayAtOp, buildP, buildSliceP, makeSliceP, placeF, fillP, setL, PK.agg, isZero, gt_iff_lt, Nat.reducePow, Nat.reduceGT, reps, seg, wkN, if_pos, if_neg, tf61, Try.ze61, tf81, Try.ze81]
    | refine w_dec (fun _ => ?_) (fun _ => ?_)
    | refine w_eqc (fun _ => ?_) (fun _ => ?_)
    | refine w_neqc (fun _ => ?_) (fun _ => ?_)
    | refine w_nneqc (fun _ => ?_) (fun _ => ?_)
    | ((first | refine w_split (fun h => ?_) (fun h => ?_) | refine d_split (fun h => ?_) (fun h => ?_) | refine w_csplit (fun h => ?_) (fun h => ?_)) <;> (try simp only [Bool.not_eq_true', Bool.not_eq_false', Bool.not_true, Bool.not_false] at h) <;> (have h2 := h) <;> (try simp only [decide_eq_true_eq, decide_eq_false_iff_not, beq_iff_eq, beq_eq_false_iff_ne, bne_iff_ne, bne_eq_false_iff_eq, Int.not_lt, Int.not_le, ne_eq] at h2) <;> (try simp only [h]))
  refine hQ (.inr rfl) (by first | exact trivial | exact marks1) (by first | (simp -implicitDefEqProofs (maxSteps := 400000) (disch := first | with_reducible rfl | omega | (simp only [h_n, PH.n_push, PH.n_put, List.length_cons, List.length_nil] <;> omega) | decide) only [wkAll, wkL, popO, wantedP, if_true, if_false, reduceIte, ne_eq, Nat.reduceAdd, Nat.reduceSub, Nat.reduceMul, Nat.reduceLeDiff, Nat.reduceLT, ofCells, ofCell, reduceCtorEq, Int.reduceLE, Int.reduceLT, Int.reduceToNat, Int.reduceAdd, Int.reduceSub, Int.reduceMul, Int.reduceNeg, Int.reduceBEq, Int.reduceBNe, Int.reduceEq, eqCell, eqCells, binP, unP, convP, lenP, builtinP, sliceDataP, unsafeStringP, appendT, appendS, appendP, copyP, srcP, mmsP, mmP, indexOp, indexAddrOp, sliceOp, bndsP, bndP, capw, capCut, loadOp, storeOp, loadP, fieldOp, fieldAddrOp, arrayAtOp, buildP, buildSliceP, makeSliceP, placeF, fillP, setL, PK.agg, isZero, gt_iff_lt, Nat.reducePow, Nat.reduceGT, reps, seg, wkN, if_pos, if_neg, tf61, Try.ze61, tf81, Try.ze81, resP, resPs, resP1]; rfl) | rfl) ⟨6, frz_sl (cells := wC ks) (qs := wC ks) (Nat.le_refl _) (by rw [h_shut0, h_get0]; rfl) (by rw [e2]; omega) (by rw [show seg (wC ks) 0 (64 * 1) = wC ks from take_w hkl]; exact frzs_scalars (wC_scalar _))⟩ (by first | exact keepsH0 | exact keeps1 (by assumption) | exact keepsH (fun _ _ h => h) (fun p hp => by simp only [upF]; (repeat rw [if_neg (by omega)]))) (nw_eq rfl)
end Pv
