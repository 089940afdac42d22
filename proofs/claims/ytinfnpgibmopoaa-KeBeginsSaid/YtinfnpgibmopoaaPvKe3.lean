/- Part of the proof: the layer of pure values, or a walk through a function (PvKe3). -/
import Derived.Test.YtinfnpgibmopoaaPvKe2
set_option linter.all false
namespace Pv
set_option maxRecDepth 20000
open Go Go.Proofs Go.RowKit
variable {w0 : World}

theorem keOne_ok (s : List UInt8) (at_ : Nat) (hs : s.length < 2 ^ 50) (ha : at_ ≤ s.length) : Fn (Cx w0) 52 [.str s, .int .i64 at_] (.tuple [.agg (krC (oneT at_ (s.drop at_)).1), .int .i64 (oneT at_ (s.drop at_)).2]) := by
  have hlen : (s.drop at_).length = s.length - at_ := List.length_drop
  have e0 : (List.drop at_ s).take (s.length - at_) = s.drop at_ := take_all (by omega)
  generalize hT : s.drop at_ = T at hlen e0
  refine fn_H ([Go.ResultVar.cell 4 52, Go.ResultVar.tmp 5]) Try.func52 rfl rfl (by decide) fun ph hW Q hQ => ?_
  simp only [start, List.length_cons, List.length_nil, List.cons_append, List.nil_append, Nat.reduceAdd, Nat.reduceSub, List.replicate_succ, List.replicate_zero, Try.ntmps52]
  repeat' first
    | simp -implicitDefEqProofs (disch := first | with_reducible rfl | omega | (simp only [h_n, PH.n_push, PH.n_put, List.length_cons, List.length_nil] <;> omega) | decide) only [wkAll, popO, wantedP, List.set_cons_zero, List.set_cons_succ, List.getD_cons_zero, List.getD_cons_succ, List.getElem?_cons_zero, List.getElem?_cons_succ, List.getElem?_toArray, Option.bind_some, Option.map_some, Option.map_none, Option.getD_some, if_true, if_false, reduceIte, and_self, true_and, and_true, ne_eq, not_true_eq_false, not_false_eq_true, List.map_cons, List.map_nil, List.nil_append, List.cons_append, List.append_nil, Nat.reduceAdd, Nat.reduceSub, Nat.reduceMul, List.length_cons, List.length_nil, Nat.zero_add, Nat.zero_mul, Nat.add_zero, Nat.mul_one, Nat.one_mul, Nat.reduceLeDiff, Nat.reduceLT, ofCells, ofCell, decide_true, decide_false, Bool.not_true, Bool.not_false, Bool.true_eq_false, Bool.false_eq_true, beq_self_eq_true, bne_self_eq_false, Bool.or_true, Bool.or_false, Bool.true_or, Bool.false_or, Bool.and_true, Bool.and_false, Bool.true_and, Bool.false_and, Option.some.injEq, reduceCtorEq, Int.reduceLE, Int.reduceLT, Int.toNat_natCast, Int.reduceToNat, Int.reduceAdd, Int.reduceSub, Int.reduceMul, Int.reduceNeg, Int.reduceBEq, Int.reduceBNe, Int.reduceEq, Nat.sub_zero, PH.ob_push, eqCell, eqCells, binP, unP, convP, lenP, builtinP, sliceDataP, unsafeStringP, appendT, appendS, appendP, copyP, srcP, mmsP, mmP, indexOp, indexAddrOp, sliceOp, bndsP, bndP, capw, capCut, loadOp, storeOp, loadP, fieldOp, fieldAddrOp, arrayAtOp, buildP, buildSliceP, makeSliceP, placeF, fillP, setL, PK.agg, isZero, List.all_cons, List.all_nil, List.flatten_cons, List.flatten_nil, List.replicate_succ, List.replicate_zero, gt_iff_lt, false_or, or_false, Nat.reducePow, List.take_succ_cons, List.drop_succ_cons, List.take_zero, List.drop_zero, List.length_set, List.length_append, decide_eq_true_eq, Nat.lt_irrefl, Nat.reduceGT, reps, seg, up_same, up_up, Option.join_some, Option.join_none, Option.bind_none, ncN, IntWalk.i64_in, IntWalk.u8_in, IntWalk.u16_in, IntWalk.u32_in, IntWalk.u64_in, if_pos, if_neg, wrap_i64_b, wrap_u8_b, wrap_u16_b, wrap_u32_b, wrap_u64_b, shl8_b, bytesPV_get, bytesPV_len, bytesOf_cons, bytesOf_nil, bytesOf_bytesPV, seg_bytes, Try.underlying3, Try.sz3, Try.by3, Try.kk3, Try.ze3, Try.ag3, Try.ap3, Try.iu3, Try.se3, Try.underlying4, Try.sz4, Try.by4, Try.kk4, Try.ze4, Try.ag4, Try.ap4, Try.iu4, Try.se4, Try.underlying5, Try.sz5, Try.by5, Try.kk5, Try.ze5, Try.ag5, Try.ap5, Try.iu5, Try.se5, Try.underlying9, Try.sz9, Try.by9, Try.kk9, Try.ze9, Try.ag9, Try.ap9, Try.iu9, Try.se9, Try.underlying52, Try.sz52, Try.by52, Try.kk52, Try.ze52, Try.ag52, Try.ap52, Try.iu52, Try.se52, Try.fl52_0, Try.fl52_1, Try.fl52_2, Try.pl52, Try.ft52, Try.eg52, hT, e0]
    | refine w_dec (fun _ => ?_) (fun _ => ?_)
    | refine w_eqc (fun _ => ?_) (fun _ => ?_)
    | refine w_neqc (fun _ => ?_) (fun _ => ?_)
    | refine w_nneqc (fun _ => ?_) (fun _ => ?_)
    | (refine w_split (fun h => ?_) (fun h => ?_) <;> (try simp only [Bool.not_eq_true', Bool.not_eq_false', Bool.not_true, Bool.not_false] at h) <;> (have h2 := h) <;> (try simp only [decide_eq_true_eq, decide_eq_false_iff_not, beq_iff_eq, beq_eq_false_iff_ne, bne_iff_ne, bne_eq_false_iff_eq, Int.not_lt, Int.not_le, ne_eq] at h2) <;> (try simp only [h]))
    | (refine d_split (fun h => ?_) (fun h => ?_) <;> (try simp only [Bool.not_eq_true', Bool.not_eq_false', Bool.not_true, Bool.not_false] at h) <;> (have h2 := h) <;> (try simp only [decide_eq_true_eq, decide_eq_false_iff_not, beq_iff_eq, beq_eq_false_iff_ne, bne_iff_ne, bne_eq_false_iff_eq, Int.not_lt, Int.not_le, ne_eq] at h2) <;> (try simp only [h]))
    | (refine w_csplit (fun h => ?_) (fun h => ?_) <;> (try simp only [Bool.not_eq_true', Bool.not_eq_false', Bool.not_true, Bool.not_false] at h) <;> (have h2 := h) <;> (try simp only [decide_eq_true_eq, decide_eq_false_iff_not, beq_iff_eq, beq_eq_false_iff_ne, bne_iff_ne, bne_eq_false_iff_eq, Int.not_lt, Int.not_le, ne_eq] at h2) <;> (try simp only [h]))
    | refine w_drawn (id := 4) [(0, true, []), (1, true, []), (2, true, []), (3, true, []), (4, true, []), (5, true, []), (6, true, []), (7, true, []), (8, true, []), (9, true, []), (10, true, []), (11, true, []), (12, true, []), (13, true, []), (14, true, []), (15, true, []), (16, false, [8, 9, 10, 11, 12, 13, 14, 15]), (17, false, [])] 32 (by kernel_rfl) (by kernel_rfl) (by simp) ?_
  ·
    refine hQ (by first | exact .inr rfl | exact .inl rfl) (by first | exact trivial | exact marks1) (by first | (simp -implicitDefEqProofs (disch := first | with_reducible rfl | omega | (simp only [h_n, PH.n_push, PH.n_put, List.length_cons, List.length_nil] <;> omega) | decide) only [wkAll, popO, wantedP, List.set_cons_zero, List.set_cons_succ, List.getD_cons_zero, List.getD_cons_succ, List.getElem?_cons_zero, List.getElem?_cons_succ, List.getElem?_toArray, Option.bind_some, Option.map_some, Option.map_none, Option.getD_some, if_true, if_false, reduceIte, and_self, true_and, and_true, ne_eq, not_true_eq_false, not_false_eq_true, List.map_cons, List.map_nil, List.nil_append, List.cons_append, List.append_nil, Nat.reduceAdd, Nat.reduceSub, Nat.reduceMul, List.length_cons, List.length_nil, Nat.zero_add, Nat.zero_mul, Nat.add_zero, Nat.mul_one, Nat.one_mul, Nat.reduceLeDiff, Nat.reduceLT, ofCells, ofCell, decide_true, decide_false, Bool.not_true, Bool.not_false, Bool.true_eq_false, Bool.false_eq_true, beq_self_eq_true, bne_self_eq_false, Bool.or_true, Bool.or_false, Bool.true_or, Bool.false_or, Bool.and_true, Bool.and_false, Bool.true_and, Bool.false_and, Option.some.injEq, reduceCtorEq, Int.reduceLE, Int.reduceLT, Int.toNat_natCast, Int.reduceToNat, Int.reduceAdd, Int.reduceSub, Int.reduceMul, Int.reduceNeg, Int.reduceBEq, Int.reduceBNe, Int.reduceEq, Nat.sub_zero, PH.ob_push, eqCell, eqCells, binP, unP, convP, lenP, builtinP, sliceDataP, unsafeStringP, appendT, appendS, appendP, copyP, srcP, mmsP, mmP, indexOp, indexAddrOp, sliceOp, bndsP, bndP, capw, capCut, loadOp, storeOp, loadP, fieldOp, fieldAddrOp, arrayAtOp, buildP, buildSliceP, makeSliceP, placeF, fillP, setL, PK.agg, isZero, List.all_cons, List.all_nil, List.flatten_cons, List.flatten_nil, List.replicate_succ, List.replicate_zero, gt_iff_lt, false_or, or_false, Nat.reducePow, List.take_succ_cons, List.drop_succ_cons, List.take_zero, List.drop_zero, List.length_set, List.length_append, decide_eq_true_eq, Nat.lt_irrefl, Nat.reduceGT, reps, seg, up_same, up_up, Option.join_some, Option.join_none, Option.bind_none, ncN, IntWalk.i64_in, IntWalk.u8_in, IntWalk.u16_in, IntWalk.u32_in, IntWalk.u64_in, if_pos, if_neg, wrap_i64_b, wrap_u8_b, wrap_u16_b, wrap_u32_b, wrap_u64_b, shl8_b, bytesPV_get, bytesPV_len, bytesOf_cons, bytesOf_nil, bytesOf_bytesPV, seg_bytes, Try.underlying3, Try.sz3, Try.by3, Try.kk3, Try.ze3, Try.ag3, Try.ap3, Try.iu3, Try.se3, Try.underlying4, Try.sz4, Try.by4, Try.kk4, Try.ze4, Try.ag4, Try.ap4, Try.iu4, Try.se4, Try.underlying5, Try.sz5, Try.by5, Try.kk5, Try.ze5, Try.ag5, Try.ap5, Try.iu5, Try.se5, Try.underlying9, Try.sz9, Try.by9, Try.kk9, Try.ze9, Try.ag9, Try.ap9, Try.iu9, Try.se9, Try.underlying52, Try.sz52, Try.by52, Try.kk52, Try.ze52, Try.ag52, Try.ap52, Try.iu52, Try.se52, Try.fl52_0, Try.fl52_1, Try.fl52_2, Try.pl52, Try.ft52, Try.eg52, resP, resPs, resP1]; rfl) | rfl) ⟨6, by repeat' first | exact frz_scalar rfl | apply frz_tuple | apply frz_agg | apply frz_fsl | apply frz_gsl (by omega) | exact frzs_nil | apply frzs_cons⟩ (by first | exact keepsH0 | exact keeps1 (by assumption) | exact keepsH (fun _ _ h => h) (fun p hp => by simp only [upF]; (repeat rw [if_neg (by omega)])) | exact keeps1t (by assumption) (fun p hp => by simp only [upF]; (repeat rw [if_neg (by omega)])) | (subst hT; exact keepsH (fun _ _ h => h) fun _ _ => rfl)) (nw_eq ?_)
    rw [oneT_short (by omega)]; rfl
  · rename_i h4
    obtain ⟨b0, b1, b2, b3, r, rfl⟩ := four (s := T) (by omega)
    have hk := num_lt b0 b1
    have hn := num_lt b2 b3
    simp only [List.length_cons] at hlen h4
    have e4 : ((4 : Int) + ((b2.toNat * 256 + b3.toNat : Nat) : Int)).toNat - 4 = b2.toNat * 256 + b3.toNat := by omega
    repeat' first
      | simp -implicitDefEqProofs (disch := first | with_reducible rfl | omega | (simp only [h_n, PH.n_push, PH.n_put, List.length_cons, List.length_nil] <;> omega) | decide) only [wkAll, popO, wantedP, List.set_cons_zero, List.set_cons_succ, List.getD_cons_zero, List.getD_cons_succ, List.getElem?_cons_zero, List.getElem?_cons_succ, List.getElem?_toArray, Option.bind_some, Option.map_some, Option.map_none, Option.getD_some, if_true, if_false, reduceIte, and_self, true_and, and_true, ne_eq, not_true_eq_false, not_false_eq_true, List.map_cons, List.map_nil, List.nil_append, List.cons_append, List.append_nil, Nat.reduceAdd, Nat.reduceSub, Nat.reduceMul, List.length_cons, List.length_nil, Nat.zero_add, Nat.zero_mul, Nat.add_zero, Nat.mul_one, Nat.one_mul, Nat.reduceLeDiff, Nat.reduceLT, ofCells, ofCell, decide_true, decide_false, Bool.not_true, Bool.not_false, Bool.true_eq_false, Bool.false_eq_true, beq_self_eq_true, bne_self_eq_false, Bool.or_true, Bool.or_false, Bool.true_or, Bool.false_or, Bool.and_true, Bool.and_false, Bool.true_and, Bool.false_and, Option.some.injEq, reduceCtorEq, Int.reduceLE, Int.reduceLT, Int.toNat_natCast, Int.reduceToNat, Int.reduceAdd, Int.reduceSub, Int.reduceMul, Int.reduceNeg, Int.reduceBEq, Int.reduceBNe, Int.reduceEq, Nat.sub_zero, PH.ob_push, eqCell, eqCells, binP, unP, convP, lenP, builtinP, sliceDataP, unsafeStringP, appendT, appendS, appendP, copyP, srcP, mmsP, mmP, indexOp, indexAddrOp, sliceOp, bndsP, bndP, capw, capCut, loadOp, storeOp, loadP, fieldOp, fieldAddrOp, arrayAtOp, buildP, buildSliceP, makeSliceP, placeF, fillP, setL, PK.agg, isZero, List.all_cons, List.all_nil, List.flatten_cons, List.flatten_nil, List.replicate_succ, List.replicate_zero, gt_iff_lt, false_or, or_false, Nat.reducePow, List.take_succ_cons, List.drop_succ_cons, List.take_zero, List.drop_zero, List.length_set, List.length_append, decide_eq_true_eq, Nat.lt_irrefl, Nat.reduceGT, reps, seg, up_same, up_up, Option.join_some, Option.join_none, Option.bind_none, ncN, IntWalk.i64_in, IntWalk.u8_in, IntWalk.u16_in, IntWalk.u32_in, IntWalk.u64_in, if_pos, if_neg, wrap_i64_b, wrap_u8_b, wrap_u16_b, wrap_u32_b, wrap_u64_b, shl8_b, bytesPV_get, bytesPV_len, bytesOf_cons, bytesOf_nil, bytesOf_bytesPV, seg_bytes, Try.underlying3, Try.sz3, Try.by3, Try.kk3, Try.ze3, Try.ag3, Try.ap3, Try.iu3, Try.se3, Try.underlying4, Try.sz4, Try.by4, Try.kk4, Try.ze4, Try.ag4, Try.ap4, Try.iu4, Try.se4, Try.underlying5, Try.sz5, Try.by5, Try.kk5, Try.ze5, Try.ag5, Try.ap5, Try.iu5, Try.se5, Try.underlying9, Try.sz9, Try.by9, Try.kk9, Try.ze9, Try.ag9, Try.ap9, Try.iu9, Try.se9, Try.underlying52, Try.sz52, Try.by52, Try.kk52, Try.ze52, Try.ag52, Try.ap52, Try.iu52, Try.se52, Try.fl52_0, Try.fl52_1, Try.fl52_2, Try.pl52, Try.ft52, Try.eg52, num_or, num_crit, num_nand, e4]
      | refine w_dec (fun _ => ?_) (fun _ => ?_)
      | refine w_eqc (fun _ => ?_) (fun _ => ?_)
      | refine w_neqc (fun _ => ?_) (fun _ => ?_)
      | refine w_nneqc (fun _ => ?_) (fun _ => ?_)
      | (refine w_split (fun h => ?_) (fun h => ?_) <;> (try simp only [Bool.not_eq_true', Bool.not_eq_false', Bool.not_true, Bool.not_false] at h) <;> (have h2 := h) <;> (try simp only [decide_eq_true_eq, decide_eq_false_iff_not, beq_iff_eq, beq_eq_false_iff_ne, bne_iff_ne, bne_eq_false_iff_eq, Int.not_lt, Int.not_le, ne_eq] at h2) <;> (try simp only [h]))
      | (refine d_split (fun h => ?_) (fun h => ?_) <;> (try simp only [Bool.not_eq_true', Bool.not_eq_false', Bool.not_true, Bool.not_false] at h) <;> (have h2 := h) <;> (try simp only [decide_eq_true_eq, decide_eq_false_iff_not, beq_iff_eq, beq_eq_false_iff_ne, bne_iff_ne, bne_eq_false_iff_eq, Int.not_lt, Int.not_le, ne_eq] at h2) <;> (try simp only [h]))
      | (refine w_csplit (fun h => ?_) (fun h => ?_) <;> (try simp only [Bool.not_eq_true', Bool.not_eq_false', Bool.not_true, Bool.not_false] at h) <;> (have h2 := h) <;> (try simp only [decide_eq_true_eq, decide_eq_false_iff_not, beq_iff_eq, beq_eq_false_iff_ne, bne_iff_ne, bne_eq_false_iff_eq, Int.not_lt, Int.not_le, ne_eq] at h2) <;> (try simp only [h]))
      | refine w_drawn (id := 4) [(0, true, []), (1, true, []), (2, true, []), (3, true, []), (4, true, []), (5, true, []), (6, true, []), (7, true, []), (8, true, []), (9, true, []), (10, true, []), (11, true, []), (12, true, []), (13, true, []), (14, true, []), (15, true, []), (16, false, [8, 9, 10, 11, 12, 13, 14, 15]), (17, false, [])] 32 (by kernel_rfl) (by kernel_rfl) (by simp) ?_
    all_goals (try (exfalso; omega))
    all_goals
      refine hQ (by first | exact .inr rfl | exact .inl rfl) (by first | exact trivial | exact marks1) (by first | (simp -implicitDefEqProofs (disch := first | with_reducible rfl | omega | (simp only [h_n, PH.n_push, PH.n_put, List.length_cons, List.length_nil] <;> omega) | decide) only [wkAll, popO, wantedP, List.set_cons_zero, List.set_cons_succ, List.getD_cons_zero, List.getD_cons_succ, List.getElem?_cons_zero, List.getElem?_cons_succ, List.getElem?_toArray, Option.bind_some, Option.map_some, Option.map_none, Option.getD_some, if_true, if_false, reduceIte, and_self, true_and, and_true, ne_eq, not_true_eq_false, not_false_eq_true, List.map_cons, List.map_nil, List.nil_append, List.cons_append, List.append_nil, Nat.reduceAdd, Nat.reduceSub, Nat.reduceMul, List.length_cons, List.length_nil, Nat.zero_add, Nat.zero_mul, Nat.add_zero, Nat.mul_one, Nat.one_mul, Nat.reduceLeDiff, Nat.reduceLT, ofCells, ofCell, decide_true, decide_false, Bool.not_true, Bool.not_false, Bool.true_eq_false, Bool.false_eq_true, beq_self_eq_true, bne_self_eq_false, Bool.or_true, Bool.or_false, Bool.true_or, Bool.false_or, Bool.and_true, Bool.and_false, Bool.true_and, Bool.false_and, Option.some.injEq, reduceCtorEq, Int.reduceLE, Int.reduceLT, Int.toNat_natCast, Int.reduceToNat, Int.reduceAdd, Int.reduceSub, Int.reduceMul, Int.reduceNeg, Int.reduceBEq, Int.reduceBNe, Int.reduceEq, Nat.sub_zero, PH.ob_push, eqCell, eqCells, binP, unP, convP, lenP, builtinP, sliceDataP, unsafeStringP, appendT, appendS, appendP, copyP, srcP, mmsP, mmP, indexOp, indexAddrOp, sliceOp, bndsP, bndP, capw, capCut, loadOp, storeOp, loadP, fieldOp, fieldAddrOp, arrayAtOp, buildP, buildSliceP, makeSliceP, placeF, fillP, setL, PK.agg, isZero, List.all_cons, List.all_nil, List.flatten_cons, List.flatten_nil, List.replicate_succ, List.replicate_zero, gt_iff_lt, false_or, or_false, Nat.reducePow, List.take_succ_cons, List.drop_succ_cons, List.take_zero, List.drop_zero, List.length_set, List.length_append, decide_eq_true_eq, Nat.lt_irrefl, Nat.reduceGT, reps, seg, up_same, up_up, Option.join_some, Option.join_none, Option.bind_none, ncN, IntWalk.i64_in, IntWalk.u8_in, IntWalk.u16_in, IntWalk.u32_in, IntWalk.u64_in, if_pos, if_neg, wrap_i64_b, wrap_u8_b, wrap_u16_b, wrap_u32_b, wrap_u64_b, shl8_b, bytesPV_get, bytesPV_len, bytesOf_cons, bytesOf_nil, bytesOf_bytesPV, seg_bytes, Try.underlying3, Try.sz3, Try.by3, Try.kk3, Try.ze3, Try.ag3, Try.ap3, Try.iu3, Try.se3, Try.underlying4, Try.sz4, Try.by4, Try.kk4, Try.ze4, Try.ag4, Try.ap4, Try.iu4, Try.se4, Try.underlying5, Try.sz5, Try.by5, Try.kk5, Try.ze5, Try.ag5, Try.ap5, Try.iu5, Try.se5, Try.underlying9, Try.sz9, Try.by9, Try.kk9, Try.ze9, Try.ag9, Try.ap9, Try.iu9, Try.se9, Try.underlying52, Try.sz52, Try.by52, Try.kk52, Try.ze52, Try.ag52, Try.ap52, Try.iu52, Try.se52, Try.fl52_0, Try.fl52_1, Try.fl52_2, Try.pl52, Try.ft52, Try.eg52, resP, resPs, resP1]; rfl) | rfl) ⟨6, by repeat' first | exact frz_scalar rfl | apply frz_tuple | apply frz_agg | apply frz_fsl | apply frz_gsl (by omega) | exact frzs_nil | apply frzs_cons⟩ (by first | exact keepsH0 | exact keeps1 (by assumption) | exact keepsH (fun _ _ h => h) (fun p hp => by simp only [upF]; (repeat rw [if_neg (by omega)])) | exact keeps1t (by assumption) (fun p hp => by simp only [upF]; (repeat rw [if_neg (by omega)])) | (subst hT; exact keepsH (fun _ _ h => h) fun _ _ => rfl)) (nw_eq ?_)
      simp only [oneT]
      repeat first | rw [if_pos (by omega)] | rw [if_neg (by omega)]
      simp [krC, kr0, *]

theorem krC_get (r : KR) : (krC r)[2]? = some (.str r.b) ∧ (krC r)[1]? = some (.int .i64 r.k) := ⟨rfl, rfl⟩

/-- Records, one after another, up to the end's: from a place on. -/
def readG (s : List UInt8) : Nat → Nat → List KR × Nat × Int
  | 0, _ => ([], 0, 12)
  | f + 1, a =>
    if (oneT a (s.drop a)).2 ≠ 0 then ([], 0, (oneT a (s.drop a)).2)
    else if (oneT a (s.drop a)).1.k = 0 then ([(oneT a (s.drop a)).1], a + 4 + (oneT a (s.drop a)).1.b.length, 0)
    else if (readG s f (a + 4 + (oneT a (s.drop a)).1.b.length)).2.2 ≠ 0 then ([], 0, (readG s f (a + 4 + (oneT a (s.drop a)).1.b.length)).2.2)
    else ((oneT a (s.drop a)).1 :: (readG s f (a + 4 + (oneT a (s.drop a)).1.b.length)).1, (readG s f (a + 4 + (oneT a (s.drop a)).1.b.length)).2.1, 0)
def fuelK : Nat := 600
def readL (s : List UInt8) : List KR × List UInt8 × Int := let x := readG s fuelK 0; (x.1, if x.2.2 = 0 then s.drop x.2.1 else [], x.2.2)

/-- What is behind a record that was read. -/
theorem oneT_le {a : Nat} {s : List UInt8} (h : (oneT a s).2 = 0) : 4 + (oneT a s).1.b.length ≤ s.length ∧ a + 4 + (oneT a s).1.b.length ≤ 2048 := by
  unfold oneT at h ⊢
  split
  · simp only at h ⊢
    repeat' (split at h)
    all_goals first
      | (simp at h; done)
      | (rename_i h1 h2 h3
         rw [if_neg h1, if_neg h2, if_neg h3]
         simp only [List.length_cons, List.length_take]; omega)
  · simp at h

/-- A walk through a text. -/
inductive Walk (s : List UInt8) : Nat → List KR → Prop
  | nil : Walk s 0 []
  | snoc {a : Nat} {l : List KR} (h : Walk s a l) (h1 : (oneT a (s.drop a)).2 = 0) (h2 : (oneT a (s.drop a)).1.k ≠ 0) : Walk s (a + 4 + (oneT a (s.drop a)).1.b.length) (l ++ [(oneT a (s.drop a)).1])

theorem Walk.le {s : List UInt8} {a : Nat} {l : List KR} (h : Walk s a l) : a ≤ s.length ∧ a ≤ 2048 ∧ 4 * l.length ≤ a := by
  induction h with
  | nil => simp
  | snoc h h1 h2 ih =>
    have := oneT_le h1
    rw [List.length_drop] at this
    simp only [List.length_append, List.length_cons, List.length_nil]; omega

theorem Walk.read {s : List UInt8} {a : Nat} {l : List KR} (h : Walk s a l) : ∃ f, f + l.length = fuelK ∧ 0 < f ∧ readG s fuelK 0 = (if (readG s f a).2.2 ≠ 0 then ([], 0, (readG s f a).2.2) else (l ++ (readG s f a).1, (readG s f a).2.1, 0)) := by
  induction h with
  | nil =>
    refine ⟨fuelK, rfl, by decide, ?_⟩
    have key : ∀ f a, (readG s f a).2.2 ≠ 0 → readG s f a = ([], 0, (readG s f a).2.2) := by
      intro f
      cases f with
      | zero => intro a _; rfl
      | succ f =>
        intro a h
        simp only [readG] at h ⊢
        repeat' split at h
        all_goals first
          | (simp at h; done)
          | (rename_i h1; rw [if_pos h1]; done)
          | (rename_i h1 h2 h3; rw [if_neg h1, if_neg h2, if_pos h3]; done)
          | (rename_i h1 h2 h3; simp at h)
    have key2 : ∀ f a, (readG s f a).2.2 = 0 → readG s f a = ((readG s f a).1, (readG s f a).2.1, 0) := by
      intro f a h; rw [← h]
    split
    · rename_i h; exact key _ _ h
    · rename_i h; rw [List.nil_append]; exact key2 _ _ (Decidable.of_not_not h)
  | snoc h h1 h2 ih =>
    obtain ⟨f, e1, e2, e3⟩ := ih
    have hl := (Walk.snoc h h1 h2).le
    simp only [List.length_append, List.length_cons, List.length_nil] at hl ⊢
    have hf : fuelK = 600 := rfl
    obtain ⟨g, rfl⟩ : ∃ g, f = g + 1 := ⟨f - 1, by omega⟩
    refine ⟨g, by omega, by omega, ?_⟩
    rw [e3]
    simp only [readG, if_neg (show ¬ (oneT _ (s.drop _)).2 ≠ 0 by simpa using h1), if_neg h2]
    split
    · rename_i h5; simp
    · rename_i h5; simp

theorem Walk.err {s : List UInt8} {a : Nat} {l : List KR} (h : Walk s a l) (e : (oneT a (s.drop a)).2 ≠ 0) : readL s = ([], [], (oneT a (s.drop a)).2) := by
  obtain ⟨f, e1, e2, e3⟩ := h.read
  obtain ⟨g, rfl⟩ : ∃ g, f = g + 1 := ⟨f - 1, by omega⟩
  simp only [readG, if_pos e] at e3
  simp only [readL, e3, if_neg e]
theorem Walk.fin {s : List UInt8} {a : Nat} {l : List KR} (h : Walk s a l) (h1 : (oneT a (s.drop a)).2 = 0) (h2 : (oneT a (s.drop a)).1.k = 0) : readL s = (l ++ [(oneT a (s.drop a)).1], s.drop (a + 4 + (oneT a (s.drop a)).1.b.length), 0) := by
  obtain ⟨f, e1, e2, e3⟩ := h.read
  obtain ⟨g, rfl⟩ : ∃ g, f = g + 1 := ⟨f - 1, by omega⟩
  simp only [readG, if_neg (show ¬ (oneT a (s.drop a)).2 ≠ 0 by simpa using h1), if_pos h2] at e3
  simp [readL, e3]

theorem oneT_len (a : Nat) (s : List UInt8) : (oneT a s).1.b.length ≤ s.length := by
  unfold oneT
  split
  · simp only
    repeat' split
    all_goals simp [kr0]
    omega
  · simp [kr0]
end Pv
