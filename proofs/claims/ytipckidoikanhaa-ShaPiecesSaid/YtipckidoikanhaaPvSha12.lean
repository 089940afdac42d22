/- Part of the proof: the layer of pure values, or a walk through a function (PvSha12). -/
import Derived.Test.YtipckidoikanhaaPvSha11
set_option linter.all false
namespace Pv
set_option maxRecDepth 20000
set_option maxHeartbeats 4000000
open Go Go.Proofs Go.RowKit
variable {w0 : World}

/-- A hash's cells, of the record. -/
abbrev hH (x : HS) : List PV := hc x.h x.left x.n
theorem writeX_ok (x : HS) (h8 : x.h.length = 8) (s : List UInt8) (hb : x.left.length + s.length < 2 ^ 46) : Fn (Cx w0) 17 [.agg (hH x), .str s] (.agg (hH (writeH x s))) := write_ok x.h h8 x.left x.n s hb
theorem sumX_ok (x : HS) (h8 : x.h.length = 8) (hl : x.left.length < 64) : Fn (Cx w0) 19 [.agg (hH x)] (.str (sumH x)) := sum_ok x.h h8 x.left hl x.n
theorem fitX_ok (x : HS) (h8 : x.h.length = 8) (hl : x.left.length ≤ maxLen) : Fn (Cx w0) 18 [.agg (hH x)] (.bool (fitH x)) := refFit_ok x.h h8 x.left hl x.n
/-- The first i texts, one behind the other. -/
def firstL (L : List (List UInt8)) (i : Nat) : List UInt8 := (L.take i).flatten
theorem firstL_next {L : List (List UInt8)} {i : Nat} {s : List UInt8} (h : L[i]? = some s) : firstL L (i + 1) = firstL L i ++ s := by rw [firstL, take_next h, List.flatten_append]; simp [firstL]
theorem firstL_le (L : List (List UInt8)) : ∀ i, (firstL L i).length ≤ (firstL L (i + 1)).length := fun i => by
  cases h : L[i]? with
  | none => rw [List.getElem?_eq_none_iff] at h; rw [firstL, firstL, List.take_of_length_le h, List.take_of_length_le (by omega)]; exact Nat.le_refl _
  | some s => rw [firstL_next h, List.length_append]; omega
theorem firstL_mono (L : List (List UInt8)) (i : Nat) : ∀ j, i ≤ j → (firstL L i).length ≤ (firstL L j).length
  | 0, h => by have : i = 0 := by omega
               subst this; exact Nat.le_refl _
  | j + 1, h => by
    rcases Nat.lt_or_ge i (j + 1) with h1 | h1
    · exact Nat.le_trans (firstL_mono L i j (by omega)) (firstL_le L j)
    · have : i = j + 1 := by omega
      subst this; exact Nat.le_refl _

/-- What the hash is after the first j texts, if it can be. -/
def YY (L : List (List UInt8)) (x : HS) (j : Nat) : HS := if fitH x = true then writeH x (firstL L j) else x
theorem YY_len (L : List (List UInt8)) (x : HS) (h : x.h.length = 8) (j : Nat) : (YY L x j).h.length = 8 := by rw [YY]; split; exact (write_len x _ h).1; exact h
theorem YY_left (L : List (List UInt8)) (x : HS) (h : x.h.length = 8) (hb : fitH x = true) (j : Nat) : (YY L x j).left.length < 64 := by rw [YY, if_pos hb, (write_len x _ h).2]; omega
theorem ShaPieces_ok (W : World) (c0 : List PV) (o0 : OkL [.int .u32, .int .u32, .int .u32, .int .u32, .int .u32, .int .u32, .int .u32, .int .u32, .str, .int .u64] c0) (n1 : Nat) (c1 : List PV) (l1 : n1 ≤ maxLen) (o1 : OkR [.str] n1 c1) :
    Fn (Cx W) 5 [.agg c0, .fsl 1 n1 c1] (.bool true) := by
  obtain ⟨h, lf, n, h8, hlf, rfl⟩ := okL_hash o0
  obtain ⟨L, hL, hmax, rfl⟩ := okL_strs o1
  obtain ⟨x0, hx0⟩ : ∃ x0 : HS, x0 = ⟨h, lf, n⟩ := ⟨_, rfl⟩
  have hx8 : x0.h.length = 8 := by rw [hx0]; exact h8
  have hxl : x0.left.length ≤ maxLen := by rw [hx0]; exact hlf
  rw [show hc h lf n = hH x0 by rw [hx0]]
  clear hx0
  have aw := awake06_ok (w0 := W)
  have f0 := fitX_ok (w0 := W) x0 hx8 hxl
  have z8 := z8W_len
  have hn1 : n1 ≤ 2 ^ 63 - 1 := l1
  have hN : (newH).h.length = 8 := rfl
  refine fn_H ([Go.ResultVar.tmp 4]) Try.func5 rfl rfl (by decide) fun ph hW Q hQ => ?_
  simp only [start, List.length_cons, List.length_nil, List.cons_append, List.nil_append, Nat.reduceAdd, Nat.reduceSub, List.replicate_succ, List.replicate_zero, Try.ntmps5]
  repeat' first
    | simp -implicitDefEqProofs (maxSteps := 400000) (disch := first | with_reducible rfl | omega | (simp only [h_n, PH.n_push, PH.n_put, List.length_cons, List.length_nil] <;> omega) | decide) only [wkAll, wkL, popO, wantedP, if_true, if_false, reduceIte, ne_eq, Nat.reduceAdd, Nat.reduceSub, Nat.reduceMul, Nat.reduceLeDiff, Nat.reduceLT, ofCells, ofCell, reduceCtorEq, Int.reduceLE, Int.reduceLT, Int.reduceToNat, Int.reduceAdd, Int.reduceSub, Int.reduceMul, Int.reduceNeg, Int.reduceBEq, Int.reduceBNe, Int.reduceEq, eqCell, eqCells, binP, unP, convP, lenP, builtinP, sliceDataP, unsafeStringP, appendT, appendS, appendP, copyP, srcP, mmsP, mmP, indexOp, indexAddrOp, sliceOp, bndsP, bndP, capw, capCut, loadOp, storeOp, loadP, fieldOp, fieldAddrOp, arrayAtOp, buildP, buildSliceP, makeSliceP, placeF, fillP, setL, PK.agg, isZero, gt_iff_lt, Nat.reducePow, Nat.reduceGT, reps, seg, wkN, if_pos, if_neg, t_nil, t_no, t_mv, t_fx, t_op, t_true, t_false, t_mvk, t_se0, t_se, and_true, tf3, Try.ze3, tf4, Try.ze4, tf9, Try.ze9, tf22, Try.ze22, tf23, Try.ze23, tf35, Try.ze35, tf37, Try.ze37, tf38, Try.ze38, -Try.ze37, ze37h, Try.sz37, hc_len, hc_g8, hc_g9, hc_s8, hc_s9, hc_sH, hc_all, hc_t10, hc_t8, hc_ok]
    | refine w_dec (fun _ => ?_) (fun _ => ?_)
    | refine w_eqc (fun _ => ?_) (fun _ => ?_)
    | refine w_neqc (fun _ => ?_) (fun _ => ?_)
    | refine w_nneqc (fun _ => ?_) (fun _ => ?_)
    | ((first | refine w_split (fun h => ?_) (fun h => ?_) | refine d_split (fun h => ?_) (fun h => ?_) | refine w_csplit (fun h => ?_) (fun h => ?_)) <;> (try simp only [Bool.not_eq_true', Bool.not_eq_false', Bool.not_true, Bool.not_false] at h) <;> (have h2 := h) <;> (try simp only [decide_eq_true_eq, decide_eq_false_iff_not, beq_iff_eq, beq_eq_false_iff_ne, bne_iff_ne, bne_eq_false_iff_eq, Int.not_lt, Int.not_le, ne_eq] at h2) <;> (try simp only [h]))
    | refine And.intro ?_ ?_
    | refine w_drawnT (id := 9) (.mv 1 (.fx 0 [1] (.fx 2 [1] (.fx 3 [1] (.fx 4 [1] (.fx 5 [] .nil .no) .no) .no) (.fx 3 [1] (.fx 2 [1] (.fx 4 [1] (.fx 5 [] .nil .no) .no) .no) .no)) (.fx 2 [1] (.fx 0 [1] (.fx 3 [1] (.fx 4 [1] (.fx 5 [] .nil .no) .no) .no) (.fx 3 [1] (.fx 0 [1] (.fx 4 [1] (.fx 5 [] .nil .no) .no) .no) .no)) (.fx 3 [1] (.fx 0 [1] (.fx 2 [1] (.fx 4 [1] (.fx 5 [] .nil .no) .no) .no) (.fx 2 [1] (.fx 0 [1] (.fx 4 [1] (.fx 5 [] .nil .no) .no) .no) .no)) .no)))) [0, 1, 2, 3, 4, 5] 33 (by kernel_rfl) (by kernel_rfl) (by simp) ?_
    | refine w_drawn (id := 20) [(0, true, []), (1, false, []), (2, true, []), (3, true, []), (4, true, []), (5, true, []), (6, true, []), (7, false, [4]), (8, true, []), (9, true, []), (10, true, []), (11, false, []), (12, true, []), (13, false, [])] 74 (by kernel_rfl) (by kernel_rfl) (by simp) ?_
  refine w_loopH (α := Nat) ph ph.ob ph.ty (fun i => [.undef, .fsl 1 n1 (L.map PV.str), .ptr ph.n 0, .undef, .undef, .str [], .int .i64 ((firstL L i).length : Int), .undef, .undef, .undef, .undef, .undef, .undef, .fsl 1 n1 (L.map PV.str), .int .i64 n1, .int .i64 i, .undef, .undef, .undef, .undef, .undef, .undef, .undef, .undef, .undef, .undef, .undef, .undef, .undef, .undef, .undef, .undef, .undef, .undef, .undef, .undef, .undef, .undef, .undef, .undef, .undef, .undef, .undef, .undef, .undef, .undef, .undef, .undef, .undef, .undef, .undef, .undef, .undef, .undef, .undef, .undef, .undef, .undef, .undef, .undef, .undef, .undef, .undef, .undef, .undef, .undef, .undef, .undef, .undef, .undef, .undef, .undef, .undef, .undef]) (fun _ => [some (.own (hH x0))]) (fun i => i ≤ n1 ∧ (firstL L i).length ≤ 20000) (fun i => n1 - i) 0 ⟨Nat.zero_le _, by simp [firstL]⟩ (fun _ _ => by simp) (.eq (by simp [FadeTo, firstL]) rfl) ?_
  rintro i ⟨hi, hfi⟩ K hK
  rcases Nat.lt_or_ge i n1 with hlt | hge
  · have hlt' : (i : Int) < (n1 : Int) := by omega
    obtain ⟨s, hs⟩ := get_someW (show i < L.length by omega)
    have hsl : s.length ≤ 2 ^ 63 - 1 := hmax s (List.mem_of_getElem? hs)
    have cs : (L.map PV.str)[i]? = some (.str s) := by rw [List.getElem?_map, hs]; rfl
    have hnx := firstL_next hs
    have e0 : ((firstL L i).length : Int) + (s.length : Int) = (((firstL L i).length + s.length : Nat) : Int) := by omega
    have hnl : (firstL L (i + 1)).length = (firstL L i).length + s.length := by rw [hnx, List.length_append]
    generalize (firstL L i).length = t at *
    by_cases h1 : t + s.length ≤ 20000
    · have hw : IntKind.wrap .i64 ((t + s.length : Nat) : Int) = ((t + s.length : Nat) : Int) := by rw [wrap_i64] <;> omega
      have q1 : ¬ (20000 : Int) < ((t + s.length : Nat) : Int) := by omega
      have q2 : ¬ ((t + s.length : Nat) : Int) < 0 := by omega
      repeat' first
        | simp -implicitDefEqProofs (maxSteps := 400000) (disch := first | with_reducible rfl | omega | (simp only [h_n, PH.n_push, PH.n_put, List.length_cons, List.length_nil] <;> omega) | decide) only [wkAll, wkL, popO, wantedP, if_true, if_false, reduceIte, ne_eq, Nat.reduceAdd, Nat.reduceSub, Nat.reduceMul, Nat.reduceLeDiff, Nat.reduceLT, ofCells, ofCell, reduceCtorEq, Int.reduceLE, Int.reduceLT, Int.reduceToNat, Int.reduceAdd, Int.reduceSub, Int.reduceMul, Int.reduceNeg, Int.reduceBEq, Int.reduceBNe, Int.reduceEq, eqCell, eqCells, binP, unP, convP, lenP, builtinP, sliceDataP, unsafeStringP, appendT, appendS, appendP, copyP, srcP, mmsP, mmP, indexOp, indexAddrOp, sliceOp, bndsP, bndP, capw, capCut, loadOp, storeOp, loadP, fieldOp, fieldAddrOp, arrayAtOp, buildP, buildSliceP, makeSliceP, placeF, fillP, setL, PK.agg, isZero, gt_iff_lt, Nat.reducePow, Nat.reduceGT, reps, seg, wkN, if_pos, if_neg, t_nil, t_no, t_mv, t_fx, t_op, t_true, t_false, t_mvk, t_se0, t_se, and_true, tf3, Try.ze3, tf4, Try.ze4, tf9, Try.ze9, tf22, Try.ze22, tf23, Try.ze23, tf35, Try.ze35, tf37, Try.ze37, tf38, Try.ze38, hlt', List.getElem?_drop, cs, e0, hw, q1, q2]
        | refine w_dec (fun _ => ?_) (fun _ => ?_)
        | refine w_eqc (fun _ => ?_) (fun _ => ?_)
        | refine w_neqc (fun _ => ?_) (fun _ => ?_)
        | refine w_nneqc (fun _ => ?_) (fun _ => ?_)
        | ((first | refine w_split (fun h => ?_) (fun h => ?_) | refine d_split (fun h => ?_) (fun h => ?_) | refine w_csplit (fun h => ?_) (fun h => ?_)) <;> (try simp only [Bool.not_eq_true', Bool.not_eq_false', Bool.not_true, Bool.not_false] at h) <;> (have h2 := h) <;> (try simp only [decide_eq_true_eq, decide_eq_false_iff_not, beq_iff_eq, beq_eq_false_iff_ne, bne_iff_ne, bne_eq_false_iff_eq, Int.not_lt, Int.not_le, ne_eq] at h2) <;> (try simp only [h]))
        | refine And.intro ?_ ?_
        | refine w_drawnT (id := 9) (.mv 1 (.fx 0 [1] (.fx 2 [1] (.fx 3 [1] (.fx 4 [1] (.fx 5 [] .nil .no) .no) .no) (.fx 3 [1] (.fx 2 [1] (.fx 4 [1] (.fx 5 [] .nil .no) .no) .no) .no)) (.fx 2 [1] (.fx 0 [1] (.fx 3 [1] (.fx 4 [1] (.fx 5 [] .nil .no) .no) .no) (.fx 3 [1] (.fx 0 [1] (.fx 4 [1] (.fx 5 [] .nil .no) .no) .no) .no)) (.fx 3 [1] (.fx 0 [1] (.fx 2 [1] (.fx 4 [1] (.fx 5 [] .nil .no) .no) .no) (.fx 2 [1] (.fx 0 [1] (.fx 4 [1] (.fx 5 [] .nil .no) .no) .no) .no)) .no)))) [0, 1, 2, 3, 4, 5] 33 (by kernel_rfl) (by kernel_rfl) (by simp) ?_
        | refine w_drawn (id := 20) [(0, true, []), (1, false, []), (2, true, []), (3, true, []), (4, true, []), (5, true, []), (6, true, []), (7, false, [4]), (8, true, []), (9, true, []), (10, true, []), (11, false, []), (12, true, []), (13, false, [])] 74 (by kernel_rfl) (by kernel_rfl) (by simp) ?_
      refine hK (i + 1) _ _ ⟨by omega, by omega⟩ (by omega) (.eq (by simp [FadeTo, hnl]) rfl)
    · by_cases h2 : t + s.length < 2 ^ 63
      · have hw : IntKind.wrap .i64 ((t + s.length : Nat) : Int) = ((t + s.length : Nat) : Int) := by rw [wrap_i64] <;> omega
        have q1 : (20000 : Int) < ((t + s.length : Nat) : Int) := by omega
        repeat' first
          | simp -implicitDefEqProofs (maxSteps := 400000) (disch := first | with_reducible rfl | omega | (simp only [h_n, PH.n_push, PH.n_put, List.length_cons, List.length_nil] <;> omega) | decide) only [wkAll, wkL, popO, wantedP, if_true, if_false, reduceIte, ne_eq, Nat.reduceAdd, Nat.reduceSub, Nat.reduceMul, Nat.reduceLeDiff, Nat.reduceLT, ofCells, ofCell, reduceCtorEq, Int.reduceLE, Int.reduceLT, Int.reduceToNat, Int.reduceAdd, Int.reduceSub, Int.reduceMul, Int.reduceNeg, Int.reduceBEq, Int.reduceBNe, Int.reduceEq, eqCell, eqCells, binP, unP, convP, lenP, builtinP, sliceDataP, unsafeStringP, appendT, appendS, appendP, copyP, srcP, mmsP, mmP, indexOp, indexAddrOp, sliceOp, bndsP, bndP, capw, capCut, loadOp, storeOp, loadP, fieldOp, fieldAddrOp, arrayAtOp, buildP, buildSliceP, makeSliceP, placeF, fillP, setL, PK.agg, isZero, gt_iff_lt, Nat.reducePow, Nat.reduceGT, reps, seg, wkN, if_pos, if_neg, t_nil, t_no, t_mv, t_fx, t_op, t_true, t_false, t_mvk, t_se0, t_se, and_true, tf3, Try.ze3, tf4, Try.ze4, tf9, Try.ze9, tf22, Try.ze22, tf23, Try.ze23, tf35, Try.ze35, tf37, Try.ze37, tf38, Try.ze38, hlt', List.getElem?_drop, cs, e0, hw, q1]
          | refine w_pure (aw) ?_
          | refine w_dec (fun _ => ?_) (fun _ => ?_)
          | refine w_eqc (fun _ => ?_) (fun _ => ?_)
          | refine w_neqc (fun _ => ?_) (fun _ => ?_)
          | refine w_nneqc (fun _ => ?_) (fun _ => ?_)
          | ((first | refine w_split (fun h => ?_) (fun h => ?_) | refine d_split (fun h => ?_) (fun h => ?_) | refine w_csplit (fun h => ?_) (fun h => ?_)) <;> (try simp only [Bool.not_eq_true', Bool.not_eq_false', Bool.not_true, Bool.not_false] at h) <;> (have h2 := h) <;> (try simp only [decide_eq_true_eq, decide_eq_false_iff_not, beq_iff_eq, beq_eq_false_iff_ne, bne_iff_ne, bne_eq_false_iff_eq, Int.not_lt, Int.not_le, ne_eq] at h2) <;> (try simp only [h]))
          | refine And.intro ?_ ?_
          | refine w_drawnT (id := 9) (.mv 1 (.fx 0 [1] (.fx 2 [1] (.fx 3 [1] (.fx 4 [1] (.fx 5 [] .nil .no) .no) .no) (.fx 3 [1] (.fx 2 [1] (.fx 4 [1] (.fx 5 [] .nil .no) .no) .no) .no)) (.fx 2 [1] (.fx 0 [1] (.fx 3 [1] (.fx 4 [1] (.fx 5 [] .nil .no) .no) .no) (.fx 3 [1] (.fx 0 [1] (.fx 4 [1] (.fx 5 [] .nil .no) .no) .no) .no)) (.fx 3 [1] (.fx 0 [1] (.fx 2 [1] (.fx 4 [1] (.fx 5 [] .nil .no) .no) .no) (.fx 2 [1] (.fx 0 [1] (.fx 4 [1] (.fx 5 [] .nil .no) .no) .no) .no)) .no)))) [0, 1, 2, 3, 4, 5] 33 (by kernel_rfl) (by kernel_rfl) (by simp) ?_
          | refine w_drawn (id := 20) [(0, true, []), (1, false, []), (2, true, []), (3, true, []), (4, true, []), (5, true, []), (6, true, []), (7, false, [4]), (8, true, []), (9, true, []), (10, true, []), (11, false, []), (12, true, []), (13, false, [])] 74 (by kernel_rfl) (by kernel_rfl) (by simp) ?_
        refine hQ (by first | exact .inr rfl | exact .inl rfl) (by first | exact trivial | exact marks1) (by first | (simp -implicitDefEqProofs (maxSteps := 400000) (disch := first | with_reducible rfl | omega | (simp only [h_n, PH.n_push, PH.n_put, List.length_cons, List.length_nil] <;> omega) | decide) only [wkAll, wkL, popO, wantedP, if_true, if_false, reduceIte, ne_eq, Nat.reduceAdd, Nat.reduceSub, Nat.reduceMul, Nat.reduceLeDiff, Nat.reduceLT, ofCells, ofCell, reduceCtorEq, Int.reduceLE, Int.reduceLT, Int.reduceToNat, Int.reduceAdd, Int.reduceSub, Int.reduceMul, Int.reduceNeg, Int.reduceBEq, Int.reduceBNe, Int.reduceEq, eqCell, eqCells, binP, unP, convP, lenP, builtinP, sliceDataP, unsafeStringP, appendT, appendS, appendP, copyP, srcP, mmsP, mmP, indexOp, indexAddrOp, sliceOp, bndsP, bndP, capw, capCut, loadOp, storeOp, loadP, fieldOp, fieldAddrOp, arrayAtOp, buildP, buildSliceP, makeSliceP, placeF, fillP, setL, PK.agg, isZero, gt_iff_lt, Nat.reducePow, Nat.reduceGT, reps, seg, wkN, if_pos, if_neg, t_nil, t_no, t_mv, t_fx, t_op, t_true, t_false, t_mvk, t_se0, t_se, and_true, tf3, Try.ze3, tf4, Try.ze4, tf9, Try.ze9, tf22, Try.ze22, tf23, Try.ze23, tf35, Try.ze35, tf37, Try.ze37, tf38, Try.ze38, resP, resPs, resP1]; rfl) | rfl) ⟨6, by repeat' first | exact frz_scalar rfl | apply frz_tuple | apply frz_agg | apply frz_fsl | apply frz_gsl (by omega) | exact frzs_nil | apply frzs_cons⟩ (by first | exact keepsH0 | exact keeps1 (by assumption) | exact keepsH (fun _ _ h => h) (fun p hp => by simp only [upF]; (repeat rw [if_neg (by omega)])) | exact keeps1t (by assumption) (fun p hp => by simp only [upF]; (repeat rw [if_neg (by omega)])) | (subst hT; exact keepsH (fun _ _ h => h) fun _ _ => rfl)) (nw_eq ?_)
        rfl
      · obtain ⟨v, hv⟩ : ∃ v, v = IntKind.wrap .i64 ((t + s.length : Nat) : Int) := ⟨_, rfl⟩
        have hv2 : v < 0 := by
          rw [hv]
          simp [IntKind.wrap, IntKind.bits, IntKind.signed]
          omega
        have hw := hv.symm
        have q1 : ¬ (20000 : Int) < v := by omega
        repeat' first
          | simp -implicitDefEqProofs (maxSteps := 400000) (disch := first | with_reducible rfl | omega | (simp only [h_n, PH.n_push, PH.n_put, List.length_cons, List.length_nil] <;> omega) | decide) only [wkAll, wkL, popO, wantedP, if_true, if_false, reduceIte, ne_eq, Nat.reduceAdd, Nat.reduceSub, Nat.reduceMul, Nat.reduceLeDiff, Nat.reduceLT, ofCells, ofCell, reduceCtorEq, Int.reduceLE, Int.reduceLT, Int.reduceToNat, Int.reduceAdd, Int.reduceSub, Int.reduceMul, Int.reduceNeg, Int.reduceBEq, Int.reduceBNe, Int.reduceEq, eqCell, eqCells, binP, unP, convP, lenP, builtinP, sliceDataP, unsafeStringP, appendT, appendS, appendP, copyP, srcP, mmsP, mmP, indexOp, indexAddrOp, sliceOp, bndsP, bndP, capw, capCut, loadOp, storeOp, loadP, fieldOp, fieldAddrOp, arrayAtOp, buildP, buildSliceP, makeSliceP, placeF, fillP, setL, PK.agg, isZero, gt_iff_lt, Nat.reducePow, Nat.reduceGT, reps, seg, wkN, if_pos, if_neg, t_nil, t_no, t_mv, t_fx, t_op, t_true, t_false, t_mvk, t_se0, t_se, and_true, tf3, Try.ze3, tf4, Try.ze4, tf9, Try.ze9, tf22, Try.ze22, tf23, Try.ze23, tf35, Try.ze35, tf37, Try.ze37, tf38, Try.ze38, hlt', List.getElem?_drop, cs, e0, hw, q1, hv2]
          | refine w_pure (aw) ?_
          | refine w_dec (fun _ => ?_) (fun _ => ?_)
          | refine w_eqc (fun _ => ?_) (fun _ => ?_)
          | refine w_neqc (fun _ => ?_) (fun _ => ?_)
          | refine w_nneqc (fun _ => ?_) (fun _ => ?_)
          | ((first | refine w_split (fun h => ?_) (fun h => ?_) | refine d_split (fun h => ?_) (fun h => ?_) | refine w_csplit (fun h => ?_) (fun h => ?_)) <;> (try simp only [Bool.not_eq_true', Bool.not_eq_false', Bool.not_true, Bool.not_false] at h) <;> (have h2 := h) <;> (try simp only [decide_eq_true_eq, decide_eq_false_iff_not, beq_iff_eq, beq_eq_false_iff_ne, bne_iff_ne, bne_eq_false_iff_eq, Int.not_lt, Int.not_le, ne_eq] at h2) <;> (try simp only [h]))
          | refine And.intro ?_ ?_
          | refine w_drawnT (id := 9) (.mv 1 (.fx 0 [1] (.fx 2 [1] (.fx 3 [1] (.fx 4 [1] (.fx 5 [] .nil .no) .no) .no) (.fx 3 [1] (.fx 2 [1] (.fx 4 [1] (.fx 5 [] .nil .no) .no) .no) .no)) (.fx 2 [1] (.fx 0 [1] (.fx 3 [1] (.fx 4 [1] (.fx 5 [] .nil .no) .no) .no) (.fx 3 [1] (.fx 0 [1] (.fx 4 [1] (.fx 5 [] .nil .no) .no) .no) .no)) (.fx 3 [1] (.fx 0 [1] (.fx 2 [1] (.fx 4 [1] (.fx 5 [] .nil .no) .no) .no) (.fx 2 [1] (.fx 0 [1] (.fx 4 [1] (.fx 5 [] .nil .no) .no) .no) .no)) .no)))) [0, 1, 2, 3, 4, 5] 33 (by kernel_rfl) (by kernel_rfl) (by simp) ?_
          | refine w_drawn (id := 20) [(0, true, []), (1, false, []), (2, true, []), (3, true, []), (4, true, []), (5, true, []), (6, true, []), (7, false, [4]), (8, true, []), (9, true, []), (10, true, []), (11, false, []), (12, true, []), (13, false, [])] 74 (by kernel_rfl) (by kernel_rfl) (by simp) ?_
        refine hQ (by first | exact .inr rfl | exact .inl rfl) (by first | exact trivial | exact marks1) (by first | (simp -implicitDefEqProofs (maxSteps := 400000) (disch := first | with_reducible rfl | omega | (simp only [h_n, PH.n_push, PH.n_put, List.length_cons, List.length_nil] <;> omega) | decide) only [wkAll, wkL, popO, wantedP, if_true, if_false, reduceIte, ne_eq, Nat.reduceAdd, Nat.reduceSub, Nat.reduceMul, Nat.reduceLeDiff, Nat.reduceLT, ofCells, ofCell, reduceCtorEq, Int.reduceLE, Int.reduceLT, Int.reduceToNat, Int.reduceAdd, Int.reduceSub, Int.reduceMul, Int.reduceNeg, Int.reduceBEq, Int.reduceBNe, Int.reduceEq, eqCell, eqCells, binP, unP, convP, lenP, builtinP, sliceDataP, unsafeStringP, appendT, appendS, appendP, copyP, srcP, mmsP, mmP, indexOp, indexAddrOp, sliceOp, bndsP, bndP, capw, capCut, loadOp, storeOp, loadP, fieldOp, fieldAddrOp, arrayAtOp, buildP, buildSliceP, makeSliceP, placeF, fillP, setL, PK.agg, isZero, gt_iff_lt, Nat.reducePow, Nat.reduceGT, reps, seg, wkN, if_pos, if_neg, t_nil, t_no, t_mv, t_fx, t_op, t_true, t_false, t_mvk, t_se0, t_se, and_true, tf3, Try.ze3, tf4, Try.ze4, tf9, Try.ze9, tf22, Try.ze22, tf23, Try.ze23, tf35, Try.ze35, tf37, Try.ze37, tf38, Try.ze38, resP, resPs, resP1]; rfl) | rfl) ⟨6, by repeat' first | exact frz_scalar rfl | apply frz_tuple | apply frz_agg | apply frz_fsl | apply frz_gsl (by omega) | exact frzs_nil | apply frzs_cons⟩ (by first | exact keepsH0 | exact keeps1 (by assumption) | exact keepsH (fun _ _ h => h) (fun p hp => by simp only [upF]; (repeat rw [if_neg (by omega)])) | exact keeps1t (by assumption) (fun p hp => by simp only [upF]; (repeat rw [if_neg (by omega)])) | (subst hT; exact keepsH (fun _ _ h => h) fun _ _ => rfl)) (nw_eq ?_)
        rfl
  · have hge' : ¬ (i : Int) < (n1 : Int) := by omega
    have : i = n1 := by omega
    subst this
    have nw := new_ok (w0 := W)
    obtain ⟨y0, hy0⟩ : ∃ y0, y0 = newH := ⟨_, rfl⟩
    rw [← hy0] at hN
    have nw2 : Fn (Cx W) 16 [] (.agg (hH y0)) := by rw [hy0]; exact nw
    have hX0 : writeH newH (firstL L 0) = y0 := by rw [hy0]; exact write_nil newH (by decide)
    have hY0 : YY L x0 0 = x0 := by
      rw [YY]; split
      · rename_i hb; exact write_nil x0 ((fitH_iff x0).1 hb).1
      · rfl
    clear nw
    repeat' first
      | simp -implicitDefEqProofs (maxSteps := 400000) (disch := first | with_reducible rfl | omega | (simp only [h_n, PH.n_push, PH.n_put, List.length_cons, List.length_nil] <;> omega) | decide) only [wkAll, wkL, popO, wantedP, if_true, if_false, reduceIte, ne_eq, Nat.reduceAdd, Nat.reduceSub, Nat.reduceMul, Nat.reduceLeDiff, Nat.reduceLT, ofCells, ofCell, reduceCtorEq, Int.reduceLE, Int.reduceLT, Int.reduceToNat, Int.reduceAdd, Int.reduceSub, Int.reduceMul, Int.reduceNeg, Int.reduceBEq, Int.reduceBNe, Int.reduceEq, eqCell, eqCells, binP, unP, convP, lenP, builtinP, sliceDataP, unsafeStringP, appendT, appendS, appendP, copyP, srcP, mmsP, mmP, indexOp, indexAddrOp, sliceOp, bndsP, bndP, capw, capCut, loadOp, storeOp, loadP, fieldOp, fieldAddrOp, arrayAtOp, buildP, buildSliceP, makeSliceP, placeF, fillP, setL, PK.agg, isZero, gt_iff_lt, Nat.reducePow, Nat.reduceGT, reps, seg, wkN, if_pos, if_neg, t_nil, t_no, t_mv, t_fx, t_op, t_true, t_false, t_mvk, t_se0, t_se, and_true, tf3, Try.ze3, tf4, Try.ze4, tf9, Try.ze9, tf22, Try.ze22, tf23, Try.ze23, tf35, Try.ze35, tf37, Try.ze37, tf38, Try.ze38, hge']
      | refine w_dec (fun _ => ?_) (fun _ => ?_)
      | refine w_eqc (fun _ => ?_) (fun _ => ?_)
      | refine w_neqc (fun _ => ?_) (fun _ => ?_)
      | refine w_nneqc (fun _ => ?_) (fun _ => ?_)
      | ((first | refine w_split (fun h => ?_) (fun h => ?_) | refine d_split (fun h => ?_) (fun h => ?_) | refine w_csplit (fun h => ?_) (fun h => ?_)) <;> (try simp only [Bool.not_eq_true', Bool.not_eq_false', Bool.not_true, Bool.not_false] at h) <;> (have h2 := h) <;> (try simp only [decide_eq_true_eq, decide_eq_false_iff_not, beq_iff_eq, beq_eq_false_iff_ne, bne_iff_ne, bne_eq_false_iff_eq, Int.not_lt, Int.not_le, ne_eq] at h2) <;> (try simp only [h]))
      | refine And.intro ?_ ?_
    refine w_cutR (fun e s' ph' => e = .normal ∧ ∃ c : Bool, s' = ⟨[.undef, .fsl 1 i (L.map PV.str), .ptr ph.n 0, .undef, .undef, .str [], .int .i64 ((firstL L i).length : Int), .undef, .undef, .ptr (ph.n + if c then 1 else 2) 0, .ptr (ph.n + if c then 2 else 1) 0, .undef, .undef, .fsl 1 i (L.map PV.str), .int .i64 i, .int .i64 i, .bool false, .undef, .undef, .undef, .undef, .undef, .undef, .undef, .undef, .undef, .undef, .undef, .undef, .undef, .undef, .agg (hH y0), .agg (hH x0), .undef, .undef, .undef, .undef, .undef, .undef, .undef, .undef, .undef, .undef, .undef, .undef, .undef, .undef, .undef, .undef, .undef, .undef, .undef, .undef, .undef, .undef, .undef, .undef, .undef, .undef, .undef, .undef, .undef, .undef, .undef, .undef, .undef, .undef, .undef, .undef, .undef, .undef, .undef, .undef, .undef], []⟩ ∧ ph' = H ph [some (.own (hH x0)), some (.own (hH (if c then y0 else x0))), some (.own (hH (if c then x0 else y0)))] ph.ob ph.ty) ?_ ?_
    ·
      repeat' first
        | simp -implicitDefEqProofs (maxSteps := 400000) (disch := first | with_reducible rfl | omega | (simp only [h_n, PH.n_push, PH.n_put, List.length_cons, List.length_nil] <;> omega) | decide) only [wkAll, wkL, popO, wantedP, if_true, if_false, reduceIte, ne_eq, Nat.reduceAdd, Nat.reduceSub, Nat.reduceMul, Nat.reduceLeDiff, Nat.reduceLT, ofCells, ofCell, reduceCtorEq, Int.reduceLE, Int.reduceLT, Int.reduceToNat, Int.reduceAdd, Int.reduceSub, Int.reduceMul, Int.reduceNeg, Int.reduceBEq, Int.reduceBNe, Int.reduceEq, eqCell, eqCells, binP, unP, convP, lenP, builtinP, sliceDataP, unsafeStringP, appendT, appendS, appendP, copyP, srcP, mmsP, mmP, indexOp, indexAddrOp, sliceOp, bndsP, bndP, capw, capCut, loadOp, storeOp, loadP, fieldOp, fieldAddrOp, arrayAtOp, buildP, buildSliceP, makeSliceP, placeF, fillP, setL, PK.agg, isZero, gt_iff_lt, Nat.reducePow, Nat.reduceGT, reps, seg, wkN, if_pos, if_neg, t_nil, t_no, t_mv, t_fx, t_op, t_true, t_false, t_mvk, t_se0, t_se, and_true, tf3, Try.ze3, tf4, Try.ze4, tf9, Try.ze9, tf22, Try.ze22, tf23, Try.ze23, tf35, Try.ze35, tf37, Try.ze37, tf38, Try.ze38, -Try.ze37, ze37h, Try.sz37, hc_len, hc_g8, hc_g9, hc_s8, hc_s9, hc_sH, hc_all, hc_t10, hc_t8, hc_ok]
        | refine w_pure (nw2) ?_
        | refine w_dec (fun _ => ?_) (fun _ => ?_)
        | refine w_eqc (fun _ => ?_) (fun _ => ?_)
        | refine w_neqc (fun _ => ?_) (fun _ => ?_)
        | refine w_nneqc (fun _ => ?_) (fun _ => ?_)
        | ((first | refine w_split (fun h => ?_) (fun h => ?_) | refine d_split (fun h => ?_) (fun h => ?_) | refine w_csplit (fun h => ?_) (fun h => ?_)) <;> (try simp only [Bool.not_eq_true', Bool.not_eq_false', Bool.not_true, Bool.not_false] at h) <;> (have h2 := h) <;> (try simp only [decide_eq_true_eq, decide_eq_false_iff_not, beq_iff_eq, beq_eq_false_iff_ne, bne_iff_ne, bne_eq_false_iff_eq, Int.not_lt, Int.not_le, ne_eq] at h2) <;> (try simp only [h]))
        | refine And.intro ?_ ?_
        | refine w_drawnT (id := 9) (.mv 1 (.fx 0 [1] (.fx 2 [1] (.fx 3 [1] (.fx 4 [1] (.fx 5 [] .nil .no) .no) .no) (.fx 3 [1] (.fx 2 [1] (.fx 4 [1] (.fx 5 [] .nil .no) .no) .no) .no)) (.fx 2 [1] (.fx 0 [1] (.fx 3 [1] (.fx 4 [1] (.fx 5 [] .nil .no) .no) .no) (.fx 3 [1] (.fx 0 [1] (.fx 4 [1] (.fx 5 [] .nil .no) .no) .no) .no)) (.fx 3 [1] (.fx 0 [1] (.fx 2 [1] (.fx 4 [1] (.fx 5 [] .nil .no) .no) .no) (.fx 2 [1] (.fx 0 [1] (.fx 4 [1] (.fx 5 [] .nil .no) .no) .no) .no)) .no)))) [0, 1, 2, 3, 4, 5] 33 (by kernel_rfl) (by kernel_rfl) (by simp) ?_
        | refine w_drawn (id := 20) [(0, true, []), (1, false, []), (2, true, []), (3, true, []), (4, true, []), (5, true, []), (6, true, []), (7, false, [4]), (8, true, []), (9, true, []), (10, true, []), (11, false, []), (12, true, []), (13, false, [])] 74 (by kernel_rfl) (by kernel_rfl) (by simp) ?_
      all_goals first | exact ⟨true, rfl, rfl⟩ | exact ⟨false, rfl, rfl⟩ | exact ⟨rfl, true, rfl, rfl⟩ | exact ⟨rfl, false, rfl, rfl⟩ | trace_state
    · clear nw2 hK
      rintro _ _ _ ⟨rfl, c, rfl, rfl⟩
      simp only [w_snormal]
      cases c
      · simp only [if_true, if_false, reduceIte, Bool.false_eq_true]
        repeat' first
          | simp -implicitDefEqProofs (maxSteps := 400000) (disch := first | with_reducible rfl | omega | (simp only [h_n, PH.n_push, PH.n_put, List.length_cons, List.length_nil] <;> omega) | decide) only [wkAll, wkL, popO, wantedP, if_true, if_false, reduceIte, ne_eq, Nat.reduceAdd, Nat.reduceSub, Nat.reduceMul, Nat.reduceLeDiff, Nat.reduceLT, ofCells, ofCell, reduceCtorEq, Int.reduceLE, Int.reduceLT, Int.reduceToNat, Int.reduceAdd, Int.reduceSub, Int.reduceMul, Int.reduceNeg, Int.reduceBEq, Int.reduceBNe, Int.reduceEq, eqCell, eqCells, binP, unP, convP, lenP, builtinP, sliceDataP, unsafeStringP, appendT, appendS, appendP, copyP, srcP, mmsP, mmP, indexOp, indexAddrOp, sliceOp, bndsP, bndP, capw, capCut, loadOp, storeOp, loadP, fieldOp, fieldAddrOp, arrayAtOp, buildP, buildSliceP, makeSliceP, placeF, fillP, setL, PK.agg, isZero, gt_iff_lt, Nat.reducePow, Nat.reduceGT, reps, seg, wkN, if_pos, if_neg, t_nil, t_no, t_mv, t_fx, t_op, t_true, t_false, t_mvk, t_se0, t_se, and_true, tf3, Try.ze3, tf4, Try.ze4, tf9, Try.ze9, tf22, Try.ze22, tf23, Try.ze23, tf35, Try.ze35, tf37, Try.ze37, tf38, Try.ze38]
          | refine w_dec (fun _ => ?_) (fun _ => ?_)
          | refine w_eqc (fun _ => ?_) (fun _ => ?_)
          | refine w_neqc (fun _ => ?_) (fun _ => ?_)
          | refine w_nneqc (fun _ => ?_) (fun _ => ?_)
          | ((first | refine w_split (fun h => ?_) (fun h => ?_) | refine d_split (fun h => ?_) (fun h => ?_) | refine w_csplit (fun h => ?_) (fun h => ?_)) <;> (try simp only [Bool.not_eq_true', Bool.not_eq_false', Bool.not_true, Bool.not_false] at h) <;> (have h2 := h) <;> (try simp only [decide_eq_true_eq, decide_eq_false_iff_not, beq_iff_eq, beq_eq_false_iff_ne, bne_iff_ne, bne_eq_false_iff_eq, Int.not_lt, Int.not_le, ne_eq] at h2) <;> (try simp only [h]))
          | refine And.intro ?_ ?_
          | refine w_drawnT (id := 9) (.mv 1 (.fx 0 [1] (.fx 2 [1] (.fx 3 [1] (.fx 4 [1] (.fx 5 [] .nil .no) .no) .no) (.fx 3 [1] (.fx 2 [1] (.fx 4 [1] (.fx 5 [] .nil .no) .no) .no) .no)) (.fx 2 [1] (.fx 0 [1] (.fx 3 [1] (.fx 4 [1] (.fx 5 [] .nil .no) .no) .no) (.fx 3 [1] (.fx 0 [1] (.fx 4 [1] (.fx 5 [] .nil .no) .no) .no) .no)) (.fx 3 [1] (.fx 0 [1] (.fx 2 [1] (.fx 4 [1] (.fx 5 [] .nil .no) .no) .no) (.fx 2 [1] (.fx 0 [1] (.fx 4 [1] (.fx 5 [] .nil .no) .no) .no) .no)) .no)))) [0, 1, 2, 3, 4, 5] 33 (by kernel_rfl) (by kernel_rfl) (by simp) ?_
          | refine w_drawn (id := 20) [(0, true, []), (1, false, []), (2, true, []), (3, true, []), (4, true, []), (5, true, []), (6, true, []), (7, false, [4]), (8, true, []), (9, true, []), (10, true, []), (11, false, []), (12, true, []), (13, false, [])] 74 (by kernel_rfl) (by kernel_rfl) (by simp) ?_
        refine w_loopH (α := Nat) ph ph.ob ph.ty (fun j => [.undef, .undef, .ptr ph.n 0, .undef, .undef, .str (firstL L j), .undef, .undef, .undef, .ptr (ph.n + 2) 0, .ptr (ph.n + 1) 0, .undef, .undef, .undef, .undef, .undef, .undef, .undef, .undef, .undef, .undef, .undef, .undef, .undef, .undef, .undef, .undef, .undef, .undef, .undef, .undef, .undef, .undef, .fsl 1 i (L.map PV.str), .int .i64 i, .int .i64 j, .undef, .undef, .undef, .undef, .undef, .undef, .undef, .undef, .undef, .undef, .undef, .undef, .undef, .undef, .undef, .undef, .undef, .undef, .undef, .undef, .undef, .undef, .undef, .undef, .undef, .undef, .undef, .undef, .undef, .undef, .undef, .undef, .undef, .undef, .undef, .undef, .undef, .undef]) (fun j => [some (.own (hH x0)), some (.own (hH (YY L x0 j))), some (.own (hH (writeH newH (firstL L j))))]) (fun j => j ≤ i) (fun j => i - j) 0 (by simp) (fun _ _ => by simp) (.eq (by simp [FadeTo, firstL]) (by rw [hX0, hY0])) ?_
        intro j hj K hK
        obtain ⟨X, hX⟩ : ∃ X, X = writeH newH (firstL L j) := ⟨_, rfl⟩
        have hX8 : X.h.length = 8 := by rw [hX]; exact (write_len newH _ rfl).1
        have hXl : X.left.length < 64 := by rw [hX, (write_len newH _ rfl).2]; omega
        have hfj := firstL_mono L j i hj
        obtain ⟨Y, hY⟩ : ∃ Y, Y = YY L x0 j := ⟨_, rfl⟩
        have hY8 : Y.h.length = 8 := by rw [hY]; exact YY_len L x0 hx8 j
        rcases Nat.lt_or_ge j i with hlt | hge
        · have hlt' : (j : Int) < (i : Int) := by omega
          obtain ⟨s, hs⟩ := get_someW (show j < L.length by omega)
          have cs : (L.map PV.str)[j]? = some (.str s) := by rw [List.getElem?_map, hs]; rfl
          have hnx := firstL_next hs
          have hfj2 := firstL_mono L (j + 1) i (by omega)
          have hnl : (firstL L (j + 1)).length = (firstL L j).length + s.length := by rw [hnx, List.length_append]
          have hXn : writeH X s = writeH newH (firstL L (j + 1)) := by rw [hX, write_write, hnx]
          have wx := writeX_ok (w0 := W) X hX8 s (by omega)
          have hX82 : (writeH X s).h.length = 8 := (write_len X s hX8).1
          rw [hXn] at wx hX82
          rw [← hX, ← hY]
          cases hb : fitH x0
          · have hYn : YY L x0 (j + 1) = Y := by rw [hY, YY, YY, hb]; rfl
            rw [hb] at f0
            have hnx' := hnx.symm
            repeat' first
              | simp -implicitDefEqProofs (maxSteps := 400000) (disch := first | with_reducible rfl | omega | (simp only [h_n, PH.n_push, PH.n_put, List.length_cons, List.length_nil] <;> omega) | decide) only [wkAll, wkL, popO, wantedP, if_true, if_false, reduceIte, ne_eq, Nat.reduceAdd, Nat.reduceSub, Nat.reduceMul, Nat.reduceLeDiff, Nat.reduceLT, ofCells, ofCell, reduceCtorEq, Int.reduceLE, Int.reduceLT, Int.reduceToNat, Int.reduceAdd, Int.reduceSub, Int.reduceMul, Int.reduceNeg, Int.reduceBEq, Int.reduceBNe, Int.reduceEq, eqCell, eqCells, binP, unP, convP, lenP, builtinP, sliceDataP, unsafeStringP, appendT, appendS, appendP, copyP, srcP, mmsP, mmP, indexOp, indexAddrOp, sliceOp, bndsP, bndP, capw, capCut, loadOp, storeOp, loadP, fieldOp, fieldAddrOp, arrayAtOp, buildP, buildSliceP, makeSliceP, placeF, fillP, setL, PK.agg, isZero, gt_iff_lt, Nat.reducePow, Nat.reduceGT, reps, seg, wkN, if_pos, if_neg, t_nil, t_no, t_mv, t_fx, t_op, t_true, t_false, t_mvk, t_se0, t_se, and_true, tf3, Try.ze3, tf4, Try.ze4, tf9, Try.ze9, tf22, Try.ze22, tf23, Try.ze23, tf35, Try.ze35, tf37, Try.ze37, tf38, Try.ze38, hlt', List.getElem?_drop, cs, hnx', -Try.ze37, ze37h, Try.sz37, hc_len, hc_g8, hc_g9, hc_s8, hc_s9, hc_sH, hc_all, hc_t10, hc_t8, hc_ok]
              | refine w_pure (wx) ?_
              | refine w_pure (f0) ?_
              | refine w_dec (fun _ => ?_) (fun _ => ?_)
              | refine w_eqc (fun _ => ?_) (fun _ => ?_)
              | refine w_neqc (fun _ => ?_) (fun _ => ?_)
              | refine w_nneqc (fun _ => ?_) (fun _ => ?_)
              | ((first | refine w_split (fun h => ?_) (fun h => ?_) | refine d_split (fun h => ?_) (fun h => ?_) | refine w_csplit (fun h => ?_) (fun h => ?_)) <;> (try simp only [Bool.not_eq_true', Bool.not_eq_false', Bool.not_true, Bool.not_false] at h) <;> (have h2 := h) <;> (try simp only [decide_eq_true_eq, decide_eq_false_iff_not, beq_iff_eq, beq_eq_false_iff_ne, bne_iff_ne, bne_eq_false_iff_eq, Int.not_lt, Int.not_le, ne_eq] at h2) <;> (try simp only [h]))
              | refine And.intro ?_ ?_
              | refine w_drawnT (id := 9) (.mv 1 (.fx 0 [1] (.fx 2 [1] (.fx 3 [1] (.fx 4 [1] (.fx 5 [] .nil .no) .no) .no) (.fx 3 [1] (.fx 2 [1] (.fx 4 [1] (.fx 5 [] .nil .no) .no) .no) .no)) (.fx 2 [1] (.fx 0 [1] (.fx 3 [1] (.fx 4 [1] (.fx 5 [] .nil .no) .no) .no) (.fx 3 [1] (.fx 0 [1] (.fx 4 [1] (.fx 5 [] .nil .no) .no) .no) .no)) (.fx 3 [1] (.fx 0 [1] (.fx 2 [1] (.fx 4 [1] (.fx 5 [] .nil .no) .no) .no) (.fx 2 [1] (.fx 0 [1] (.fx 4 [1] (.fx 5 [] .nil .no) .no) .no) .no)) .no)))) [0, 1, 2, 3, 4, 5] 33 (by kernel_rfl) (by kernel_rfl) (by simp) ?_
              | refine w_drawn (id := 20) [(0, true, []), (1, false, []), (2, true, []), (3, true, []), (4, true, []), (5, true, []), (6, true, []), (7, false, [4]), (8, true, []), (9, true, []), (10, true, []), (11, false, []), (12, true, []), (13, false, [])] 74 (by kernel_rfl) (by kernel_rfl) (by simp) ?_
            refine hK (j + 1) _ _ (by omega) (by omega) (.eq (by simp [FadeTo]) (by rw [hYn]))
          · have hYl : Y.left.length < 64 := by rw [hY]; exact YY_left L x0 hx8 hb j
            have hYn : writeH Y s = YY L x0 (j + 1) := by rw [hY, YY, YY, hb]; simp only [if_true, reduceIte]; rw [write_write, hnx]
            have wy := writeX_ok (w0 := W) Y hY8 s (by omega)
            have hY82 : (writeH Y s).h.length = 8 := (write_len Y s hY8).1
            rw [hYn] at wy hY82
            rw [hb] at f0
            have hnx' := hnx.symm
            repeat' first
              | simp -implicitDefEqProofs (maxSteps := 400000) (disch := first | with_reducible rfl | omega | (simp only [h_n, PH.n_push, PH.n_put, List.length_cons, List.length_nil] <;> omega) | decide) only [wkAll, wkL, popO, wantedP, if_true, if_false, reduceIte, ne_eq, Nat.reduceAdd, Nat.reduceSub, Nat.reduceMul, Nat.reduceLeDiff, Nat.reduceLT, ofCells, ofCell, reduceCtorEq, Int.reduceLE, Int.reduceLT, Int.reduceToNat, Int.reduceAdd, Int.reduceSub, Int.reduceMul, Int.reduceNeg, Int.reduceBEq, Int.reduceBNe, Int.reduceEq, eqCell, eqCells, binP, unP, convP, lenP, builtinP, sliceDataP, unsafeStringP, appendT, appendS, appendP, copyP, srcP, mmsP, mmP, indexOp, indexAddrOp, sliceOp, bndsP, bndP, capw, capCut, loadOp, storeOp, loadP, fieldOp, fieldAddrOp, arrayAtOp, buildP, buildSliceP, makeSliceP, placeF, fillP, setL, PK.agg, isZero, gt_iff_lt, Nat.reducePow, Nat.reduceGT, reps, seg, wkN, if_pos, if_neg, t_nil, t_no, t_mv, t_fx, t_op, t_true, t_false, t_mvk, t_se0, t_se, and_true, tf3, Try.ze3, tf4, Try.ze4, tf9, Try.ze9, tf22, Try.ze22, tf23, Try.ze23, tf35, Try.ze35, tf37, Try.ze37, tf38, Try.ze38, hlt', List.getElem?_drop, cs, hnx', -Try.ze37, ze37h, Try.sz37, hc_len, hc_g8, hc_g9, hc_s8, hc_s9, hc_sH, hc_all, hc_t10, hc_t8, hc_ok]
              | refine w_pure (wx) ?_
              | refine w_pure (f0) ?_
              | refine w_pure (wy) ?_
              | refine w_dec (fun _ => ?_) (fun _ => ?_)
              | refine w_eqc (fun _ => ?_) (fun _ => ?_)
              | refine w_neqc (fun _ => ?_) (fun _ => ?_)
              | refine w_nneqc (fun _ => ?_) (fun _ => ?_)
              | ((first | refine w_split (fun h => ?_) (fun h => ?_) | refine d_split (fun h => ?_) (fun h => ?_) | refine w_csplit (fun h => ?_) (fun h => ?_)) <;> (try simp only [Bool.not_eq_true', Bool.not_eq_false', Bool.not_true, Bool.not_false] at h) <;> (have h2 := h) <;> (try simp only [decide_eq_true_eq, decide_eq_false_iff_not, beq_iff_eq, beq_eq_false_iff_ne, bne_iff_ne, bne_eq_false_iff_eq, Int.not_lt, Int.not_le, ne_eq] at h2) <;> (try simp only [h]))
              | refine And.intro ?_ ?_
              | refine w_drawnT (id := 9) (.mv 1 (.fx 0 [1] (.fx 2 [1] (.fx 3 [1] (.fx 4 [1] (.fx 5 [] .nil .no) .no) .no) (.fx 3 [1] (.fx 2 [1] (.fx 4 [1] (.fx 5 [] .nil .no) .no) .no) .no)) (.fx 2 [1] (.fx 0 [1] (.fx 3 [1] (.fx 4 [1] (.fx 5 [] .nil .no) .no) .no) (.fx 3 [1] (.fx 0 [1] (.fx 4 [1] (.fx 5 [] .nil .no) .no) .no) .no)) (.fx 3 [1] (.fx 0 [1] (.fx 2 [1] (.fx 4 [1] (.fx 5 [] .nil .no) .no) .no) (.fx 2 [1] (.fx 0 [1] (.fx 4 [1] (.fx 5 [] .nil .no) .no) .no) .no)) .no)))) [0, 1, 2, 3, 4, 5] 33 (by kernel_rfl) (by kernel_rfl) (by simp) ?_
              | refine w_drawn (id := 20) [(0, true, []), (1, false, []), (2, true, []), (3, true, []), (4, true, []), (5, true, []), (6, true, []), (7, false, [4]), (8, true, []), (9, true, []), (10, true, []), (11, false, []), (12, true, []), (13, false, [])] 74 (by kernel_rfl) (by kernel_rfl) (by simp) ?_
            refine hK (j + 1) _ _ (by omega) (by omega) (.eq (by simp [FadeTo]) rfl)
        · have hge2 : ¬ (j : Int) < (i : Int) := by omega
          have : j = i := by omega
          subst this
          have sx := sumX_ok (w0 := W) X hX8 hXl
          have ofx : Fn (Cx W) 12 [.str (firstL L j)] (.str (sumH X)) := by rw [hX]; exact of_ok _ (by omega)
          have fx := fitX_ok (w0 := W) X hX8 (by unfold maxLen; omega)
          rw [show fitH X = true by rw [hX]; exact fit_write newH _ rfl fit_new] at fx
          rw [← hX, ← hY]
          generalize sumH X = sm at *
          cases hb : fitH x0
          · rw [hb] at f0
            repeat' first
              | simp -implicitDefEqProofs (maxSteps := 400000) (disch := first | with_reducible rfl | omega | (simp only [h_n, PH.n_push, PH.n_put, List.length_cons, List.length_nil] <;> omega) | decide) only [wkAll, wkL, popO, wantedP, if_true, if_false, reduceIte, ne_eq, Nat.reduceAdd, Nat.reduceSub, Nat.reduceMul, Nat.reduceLeDiff, Nat.reduceLT, ofCells, ofCell, reduceCtorEq, Int.reduceLE, Int.reduceLT, Int.reduceToNat, Int.reduceAdd, Int.reduceSub, Int.reduceMul, Int.reduceNeg, Int.reduceBEq, Int.reduceBNe, Int.reduceEq, eqCell, eqCells, binP, unP, convP, lenP, builtinP, sliceDataP, unsafeStringP, appendT, appendS, appendP, copyP, srcP, mmsP, mmP, indexOp, indexAddrOp, sliceOp, bndsP, bndP, capw, capCut, loadOp, storeOp, loadP, fieldOp, fieldAddrOp, arrayAtOp, buildP, buildSliceP, makeSliceP, placeF, fillP, setL, PK.agg, isZero, gt_iff_lt, Nat.reducePow, Nat.reduceGT, reps, seg, wkN, if_pos, if_neg, t_nil, t_no, t_mv, t_fx, t_op, t_true, t_false, t_mvk, t_se0, t_se, and_true, tf3, Try.ze3, tf4, Try.ze4, tf9, Try.ze9, tf22, Try.ze22, tf23, Try.ze23, tf35, Try.ze35, tf37, Try.ze37, tf38, Try.ze38, hge2, -Try.ze37, ze37h, Try.sz37, hc_len, hc_g8, hc_g9, hc_s8, hc_s9, hc_sH, hc_all, hc_t10, hc_t8, hc_ok]
              | refine w_pure (sx) ?_
              | refine w_pure (ofx) ?_
              | refine w_pure (fx) ?_
              | refine w_pure (f0) ?_
              | refine w_pure (aw) ?_
              | refine w_dec (fun _ => ?_) (fun _ => ?_)
              | refine w_eqc (fun _ => ?_) (fun _ => ?_)
              | refine w_neqc (fun _ => ?_) (fun _ => ?_)
              | refine w_nneqc (fun _ => ?_) (fun _ => ?_)
              | ((first | refine w_split (fun h => ?_) (fun h => ?_) | refine d_split (fun h => ?_) (fun h => ?_) | refine w_csplit (fun h => ?_) (fun h => ?_)) <;> (try simp only [Bool.not_eq_true', Bool.not_eq_false', Bool.not_true, Bool.not_false] at h) <;> (have h2 := h) <;> (try simp only [decide_eq_true_eq, decide_eq_false_iff_not, beq_iff_eq, beq_eq_false_iff_ne, bne_iff_ne, bne_eq_false_iff_eq, Int.not_lt, Int.not_le, ne_eq] at h2) <;> (try simp only [h]))
              | refine And.intro ?_ ?_
              | refine w_drawnT (id := 9) (.mv 1 (.fx 0 [1] (.fx 2 [1] (.fx 3 [1] (.fx 4 [1] (.fx 5 [] .nil .no) .no) .no) (.fx 3 [1] (.fx 2 [1] (.fx 4 [1] (.fx 5 [] .nil .no) .no) .no) .no)) (.fx 2 [1] (.fx 0 [1] (.fx 3 [1] (.fx 4 [1] (.fx 5 [] .nil .no) .no) .no) (.fx 3 [1] (.fx 0 [1] (.fx 4 [1] (.fx 5 [] .nil .no) .no) .no) .no)) (.fx 3 [1] (.fx 0 [1] (.fx 2 [1] (.fx 4 [1] (.fx 5 [] .nil .no) .no) .no) (.fx 2 [1] (.fx 0 [1] (.fx 4 [1] (.fx 5 [] .nil .no) .no) .no) .no)) .no)))) [0, 1, 2, 3, 4, 5] 33 (by kernel_rfl) (by kernel_rfl) (by simp) ?_
              | refine w_drawn (id := 20) [(0, true, []), (1, false, []), (2, true, []), (3, true, []), (4, true, []), (5, true, []), (6, true, []), (7, false, [4]), (8, true, []), (9, true, []), (10, true, []), (11, false, []), (12, true, []), (13, false, [])] 74 (by kernel_rfl) (by kernel_rfl) (by simp) ?_
            refine hQ (by first | exact .inr rfl | exact .inl rfl) (by first | exact trivial | exact marks1) (by first | (simp -implicitDefEqProofs (maxSteps := 400000) (disch := first | with_reducible rfl | omega | (simp only [h_n, PH.n_push, PH.n_put, List.length_cons, List.length_nil] <;> omega) | decide) only [wkAll, wkL, popO, wantedP, if_true, if_false, reduceIte, ne_eq, Nat.reduceAdd, Nat.reduceSub, Nat.reduceMul, Nat.reduceLeDiff, Nat.reduceLT, ofCells, ofCell, reduceCtorEq, Int.reduceLE, Int.reduceLT, Int.reduceToNat, Int.reduceAdd, Int.reduceSub, Int.reduceMul, Int.reduceNeg, Int.reduceBEq, Int.reduceBNe, Int.reduceEq, eqCell, eqCells, binP, unP, convP, lenP, builtinP, sliceDataP, unsafeStringP, appendT, appendS, appendP, copyP, srcP, mmsP, mmP, indexOp, indexAddrOp, sliceOp, bndsP, bndP, capw, capCut, loadOp, storeOp, loadP, fieldOp, fieldAddrOp, arrayAtOp, buildP, buildSliceP, makeSliceP, placeF, fillP, setL, PK.agg, isZero, gt_iff_lt, Nat.reducePow, Nat.reduceGT, reps, seg, wkN, if_pos, if_neg, t_nil, t_no, t_mv, t_fx, t_op, t_true, t_false, t_mvk, t_se0, t_se, and_true, tf3, Try.ze3, tf4, Try.ze4, tf9, Try.ze9, tf22, Try.ze22, tf23, Try.ze23, tf35, Try.ze35, tf37, Try.ze37, tf38, Try.ze38, resP, resPs, resP1]; rfl) | rfl) ⟨6, by repeat' first | exact frz_scalar rfl | apply frz_tuple | apply frz_agg | apply frz_fsl | apply frz_gsl (by omega) | exact frzs_nil | apply frzs_cons⟩ (by first | exact keepsH0 | exact keeps1 (by assumption) | exact keepsH (fun _ _ h => h) (fun p hp => by simp only [upF]; (repeat rw [if_neg (by omega)])) | exact keeps1t (by assumption) (fun p hp => by simp only [upF]; (repeat rw [if_neg (by omega)])) | (subst hT; exact keepsH (fun _ _ h => h) fun _ _ => rfl)) (nw_eq ?_)
            rfl
          · rw [hb] at f0
            have hx0l : x0.left.length < 64 := ((fitH_iff x0).1 hb).1
            have wy := writeX_ok (w0 := W) x0 hx8 (firstL L j) (by omega)
            rw [show writeH x0 (firstL L j) = Y by rw [hY, YY, hb]; rfl] at wy
            repeat' first
              | simp -implicitDefEqProofs (maxSteps := 400000) (disch := first | with_reducible rfl | omega | (simp only [h_n, PH.n_push, PH.n_put, List.length_cons, List.length_nil] <;> omega) | decide) only [wkAll, wkL, popO, wantedP, if_true, if_false, reduceIte, ne_eq, Nat.reduceAdd, Nat.reduceSub, Nat.reduceMul, Nat.reduceLeDiff, Nat.reduceLT, ofCells, ofCell, reduceCtorEq, Int.reduceLE, Int.reduceLT, Int.reduceToNat, Int.reduceAdd, Int.reduceSub, Int.reduceMul, Int.reduceNeg, Int.reduceBEq, Int.reduceBNe, Int.reduceEq, eqCell, eqCells, binP, unP, convP, lenP, builtinP, sliceDataP, unsafeStringP, appendT, appendS, appendP, copyP, srcP, mmsP, mmP, indexOp, indexAddrOp, sliceOp, bndsP, bndP, capw, capCut, loadOp, storeOp, loadP, fieldOp, fieldAddrOp, arrayAtOp, buildP, buildSliceP, makeSliceP, placeF, fillP, setL, PK.agg, isZero, gt_iff_lt, Nat.reducePow, Nat.reduceGT, reps, seg, wkN, if_pos, if_neg, t_nil, t_no, t_mv, t_fx, t_op, t_true, t_false, t_mvk, t_se0, t_se, and_true, tf3, Try.ze3, tf4, Try.ze4, tf9, Try.ze9, tf22, Try.ze22, tf23, Try.ze23, tf35, Try.ze35, tf37, Try.ze37, tf38, Try.ze38, hge2, hc_eq, -Try.ze37, ze37h, Try.sz37, hc_len, hc_g8, hc_g9, hc_s8, hc_s9, hc_sH, hc_all, hc_t10, hc_t8, hc_ok]
              | refine w_pure (sx) ?_
              | refine w_pure (ofx) ?_
              | refine w_pure (fx) ?_
              | refine w_pure (f0) ?_
              | refine w_pure (wy) ?_
              | refine w_pure (aw) ?_
              | refine w_dec (fun _ => ?_) (fun _ => ?_)
              | refine w_eqc (fun _ => ?_) (fun _ => ?_)
              | refine w_neqc (fun _ => ?_) (fun _ => ?_)
              | refine w_nneqc (fun _ => ?_) (fun _ => ?_)
              | ((first | refine w_split (fun h => ?_) (fun h => ?_) | refine d_split (fun h => ?_) (fun h => ?_) | refine w_csplit (fun h => ?_) (fun h => ?_)) <;> (try simp only [Bool.not_eq_true', Bool.not_eq_false', Bool.not_true, Bool.not_false] at h) <;> (have h2 := h) <;> (try simp only [decide_eq_true_eq, decide_eq_false_iff_not, beq_iff_eq, beq_eq_false_iff_ne, bne_iff_ne, bne_eq_false_iff_eq, Int.not_lt, Int.not_le, ne_eq] at h2) <;> (try simp only [h]))
              | refine And.intro ?_ ?_
              | refine w_drawnT (id := 9) (.mv 1 (.fx 0 [1] (.fx 2 [1] (.fx 3 [1] (.fx 4 [1] (.fx 5 [] .nil .no) .no) .no) (.fx 3 [1] (.fx 2 [1] (.fx 4 [1] (.fx 5 [] .nil .no) .no) .no) .no)) (.fx 2 [1] (.fx 0 [1] (.fx 3 [1] (.fx 4 [1] (.fx 5 [] .nil .no) .no) .no) (.fx 3 [1] (.fx 0 [1] (.fx 4 [1] (.fx 5 [] .nil .no) .no) .no) .no)) (.fx 3 [1] (.fx 0 [1] (.fx 2 [1] (.fx 4 [1] (.fx 5 [] .nil .no) .no) .no) (.fx 2 [1] (.fx 0 [1] (.fx 4 [1] (.fx 5 [] .nil .no) .no) .no) .no)) .no)))) [0, 1, 2, 3, 4, 5] 33 (by kernel_rfl) (by kernel_rfl) (by simp) ?_
              | refine w_drawn (id := 20) [(0, true, []), (1, false, []), (2, true, []), (3, true, []), (4, true, []), (5, true, []), (6, true, []), (7, false, [4]), (8, true, []), (9, true, []), (10, true, []), (11, false, []), (12, true, []), (13, false, [])] 74 (by kernel_rfl) (by kernel_rfl) (by simp) ?_
            refine hQ (by first | exact .inr rfl | exact .inl rfl) (by first | exact trivial | exact marks1) (by first | (simp -implicitDefEqProofs (maxSteps := 400000) (disch := first | with_reducible rfl | omega | (simp only [h_n, PH.n_push, PH.n_put, List.length_cons, List.length_nil] <;> omega) | decide) only [wkAll, wkL, popO, wantedP, if_true, if_false, reduceIte, ne_eq, Nat.reduceAdd, Nat.reduceSub, Nat.reduceMul, Nat.reduceLeDiff, Nat.reduceLT, ofCells, ofCell, reduceCtorEq, Int.reduceLE, Int.reduceLT, Int.reduceToNat, Int.reduceAdd, Int.reduceSub, Int.reduceMul, Int.reduceNeg, Int.reduceBEq, Int.reduceBNe, Int.reduceEq, eqCell, eqCells, binP, unP, convP, lenP, builtinP, sliceDataP, unsafeStringP, appendT, appendS, appendP, copyP, srcP, mmsP, mmP, indexOp, indexAddrOp, sliceOp, bndsP, bndP, capw, capCut, loadOp, storeOp, loadP, fieldOp, fieldAddrOp, arrayAtOp, buildP, buildSliceP, makeSliceP, placeF, fillP, setL, PK.agg, isZero, gt_iff_lt, Nat.reducePow, Nat.reduceGT, reps, seg, wkN, if_pos, if_neg, t_nil, t_no, t_mv, t_fx, t_op, t_true, t_false, t_mvk, t_se0, t_se, and_true, tf3, Try.ze3, tf4, Try.ze4, tf9, Try.ze9, tf22, Try.ze22, tf23, Try.ze23, tf35, Try.ze35, tf37, Try.ze37, tf38, Try.ze38, resP, resPs, resP1]; rfl) | rfl) ⟨6, by repeat' first | exact frz_scalar rfl | apply frz_tuple | apply frz_agg | apply frz_fsl | apply frz_gsl (by omega) | exact frzs_nil | apply frzs_cons⟩ (by first | exact keepsH0 | exact keeps1 (by assumption) | exact keepsH (fun _ _ h => h) (fun p hp => by simp only [upF]; (repeat rw [if_neg (by omega)])) | exact keeps1t (by assumption) (fun p hp => by simp only [upF]; (repeat rw [if_neg (by omega)])) | (subst hT; exact keepsH (fun _ _ h => h) fun _ _ => rfl)) (nw_eq ?_)
            rfl
      · simp only [if_true, if_false, reduceIte, Bool.false_eq_true]
        repeat' first
          | simp -implicitDefEqProofs (maxSteps := 400000) (disch := first | with_reducible rfl | omega | (simp only [h_n, PH.n_push, PH.n_put, List.length_cons, List.length_nil] <;> omega) | decide) only [wkAll, wkL, popO, wantedP, if_true, if_false, reduceIte, ne_eq, Nat.reduceAdd, Nat.reduceSub, Nat.reduceMul, Nat.reduceLeDiff, Nat.reduceLT, ofCells, ofCell, reduceCtorEq, Int.reduceLE, Int.reduceLT, Int.reduceToNat, Int.reduceAdd, Int.reduceSub, Int.reduceMul, Int.reduceNeg, Int.reduceBEq, Int.reduceBNe, Int.reduceEq, eqCell, eqCells, binP, unP, convP, lenP, builtinP, sliceDataP, unsafeStringP, appendT, appendS, appendP, copyP, srcP, mmsP, mmP, indexOp, indexAddrOp, sliceOp, bndsP, bndP, capw, capCut, loadOp, storeOp, loadP, fieldOp, fieldAddrOp, arrayAtOp, buildP, buildSliceP, makeSliceP, placeF, fillP, setL, PK.agg, isZero, gt_iff_lt, Nat.reducePow, Nat.reduceGT, reps, seg, wkN, if_pos, if_neg, t_nil, t_no, t_mv, t_fx, t_op, t_true, t_false, t_mvk, t_se0, t_se, and_true, tf3, Try.ze3, tf4, Try.ze4, tf9, Try.ze9, tf22, Try.ze22, tf23, Try.ze23, tf35, Try.ze35, tf37, Try.ze37, tf38, Try.ze38]
          | refine w_dec (fun _ => ?_) (fun _ => ?_)
          | refine w_eqc (fun _ => ?_) (fun _ => ?_)
          | refine w_neqc (fun _ => ?_) (fun _ => ?_)
          | refine w_nneqc (fun _ => ?_) (fun _ => ?_)
          | ((first | refine w_split (fun h => ?_) (fun h => ?_) | refine d_split (fun h => ?_) (fun h => ?_) | refine w_csplit (fun h => ?_) (fun h => ?_)) <;> (try simp only [Bool.not_eq_true', Bool.not_eq_false', Bool.not_true, Bool.not_false] at h) <;> (have h2 := h) <;> (try simp only [decide_eq_true_eq, decide_eq_false_iff_not, beq_iff_eq, beq_eq_false_iff_ne, bne_iff_ne, bne_eq_false_iff_eq, Int.not_lt, Int.not_le, ne_eq] at h2) <;> (try simp only [h]))
          | refine And.intro ?_ ?_
          | refine w_drawnT (id := 9) (.mv 1 (.fx 0 [1] (.fx 2 [1] (.fx 3 [1] (.fx 4 [1] (.fx 5 [] .nil .no) .no) .no) (.fx 3 [1] (.fx 2 [1] (.fx 4 [1] (.fx 5 [] .nil .no) .no) .no) .no)) (.fx 2 [1] (.fx 0 [1] (.fx 3 [1] (.fx 4 [1] (.fx 5 [] .nil .no) .no) .no) (.fx 3 [1] (.fx 0 [1] (.fx 4 [1] (.fx 5 [] .nil .no) .no) .no) .no)) (.fx 3 [1] (.fx 0 [1] (.fx 2 [1] (.fx 4 [1] (.fx 5 [] .nil .no) .no) .no) (.fx 2 [1] (.fx 0 [1] (.fx 4 [1] (.fx 5 [] .nil .no) .no) .no) .no)) .no)))) [0, 1, 2, 3, 4, 5] 33 (by kernel_rfl) (by kernel_rfl) (by simp) ?_
          | refine w_drawn (id := 20) [(0, true, []), (1, false, []), (2, true, []), (3, true, []), (4, true, []), (5, true, []), (6, true, []), (7, false, [4]), (8, true, []), (9, true, []), (10, true, []), (11, false, []), (12, true, []), (13, false, [])] 74 (by kernel_rfl) (by kernel_rfl) (by simp) ?_
        refine w_loopH (α := Nat) ph ph.ob ph.ty (fun j => [.undef, .undef, .ptr ph.n 0, .undef, .undef, .str (firstL L j), .undef, .undef, .undef, .ptr (ph.n + 1) 0, .ptr (ph.n + 2) 0, .undef, .undef, .undef, .undef, .undef, .undef, .undef, .undef, .undef, .undef, .undef, .undef, .undef, .undef, .undef, .undef, .undef, .undef, .undef, .undef, .undef, .undef, .fsl 1 i (L.map PV.str), .int .i64 i, .int .i64 j, .undef, .undef, .undef, .undef, .undef, .undef, .undef, .undef, .undef, .undef, .undef, .undef, .undef, .undef, .undef, .undef, .undef, .undef, .undef, .undef, .undef, .undef, .undef, .undef, .undef, .undef, .undef, .undef, .undef, .undef, .undef, .undef, .undef, .undef, .undef, .undef, .undef, .undef]) (fun j => [some (.own (hH x0)), some (.own (hH (writeH newH (firstL L j)))), some (.own (hH (YY L x0 j)))]) (fun j => j ≤ i) (fun j => i - j) 0 (by simp) (fun _ _ => by simp) (.eq (by simp [FadeTo, firstL]) (by rw [hX0, hY0])) ?_
        intro j hj K hK
        obtain ⟨X, hX⟩ : ∃ X, X = writeH newH (firstL L j) := ⟨_, rfl⟩
        have hX8 : X.h.length = 8 := by rw [hX]; exact (write_len newH _ rfl).1
        have hXl : X.left.length < 64 := by rw [hX, (write_len newH _ rfl).2]; omega
        have hfj := firstL_mono L j i hj
        obtain ⟨Y, hY⟩ : ∃ Y, Y = YY L x0 j := ⟨_, rfl⟩
        have hY8 : Y.h.length = 8 := by rw [hY]; exact YY_len L x0 hx8 j
        rcases Nat.lt_or_ge j i with hlt | hge
        · have hlt' : (j : Int) < (i : Int) := by omega
          obtain ⟨s, hs⟩ := get_someW (show j < L.length by omega)
          have cs : (L.map PV.str)[j]? = some (.str s) := by rw [List.getElem?_map, hs]; rfl
          have hnx := firstL_next hs
          have hfj2 := firstL_mono L (j + 1) i (by omega)
          have hnl : (firstL L (j + 1)).length = (firstL L j).length + s.length := by rw [hnx, List.length_append]
          have hXn : writeH X s = writeH newH (firstL L (j + 1)) := by rw [hX, write_write, hnx]
          have wx := writeX_ok (w0 := W) X hX8 s (by omega)
          have hX82 : (writeH X s).h.length = 8 := (write_len X s hX8).1
          rw [hXn] at wx hX82
          rw [← hX, ← hY]
          cases hb : fitH x0
          · have hYn : YY L x0 (j + 1) = Y := by rw [hY, YY, YY, hb]; rfl
            rw [hb] at f0
            have hnx' := hnx.symm
            repeat' first
              | simp -implicitDefEqProofs (maxSteps := 400000) (disch := first | with_reducible rfl | omega | (simp only [h_n, PH.n_push, PH.n_put, List.length_cons, List.length_nil] <;> omega) | decide) only [wkAll, wkL, popO, wantedP, if_true, if_false, reduceIte, ne_eq, Nat.reduceAdd, Nat.reduceSub, Nat.reduceMul, Nat.reduceLeDiff, Nat.reduceLT, ofCells, ofCell, reduceCtorEq, Int.reduceLE, Int.reduceLT, Int.reduceToNat, Int.reduceAdd, Int.reduceSub, Int.reduceMul, Int.reduceNeg, Int.reduceBEq, Int.reduceBNe, Int.reduceEq, eqCell, eqCells, binP, unP, convP, lenP, builtinP, sliceDataP, unsafeStringP, appendT, appendS, appendP, copyP, srcP, mmsP, mmP, indexOp, indexAddrOp, sliceOp, bndsP, bndP, capw, capCut, loadOp, storeOp, loadP, fieldOp, fieldAddrOp, arrayAtOp, buildP, buildSliceP, makeSliceP, placeF, fillP, setL, PK.agg, isZero, gt_iff_lt, Nat.reducePow, Nat.reduceGT, reps, seg, wkN, if_pos, if_neg, t_nil, t_no, t_mv, t_fx, t_op, t_true, t_false, t_mvk, t_se0, t_se, and_true, tf3, Try.ze3, tf4, Try.ze4, tf9, Try.ze9, tf22, Try.ze22, tf23, Try.ze23, tf35, Try.ze35, tf37, Try.ze37, tf38, Try.ze38, hlt', List.getElem?_drop, cs, hnx', -Try.ze37, ze37h, Try.sz37, hc_len, hc_g8, hc_g9, hc_s8, hc_s9, hc_sH, hc_all, hc_t10, hc_t8, hc_ok]
              | refine w_pure (wx) ?_
              | refine w_pure (f0) ?_
              | refine w_dec (fun _ => ?_) (fun _ => ?_)
              | refine w_eqc (fun _ => ?_) (fun _ => ?_)
              | refine w_neqc (fun _ => ?_) (fun _ => ?_)
              | refine w_nneqc (fun _ => ?_) (fun _ => ?_)
              | ((first | refine w_split (fun h => ?_) (fun h => ?_) | refine d_split (fun h => ?_) (fun h => ?_) | refine w_csplit (fun h => ?_) (fun h => ?_)) <;> (try simp only [Bool.not_eq_true', Bool.not_eq_false', Bool.not_true, Bool.not_false] at h) <;> (have h2 := h) <;> (try simp only [decide_eq_true_eq, decide_eq_false_iff_not, beq_iff_eq, beq_eq_false_iff_ne, bne_iff_ne, bne_eq_false_iff_eq, Int.not_lt, Int.not_le, ne_eq] at h2) <;> (try simp only [h]))
              | refine And.intro ?_ ?_
              | refine w_drawnT (id := 9) (.mv 1 (.fx 0 [1] (.fx 2 [1] (.fx 3 [1] (.fx 4 [1] (.fx 5 [] .nil .no) .no) .no) (.fx 3 [1] (.fx 2 [1] (.fx 4 [1] (.fx 5 [] .nil .no) .no) .no) .no)) (.fx 2 [1] (.fx 0 [1] (.fx 3 [1] (.fx 4 [1] (.fx 5 [] .nil .no) .no) .no) (.fx 3 [1] (.fx 0 [1] (.fx 4 [1] (.fx 5 [] .nil .no) .no) .no) .no)) (.fx 3 [1] (.fx 0 [1] (.fx 2 [1] (.fx 4 [1] (.fx 5 [] .nil .no) .no) .no) (.fx 2 [1] (.fx 0 [1] (.fx 4 [1] (.fx 5 [] .nil .no) .no) .no) .no)) .no)))) [0, 1, 2, 3, 4, 5] 33 (by kernel_rfl) (by kernel_rfl) (by simp) ?_
              | refine w_drawn (id := 20) [(0, true, []), (1, false, []), (2, true, []), (3, true, []), (4, true, []), (5, true, []), (6, true, []), (7, false, [4]), (8, true, []), (9, true, []), (10, true, []), (11, false, []), (12, true, []), (13, false, [])] 74 (by kernel_rfl) (by kernel_rfl) (by simp) ?_
            refine hK (j + 1) _ _ (by omega) (by omega) (.eq (by simp [FadeTo]) (by rw [hYn]))
          · have hYl : Y.left.length < 64 := by rw [hY]; exact YY_left L x0 hx8 hb j
            have hYn : writeH Y s = YY L x0 (j + 1) := by rw [hY, YY, YY, hb]; simp only [if_true, reduceIte]; rw [write_write, hnx]
            have wy := writeX_ok (w0 := W) Y hY8 s (by omega)
            have hY82 : (writeH Y s).h.length = 8 := (write_len Y s hY8).1
            rw [hYn] at wy hY82
            rw [hb] at f0
            have hnx' := hnx.symm
            repeat' first
              | simp -implicitDefEqProofs (maxSteps := 400000) (disch := first | with_reducible rfl | omega | (simp only [h_n, PH.n_push, PH.n_put, List.length_cons, List.length_nil] <;> omega) | decide) only [wkAll, wkL, popO, wantedP, if_true, if_false, reduceIte, ne_eq, Nat.reduceAdd, Nat.reduceSub, Nat.reduceMul, Nat.reduceLeDiff, Nat.reduceLT, ofCells, ofCell, reduceCtorEq, Int.reduceLE, Int.reduceLT, Int.reduceToNat, Int.reduceAdd, Int.reduceSub, Int.reduceMul, Int.reduceNeg, Int.reduceBEq, Int.reduceBNe, Int.reduceEq, eqCell, eqCells, binP, unP, convP, lenP, builtinP, sliceDataP, unsafeStringP, appendT, appendS, appendP, copyP, srcP, mmsP, mmP, indexOp, indexAddrOp, sliceOp, bndsP, bndP, capw, capCut, loadOp, storeOp, loadP, fieldOp, fieldAddrOp, arrayAtOp, buildP, buildSliceP, makeSliceP, placeF, fillP, setL, PK.agg, isZero, gt_iff_lt, Nat.reducePow, Nat.reduceGT, reps, seg, wkN, if_pos, if_neg, t_nil, t_no, t_mv, t_fx, t_op, t_true, t_false, t_mvk, t_se0, t_se, and_true, tf3, Try.ze3, tf4, Try.ze4, tf9, Try.ze9, tf22, Try.ze22, tf23, Try.ze23, tf35, Try.ze35, tf37, Try.ze37, tf38, Try.ze38, hlt', List.getElem?_drop, cs, hnx', -Try.ze37, ze37h, Try.sz37, hc_len, hc_g8, hc_g9, hc_s8, hc_s9, hc_sH, hc_all, hc_t10, hc_t8, hc_ok]
              | refine w_pure (wx) ?_
              | refine w_pure (f0) ?_
              | refine w_pure (wy) ?_
              | refine w_dec (fun _ => ?_) (fun _ => ?_)
              | refine w_eqc (fun _ => ?_) (fun _ => ?_)
              | refine w_neqc (fun _ => ?_) (fun _ => ?_)
              | refine w_nneqc (fun _ => ?_) (fun _ => ?_)
              | ((first | refine w_split (fun h => ?_) (fun h => ?_) | refine d_split (fun h => ?_) (fun h => ?_) | refine w_csplit (fun h => ?_) (fun h => ?_)) <;> (try simp only [Bool.not_eq_true', Bool.not_eq_false', Bool.not_true, Bool.not_false] at h) <;> (have h2 := h) <;> (try simp only [decide_eq_true_eq, decide_eq_false_iff_not, beq_iff_eq, beq_eq_false_iff_ne, bne_iff_ne, bne_eq_false_iff_eq, Int.not_lt, Int.not_le, ne_eq] at h2) <;> (try simp only [h]))
              | refine And.intro ?_ ?_
              | refine w_drawnT (id := 9) (.mv 1 (.fx 0 [1] (.fx 2 [1] (.fx 3 [1] (.fx 4 [1] (.fx 5 [] .nil .no) .no) .no) (.fx 3 [1] (.fx 2 [1] (.fx 4 [1] (.fx 5 [] .nil .no) .no) .no) .no)) (.fx 2 [1] (.fx 0 [1] (.fx 3 [1] (.fx 4 [1] (.fx 5 [] .nil .no) .no) .no) (.fx 3 [1] (.fx 0 [1] (.fx 4 [1] (.fx 5 [] .nil .no) .no) .no) .no)) (.fx 3 [1] (.fx 0 [1] (.fx 2 [1] (.fx 4 [1] (.fx 5 [] .nil .no) .no) .no) (.fx 2 [1] (.fx 0 [1] (.fx 4 [1] (.fx 5 [] .nil .no) .no) .no) .no)) .no)))) [0, 1, 2, 3, 4, 5] 33 (by kernel_rfl) (by kernel_rfl) (by simp) ?_
              | refine w_drawn (id := 20) [(0, true, []), (1, false, []), (2, true, []), (3, true, []), (4, true, []), (5, true, []), (6, true, []), (7, false, [4]), (8, true, []), (9, true, []), (10, true, []), (11, false, []), (12, true, []), (13, false, [])] 74 (by kernel_rfl) (by kernel_rfl) (by simp) ?_
            refine hK (j + 1) _ _ (by omega) (by omega) (.eq (by simp [FadeTo]) rfl)
        · have hge2 : ¬ (j : Int) < (i : Int) := by omega
          have : j = i := by omega
          subst this
          have sx := sumX_ok (w0 := W) X hX8 hXl
          have ofx : Fn (Cx W) 12 [.str (firstL L j)] (.str (sumH X)) := by rw [hX]; exact of_ok _ (by omega)
          have fx := fitX_ok (w0 := W) X hX8 (by unfold maxLen; omega)
          rw [show fitH X = true by rw [hX]; exact fit_write newH _ rfl fit_new] at fx
          rw [← hX, ← hY]
          generalize sumH X = sm at *
          cases hb : fitH x0
          · rw [hb] at f0
            repeat' first
              | simp -implicitDefEqProofs (maxSteps := 400000) (disch := first | with_reducible rfl | omega | (simp only [h_n, PH.n_push, PH.n_put, List.length_cons, List.length_nil] <;> omega) | decide) only [wkAll, wkL, popO, wantedP, if_true, if_false, reduceIte, ne_eq, Nat.reduceAdd, Nat.reduceSub, Nat.reduceMul, Nat.reduceLeDiff, Nat.reduceLT, ofCells, ofCell, reduceCtorEq, Int.reduceLE, Int.reduceLT, Int.reduceToNat, Int.reduceAdd, Int.reduceSub, Int.reduceMul, Int.reduceNeg, Int.reduceBEq, Int.reduceBNe, Int.reduceEq, eqCell, eqCells, binP, unP, convP, lenP, builtinP, sliceDataP, unsafeStringP, appendT, appendS, appendP, copyP, srcP, mmsP, mmP, indexOp, indexAddrOp, sliceOp, bndsP, bndP, capw, capCut, loadOp, storeOp, loadP, fieldOp, fieldAddrOp, arrayAtOp, buildP, buildSliceP, makeSliceP, placeF, fillP, setL, PK.agg, isZero, gt_iff_lt, Nat.reducePow, Nat.reduceGT, reps, seg, wkN, if_pos, if_neg, t_nil, t_no, t_mv, t_fx, t_op, t_true, t_false, t_mvk, t_se0, t_se, and_true, tf3, Try.ze3, tf4, Try.ze4, tf9, Try.ze9, tf22, Try.ze22, tf23, Try.ze23, tf35, Try.ze35, tf37, Try.ze37, tf38, Try.ze38, hge2, -Try.ze37, ze37h, Try.sz37, hc_len, hc_g8, hc_g9, hc_s8, hc_s9, hc_sH, hc_all, hc_t10, hc_t8, hc_ok]
              | refine w_pure (sx) ?_
              | refine w_pure (ofx) ?_
              | refine w_pure (fx) ?_
              | refine w_pure (f0) ?_
              | refine w_pure (aw) ?_
              | refine w_dec (fun _ => ?_) (fun _ => ?_)
              | refine w_eqc (fun _ => ?_) (fun _ => ?_)
              | refine w_neqc (fun _ => ?_) (fun _ => ?_)
              | refine w_nneqc (fun _ => ?_) (fun _ => ?_)
              | ((first | refine w_split (fun h => ?_) (fun h => ?_) | refine d_split (fun h => ?_) (fun h => ?_) | refine w_csplit (fun h => ?_) (fun h => ?_)) <;> (try simp only [Bool.not_eq_true', Bool.not_eq_false', Bool.not_true, Bool.not_false] at h) <;> (have h2 := h) <;> (try simp only [decide_eq_true_eq, decide_eq_false_iff_not, beq_iff_eq, beq_eq_false_iff_ne, bne_iff_ne, bne_eq_false_iff_eq, Int.not_lt, Int.not_le, ne_eq] at h2) <;> (try simp only [h]))
              | refine And.intro ?_ ?_
              | refine w_drawnT (id := 9) (.mv 1 (.fx 0 [1] (.fx 2 [1] (.fx 3 [1] (.fx 4 [1] (.fx 5 [] .nil .no) .no) .no) (.fx 3 [1] (.fx 2 [1] (.fx 4 [1] (.fx 5 [] .nil .no) .no) .no) .no)) (.fx 2 [1] (.fx 0 [1] (.fx 3 [1] (.fx 4 [1] (.fx 5 [] .nil .no) .no) .no) (.fx 3 [1] (.fx 0 [1] (.fx 4 [1] (.fx 5 [] .nil .no) .no) .no) .no)) (.fx 3 [1] (.fx 0 [1] (.fx 2 [1] (.fx 4 [1] (.fx 5 [] .nil .no) .no) .no) (.fx 2 [1] (.fx 0 [1] (.fx 4 [1] (.fx 5 [] .nil .no) .no) .no) .no)) .no)))) [0, 1, 2, 3, 4, 5] 33 (by kernel_rfl) (by kernel_rfl) (by simp) ?_
              | refine w_drawn (id := 20) [(0, true, []), (1, false, []), (2, true, []), (3, true, []), (4, true, []), (5, true, []), (6, true, []), (7, false, [4]), (8, true, []), (9, true, []), (10, true, []), (11, false, []), (12, true, []), (13, false, [])] 74 (by kernel_rfl) (by kernel_rfl) (by simp) ?_
            refine hQ (by first | exact .inr rfl | exact .inl rfl) (by first | exact trivial | exact marks1) (by first | (simp -implicitDefEqProofs (maxSteps := 400000) (disch := first | with_reducible rfl | omega | (simp only [h_n, PH.n_push, PH.n_put, List.length_cons, List.length_nil] <;> omega) | decide) only [wkAll, wkL, popO, wantedP, if_true, if_false, reduceIte, ne_eq, Nat.reduceAdd, Nat.reduceSub, Nat.reduceMul, Nat.reduceLeDiff, Nat.reduceLT, ofCells, ofCell, reduceCtorEq, Int.reduceLE, Int.reduceLT, Int.reduceToNat, Int.reduceAdd, Int.reduceSub, Int.reduceMul, Int.reduceNeg, Int.reduceBEq, Int.reduceBNe, Int.reduceEq, eqCell, eqCells, binP, unP, convP, lenP, builtinP, sliceDataP, unsafeStringP, appendT, appendS, appendP, copyP, srcP, mmsP, mmP, indexOp, indexAddrOp, sliceOp, bndsP, bndP, capw, capCut, loadOp, storeOp, loadP, fieldOp, fieldAddrOp, arrayAtOp, buildP, buildSliceP, makeSliceP, placeF, fillP, setL, PK.agg, isZero, gt_iff_lt, Nat.reducePow, Nat.reduceGT, reps, seg, wkN, if_pos, if_neg, t_nil, t_no, t_mv, t_fx, t_op, t_true, t_false, t_mvk, t_se0, t_se, and_true, tf3, Try.ze3, tf4, Try.ze4, tf9, Try.ze9, tf22, Try.ze22, tf23, Try.ze23, tf35, Try.ze35, tf37, Try.ze37, tf38, Try.ze38, resP, resPs, resP1]; rfl) | rfl) ⟨6, by repeat' first | exact frz_scalar rfl | apply frz_tuple | apply frz_agg | apply frz_fsl | apply frz_gsl (by omega) | exact frzs_nil | apply frzs_cons⟩ (by first | exact keepsH0 | exact keeps1 (by assumption) | exact keepsH (fun _ _ h => h) (fun p hp => by simp only [upF]; (repeat rw [if_neg (by omega)])) | exact keeps1t (by assumption) (fun p hp => by simp only [upF]; (repeat rw [if_neg (by omega)])) | (subst hT; exact keepsH (fun _ _ h => h) fun _ _ => rfl)) (nw_eq ?_)
            rfl
          · rw [hb] at f0
            have hx0l : x0.left.length < 64 := ((fitH_iff x0).1 hb).1
            have wy := writeX_ok (w0 := W) x0 hx8 (firstL L j) (by omega)
            rw [show writeH x0 (firstL L j) = Y by rw [hY, YY, hb]; rfl] at wy
            repeat' first
              | simp -implicitDefEqProofs (maxSteps := 400000) (disch := first | with_reducible rfl | omega | (simp only [h_n, PH.n_push, PH.n_put, List.length_cons, List.length_nil] <;> omega) | decide) only [wkAll, wkL, popO, wantedP, if_true, if_false, reduceIte, ne_eq, Nat.reduceAdd, Nat.reduceSub, Nat.reduceMul, Nat.reduceLeDiff, Nat.reduceLT, ofCells, ofCell, reduceCtorEq, Int.reduceLE, Int.reduceLT, Int.reduceToNat, Int.reduceAdd, Int.reduceSub, Int.reduceMul, Int.reduceNeg, Int.reduceBEq, Int.reduceBNe, Int.reduceEq, eqCell, eqCells, binP, unP, convP, lenP, builtinP, sliceDataP, unsafeStringP, appendT, appendS, appendP, copyP, srcP, mmsP, mmP, indexOp, indexAddrOp, sliceOp, bndsP, bndP, capw, capCut, loadOp, storeOp, loadP, fieldOp, fieldAddrOp, arrayAtOp, buildP, buildSliceP, makeSliceP, placeF, fillP, setL, PK.agg, isZero, gt_iff_lt, Nat.reducePow, Nat.reduceGT, reps, seg, wkN, if_pos, if_neg, t_nil, t_no, t_mv, t_fx, t_op, t_true, t_false, t_mvk, t_se0, t_se, and_true, tf3, Try.ze3, tf4, Try.ze4, tf9, Try.ze9, tf22, Try.ze22, tf23, Try.ze23, tf35, Try.ze35, tf37, Try.ze37, tf38, Try.ze38, hge2, hc_eq, -Try.ze37, ze37h, Try.sz37, hc_len, hc_g8, hc_g9, hc_s8, hc_s9, hc_sH, hc_all, hc_t10, hc_t8, hc_ok]
              | refine w_pure (sx) ?_
              | refine w_pure (ofx) ?_
              | refine w_pure (fx) ?_
              | refine w_pure (f0) ?_
              | refine w_pure (wy) ?_
              | refine w_pure (aw) ?_
              | refine w_dec (fun _ => ?_) (fun _ => ?_)
              | refine w_eqc (fun _ => ?_) (fun _ => ?_)
              | refine w_neqc (fun _ => ?_) (fun _ => ?_)
              | refine w_nneqc (fun _ => ?_) (fun _ => ?_)
              | ((first | refine w_split (fun h => ?_) (fun h => ?_) | refine d_split (fun h => ?_) (fun h => ?_) | refine w_csplit (fun h => ?_) (fun h => ?_)) <;> (try simp only [Bool.not_eq_true', Bool.not_eq_false', Bool.not_true, Bool.not_false] at h) <;> (have h2 := h) <;> (try simp only [decide_eq_true_eq, decide_eq_false_iff_not, beq_iff_eq, beq_eq_false_iff_ne, bne_iff_ne, bne_eq_false_iff_eq, Int.not_lt, Int.not_le, ne_eq] at h2) <;> (try simp only [h]))
              | refine And.intro ?_ ?_
              | refine w_drawnT (id := 9) (.mv 1 (.fx 0 [1] (.fx 2 [1] (.fx 3 [1] (.fx 4 [1] (.fx 5 [] .nil .no) .no) .no) (.fx 3 [1] (.fx 2 [1] (.fx 4 [1] (.fx 5 [] .nil .no) .no) .no) .no)) (.fx 2 [1] (.fx 0 [1] (.fx 3 [1] (.fx 4 [1] (.fx 5 [] .nil .no) .no) .no) (.fx 3 [1] (.fx 0 [1] (.fx 4 [1] (.fx 5 [] .nil .no) .no) .no) .no)) (.fx 3 [1] (.fx 0 [1] (.fx 2 [1] (.fx 4 [1] (.fx 5 [] .nil .no) .no) .no) (.fx 2 [1] (.fx 0 [1] (.fx 4 [1] (.fx 5 [] .nil .no) .no) .no) .no)) .no)))) [0, 1, 2, 3, 4, 5] 33 (by kernel_rfl) (by kernel_rfl) (by simp) ?_
              | refine w_drawn (id := 20) [(0, true, []), (1, false, []), (2, true, []), (3, true, []), (4, true, []), (5, true, []), (6, true, []), (7, false, [4]), (8, true, []), (9, true, []), (10, true, []), (11, false, []), (12, true, []), (13, false, [])] 74 (by kernel_rfl) (by kernel_rfl) (by simp) ?_
            refine hQ (by first | exact .inr rfl | exact .inl rfl) (by first | exact trivial | exact marks1) (by first | (simp -implicitDefEqProofs (maxSteps := 400000) (disch := first | with_reducible rfl | omega | (simp only [h_n, PH.n_push, PH.n_put, List.length_cons, List.length_nil] <;> omega) | decide) only [wkAll, wkL, popO, wantedP, if_true, if_false, reduceIte, ne_eq, Nat.reduceAdd, Nat.reduceSub, Nat.reduceMul, Nat.reduceLeDiff, Nat.reduceLT, ofCells, ofCell, reduceCtorEq, Int.reduceLE, Int.reduceLT, Int.reduceToNat, Int.reduceAdd, Int.reduceSub, Int.reduceMul, Int.reduceNeg, Int.reduceBEq, Int.reduceBNe, Int.reduceEq, eqCell, eqCells, binP, unP, convP, lenP, builtinP, sliceDataP, unsafeStringP, appendT, appendS, appendP, copyP, srcP, mmsP, mmP, indexOp, indexAddrOp, sliceOp, bndsP, bndP, capw, capCut, loadOp, storeOp, loadP, fieldOp, fieldAddrOp, arrayAtOp, buildP, buildSliceP, makeSliceP, placeF, fillP, setL, PK.agg, isZero, gt_iff_lt, Nat.reducePow, Nat.reduceGT, reps, seg, wkN, if_pos, if_neg, t_nil, t_no, t_mv, t_fx, t_op, t_true, t_false, t_mvk, t_se0, t_se, and_true, tf3, Try.ze3, tf4, Try.ze4, tf9, Try.ze9, tf22, Try.ze22, tf23, Try.ze23, tf35, Try.ze35, tf37, Try.ze37, tf38, Try.ze38, resP, resPs, resP1]; rfl) | rfl) ⟨6, by repeat' first | exact frz_scalar rfl | apply frz_tuple | apply frz_agg | apply frz_fsl | apply frz_gsl (by omega) | exact frzs_nil | apply frzs_cons⟩ (by first | exact keepsH0 | exact keeps1 (by assumption) | exact keepsH (fun _ _ h => h) (fun p hp => by simp only [upF]; (repeat rw [if_neg (by omega)])) | exact keeps1t (by assumption) (fun p hp => by simp only [upF]; (repeat rw [if_neg (by omega)])) | (subst hT; exact keepsH (fun _ _ h => h) fun _ _ => rfl)) (nw_eq ?_)
            rfl
end Pv
