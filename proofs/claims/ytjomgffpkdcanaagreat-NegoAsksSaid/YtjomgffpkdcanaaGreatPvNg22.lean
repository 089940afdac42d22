/- Part of the proof: the layer of pure values, or walks through functions (PvNg22, PvNg18, PvNg24). -/
import Derived.Test.YtjomgffpkdcanaaGreatPvNg20
import Derived.Test.YtjomgffpkdcanaaGreatPvNg11
import Derived.Test.YtjomgffpkdcanaaGreatPvEntry4
set_option linter.all false
--nosplit
--keep2
namespace Pv
set_option maxRecDepth 20000
set_option maxHeartbeats 4000000
open Go Go.Proofs Go.RowKit
variable {w0 : World}

theorem two_mod (P : Int) : twoL (IntKind.wrap .u64 P % 65536) = twoL P := by
  have h : IntKind.wrap .u64 P = P % 18446744073709551616 := by simp [IntKind.wrap, IntKind.bits, IntKind.signed]
  rw [h]
  have h2 : P % 18446744073709551616 % 65536 = P % 65536 := by omega
  rw [h2]
  unfold twoL
  congr 1
  · unfold u8; congr 1; congr 1; omega
  · congr 1; unfold u8; congr 1; congr 1; omega
theorem refAnswer_ok (A : List Int) (C : List (List UInt8)) (Hs : List UInt8) (P : Int) (l : List KR) (hA : A.length < 2 ^ 40) (hC : C.length < 2 ^ 40) (hl : l.length < 2 ^ 40) (hb : ∀ r ∈ l, r.b.length < 2 ^ 50) : Fn (Cx w0) 10 [.agg [.fsl 1 A.length (intsC A), .str Hs, .int .i64 P, .fsl 1 C.length (C.map PV.str)], .fsl 3 l.length (krsC l)] (.tuple [.fsl 3 (ansL A C Hs P l).1.length (krsC (ansL A C Hs P l).1), .int .i64 (ansL A C Hs P l).2]) := by
  have t1 := refNumbers_ok (w0 := w0) l 1 hl hb
  have t2 := refNumbers_ok (w0 := w0) l 4 hl hb
  have tu := refUnknown_ok (w0 := w0) l hl
  have n1 := numL_le l 1 true
  have n2 := numL_le l 4 true
  have tc := refHas_ok (w0 := w0) (numL l 1 true).1 0 (by omega)
  have te := refEnd_ok (w0 := w0)
  have t0 := refTwo19_ok (w0 := w0) 0 (by decide)
  by_cases h1 : 0 ≤ idxL unkR l
  · rw [show ansL A C Hs P l = ([⟨true, 2, twoL 0⟩, ⟨true, 0, []⟩], 0) by rw [ansL, if_pos h1]]
    have tf := refFailed_ok (w0 := w0) 0 (by decide)
    refine fn_H ([Go.ResultVar.tmp 4, Go.ResultVar.tmp 5]) Tryz.func10 rfl rfl (by decide) fun ph hW Q hQ => ?_
    simp only [start, List.length_cons, List.length_nil, List.cons_append, List.nil_append, Nat.reduceAdd, Nat.reduceSub, List.replicate_succ, List.replicate_zero, Tryz.ntmps10]
    repeat' first | simp -implicitDefEqProofs (maxSteps := 400000) (disch := first | with_reducible rfl | omega | (simp only [wkH] <;> omega) | decide) only [wkAll, wkL, popO, wantedP, binP, if_pos, h1] | refine w_pure (tu) ?_ | refine w_pure (tf) ?_
    refine hQ (by first | exact .inr rfl | exact .inl rfl) (by first | exact trivial | exact marks1) (by first | (simp -implicitDefEqProofs (maxSteps := 400000) (disch := first | with_reducible rfl | omega | (simp only [wkH] <;> omega) | decide) only [wkL, resP, resPs, resP1]; rfl) | rfl) ⟨6, by repeat' first | exact frz_scalar rfl | apply frz_tuple | apply frz_agg | apply frz_fsl | apply frz_gsl (by omega) | exact frzs_nil | apply frzs_cons | exact frzs_scalars (krsC_ok _)⟩ (by first | exact keepsH0 | exact keeps1 (by assumption)) (nw_eq ?_)
    rfl
  by_cases h2 : (numL l 1 true).2 = false ∨ (numL l 4 true).2 = false
  · rw [show ansL A C Hs P l = ([⟨true, 2, twoL 1⟩, ⟨true, 0, []⟩], 0) by rw [ansL, if_neg h1, if_pos h2]]
    have tf := refFailed_ok (w0 := w0) 1 (by decide)
    obtain ⟨b1, hb1⟩ : ∃ b, b = (numL l 1 true).2 := ⟨_, rfl⟩
    obtain ⟨b2, hb2⟩ : ∃ b, b = (numL l 4 true).2 := ⟨_, rfl⟩
    rw [← hb1] at t1 h2
    rw [← hb2] at t2 h2
    have hor : b1 = false ∨ (b1 = true ∧ b2 = false) := by
      clear t1 t2 hb1 hb2 hb
      rcases h2 with h | h
      · exact .inl h
      · rcases b1 with _ | _
        · exact .inl rfl
        · exact .inr ⟨rfl, h⟩
    rcases hor with rfl | ⟨rfl, rfl⟩
    all_goals
      refine fn_H ([Go.ResultVar.tmp 4, Go.ResultVar.tmp 5]) Tryz.func10 rfl rfl (by decide) fun ph hW Q hQ => ?_
      simp only [start, List.length_cons, List.length_nil, List.cons_append, List.nil_append, Nat.reduceAdd, Nat.reduceSub, List.replicate_succ, List.replicate_zero, Tryz.ntmps10]
      repeat' first | simp -implicitDefEqProofs (maxSteps := 400000) (disch := first | with_reducible rfl | omega | (simp only [wkH] <;> omega) | decide) only [wkAll, wkL, popO, wantedP, binP, unP, if_pos, if_neg, h1] | refine w_pure (t1) ?_ | refine w_pure (t2) ?_ | refine w_pure (tu) ?_ | refine w_pure (tf) ?_
      refine hQ (by first | exact .inr rfl | exact .inl rfl) (by first | exact trivial | exact marks1) (by first | (simp -implicitDefEqProofs (maxSteps := 400000) (disch := first | with_reducible rfl | omega | (simp only [wkH] <;> omega) | decide) only [wkL, resP, resPs, resP1]; rfl) | rfl) ⟨6, by repeat' first | exact frz_scalar rfl | apply frz_tuple | apply frz_agg | apply frz_fsl | apply frz_gsl (by omega) | exact frzs_nil | apply frzs_cons | exact frzs_scalars (krsC_ok _)⟩ (by first | exact keepsH0 | exact keeps1 (by assumption)) (nw_eq ?_)
      rfl
  have hb1 : (numL l 1 true).2 = true := eq_true_of_ne_false fun h => h2 (.inl h)
  have hb2 : (numL l 4 true).2 = true := eq_true_of_ne_false fun h => h2 (.inr h)
  rw [hb1] at t1
  rw [hb2] at t2
  by_cases h3 : (numL l 1 true).1.any (fun y => (0 : Int) == y) = false
  · rw [show ansL A C Hs P l = ([⟨true, 1, []⟩, ⟨true, 0, []⟩], 0) by rw [ansL, if_neg h1, if_neg h2, if_pos h3]]
    rw [h3] at tc
    refine fn_H ([Go.ResultVar.tmp 4, Go.ResultVar.tmp 5]) Tryz.func10 rfl rfl (by decide) fun ph hW Q hQ => ?_
    simp only [start, List.length_cons, List.length_nil, List.cons_append, List.nil_append, Nat.reduceAdd, Nat.reduceSub, List.replicate_succ, List.replicate_zero, Tryz.ntmps10]
    repeat' first | simp -implicitDefEqProofs (maxSteps := 400000) (disch := first | with_reducible rfl | omega | (simp only [wkH] <;> omega) | decide) only [wkAll, wkL, popO, wantedP, ne_eq, Nat.reduceAdd, Nat.reduceMul, Nat.reduceLeDiff, Nat.reduceLT, binP, unP, buildP, buildSliceP, placeF, fillP, setL, gt_iff_lt, Nat.reducePow, reps, if_pos, if_neg, tf26, tf46, Tryz.ze46, h1] | refine w_pure (t1) ?_ | refine w_pure (t2) ?_ | refine w_pure (tu) ?_ | refine w_pure (tc) ?_ | refine w_pure (te) ?_
    refine hQ (by first | exact .inr rfl | exact .inl rfl) (by first | exact trivial | exact marks1) (by first | (simp -implicitDefEqProofs (maxSteps := 400000) (disch := first | with_reducible rfl | omega | (simp only [wkH] <;> omega) | decide) only [wkL, resP, resPs, resP1]; rfl) | rfl) ⟨6, by repeat' first | exact frz_scalar rfl | apply frz_tuple | apply frz_agg | apply frz_fsl | apply frz_gsl (by omega) | exact frzs_nil | apply frzs_cons | exact frz_whole (by omega) (by rw [h_shut0, h_get]; rfl) rfl rfl⟩ (by first | exact keepsH0 | exact keeps1 (by assumption)) (nw_eq ?_)
    rfl
  have h3' : (numL l 1 true).1.any (fun y => (0 : Int) == y) = true := by simpa using h3
  rw [h3'] at tc
  obtain ⟨W, hW4⟩ : ∃ W, W = (numL l 4 true).1 := ⟨_, rfl⟩
  rw [← hW4] at t2 n2
  have hans : ansL A C Hs P l = if idxL (takeB W) A < 0 then ([⟨true, 1, twoL 0⟩, ⟨true, 4, []⟩, ⟨true, 0, []⟩], 0) else (outL (A.getD (idxL (takeB W) A).toNat 0) C Hs P, A.getD (idxL (takeB W) A).toNat 0) := by rw [ansL, if_neg h1, if_neg h2, if_neg h3, ← hW4]
  rw [hans]
  clear hans
  refine fn_H ([Go.ResultVar.tmp 4, Go.ResultVar.tmp 5]) Tryz.func10 rfl rfl (by decide) fun ph hW Q hQ => ?_
  simp only [start, List.length_cons, List.length_nil, List.cons_append, List.nil_append, Nat.reduceAdd, Nat.reduceSub, List.replicate_succ, List.replicate_zero, Tryz.ntmps10]
  repeat' first | simp -implicitDefEqProofs (maxSteps := 400000) (disch := first | with_reducible rfl | omega | (simp only [wkH] <;> omega) | decide) only [wkAll, wkL, popO, wantedP, ne_eq, Nat.reduceAdd, Nat.reduceLeDiff, Nat.reduceLT, binP, unP, buildP, buildSliceP, placeF, fillP, setL, gt_iff_lt, Nat.reducePow, reps, if_pos, if_neg, tf26, tf46, Tryz.ze46, h1] | refine w_pure (t1) ?_ | refine w_pure (t2) ?_ | refine w_pure (tu) ?_ | refine w_pure (tc) ?_ | refine w_pure (t0) ?_
  refine w_loopH (α := Nat × Int) ph ph.ob ph.ty (fun x => [.undef, .undef, .ptr ph.n 0, .undef, .undef, .undef, .undef, .undef, .fsl 1 W.length (intsC W), .undef, .sl (ph.n + 1) 0 3 1 (some 1), .int .i64 x.2, .int .i64 x.1, .undef, .undef, .undef, .undef, .undef, .undef, .undef, .undef, .undef, .undef, .undef, .undef, .undef, .undef, .undef, .undef, .undef, .undef, .undef, .undef, .undef, .undef, .undef, .undef, .undef, .undef, .undef, .undef, .undef, .undef, .undef, .undef, .undef, .undef, .undef, .undef, .undef, .undef, .undef, .undef, .undef, .undef, .undef, .undef, .undef, .undef, .undef, .undef, .undef, .undef, .undef, .undef, .undef, .undef, .undef, .undef, .undef, .undef, .undef, .undef, .undef, .undef, .undef, .undef, .undef, .undef, .undef, .undef, .undef, .undef, .undef, .undef, .undef, .undef, .undef, .undef, .undef, .undef, .undef, .undef, .undef, .undef, .undef, .undef, .undef, .undef, .undef, .undef, .undef, .undef, .undef, .undef, .undef, .undef, .undef, .undef, .undef, .undef, .undef, .undef, .undef, .undef, .undef, .undef, .undef, .undef, .undef, .undef, .undef, .undef, .undef, .undef, .undef, .undef, .undef, .undef, .undef, .undef, .undef]) (fun x => [some (.own [.fsl 1 A.length (intsC A), .str Hs, .int .i64 P, .fsl 1 C.length (C.map PV.str)]), some (.own [.bool true, .int .i64 1, .str (twoL 0)])]) (fun x => x.1 ≤ A.length ∧ ((x.2 = 0 ∧ (A.take x.1).any (takeB W) = false) ∨ (x.2 ≠ 0 ∧ A.find? (takeB W) = some x.2))) (fun x => A.length - x.1) (0, 0) (by simp) (fun _ _ => by simp []) (.eq (by simp [FadeTo]) rfl) ?_
  rintro ⟨i, b⟩ ⟨hi, hinv⟩ K hK
  simp only at hi hinv ⊢
  by_cases hgo : i < A.length ∧ b = 0
  · obtain ⟨hlt, hb0⟩ := hgo
    subst hb0
    have hno : (A.take i).any (takeB W) = false := by
      rcases hinv with ⟨-, h⟩ | ⟨h, -⟩
      · exact h
      · exact absurd rfl h
    clear hinv
    have hlt' : (i : Int) < (A.length : Int) := by omega
    obtain ⟨a, ha⟩ := get_some hlt
    have hd := intsC_drop A i a ha
    have hla := intsC_len A
    have tk := refKeySize_ok (w0 := w0) a
    have th := refHas_ok (w0 := w0) W a (by omega)
    have hK1 := fun x tm ph' h => hK (i + 1, x) tm ph' h (by show A.length - (i + 1) < A.length - i; omega)
    simp only at hK1
    clear hK
    have hskip : takeB W a = false → i + 1 ≤ A.length ∧ (((0 : Int) = 0 ∧ (A.take (i + 1)).any (takeB W) = false) ∨ ((0 : Int) ≠ 0 ∧ A.find? (takeB W) = some 0)) := fun h => ⟨by omega, .inl ⟨rfl, by rw [take_snoc ha]; simp only [List.any_append, hno, List.any_cons, List.any_nil, h, Bool.or_false]⟩⟩
    by_cases hk : 0 < kszL a
    · cases hh : W.any (fun y => a == y) with
      | true =>
        rw [hh] at th
        have hta : takeB W a = true := by rw [takeB, hh, decide_eq_true hk]; rfl
        have hfind : A.find? (takeB W) = some a := by
          obtain ⟨hi2, rfl⟩ := List.getElem?_eq_some_iff.1 ha
          rw [List.find?_eq_some_iff_getElem]
          refine ⟨hta, i, hi2, rfl, fun j hj => ?_⟩
          have := List.any_eq_false.1 hno A[j] (by rw [List.mem_take_iff_getElem]; exact ⟨j, by omega, rfl⟩)
          simpa using this
        have ha0 : a ≠ 0 := by rintro rfl; exact absurd hk (by decide)
        repeat' first | simp -implicitDefEqProofs (maxSteps := 400000) (disch := first | with_reducible rfl | omega | (simp only [wkH] <;> omega) | decide) only [wkAll, wkL, popO, wantedP, Nat.reduceAdd, Nat.reduceLeDiff, binP, lenP, builtinP, indexAddrOp, loadOp, loadP, fieldAddrOp, PK.agg, gt_iff_lt, seg, wkN, if_pos, if_neg, tf3, tf22, tf25, hlt', hd, hk, gt_iff_lt] | refine w_pure (tk) ?_ | refine w_pure (th) ?_
        exact hK1 a _ _ ⟨by omega, .inr ⟨ha0, hfind⟩⟩ (.eq (by simp [FadeTo]) rfl)
      | false =>
        rw [hh] at th
        repeat' first | simp -implicitDefEqProofs (maxSteps := 400000) (disch := first | with_reducible rfl | omega | (simp only [wkH] <;> omega) | decide) only [wkAll, wkL, popO, wantedP, Nat.reduceAdd, Nat.reduceLeDiff, binP, lenP, builtinP, indexAddrOp, loadOp, loadP, fieldAddrOp, PK.agg, gt_iff_lt, seg, wkN, if_pos, if_neg, tf3, tf22, tf25, hlt', hd, hk, gt_iff_lt] | refine w_pure (tk) ?_ | refine w_pure (th) ?_
        exact hK1 0 _ _ (hskip (by rw [takeB, hh, Bool.and_false])) (.eq (by simp [FadeTo]) rfl)
    ·
      repeat' first | simp -implicitDefEqProofs (maxSteps := 400000) (disch := first | with_reducible rfl | omega | (simp only [wkH] <;> omega) | decide) only [wkAll, wkL, popO, wantedP, Nat.reduceAdd, Nat.reduceLeDiff, binP, lenP, builtinP, indexAddrOp, loadOp, loadP, fieldAddrOp, PK.agg, gt_iff_lt, seg, wkN, if_pos, if_neg, tf3, tf22, tf25, hlt', hd, hk, gt_iff_lt] | refine w_pure (tk) ?_
      exact hK1 0 _ _ (hskip (by rw [takeB, decide_eq_false hk, Bool.false_and])) (.eq (by simp [FadeTo]) rfl)
  · clear hK
    rcases hinv with ⟨hb0, hno⟩ | ⟨hb0, hfind⟩
    · have hge : A.length ≤ i := Nat.le_of_not_lt fun h => hgo ⟨h, hb0⟩
      have hge' : ¬ (i : Int) < (A.length : Int) := by omega
      subst hb0
      rw [List.take_of_length_le hge] at hno
      rw [if_pos (by
        rcases idx_find (takeB W) A with ⟨q1, -⟩ | ⟨k, a, -, q2, -, q4⟩
        · exact q1
        · exact absurd (List.any_eq_true.2 ⟨a, List.mem_of_getElem? q2, q4⟩) (by rw [hno]; simp))] at hQ
      repeat' first | simp -implicitDefEqProofs (maxSteps := 400000) (disch := first | with_reducible rfl | omega | (simp only [wkH] <;> omega) | decide) only [wkAll, wkL, popO, wantedP, ne_eq, Nat.reduceAdd, Nat.reduceMul, Nat.reduceLeDiff, Nat.reduceLT, reduceCtorEq, binP, lenP, builtinP, appendT, appendP, srcP, loadOp, loadP, fieldAddrOp, buildP, buildSliceP, placeF, fillP, setL, PK.agg, gt_iff_lt, Nat.reducePow, reps, seg, if_pos, if_neg, tf22, tf25, tf26, tf46, Tryz.ze46, hge'] | refine w_pure (te) ?_
      refine hQ (by first | exact .inr rfl | exact .inl rfl) (by first | exact trivial | exact marks1) (by first | (simp -implicitDefEqProofs (maxSteps := 400000) (disch := first | with_reducible rfl | omega | (simp only [wkH] <;> omega) | decide) only [wkL, resP, resPs, resP1]; rfl) | rfl) ⟨6, by repeat' first | exact frz_scalar rfl | apply frz_tuple | apply frz_agg | apply frz_fsl | apply frz_gsl (by omega) | exact frzs_nil | apply frzs_cons | exact frz_whole (by omega) (by rw [h_shut0, h_get]; rfl) rfl rfl⟩ (by first | exact keepsH0 | exact keeps1 (by assumption)) (nw_eq ?_)
      rfl
    · obtain ⟨k, q1, q2⟩ : ∃ k : Nat, idxL (takeB W) A = (k : Int) ∧ A[k]? = some b := by
        rcases idx_find (takeB W) A with ⟨-, q⟩ | ⟨k, a, p1, p2, p3, -⟩
        · rw [q] at hfind; cases hfind
        · rw [p3] at hfind; cases hfind; exact ⟨k, p1, p2⟩
      rw [if_neg (by omega), q1, Int.toNat_natCast, show A.getD k 0 = b by rw [List.getD_eq_getElem?_getD, q2]; rfl] at hQ
      have hb0' : (b == 0) = false := by rw [beq_eq_false_iff_ne]; exact hb0
      have hbr : b = 15 ∨ b = 17 := by
        have := List.find?_some hfind
        exact ((takeB_iff W b).1 this).2
      have tb := refTwo19_ok (w0 := w0) b (by rcases hbr with rfl | rfl <;> decide)
      have hlt2 : ((i : Int) < (A.length : Int)) = ((i : Int) < (A.length : Int)) := rfl
      rcases Nat.lt_or_ge i A.length with hx | hx
      all_goals
        first | have hx' : (i : Int) < (A.length : Int) := by omega
              | have hx' : ¬ (i : Int) < (A.length : Int) := by omega
        repeat' first | simp -implicitDefEqProofs (maxSteps := 400000) (disch := first | with_reducible rfl | omega | (simp only [wkH] <;> omega) | decide) only [wkAll, wkL, popO, wantedP, ne_eq, Nat.reduceAdd, Nat.reduceMul, Nat.reduceLeDiff, Nat.reduceLT, reduceCtorEq, binP, lenP, builtinP, appendT, appendP, srcP, loadOp, loadP, fieldAddrOp, buildP, buildSliceP, placeF, fillP, setL, PK.agg, gt_iff_lt, Nat.reducePow, reps, seg, if_pos, if_neg, tf22, tf25, tf26, tf46, Tryz.ze46, hx', hb0'] | refine w_pure (tb) ?_
        have e0 : ([PV.bool true, PV.int IntKind.i64 1, PV.str (twoL 0), PV.bool true, PV.int IntKind.i64 4, PV.str (twoL b)] : List PV) = krsC (out0L b (C.take 0)) := by simp [out0L, krsC, krC]
        rw [e0]
        refine w_loopJ (α := Nat × List (Option Blk)) ph.ob ph.ty (fun x => H ph x.2 ph.ob ph.ty) (fun B x => [.undef, .undef, .ptr ph.n 0, .undef, .undef, .undef, .undef, .undef, .undef, .undef, .sl B.n 0 3 (2 + x.1) none, .int .i64 b, .undef, .int .i64 x.1, .undef, .undef, .undef, .undef, .undef, .undef, .undef, .undef, .undef, .undef, .undef, .undef, .undef, .undef, .undef, .undef, .undef, .undef, .undef, .undef, .undef, .undef, .undef, .undef, .undef, .undef, .undef, .undef, .undef, .undef, .undef, .undef, .undef, .undef, .undef, .undef, .undef, .undef, .undef, .undef, .undef, .undef, .undef, .undef, .undef, .undef, .undef, .undef, .undef, .undef, .undef, .undef, .undef, .undef, .undef, .undef, .undef, .undef, .undef, .undef, .undef, .undef, .undef, .undef, .undef, .undef, .undef, .undef, .undef, .undef, .undef, .undef, .undef, .undef, .undef, .undef, .undef, .undef, .undef, .undef, .undef, .undef, .undef, .undef, .undef, .undef, .undef, .undef, .undef, .undef, .undef, .undef, .undef, .undef, .undef, .undef, .undef, .undef, .undef, .undef, .undef, .undef, .undef, .undef, .undef, .undef, .undef, .undef, .undef, .undef, .undef, .undef, .undef, .undef, .undef, .undef, .undef, .undef]) (fun x => [some (.own (krsC (out0L b (C.take x.1))))]) (fun x => x.1 ≤ C.length ∧ ∃ J', x.2 = some (.own [.fsl 1 A.length (intsC A), .str Hs, .int .i64 P, .fsl 1 C.length (C.map PV.str)]) :: J') (fun x => C.length - x.1) (0, [some (.own [.fsl 1 A.length (intsC A), .str Hs, .int .i64 P, .fsl 1 C.length (C.map PV.str)]), some (.own [.bool true, .int .i64 1, .str (twoL 0)]), some (.own [.bool true, .int .i64 4, .str (twoL b)])]) ⟨by simp, _, rfl⟩ (fun a _ => by simp [h_n]; omega) (.eq (by simp [FadeTo, h_n]) (by simp [h_app])) ?_
        rintro ⟨j, J⟩ ⟨hj, J', hJ⟩ B hB K hK
        simp only at hj hB hJ ⊢
        subst hJ
        have hBn : ph.n < B.n := by rw [hB, h_n]; simp
        have hBg : B.get ph.n = some [.fsl 1 A.length (intsC A), .str Hs, .int .i64 P, .fsl 1 C.length (C.map PV.str)] := by rw [hB, h_get0]; rfl
        have hkeep : ∀ {l : List (Option Blk)}, Keeps ph (H B l ph.ob ph.ty) := by intro l; rw [hB, h_app]; exact keepsH0
        rcases Nat.lt_or_ge j C.length with hlt | hge
        · have hlt' : (j : Int) < (C.length : Int) := by omega
          obtain ⟨s, hs⟩ := get_some hlt
          have hcs : (C.map PV.str)[j]? = some (.str s) := by rw [List.getElem?_map, hs]; rfl
          have hn : out0L b (C.take (j + 1)) = out0L b (C.take j) ++ [⟨false, 5, s⟩] := by rw [take_snoc hs]; simp [out0L]
          have hK1 := fun J2 tm ph' h => hK (j + 1, some (.own [.fsl 1 A.length (intsC A), .str Hs, .int .i64 P, .fsl 1 C.length (C.map PV.str)]) :: J2) tm ph' ⟨by show j + 1 ≤ _; omega, J2, rfl⟩ (by show C.length - (j + 1) < C.length - j; omega) h
          simp only at hK1
          clear hK
          have hol : (krsC (out0L b (C.take j))).length = (2 + j) * 3 := by rw [krsC_len, out0L_len, List.length_take]; omega
          have hok : (krsC (out0L b (C.take j))).all cellOk = true := krsC_cok _
          have hn2 : krsC (out0L b (C.take j)) ++ [.bool false, .int .i64 5, .str s] = krsC (out0L b (C.take (j + 1))) := by rw [hn, krsC_app]; rfl
          generalize krsC (out0L b (C.take j)) = o at *
          have hmx : ((2 + j + 1) * 32 ≤ 140737488355328) = True := by simp; omega
          repeat' first | simp -implicitDefEqProofs (maxSteps := 400000) (disch := first | with_reducible rfl | omega | (simp only [wkH] <;> omega) | decide) only [wkAll, wkL, popO, wantedP, ne_eq, Nat.reduceAdd, Nat.reduceLeDiff, Nat.reduceLT, reduceCtorEq, binP, lenP, builtinP, appendT, appendP, srcP, indexAddrOp, loadOp, loadP, fieldAddrOp, buildP, buildSliceP, placeF, fillP, setL, PK.agg, gt_iff_lt, Nat.reducePow, reps, seg, wkN, if_pos, if_neg, tf9, tf23, tf25, tf26, tf46, Tryz.ze46, hlt', h_getlt hBn, hBg, List.getElem?_drop, hcs, hol, hok, hmx, hn2]
          exact hK1 (J' ++ [none, some (.own [.bool false, .int .i64 5, .str s])]) _ _ (.eq (by subst hB; simp [FadeTo, h_n, Nat.add_assoc]) (by subst hB; simp [h_app]))
        · have hge' : ¬ (j : Int) < (C.length : Int) := by omega
          rw [List.take_of_length_le hge]
          clear hK
          have hol : (krsC (out0L b C)).length = (2 + j) * 3 := by rw [krsC_len, out0L_len]; omega
          have hok : (krsC (out0L b C)).all cellOk = true := krsC_cok _
          have hsc : (krsC (out0L b C)).all scalarV = true := krsC_ok _
          have hol2 : (out0L b C).length = 2 + j := by rw [out0L_len]; omega
          have houtl : (outL b C Hs P).length = 2 + j + (if Hs = [] then 0 else 1) + (if P = 0 then 0 else 1) + 1 := by
            rw [← hol2]; unfold outL out0L; split <;> split <;> simp
          have hout : krsC (outL b C Hs P) = krsC (out0L b C) ++ (if Hs = [] then [] else [.bool true, .int .i64 6, .str Hs]) ++ (if P = 0 then [] else [.bool true, .int .i64 7, .str (twoL P)]) ++ [.bool true, .int .i64 0, .str []] := by
            unfold outL out0L; split <;> split <;> simp [krsC, krC]
          rw [hout, houtl] at hQ
          generalize krsC (out0L b C) = o at *
          have hmx : ∀ c, c ≤ 4 → ((2 + j + c) * 32 ≤ 140737488355328) = True := by intro c hc; simp; omega
          have hmx1 := hmx 1 (by omega)
          have hmx2 : ((2 + j + 1 + 1) * 32 ≤ 140737488355328) = True := hmx 2 (by omega)
          have hmx3 : ((2 + j + 1 + 1 + 1) * 32 ≤ 140737488355328) = True := hmx 3 (by omega)
          have hm1 : ((2 + j + 1) * 3 = (2 + j) * 3 + 3) = True := by simp; omega
          have hm2 : ((2 + j + 1 + 1) * 3 = (2 + j) * 3 + 3 + 3) = True := by simp; omega
          have hwr : 0 ≤ IntKind.wrap .u64 P ∧ IntKind.wrap .u64 P < 18446744073709551616 := by
            have h : IntKind.wrap .u64 P = P % 18446744073709551616 := by simp [IntKind.wrap, IntKind.bits, IntKind.signed]
            omega
          have t7 := refTwo19_ok (w0 := w0) (IntKind.wrap .u64 P % 65536) (by omega)
          have hrm := rem_nn (IntKind.wrap .u64 P) 65536 hwr.1
          have hwi : IntKind.wrap .i64 (IntKind.wrap .u64 P % 65536) = IntKind.wrap .u64 P % 65536 := IntWalk.i64_in _ (by omega)
          have hwu : IntKind.wrap .u64 (IntKind.wrap .u64 P % 65536) = IntKind.wrap .u64 P % 65536 := IntWalk.u64_in _ (by omega)
          rw [two_mod] at t7
          clear houtl hout hmx
          by_cases hH : Hs = []
          all_goals by_cases hPz : P = 0
          all_goals
            first | have cH := strEqT hH | have cH := strEqF hH
            first | have cP := bneF hPz | have cP := bneT hPz
            repeat' first | simp -implicitDefEqProofs (maxSteps := 400000) (disch := first | with_reducible rfl | omega | (simp only [wkH] <;> omega) | decide) only [wkAll, wkL, popO, wantedP, ne_eq, Nat.reduceAdd, Nat.reduceLeDiff, Nat.reduceLT, reduceCtorEq, Int.reduceEq, binP, convP, lenP, builtinP, appendT, appendP, srcP, loadOp, loadP, fieldAddrOp, buildP, buildSliceP, placeF, fillP, setL, PK.agg, gt_iff_lt, Nat.reducePow, reps, seg, if_pos, if_neg, tf3, tf9, tf23, tf25, tf26, tf46, Tryz.ze46, tf50, hge', h_getlt hBn, hBg, cH, cP, hol, hok, hmx1, hmx2, hmx3, hm1, hm2, hrm, hwi, List.all_append] | refine w_pure (t7) ?_ | refine w_pure (te) ?_
            refine hQ (by first | exact .inr rfl | exact .inl rfl) (by first | exact trivial | exact marks1) (by first | (simp -implicitDefEqProofs (maxSteps := 400000) (disch := first | with_reducible rfl | omega | (simp only [wkH] <;> omega) | decide) only [wkL, resP, resPs, resP1]; rfl) | rfl) ⟨6, by repeat' first | exact frz_scalar rfl | apply frz_tuple | apply frz_agg | apply frz_fsl | apply frz_gsl (by omega) | exact frzs_nil | apply frzs_cons | exact frz_whole (by omega) (by rw [h_shut0, h_get]; rfl) (by simp only [List.length_append, List.length_cons, List.length_nil, hol]; omega) (by simp only [List.all_append, hsc]; rfl)⟩ (by first | exact hkeep | exact keepsH0) (nw_eq ?_)
            simp [hH, hPz, List.append_assoc, Nat.add_assoc]
end Pv

--nosplit
--keep2
namespace Pv
set_option maxRecDepth 20000
set_option maxHeartbeats 4000000
open Go Go.Proofs Go.RowKit
variable {w0 : World}

theorem wf_i64 {n : Int} (h : (Lit.int .i64 n).wf = true) : -9223372036854775808 ≤ n ∧ n ≤ 9223372036854775807 := by
  have h1 : IntKind.min .i64 = -9223372036854775808 := by decide
  have h2 : IntKind.max .i64 = 9223372036854775807 := by decide
  have : IntKind.min .i64 ≤ n ∧ n ≤ IntKind.max .i64 := by simpa [Lit.wf] using h
  omega
theorem okR_intsW : ∀ {n : Nat} {ps : List PV}, OkR [.int .i64] n ps → ∃ l : List Int, ps = intsC l ∧ l.length = n ∧ ∀ a ∈ l, -9223372036854775808 ≤ a ∧ a ≤ 9223372036854775807
  | _, _, .nil _ => ⟨[], rfl, rfl, by simp⟩
  | _, _, .cons _ _ _ _ h hs => by
    obtain ⟨l, rfl, rfl, hl⟩ := okR_intsW hs
    cases h with
    | cons _ _ _ _ h1 h => cases h with
      | nil =>
        cases h1 with
        | int _ k hk =>
          refine ⟨k :: l, by simp [intsC], rfl, fun a ha => ?_⟩
          rcases List.mem_cons.1 ha with rfl | h
          · exact wf_i64 hk
          · exact hl a h
theorem okR_strsB : ∀ {n : Nat} {ps : List PV}, OkR [.str] n ps → ∃ l : List (List UInt8), ps = l.map PV.str ∧ l.length = n
  | _, _, .nil _ => ⟨[], rfl, rfl⟩
  | _, _, .cons _ _ _ _ h hs => by
    obtain ⟨l, rfl, rfl⟩ := okR_strsB hs
    cases h with
    | cons _ _ _ _ h1 h => cases h with
      | nil => cases h1 with | str s hs => exact ⟨s :: l, by simp, rfl⟩
theorem okL_conf {c : List PV} (h : OkL [.sl [.int .i64], .str, .int .i64, .sl [.str]] c) : ∃ (S : List Int) (Hs : List UInt8) (P : Int) (C : List (List UInt8)), c = [.fsl 1 S.length (intsC S), .str Hs, .int .i64 P, .fsl 1 C.length (C.map PV.str)] ∧ (∀ a ∈ S, -9223372036854775808 ≤ a ∧ a ≤ 9223372036854775807) ∧ -9223372036854775808 ≤ P ∧ P ≤ 9223372036854775807 := by
  cases h with | cons _ _ p1 ps1 g1 h =>
  cases h with | cons _ _ p2 ps2 g2 h =>
  cases h with | cons _ _ p3 ps3 g3 h =>
  cases h with | cons _ _ p4 ps4 g4 h =>
  cases h
  cases g1 with | sl _ n1 cs1 _ r1 =>
  cases g2 with | str Hs _ =>
  cases g3 with | int _ P wP =>
  cases g4 with | sl _ n4 cs4 _ r4 =>
  obtain ⟨S, rfl, rfl, hS⟩ := okR_intsW r1
  obtain ⟨C, rfl, rfl⟩ := okR_strsB r4
  exact ⟨S, Hs, P, C, rfl, hS, wf_i64 wP⟩
end Pv

--nosplit
--keep2
namespace Pv
set_option maxRecDepth 20000
set_option maxHeartbeats 4000000
open Go Go.Proofs Go.RowKit
variable {w0 : World}

theorem askL_len (A : List Int) (Nm : List UInt8) (P : Int) : (askL A Nm P).1.length ≤ 5 := by
  unfold askL
  split
  · simp
  · unfold askR; split <;> split <;> simp
theorem ansL_len (A : List Int) (C : List (List UInt8)) (Hs : List UInt8) (P : Int) (l : List KR) : (ansL A C Hs P l).1.length ≤ C.length + 5 := by
  unfold ansL
  split
  · simp
  · split
    · simp
    · split
      · simp
      · split
        · simp
        · unfold outL; split <;> split <;> simp <;> omega
theorem NegoAsks_law (A : List Int) (Nm : List UInt8) (P : Int) (S : List Int) (Hs : List UInt8) (Pc : Int) (C : List (List UInt8)) (l : List KR) (hNm : Nm.length < 2 ^ 47) (hP : -9223372036854775808 ≤ P ∧ P ≤ 9223372036854775807) (hPc : -9223372036854775808 ≤ Pc ∧ Pc ≤ 9223372036854775807) (hS2 : ∀ a ∈ S, -9223372036854775808 ≤ a ∧ a ≤ 9223372036854775807) (hb : ∀ r ∈ l, r.b.length < 2 ^ 47) :
    Fn (Cx w0) 3 [.fsl 1 A.length (intsC A), .str Nm, .int .i64 P, .agg [.fsl 1 S.length (intsC S), .str Hs, .int .i64 Pc, .fsl 1 C.length (C.map PV.str)], .fsl 3 l.length (krsC l)] (.bool true) := by
  have aw := awake19_ok (w0 := w0)
  have tf := few19_ok (w0 := w0) l.length (krsC l)
  by_cases g1 : A.length ≤ 1000
  · have g1' : ¬ (1000 : Int) < (A.length : Int) := by omega
    by_cases g2 : l.length ≤ 500
    · rw [decide_eq_true g2] at tf
      by_cases g3 : S.length ≤ 500
      · have g3' : ¬ (500 : Int) < (S.length : Int) := by omega
        by_cases g4 : C.length ≤ 500
        · have g4' : ¬ (500 : Int) < (C.length : Int) := by omega
          have hb2 : ∀ r ∈ l, r.b.length < 2 ^ 50 := fun r hr => Nat.lt_trans (hb r hr) (by decide)
          have a1 := negoAsk_ok (w0 := w0) A Nm P (by omega) hP
          have a2 := refAsk_ok (w0 := w0) A Nm P (by omega) (Nat.lt_trans hNm (by decide))
          have a3 := negoAnswer_ok (w0 := w0) S C Hs Pc l (by omega) (by omega) (by omega) hb2 hS2 hPc
          have a4 := refAnswer_ok (w0 := w0) S C Hs Pc l (by omega) (by omega) (by omega) hb2
          have b1 := askL_len A Nm P
          have b2 := ansL_len S C Hs Pc l
          have d1 := refSame_ok (w0 := w0) (askL A Nm P).1 (askL A Nm P).1 (by omega) (by omega)
          have d2 := refSame_ok (w0 := w0) (ansL S C Hs Pc l).1 (ansL S C Hs Pc l).1 (by omega) (by omega)
          rw [decide_eq_true rfl] at d1 d2
          generalize askL A Nm P = X at *
          generalize ansL S C Hs Pc l = Y at *
          refine fn_H ([Go.ResultVar.tmp 10]) Tryz.func3 rfl rfl (by decide) fun ph hW Q hQ => ?_
          simp only [start, List.length_cons, List.length_nil, List.cons_append, List.nil_append, Nat.reduceAdd, Nat.reduceSub, List.replicate_succ, List.replicate_zero, Tryz.ntmps3]
          repeat' first | simp -implicitDefEqProofs (maxSteps := 400000) (disch := first | with_reducible rfl | omega | (simp only [wkH] <;> omega) | decide) only [wkAll, wkL, popO, wantedP, Nat.reduceAdd, Nat.reduceLeDiff, binP, unP, lenP, builtinP, loadOp, loadP, fieldAddrOp, PK.agg, gt_iff_lt, seg, if_pos, if_neg, tf22, tf23, tf25, g1', g3', g4', gt_iff_lt] | refine w_pure (tf) ?_ | refine w_pure (a1) ?_ | refine w_pure (a2) ?_ | refine w_pure (a3) ?_ | refine w_pure (a4) ?_ | refine w_pure (d1) ?_ | refine w_pure (d2) ?_ | refine w_pure (aw) ?_
          refine hQ (by first | exact .inr rfl | exact .inl rfl) (by first | exact trivial | exact marks1) (by first | (simp -implicitDefEqProofs (maxSteps := 400000) (disch := first | with_reducible rfl | omega | (simp only [wkH] <;> omega) | decide) only [wkL, resP, resPs, resP1]; rfl) | rfl) ⟨6, by repeat' first | exact frz_scalar rfl | apply frz_tuple | apply frz_agg | apply frz_fsl | apply frz_gsl (by omega) | exact frzs_nil | apply frzs_cons⟩ (by first | exact keepsH0 | exact keeps1 (by assumption)) (nw_eq ?_)
          rfl
        · have g4' : (500 : Int) < (C.length : Int) := by omega
          refine fn_H ([Go.ResultVar.tmp 10]) Tryz.func3 rfl rfl (by decide) fun ph hW Q hQ => ?_
          simp only [start, List.length_cons, List.length_nil, List.cons_append, List.nil_append, Nat.reduceAdd, Nat.reduceSub, List.replicate_succ, List.replicate_zero, Tryz.ntmps3]
          repeat' first | simp -implicitDefEqProofs (maxSteps := 400000) (disch := first | with_reducible rfl | omega | (simp only [wkH] <;> omega) | decide) only [wkAll, wkL, popO, wantedP, Nat.reduceAdd, Nat.reduceLeDiff, binP, unP, lenP, builtinP, loadOp, loadP, fieldAddrOp, PK.agg, gt_iff_lt, seg, if_pos, if_neg, tf22, tf23, tf25, g1', g3', g4', gt_iff_lt] | refine w_pure (tf) ?_ | refine w_pure (aw) ?_
          refine hQ (by first | exact .inr rfl | exact .inl rfl) (by first | exact trivial | exact marks1) (by first | (simp -implicitDefEqProofs (maxSteps := 400000) (disch := first | with_reducible rfl | omega | (simp only [wkH] <;> omega) | decide) only [wkL, resP, resPs, resP1]; rfl) | rfl) ⟨6, by repeat' first | exact frz_scalar rfl | apply frz_tuple | apply frz_agg | apply frz_fsl | apply frz_gsl (by omega) | exact frzs_nil | apply frzs_cons⟩ (by first | exact keepsH0 | exact keeps1 (by assumption)) (nw_eq ?_)
          rfl
      · have g3' : (500 : Int) < (S.length : Int) := by omega
        refine fn_H ([Go.ResultVar.tmp 10]) Tryz.func3 rfl rfl (by decide) fun ph hW Q hQ => ?_
        simp only [start, List.length_cons, List.length_nil, List.cons_append, List.nil_append, Nat.reduceAdd, Nat.reduceSub, List.replicate_succ, List.replicate_zero, Tryz.ntmps3]
        repeat' first | simp -implicitDefEqProofs (maxSteps := 400000) (disch := first | with_reducible rfl | omega | (simp only [wkH] <;> omega) | decide) only [wkAll, wkL, popO, wantedP, Nat.reduceAdd, Nat.reduceLeDiff, binP, unP, lenP, builtinP, loadOp, loadP, fieldAddrOp, PK.agg, gt_iff_lt, seg, if_pos, if_neg, tf22, tf25, g1', g3', gt_iff_lt] | refine w_pure (tf) ?_ | refine w_pure (aw) ?_
        refine hQ (by first | exact .inr rfl | exact .inl rfl) (by first | exact trivial | exact marks1) (by first | (simp -implicitDefEqProofs (maxSteps := 400000) (disch := first | with_reducible rfl | omega | (simp only [wkH] <;> omega) | decide) only [wkL, resP, resPs, resP1]; rfl) | rfl) ⟨6, by repeat' first | exact frz_scalar rfl | apply frz_tuple | apply frz_agg | apply frz_fsl | apply frz_gsl (by omega) | exact frzs_nil | apply frzs_cons⟩ (by first | exact keepsH0 | exact keeps1 (by assumption)) (nw_eq ?_)
        rfl
    · rw [decide_eq_false g2] at tf
      refine fn_H ([Go.ResultVar.tmp 10]) Tryz.func3 rfl rfl (by decide) fun ph hW Q hQ => ?_
      simp only [start, List.length_cons, List.length_nil, List.cons_append, List.nil_append, Nat.reduceAdd, Nat.reduceSub, List.replicate_succ, List.replicate_zero, Tryz.ntmps3]
      repeat' first | simp -implicitDefEqProofs (maxSteps := 400000) (disch := first | with_reducible rfl | omega | (simp only [wkH] <;> omega) | decide) only [wkAll, wkL, popO, wantedP, binP, unP, lenP, builtinP, gt_iff_lt, if_pos, if_neg, tf22, g1', gt_iff_lt] | refine w_pure (tf) ?_ | refine w_pure (aw) ?_
      refine hQ (by first | exact .inr rfl | exact .inl rfl) (by first | exact trivial | exact marks1) (by first | (simp -implicitDefEqProofs (maxSteps := 400000) (disch := first | with_reducible rfl | omega | (simp only [wkH] <;> omega) | decide) only [wkL, resP, resPs, resP1]; rfl) | rfl) ⟨6, by repeat' first | exact frz_scalar rfl | apply frz_tuple | apply frz_agg | apply frz_fsl | apply frz_gsl (by omega) | exact frzs_nil | apply frzs_cons⟩ (by first | exact keepsH0 | exact keeps1 (by assumption)) (nw_eq ?_)
      rfl
  · have g1' : (1000 : Int) < (A.length : Int) := by omega
    refine fn_H ([Go.ResultVar.tmp 10]) Tryz.func3 rfl rfl (by decide) fun ph hW Q hQ => ?_
    simp only [start, List.length_cons, List.length_nil, List.cons_append, List.nil_append, Nat.reduceAdd, Nat.reduceSub, List.replicate_succ, List.replicate_zero, Tryz.ntmps3]
    repeat' first | simp -implicitDefEqProofs (maxSteps := 400000) (disch := first | with_reducible rfl | omega | (simp only [wkH] <;> omega) | decide) only [wkAll, wkL, popO, wantedP, binP, lenP, builtinP, gt_iff_lt, if_pos, tf22, g1', gt_iff_lt] | refine w_pure (aw) ?_
    refine hQ (by first | exact .inr rfl | exact .inl rfl) (by first | exact trivial | exact marks1) (by first | (simp -implicitDefEqProofs (maxSteps := 400000) (disch := first | with_reducible rfl | omega | (simp only [wkH] <;> omega) | decide) only [wkL, resP, resPs, resP1]; rfl) | rfl) ⟨6, by repeat' first | exact frz_scalar rfl | apply frz_tuple | apply frz_agg | apply frz_fsl | apply frz_gsl (by omega) | exact frzs_nil | apply frzs_cons⟩ (by first | exact keepsH0 | exact keeps1 (by assumption)) (nw_eq ?_)
    rfl
theorem NegoAsks_ok (W : World) (n0 : Nat) (c0 : List PV) (o0 : OkR [.int .i64] n0 c0) (c1 : List UInt8) (o1 : c1.length < 2 ^ 47) (c2 : Int) (o2 : (Lit.int .i64 c2).wf = true) (c3 : List PV) (o3 : OkL [.sl [.int .i64], .str, .int .i64, .sl [.str]] c3) (n4 : Nat) (c4 : List PV) (o4 : OkR [.bool, .int .i64, .str] n4 c4) (b4 : ∀ p ∈ c4, BdV p) : Fn (Cx W) 3 [.fsl 1 n0 c0, .str c1, .int .i64 c2, .agg c3, .fsl 3 n4 c4] (.bool true) := by
  obtain ⟨A, rfl, rfl⟩ := okR_ints o0
  obtain ⟨S, Hs, P, C, rfl, hS, hP⟩ := okL_conf o3
  obtain ⟨l, rfl, rfl, hb⟩ := okR_krsB o4 b4
  exact NegoAsks_law A c1 c2 S Hs P C l o1 (wf_i64 o2) hP hS hb
end Pv
