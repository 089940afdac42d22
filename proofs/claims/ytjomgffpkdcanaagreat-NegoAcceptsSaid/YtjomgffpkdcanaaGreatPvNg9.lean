/- Part of the proof: the layer of pure values, or walks through functions (PvNg9, PvNg10, PvIdxF). -/
import Derived.Test.YtjomgffpkdcanaaGreatPvNg5
import Derived.Test.YtjomgffpkdcanaaGreatPvDrawP
import Derived.Test.YtjomgffpkdcanaaGreatPvSha8
import Derived.Shelf.GgClosure.StringsRunes
set_option linter.all false
--nosplit
--keep2
namespace Pv
set_option maxRecDepth 20000
set_option maxHeartbeats 4000000
open Go Go.Proofs Go.RowKit
variable {w0 : World}

theorem indexI_ok (l : List Int) (x : Int) (hl : l.length < 2 ^ 40) : Fn (Cx w0) 63 [.fsl 1 l.length (intsC l), .int .i64 x] (.int .i64 (idxL (fun y => x == y) l)) := by
  refine fn_H ([Go.ResultVar.tmp 4]) Tryz.func63 rfl rfl (by decide) fun ph hW Q hQ => ?_
  simp only [start, List.length_cons, List.length_nil, List.cons_append, List.nil_append, Nat.reduceAdd, Nat.reduceSub, List.replicate_succ, List.replicate_zero, Tryz.ntmps63]
  repeat' first | simp -implicitDefEqProofs (maxSteps := 400000) (disch := first | with_reducible rfl | omega | (simp only [wkH] <;> omega) | decide) only [wkAll, wkL, popO, wantedP, Int.reduceNeg, lenP, builtinP, tf22]
  refine w_loopH (α := Nat) ph ph.ob ph.ty (fun i => [.fsl 1 l.length (intsC l), .int .i64 x, .undef, .undef, .undef, .undef, .undef, .int .i64 l.length, .int .i64 i, .undef, .undef, .undef, .undef, .undef, .undef, .undef, .undef, .undef, .undef]) (fun i => []) (fun i => i ≤ l.length ∧ (l.take i).any (fun y => x == y) = false) (fun i => l.length - i) 0 (by simp) (fun _ _ => by simp) (.eq (by simp [FadeTo]) rfl) ?_
  rintro i ⟨hi, hno⟩ K hK
  rcases Nat.lt_or_ge i l.length with h | h
  · obtain ⟨r, hr⟩ := get_some h
    have hd := intsC_drop l i r hr
    have hla := intsC_len l
    have hlt : (i : Int) < l.length := by omega
    cases hpr : (x == r) with
    | false =>
      repeat' first | simp -implicitDefEqProofs (maxSteps := 400000) (disch := first | with_reducible rfl | omega | (simp only [wkH] <;> omega) | decide) only [wkAll, wkL, popO, wantedP, Nat.reduceLeDiff, Int.reduceNeg, binP, indexAddrOp, loadOp, loadP, PK.agg, seg, wkN, if_pos, if_neg, tf3, tf22, hd, hlt, hpr]
      exact hK (i + 1) _ _ ⟨by omega, by rw [take_snoc hr]; simp only [List.any_append, hno, List.any_cons, List.any_nil, hpr, Bool.or_false]⟩ (by omega) (.eq (by simp [FadeTo]) rfl)
    | true =>
      repeat' first | simp -implicitDefEqProofs (maxSteps := 400000) (disch := first | with_reducible rfl | omega | (simp only [wkH] <;> omega) | decide) only [wkAll, wkL, popO, wantedP, Nat.reduceLeDiff, Int.reduceNeg, binP, indexAddrOp, loadOp, loadP, PK.agg, seg, if_pos, if_neg, tf3, tf22, hd, hlt, hpr]
      refine hQ (by first | exact .inr rfl | exact .inl rfl) (by first | exact trivial | exact marks1) (by first | (simp -implicitDefEqProofs (maxSteps := 400000) (disch := first | with_reducible rfl | omega | (simp only [wkH] <;> omega) | decide) only [wkL, resP, resPs, resP1]; rfl) | rfl) ⟨6, by repeat' first | exact frz_scalar rfl | apply frz_tuple | apply frz_agg | apply frz_fsl | apply frz_gsl (by omega) | exact frzs_nil | apply frzs_cons⟩ (by first | exact keepsH0 | exact keeps1 (by assumption)) (nw_eq ?_)
      rw [idxL_found hno hr hpr]
  · have hge : ¬ (i : Int) < l.length := by omega
    repeat' first | simp -implicitDefEqProofs (maxSteps := 400000) (disch := first | with_reducible rfl | omega | (simp only [wkH] <;> omega) | decide) only [wkAll, wkL, popO, wantedP, Int.reduceNeg, binP, if_pos, hge]
    refine hQ (by first | exact .inr rfl | exact .inl rfl) (by first | exact trivial | exact marks1) (by first | (simp -implicitDefEqProofs (maxSteps := 400000) (disch := first | with_reducible rfl | omega | (simp only [wkH] <;> omega) | decide) only [wkL, Int.reduceNeg, resP, resPs, resP1]; rfl) | rfl) ⟨6, by repeat' first | exact frz_scalar rfl | apply frz_tuple | apply frz_agg | apply frz_fsl | apply frz_gsl (by omega) | exact frzs_nil | apply frzs_cons⟩ (by first | exact keepsH0 | exact keeps1 (by assumption)) (nw_eq ?_)
    rw [List.take_of_length_le h] at hno
    rw [idxL_none hno]
theorem idxL_ge {α : Type} (p : α → Bool) (l : List α) : decide (0 ≤ idxL p l) = l.any p := by
  unfold idxL
  cases h : l.findIdx? p with
  | none =>
    have := List.findIdx?_eq_none_iff.1 h
    have h2 : l.any p = false := by rw [List.any_eq_false]; intro x hx; simp [this x hx]
    rw [h2]; rfl
  | some i =>
    have h3 := List.findIdx?_eq_some_iff_getElem.1 h
    obtain ⟨hi, hp, -⟩ := h3
    have h2 : l.any p = true := List.any_eq_true.2 ⟨l[i], List.getElem_mem hi, hp⟩
    rw [h2]; simp
theorem contains_ok (l : List Int) (x : Int) (hl : l.length < 2 ^ 40) : Fn (Cx w0) 32 [.fsl 1 l.length (intsC l), .int .i64 x] (.bool (l.any (fun y => x == y))) := by
  have ti := indexI_ok (w0 := w0) l x hl
  rw [← idxL_ge]
  refine fn_H ([Go.ResultVar.tmp 4]) Tryz.func32 rfl rfl (by decide) fun ph hW Q hQ => ?_
  simp only [start, List.length_cons, List.length_nil, List.cons_append, List.nil_append, Nat.reduceAdd, Nat.reduceSub, List.replicate_succ, List.replicate_zero, Tryz.ntmps32]
  repeat' first | simp -implicitDefEqProofs (maxSteps := 400000) (disch := first | with_reducible rfl | omega | (simp only [wkH] <;> omega) | decide) only [wkAll, wkL, popO, wantedP, binP, if_pos, ge_iff_le] | refine w_pure (ti) ?_
  refine hQ (by first | exact .inr rfl | exact .inl rfl) (by first | exact trivial | exact marks1) (by first | (simp -implicitDefEqProofs (maxSteps := 400000) (disch := first | with_reducible rfl | omega | (simp only [wkH] <;> omega) | decide) only [wkL, resP, resPs, resP1]; rfl) | rfl) ⟨6, by repeat' first | exact frz_scalar rfl | apply frz_tuple | apply frz_agg | apply frz_fsl | apply frz_gsl (by omega) | exact frzs_nil | apply frzs_cons⟩ (by first | exact keepsH0 | exact keeps1 (by assumption)) (nw_eq ?_)
  rfl
theorem indexF_ok (ph : PH) (g : FuncId) (c : Nat) (cells : List PV) (p : Int → Bool) (hc : ph.get c = some cells) (hp : ∀ (H1 : PH), H1.get c = some cells → ∀ x, Eff (Cx w0) g [.int .i64 x, .ptr c 0] H1 (.bool (p x)) H1) (l : List Int) (hl : l.length < 2 ^ 40) :
    Eff (Cx w0) 33 [.fsl 1 l.length (intsC l), .func g [] [.ptr c 0]] ph (.int .i64 (idxL p l)) ph := by
  have hcl := PH.get_lt hc
  refine eff_of ([Go.ResultVar.tmp 4]) Tryz.func33 rfl rfl (by decide) rfl (fun h => h) fun hW Q hQ => ?_
  simp only [start, List.length_cons, List.length_nil, List.cons_append, List.nil_append, Nat.reduceAdd, Nat.reduceSub, List.replicate_succ, List.replicate_zero, Tryz.ntmps33]
  repeat' first | simp -implicitDefEqProofs (maxSteps := 400000) (disch := first | with_reducible rfl | omega | (simp only [wkH] <;> omega) | decide) only [wkAll, wkL, popO, wantedP, Int.reduceNeg, lenP, builtinP, tf22]
  refine w_loopH (α := Nat) ph ph.ob ph.ty (fun i => [.fsl 1 l.length (intsC l), .func g [] [.ptr c 0], .undef, .undef, .undef, .undef, .undef, .int .i64 l.length, .int .i64 i, .undef, .undef, .undef, .undef, .undef, .undef, .undef, .undef, .undef, .undef]) (fun i => []) (fun i => i ≤ l.length ∧ (l.take i).any p = false) (fun i => l.length - i) 0 (by simp) (fun _ _ => by simp) (.eq (by simp [FadeTo]) rfl) ?_
  rintro i ⟨hi, hno⟩ K hK
  rcases Nat.lt_or_ge i l.length with h | h
  · obtain ⟨r, hr⟩ := get_some h
    have hd := intsC_drop l i r hr
    have hla := intsC_len l
    have hlt : (i : Int) < l.length := by omega
    repeat' first | simp -implicitDefEqProofs (maxSteps := 400000) (disch := first | with_reducible rfl | omega | (simp only [wkH] <;> omega) | decide) only [wkAll, wkL, popO, wantedP, Nat.reduceLeDiff, Int.reduceNeg, binP, indexAddrOp, loadOp, loadP, PK.agg, seg, if_pos, if_neg, tf3, tf22, hd, hlt]
    refine w_eff (hp _ (by rw [h_getlt hcl]; exact hc) r) ?_
    cases hpr : p r with
    | false =>
      repeat' first | simp -implicitDefEqProofs (maxSteps := 400000) (disch := first | with_reducible rfl | omega | (simp only [wkH] <;> omega) | decide) only [wkAll, wkL, popO, wantedP, Int.reduceNeg, binP, wkN, if_pos]
      exact hK (i + 1) _ _ ⟨by omega, by rw [take_snoc hr]; simp only [List.any_append, hno, List.any_cons, List.any_nil, hpr, Bool.or_false]⟩ (by omega) (.eq (by simp [FadeTo]) rfl)
    | true =>
      repeat' first | simp -implicitDefEqProofs (maxSteps := 400000) (disch := first | with_reducible rfl | omega | (simp only [wkH] <;> omega) | decide) only [wkAll, wkL, popO, wantedP, Int.reduceNeg]
      refine hQ (by first | exact .inr rfl | exact .inl rfl) (by first | exact trivial | exact marks1) (by first | (simp -implicitDefEqProofs (maxSteps := 400000) (disch := first | with_reducible rfl | omega | (simp only [wkH] <;> omega) | decide) only [wkL, resP, resPs, resP1]; rfl) | rfl) ⟨6, by repeat' first | exact frz_scalar rfl | apply frz_tuple | apply frz_agg | apply frz_fsl | apply frz_gsl (by omega) | exact frzs_nil | apply frzs_cons⟩ (by first | exact keepsH0 | exact keeps1 (by assumption)) (nw_eq ?_)
      rw [idxL_found hno hr hpr]
  · have hge : ¬ (i : Int) < l.length := by omega
    repeat' first | simp -implicitDefEqProofs (maxSteps := 400000) (disch := first | with_reducible rfl | omega | (simp only [wkH] <;> omega) | decide) only [wkAll, wkL, popO, wantedP, Int.reduceNeg, binP, if_pos, hge]
    refine hQ (by first | exact .inr rfl | exact .inl rfl) (by first | exact trivial | exact marks1) (by first | (simp -implicitDefEqProofs (maxSteps := 400000) (disch := first | with_reducible rfl | omega | (simp only [wkH] <;> omega) | decide) only [wkL, Int.reduceNeg, resP, resPs, resP1]; rfl) | rfl) ⟨6, by repeat' first | exact frz_scalar rfl | apply frz_tuple | apply frz_agg | apply frz_fsl | apply frz_gsl (by omega) | exact frzs_nil | apply frzs_cons⟩ (by first | exact keepsH0 | exact keeps1 (by assumption)) (nw_eq ?_)
    rw [List.take_of_length_le h] at hno
    rw [idxL_none hno]
/-- A way that a server takes of those that are offered. -/
def takeB (A : List Int) (a : Int) : Bool := decide (0 < kszL a) && A.any (fun y => a == y)
theorem answer1_ok (A : List Int) (hA : A.length < 2 ^ 40) (a : Int) (c : Nat) (ph : PH) (hc : ph.get c = some [.fsl 1 A.length (intsC A)]) : Eff (Cx w0) 34 [.int .i64 a, .ptr c 0] ph (.bool (takeB A a)) ph := by
  have hcl := PH.get_lt hc
  have tk := negoKeySize_ok (w0 := w0) a
  have tc := contains_ok (w0 := w0) A a hA
  refine eff_of ([Go.ResultVar.tmp 3]) Tryz.func34 rfl rfl (by decide) rfl (fun h => h) fun hW Q hQ => ?_
  simp only [start, List.length_cons, List.length_nil, List.cons_append, List.nil_append, Nat.reduceAdd, Nat.reduceSub, List.replicate_succ, List.replicate_zero, Tryz.ntmps34]
  by_cases h : 0 < kszL a
  · rw [show takeB A a = A.any (fun y => a == y) by simp [takeB, h]] at hQ
    repeat' first | simp -implicitDefEqProofs (maxSteps := 400000) (disch := first | with_reducible rfl | omega | (simp only [wkH] <;> omega) | decide) only [wkAll, wkL, popO, wantedP, Nat.reduceLeDiff, binP, loadOp, loadP, PK.agg, gt_iff_lt, seg, if_pos, if_neg, tf22, h, gt_iff_lt, h_getlt hcl, hc] | refine w_pure (tk) ?_ | refine w_pure (tc) ?_
    refine hQ (by first | exact .inr rfl | exact .inl rfl) (by first | exact trivial | exact marks1) (by first | (simp -implicitDefEqProofs (maxSteps := 400000) (disch := first | with_reducible rfl | omega | (simp only [wkH] <;> omega) | decide) only [wkL, resP, resPs, resP1]; rfl) | rfl) ⟨6, by repeat' first | exact frz_scalar rfl | apply frz_tuple | apply frz_agg | apply frz_fsl | apply frz_gsl (by omega) | exact frzs_nil | apply frzs_cons⟩ (by first | exact keepsH0 | exact keeps1 (by assumption)) (nw_eq ?_)
    rfl
  · rw [show takeB A a = false by simp [takeB, h]] at hQ
    repeat' first | simp -implicitDefEqProofs (maxSteps := 400000) (disch := first | with_reducible rfl | omega | (simp only [wkH] <;> omega) | decide) only [wkAll, wkL, popO, wantedP, binP, gt_iff_lt, if_pos, if_neg, h, gt_iff_lt] | refine w_pure (tk) ?_
    refine hQ (by first | exact .inr rfl | exact .inl rfl) (by first | exact trivial | exact marks1) (by first | (simp -implicitDefEqProofs (maxSteps := 400000) (disch := first | with_reducible rfl | omega | (simp only [wkH] <;> omega) | decide) only [wkL, resP, resPs, resP1]; rfl) | rfl) ⟨6, by repeat' first | exact frz_scalar rfl | apply frz_tuple | apply frz_agg | apply frz_fsl | apply frz_gsl (by omega) | exact frzs_nil | apply frzs_cons⟩ (by first | exact keepsH0 | exact keeps1 (by assumption)) (nw_eq ?_)
    rfl
end Pv

--nosplit
--keep2
namespace Pv
set_option maxRecDepth 20000
set_option maxHeartbeats 4000000
open Go Go.Proofs Go.RowKit
def tb14_6Ng10 : Tab := [[], [0], [], [0, 1, 2], [0, 1, 2, 3], [], [5], [], [5, 6, 7], [5, 6, 7, 8], [0, 1, 2, 3, 4, 5, 6, 7, 8, 9]]
def pl14_6Ng10 : Plan := [(0, true, []), (1, true, []), (2, true, []), (3, true, []), (4, true, []), (5, true, []), (6, true, []), (7, true, []), (8, true, []), (9, true, []), (10, true, [])]
variable {w0 : World}

/-- What a client gets. -/
structure DL where
  a : Int
  c : List (List UInt8)
  h : List UInt8
  p : Int
deriving DecidableEq
def dlC (d : DL) : List PV := [.int .i64 d.a, .fsl 1 d.c.length (d.c.map PV.str), .str d.h, .int .i64 d.p]
theorem bneT {a b : Int} (h : ¬ a = b) : (a != b) = true := by rw [bne_iff_ne]; exact h
theorem bneF {a b : Int} (h : a = b) : (a != b) = false := by rw [h]; exact bne_self_eq_false _
theorem strEqF {a b : List UInt8} (h : ¬ a = b) : (!(a == b)) = true := by simpa using h
theorem strEqT {a b : List UInt8} (h : a = b) : (!(a == b)) = false := by subst h; simp
theorem take_dif' {α : Type} {a b : List α} {i : Nat} {x y : α} (hx : a[i]? = some x) (hy : b[i]? = some y) (h : x ≠ y) : a ≠ b := by
  rintro rfl; rw [hx] at hy; exact h (Option.some.inj hy)
theorem dl_ext {d q : DL} (h1 : d.a = q.a) (h2 : d.h = q.h) (h3 : d.p = q.p) : decide (d = q) = decide (d.c = q.c) := by
  obtain ⟨a, c, h, p⟩ := d
  obtain ⟨a', c', h', p'⟩ := q
  simp at h1 h2 h3
  simp [h1, h2, h3]
theorem refSame19_ok (d q : DL) (hd : d.c.length < 2 ^ 40) (hq : q.c.length < 2 ^ 40) : Fn (Cx w0) 14 [.agg (dlC d), .agg (dlC q)] (.bool (decide (d = q))) := by
  unfold dlC
  rcases (Decidable.em (d.a = q.a)).symm with c0 | c0
  · have g0 := bneT c0
    rw [show decide (d = q) = false from decide_eq_false (fun h => c0 (by rw [h]))]
    refine fn_H ([Go.ResultVar.tmp 4]) Tryz.func14 rfl rfl (by decide) fun ph hW Q hQ => ?_
    simp only [start, List.length_cons, List.length_nil, List.cons_append, List.nil_append, Nat.reduceAdd, Nat.reduceSub, List.replicate_succ, List.replicate_zero, Tryz.ntmps14]
    repeat' first | simp -implicitDefEqProofs (maxSteps := 400000) (disch := first | with_reducible rfl | omega | (simp only [wkH] <;> omega) | decide) only [wkAll, wkL, popO, wantedP, Nat.reduceAdd, Nat.reduceLeDiff, binP, loadOp, loadP, fieldAddrOp, PK.agg, seg, if_pos, if_neg, tf3, tf38, g0] | refine w_drawnF (id := 6) tb14_6Ng10 pl14_6Ng10 52 (by kernel_rfl) (by kernel_rfl) (by simp) ?_
    refine hQ (by first | exact .inr rfl | exact .inl rfl) (by first | exact trivial | exact marks1) (by first | (simp -implicitDefEqProofs (maxSteps := 400000) (disch := first | with_reducible rfl | omega | (simp only [wkH] <;> omega) | decide) only [wkL, resP, resPs, resP1]; rfl) | rfl) ⟨6, by repeat' first | exact frz_scalar rfl | apply frz_tuple | apply frz_agg | apply frz_fsl | apply frz_gsl (by omega) | exact frzs_nil | apply frzs_cons⟩ (by first | exact keepsH0 | exact keeps1 (by assumption)) (nw_eq ?_)
    rfl
  have g0 := bneF c0
  rcases (Decidable.em (d.h = q.h)).symm with c1 | c1
  · have g1 := strEqF c1
    rw [show decide (d = q) = false from decide_eq_false (fun h => c1 (by rw [h]))]
    refine fn_H ([Go.ResultVar.tmp 4]) Tryz.func14 rfl rfl (by decide) fun ph hW Q hQ => ?_
    simp only [start, List.length_cons, List.length_nil, List.cons_append, List.nil_append, Nat.reduceAdd, Nat.reduceSub, List.replicate_succ, List.replicate_zero, Tryz.ntmps14]
    repeat' first | simp -implicitDefEqProofs (maxSteps := 400000) (disch := first | with_reducible rfl | omega | (simp only [wkH] <;> omega) | decide) only [wkAll, wkL, popO, wantedP, Nat.reduceAdd, Nat.reduceLeDiff, binP, loadOp, loadP, fieldAddrOp, PK.agg, seg, if_pos, if_neg, tf3, tf9, tf38, g0, g1] | refine w_drawnF (id := 6) tb14_6Ng10 pl14_6Ng10 52 (by kernel_rfl) (by kernel_rfl) (by simp) ?_
    refine hQ (by first | exact .inr rfl | exact .inl rfl) (by first | exact trivial | exact marks1) (by first | (simp -implicitDefEqProofs (maxSteps := 400000) (disch := first | with_reducible rfl | omega | (simp only [wkH] <;> omega) | decide) only [wkL, resP, resPs, resP1]; rfl) | rfl) ⟨6, by repeat' first | exact frz_scalar rfl | apply frz_tuple | apply frz_agg | apply frz_fsl | apply frz_gsl (by omega) | exact frzs_nil | apply frzs_cons⟩ (by first | exact keepsH0 | exact keeps1 (by assumption)) (nw_eq ?_)
    rfl
  have g1 := strEqT c1
  rcases (Decidable.em (d.p = q.p)).symm with c2 | c2
  · have g2 := bneT c2
    rw [show decide (d = q) = false from decide_eq_false (fun h => c2 (by rw [h]))]
    refine fn_H ([Go.ResultVar.tmp 4]) Tryz.func14 rfl rfl (by decide) fun ph hW Q hQ => ?_
    simp only [start, List.length_cons, List.length_nil, List.cons_append, List.nil_append, Nat.reduceAdd, Nat.reduceSub, List.replicate_succ, List.replicate_zero, Tryz.ntmps14]
    repeat' first | simp -implicitDefEqProofs (maxSteps := 400000) (disch := first | with_reducible rfl | omega | (simp only [wkH] <;> omega) | decide) only [wkAll, wkL, popO, wantedP, Nat.reduceAdd, Nat.reduceLeDiff, binP, loadOp, loadP, fieldAddrOp, PK.agg, seg, if_pos, if_neg, tf3, tf9, tf38, g0, g1, g2] | refine w_drawnF (id := 6) tb14_6Ng10 pl14_6Ng10 52 (by kernel_rfl) (by kernel_rfl) (by simp) ?_
    refine hQ (by first | exact .inr rfl | exact .inl rfl) (by first | exact trivial | exact marks1) (by first | (simp -implicitDefEqProofs (maxSteps := 400000) (disch := first | with_reducible rfl | omega | (simp only [wkH] <;> omega) | decide) only [wkL, resP, resPs, resP1]; rfl) | rfl) ⟨6, by repeat' first | exact frz_scalar rfl | apply frz_tuple | apply frz_agg | apply frz_fsl | apply frz_gsl (by omega) | exact frzs_nil | apply frzs_cons⟩ (by first | exact keepsH0 | exact keeps1 (by assumption)) (nw_eq ?_)
    rfl
  have g2 := bneF c2
  rcases (Decidable.em (d.c.length = q.c.length)).symm with c3 | c3
  · have g3 : ((d.c.length : Int) != (q.c.length : Int)) = true := by rw [bne_iff_ne]; omega
    rw [show decide (d = q) = false from decide_eq_false (fun h => c3 (by rw [h]))]
    refine fn_H ([Go.ResultVar.tmp 4]) Tryz.func14 rfl rfl (by decide) fun ph hW Q hQ => ?_
    simp only [start, List.length_cons, List.length_nil, List.cons_append, List.nil_append, Nat.reduceAdd, Nat.reduceSub, List.replicate_succ, List.replicate_zero, Tryz.ntmps14]
    repeat' first | simp -implicitDefEqProofs (maxSteps := 400000) (disch := first | with_reducible rfl | omega | (simp only [wkH] <;> omega) | decide) only [wkAll, wkL, popO, wantedP, Nat.reduceAdd, Nat.reduceLeDiff, binP, lenP, builtinP, loadOp, loadP, fieldAddrOp, PK.agg, seg, if_pos, if_neg, tf3, tf9, tf23, tf38, g0, g1, g2, g3] | refine w_drawnF (id := 6) tb14_6Ng10 pl14_6Ng10 52 (by kernel_rfl) (by kernel_rfl) (by simp) ?_
    refine hQ (by first | exact .inr rfl | exact .inl rfl) (by first | exact trivial | exact marks1) (by first | (simp -implicitDefEqProofs (maxSteps := 400000) (disch := first | with_reducible rfl | omega | (simp only [wkH] <;> omega) | decide) only [wkL, resP, resPs, resP1]; rfl) | rfl) ⟨6, by repeat' first | exact frz_scalar rfl | apply frz_tuple | apply frz_agg | apply frz_fsl | apply frz_gsl (by omega) | exact frzs_nil | apply frzs_cons⟩ (by first | exact keepsH0 | exact keeps1 (by assumption)) (nw_eq ?_)
    rfl
  have g3 : ((d.c.length : Int) != (q.c.length : Int)) = false := by rw [c3]; exact bne_self_eq_false _
  rw [dl_ext c0 c1 c2]
  refine fn_H ([Go.ResultVar.tmp 4]) Tryz.func14 rfl rfl (by decide) fun ph hW Q hQ => ?_
  simp only [start, List.length_cons, List.length_nil, List.cons_append, List.nil_append, Nat.reduceAdd, Nat.reduceSub, List.replicate_succ, List.replicate_zero, Tryz.ntmps14]
  repeat' first | simp -implicitDefEqProofs (maxSteps := 400000) (disch := first | with_reducible rfl | omega | (simp only [wkH] <;> omega) | decide) only [wkAll, wkL, popO, wantedP, Nat.reduceAdd, Nat.reduceLeDiff, binP, lenP, builtinP, loadOp, loadP, fieldAddrOp, PK.agg, seg, if_pos, if_neg, tf3, tf9, tf23, tf38, g0, g1, g2, g3] | refine w_drawnF (id := 6) tb14_6Ng10 pl14_6Ng10 52 (by kernel_rfl) (by kernel_rfl) (by simp) ?_
  refine w_loopH (α := Nat) ph ph.ob ph.ty (fun i => [.undef, .undef, .ptr ph.n 0, .ptr (ph.n + 1) 0, .undef, .int .i64 i, .undef, .undef, .undef, .undef, .undef, .undef, .undef, .undef, .undef, .undef, .undef, .undef, .undef, .undef, .undef, .undef, .undef, .undef, .undef, .undef, .undef, .undef, .undef, .undef, .undef, .undef, .undef, .undef, .undef, .undef, .undef, .undef, .undef, .undef, .undef, .undef, .undef, .undef, .undef, .undef, .undef, .undef, .undef, .undef, .undef, .undef]) (fun i => [some (.own (dlC d)), some (.own (dlC q))]) (fun i => i ≤ d.c.length ∧ d.c.take i = q.c.take i) (fun i => d.c.length - i) 0 (by simp) (fun _ _ => by simp) (.eq (by simp [FadeTo]) rfl) ?_
  rintro i ⟨hi, heq⟩ K hK
  unfold dlC at hK ⊢
  rcases Nat.lt_or_ge i d.c.length with h | h
  · obtain ⟨x, hx⟩ := get_some h
    obtain ⟨y, hy⟩ := get_some (l := q.c) (i := i) (by omega)
    have cx : (d.c.map PV.str)[i]? = some (.str x) := by rw [List.getElem?_map, hx]; rfl
    have cy : (q.c.map PV.str)[i]? = some (.str y) := by rw [List.getElem?_map, hy]; rfl
    have hlt : (i : Int) < (d.c.length : Int) := by omega
    rcases (Decidable.em (x = y)).symm with c4 | c4
    · have g4 := strEqF c4
      rw [show decide (d.c = q.c) = false from decide_eq_false (take_dif' hx hy c4)] at hQ
      repeat' first | simp -implicitDefEqProofs (maxSteps := 400000) (disch := first | with_reducible rfl | omega | (simp only [wkH] <;> omega) | decide) only [wkAll, wkL, popO, wantedP, Nat.reduceAdd, Nat.reduceLeDiff, binP, lenP, builtinP, indexAddrOp, loadOp, loadP, fieldAddrOp, PK.agg, seg, if_pos, if_neg, tf9, tf23, tf38, pl14_6Ng10, hlt, List.getElem?_drop, cx, cy, g4] | refine w_drawnF (id := 6) tb14_6Ng10 pl14_6Ng10 52 (by kernel_rfl) (by kernel_rfl) (by simp) ?_
      refine hQ (by first | exact .inr rfl | exact .inl rfl) (by first | exact trivial | exact marks1) (by first | (simp -implicitDefEqProofs (maxSteps := 400000) (disch := first | with_reducible rfl | omega | (simp only [wkH] <;> omega) | decide) only [wkL, resP, resPs, resP1]; rfl) | rfl) ⟨6, by repeat' first | exact frz_scalar rfl | apply frz_tuple | apply frz_agg | apply frz_fsl | apply frz_gsl (by omega) | exact frzs_nil | apply frzs_cons⟩ (by first | exact keepsH0 | exact keeps1 (by assumption)) (nw_eq ?_)
      rfl
    · have g4 := strEqT c4
      repeat' first | simp -implicitDefEqProofs (maxSteps := 400000) (disch := first | with_reducible rfl | omega | (simp only [wkH] <;> omega) | decide) only [wkAll, wkL, popO, wantedP, Nat.reduceAdd, Nat.reduceLeDiff, binP, lenP, builtinP, indexAddrOp, loadOp, loadP, fieldAddrOp, PK.agg, seg, wkN, if_pos, if_neg, tf9, tf23, tf38, pl14_6Ng10, hlt, List.getElem?_drop, cx, cy, g4] | refine w_drawnF (id := 6) tb14_6Ng10 pl14_6Ng10 52 (by kernel_rfl) (by kernel_rfl) (by simp) ?_
      exact hK (i + 1) _ _ ⟨by omega, by rw [take_snoc hx, take_snoc hy, heq, c4]⟩ (by show d.c.length - (i + 1) < d.c.length - i; omega) (.eq (by simp [FadeTo]) rfl)
  · have hge : ¬ (i : Int) < (d.c.length : Int) := by omega
    rw [show decide (d.c = q.c) = true from decide_eq_true (by rw [← List.take_of_length_le h, heq, List.take_of_length_le (by omega)])] at hQ
    repeat' first | simp -implicitDefEqProofs (maxSteps := 400000) (disch := first | with_reducible rfl | omega | (simp only [wkH] <;> omega) | decide) only [wkAll, wkL, popO, wantedP, Nat.reduceAdd, Nat.reduceLeDiff, binP, lenP, builtinP, loadOp, loadP, fieldAddrOp, PK.agg, seg, if_pos, if_neg, tf23, tf38, hge] | refine w_drawnF (id := 6) tb14_6Ng10 pl14_6Ng10 52 (by kernel_rfl) (by kernel_rfl) (by simp) ?_
    refine hQ (by first | exact .inr rfl | exact .inl rfl) (by first | exact trivial | exact marks1) (by first | (simp -implicitDefEqProofs (maxSteps := 400000) (disch := first | with_reducible rfl | omega | (simp only [wkH] <;> omega) | decide) only [wkL, resP, resPs, resP1]; rfl) | rfl) ⟨6, by repeat' first | exact frz_scalar rfl | apply frz_tuple | apply frz_agg | apply frz_fsl | apply frz_gsl (by omega) | exact frzs_nil | apply frzs_cons⟩ (by first | exact keepsH0 | exact keeps1 (by assumption)) (nw_eq ?_)
    rfl
end Pv

namespace Go.Proofs
open Go.Shelf Go.RowKit
def Tryz.laysIdxF_ren : Go.Shelf.Ren := ⟨fun | 15 => 57 | 20 => 73 | n => n, fun | 9 => 9 | 23 => 104 | 3 => 3 | 4 => 4 | 0 => 0 | 21 => 21 | n => n, fun | n => n⟩
theorem Tryz.laysIdxF : LaysGw.n15 Tryz.prog Tryz.laysIdxF_ren where
  mixed := by kernel_rfl
  f15 := Tryz.func57.trans (congrArg some (by kernel_rfl))
  f20 := Tryz.func73.trans (congrArg some (by kernel_rfl))
  t0 := Tryz.underlying0
  a0 := Tryz.isAgg0
  z0 := Tryz.sizeOf0
  v0 := Tryz.zeroValue0
  i0 := by kernel_rfl
  t3 := Tryz.underlying3
  a3 := Tryz.isAgg3
  z3 := Tryz.sizeOf3
  v3 := Tryz.zeroValue3
  i3 := by kernel_rfl
  t4 := Tryz.underlying4
  a4 := Tryz.isAgg4
  z4 := Tryz.sizeOf4
  v4 := Tryz.zeroValue4
  i4 := by kernel_rfl
  t9 := Tryz.underlying9
  a9 := Tryz.isAgg9
  z9 := Tryz.sizeOf9
  v9 := Tryz.zeroValue9
  i9 := by kernel_rfl
  t21 := Tryz.underlying21
  a21 := Tryz.isAgg21
  z21 := Tryz.sizeOf21
  v21 := Tryz.zeroValue21
  i21 := by kernel_rfl
  t23 := Tryz.underlying104
  a23 := Tryz.isAgg104
  z23 := Tryz.sizeOf104
  v23 := Tryz.zeroValue104
  i23 := by kernel_rfl
end Go.Proofs
namespace Pv
open Go Go.Proofs Go.RowKit Go.Lib
variable {w0 : World}
def pHost (x : Nat) : Bool := decide (x < 33) || decide (126 < x)
set_option maxHeartbeats 1000000 in
theorem host1_gives (w : World) : PredAtRunes Tryz.prog 58 #[] pHost w := fun W r hr _ => by
  unfold FnGives
  by_cases h1 : r < 33 <;> by_cases h2 : 126 < r
  all_goals
    have z1 : (r : Int) < 33 ↔ r < 33 := by omega
    have z2 : (126 : Int) < (r : Int) ↔ 126 < r := by omega
    go_enter Tryz.func58, Tryz.ntmps58
    go_wp2
    all_goals first | (exfalso; omega) | (go_ret; exact ⟨by simp [pHost, h1, h2], 0, rfl⟩)
theorem dec_hi (s : ByteArray) (i : Nat) (h : 128 ≤ (s.get! i).toNat) : 128 ≤ (Utf8.decode s i).1 := by
  unfold Utf8.decode
  simp only [Nat.add_zero]
  rw [if_neg (by omega)]
  split
  · split
    · rename_i h2; exact h2
    · decide
  · split
    · split
      · rename_i h2; simp only [Bool.and_eq_true, decide_eq_true_eq] at h2; omega
      · decide
    · split
      · split
        · rename_i h2; simp only [Bool.and_eq_true, decide_eq_true_eq] at h2; omega
        · decide
      · decide
theorem dec_lo (s : ByteArray) (i : Nat) (h : (s.get! i).toNat < 128) : Utf8.decode s i = ((s.get! i).toNat, 1) := by
  unfold Utf8.decode
  simp only [Nat.add_zero]
  rw [if_pos h]
def okB (b : UInt8) : Bool := decide (33 ≤ b.toNat) && decide (b.toNat ≤ 126)
theorem get!_list (s : ByteArray) (i : Nat) (h : i < s.size) : s.data.toList.drop i = s.get! i :: s.data.toList.drop (i + 1) := by
  have h2 : i < s.data.toList.length := by rw [Array.length_toList]; exact h
  rw [List.drop_eq_getElem_cons h2]
  congr 1
  show _ = s.data[i]!
  rw [getElem!_pos s.data i h, Array.getElem_toList]
theorem idx_all (s : ByteArray) : ∀ (f i : Nat), s.size ≤ i + f → decide (Lib.idxFuncFrom pHost true s f i < 0) = (s.data.toList.drop i).all okB
  | f, i, hf => by
    by_cases hi : i < s.size
    · obtain ⟨f, rfl⟩ : ∃ f', f = f' + 1 := ⟨f - 1, by omega⟩
      rw [get!_list s i hi, List.all_cons]
      rw [Lib.idxFuncFrom, if_pos hi]
      rcases Nat.lt_or_ge (s.get! i).toNat 128 with h | h
      · rw [dec_lo s i h]
        have ih := idx_all s f (i + 1) (by omega)
        simp only []
        cases hp : pHost (s.get! i).toNat with
        | true =>
          rw [if_pos rfl]
          have : okB (s.get! i) = false := by
            unfold pHost at hp; unfold okB
            simp only [Bool.or_eq_true, decide_eq_true_eq] at hp
            simp only [Bool.and_eq_false_iff, decide_eq_false_iff_not]; omega
          rw [this, Bool.false_and, decide_eq_false_iff_not]; omega
        | false =>
          rw [if_neg (by simp), ih]
          have : okB (s.get! i) = true := by
            unfold pHost at hp; unfold okB
            simp only [Bool.or_eq_false_iff, decide_eq_false_iff_not] at hp
            simp only [Bool.and_eq_true, decide_eq_true_eq]; omega
          rw [this, Bool.true_and]
      · have h2 := dec_hi s i h
        have hp : pHost (Utf8.decode s i).1 = true := by unfold pHost; simp; omega
        have : okB (s.get! i) = false := by unfold okB; simp only [Bool.and_eq_false_iff, decide_eq_false_iff_not]; omega
        simp only [hp, if_true]
        rw [this, Bool.false_and, decide_eq_false_iff_not]; omega
    · rw [Lib.idxFuncFrom_end _ _ _ _ _ hi, List.drop_eq_nil_of_le (by rw [Array.length_toList]; exact Nat.le_of_not_lt hi)]; rfl
/-- strings.IndexFunc at the host's closure. -/
def idxH (l : List UInt8) : Int := if l.all okB then -1 else Lib.idxFunc pHost true ⟨⟨l⟩⟩
theorem idxH_of (s : ByteArray) : Lib.idxFunc pHost true s = idxH s.data.toList := by
  unfold idxH
  have h := idx_all s s.size 0 (by omega)
  rw [List.drop_zero] at h
  have hs : (⟨⟨s.data.toList⟩⟩ : ByteArray) = s := rfl
  rw [hs]
  cases ha : s.data.toList.all okB with
  | false => rfl
  | true =>
    rw [if_pos rfl]
    rw [ha, decide_eq_true_iff] at h
    rcases Lib.idxFuncFrom_range pHost true s s.size 0 with h2 | h2
    · exact h2
    · have : Lib.idxFuncFrom pHost true s s.size 0 = Lib.idxFunc pHost true s := rfl
      omega
theorem idxH_lt (l : List UInt8) : decide (idxH l < 0) = l.all okB := by
  have := idx_all (⟨⟨l⟩⟩ : ByteArray) (⟨⟨l⟩⟩ : ByteArray).size 0 (by omega)
  rw [List.drop_zero] at this
  show _ = (⟨⟨l⟩⟩ : ByteArray).data.toList.all okB
  rw [← this]
  exact congrArg (fun x => decide (x < 0)) (idxH_of (⟨⟨l⟩⟩ : ByteArray)).symm
theorem idxH_ok (s : List UInt8) : Fn (Cx w0) 57 [.str s, .func 58 [] []] (.int .i64 (idxH s)) := by
  refine fn_of_calls Tryz.func57 (by kernel_rfl) (by kernel_rfl) ?_
  intro G w rargs hr
  cases hr with
  | cons _ v1 _ _ h1 h2 =>
    cases h2 with
    | cons _ v2 _ _ h3 h4 =>
      cases h4
      cases h1 with
      | str _ t ht =>
        cases h3 with
        | func _ _ _ a b ha hb =>
          cases ha
          cases hb
          refine (Any.strings_IndexFunc_runes Tryz.laysIdxF 58 #[] (enters_of Tryz.func58 (by kernel_rfl) rfl) pHost t w (host1_gives w)).mono fun e w' ⟨he, hw⟩ => ⟨⟨_, he, ?_⟩, hw⟩
          rw [idxH_of, ht]
          exact .int _ _
end Pv
