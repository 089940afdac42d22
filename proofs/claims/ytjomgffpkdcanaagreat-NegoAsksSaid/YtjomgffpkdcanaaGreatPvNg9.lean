/- Part of the proof: the layer of pure values, or walks through functions (PvNg9, PvNg10, PvIdxF, PvNg12, PvNg13, PvH3, PvH7, PvNg14). -/
import Derived.Test.YtjomgffpkdcanaaGreatPvNg5
import Derived.Test.YtjomgffpkdcanaaGreatPvDrawP
import Derived.Test.YtjomgffpkdcanaaGreatPvSha8
import Derived.Shelf.GgClosure.StringsRunes
import Derived.Test.YtjomgffpkdcanaaGreatPvSha6
set_option linter.all false
--nosplit
--keep2
namespace Pv
set_option maxRecDepth 20000
set_option maxHeartbeats 4000000
open Go Go.Proofs Go.RowKit
variable {w0 : World}

theorem indexI_ok (l : List Int) (x : Int) (hl : l.length < 2 ^ 40) : Fn (Cx w0) 63 [.fsl 1 l.length (intsC l), .int .i64 x] (.int .i64 (idxL (fun y => x == y) l)) := by
  refine fn_H ([Go.ResultVar.tmp 4]) Tryz.func63 rfl rfl (by decide) fun ph hW Q hQ => ?_
  simp only [start, List.length_cons, List.length_nil, List.cons_append, List.nil_append, Nat.reduceAdd, Nat.reduceSub, List.replicate_succ, List.replicate_zero, Tryz.ntmps63]
  repeat' first | simp -implicitDefEqProofs (maxSteps := 400000) (disch := first | with_reducible rfl | omega | (simp only [wkH] <;> omega) | decide) only [wkAll, wkL, popO, wantedP, Int.reduceNeg, lenP, builtinP, tf22]
  refine w_loopH (α := Nat) ph ph.ob ph.ty (fun i => [.fsl 1 l.length (intsC l), .int .i64 x, .undef, .undef, .undef, .undef, .undef, .int .i64 l.length, .int .i64 i, .undef, .undef, .undef, .undef, .undef, .undef, .undef, .undef, .undef, .undef]) (fun i => []) (fun i => i ≤ l.length ∧ (l.take i).any (fun y => x == y) = false) (fun i => l.length - i) 0 (by simp) (fun _ _ => by simp) (.eq (by simp [FadeTo]) rfl) ?_
  rintro i ⟨hi, hno⟩ K hK
  rcases Nat.lt_or_ge i l.length with h | h
  · obtain ⟨r, hr⟩ := get_some h
    have hd := intsC_drop l i r hr
    have hla := intsC_len l
    have hlt : (i : Int) < l.length := by omega
    cases hpr : (x == r) with
    | false =>
      repeat' first | simp -implicitDefEqProofs (maxSteps := 400000) (disch := first | with_reducible rfl | omega | (simp only [wkH] <;> omega) | decide) only [wkAll, wkL, popO, wantedP, Nat.reduceLeDiff, Int.reduceNeg, binP, indexAddrOp, loadOp, loadP, PK.agg, seg, wkN, if_pos, if_neg, tf3, tf22, hd, hlt, hpr]
      exact hK (i + 1) _ _ ⟨by omega, by rw [take_snoc hr]; simp only [List.any_append, hno, List.any_cons, List.any_nil, hpr, Bool.or_false]⟩ (by omega) (.eq (by simp [FadeTo]) rfl)
    | true =>
      repeat' first | simp -implicitDefEqProofs (maxSteps := 400000) (disch := first | with_reducible rfl | omega | (simp only [wkH] <;> omega) | decide) only [wkAll, wkL, popO, wantedP, Nat.reduceLeDiff, Int.reduceNeg, binP, indexAddrOp, loadOp, loadP, PK.agg, seg, if_pos, if_neg, tf3, tf22, hd, hlt, hpr]
      refine hQ (by first | exact .inr rfl | exact .inl rfl) (by first | exact trivial | exact marks1) (by first | (simp -implicitDefEqProofs (maxSteps := 400000) (disch := first | with_reducible rfl | omega | (simp only [wkH] <;> omega) | decide) only [wkL, resP, resPs, resP1]; rfl) | rfl) ⟨6, by repeat' first | exact frz_scalar rfl | apply frz_tuple | apply frz_agg | apply frz_fsl | apply frz_gsl (by omega) | exact frzs_nil | apply frzs_cons⟩ (by first | exact keepsH0 | exact keeps1 (by assumption)) (nw_eq ?_)
      rw [idxL_found hno hr hpr]
  · have hge : ¬ (i : Int) < l.length := by omega
    repeat' first | simp -implicitDefEqProofs (maxSteps := 400000) (disch := first | with_reducible rfl | omega | (simp only [wkH] <;> omega) | decide) only [wkAll, wkL, popO, wantedP, Int.reduceNeg, binP, if_pos, hge]
    refine hQ (by first | exact .inr rfl | exact .inl rfl) (by first | exact trivial | exact marks1) (by first | (simp -implicitDefEqProofs (maxSteps := 400000) (disch := first | with_reducible rfl | omega | (simp only [wkH] <;> omega) | decide) only [wkL, Int.reduceNeg, resP, resPs, resP1]; rfl) | rfl) ⟨6, by repeat' first | exact frz_scalar rfl | apply frz_tuple | apply frz_agg | apply frz_fsl | apply frz_gsl (by omega) | exact frzs_nil | apply frzs_cons⟩ (by first | exact keepsH0 | exact keeps1 (by assumption)) (nw_eq ?_)
    rw [List.take_of_length_le h] at hno
    rw [idxL_none hno]
theorem idxL_ge {α : Type} (p : α → Bool) (l : List α) : decide (0 ≤ idxL p l) = l.any p := by
  unfold idxL
  cases h : l.findIdx? p with
  | none =>
    have := List.findIdx?_eq_none_iff.1 h
    have h2 : l.any p = false := by rw [List.any_eq_false]; intro x hx; simp [this x hx]
    rw [h2]; rfl
  | some i =>
    have h3 := List.findIdx?_eq_some_iff_getElem.1 h
    obtain ⟨hi, hp, -⟩ := h3
    have h2 : l.any p = true := List.any_eq_true.2 ⟨l[i], List.getElem_mem hi, hp⟩
    rw [h2]; simp
theorem contains_ok (l : List Int) (x : Int) (hl : l.length < 2 ^ 40) : Fn (Cx w0) 32 [.fsl 1 l.length (intsC l), .int .i64 x] (.bool (l.any (fun y => x == y))) := by
  have ti := indexI_ok (w0 := w0) l x hl
  rw [← idxL_ge]
  refine fn_H ([Go.ResultVar.tmp 4]) Tryz.func32 rfl rfl (by decide) fun ph hW Q hQ => ?_
  simp only [start, List.length_cons, List.length_nil, List.cons_append, List.nil_append, Nat.reduceAdd, Nat.reduceSub, List.replicate_succ, List.replicate_zero, Tryz.ntmps32]
  repeat' first | simp -implicitDefEqProofs (maxSteps := 400000) (disch := first | with_reducible rfl | omega | (simp only [wkH] <;> omega) | decide) only [wkAll, wkL, popO, wantedP, binP, if_pos, ge_iff_le] | refine w_pure (ti) ?_
  refine hQ (by first | exact .inr rfl | exact .inl rfl) (by first | exact trivial | exact marks1) (by first | (simp -implicitDefEqProofs (maxSteps := 400000) (disch := first | with_reducible rfl | omega | (simp only [wkH] <;> omega) | decide) only [wkL, resP, resPs, resP1]; rfl) | rfl) ⟨6, by repeat' first | exact frz_scalar rfl | apply frz_tuple | apply frz_agg | apply frz_fsl | apply frz_gsl (by omega) | exact frzs_nil | apply frzs_cons⟩ (by first | exact keepsH0 | exact keeps1 (by assumption)) (nw_eq ?_)
  rfl
theorem indexF_ok (ph : PH) (g : FuncId) (c : Nat) (cells : List PV) (p : Int → Bool) (hc : ph.get c = some cells) (hp : ∀ (H1 : PH), H1.get c = some cells → ∀ x, Eff (Cx w0) g [.int .i64 x, .ptr c 0] H1 (.bool (p x)) H1) (l : List Int) (hl : l.length < 2 ^ 40) :
    Eff (Cx w0) 33 [.fsl 1 l.length (intsC l), .func g [] [.ptr c 0]] ph (.int .i64 (idxL p l)) ph := by
  have hcl := PH.get_lt hc
  refine eff_of ([Go.ResultVar.tmp 4]) Tryz.func33 rfl rfl (by decide) rfl (fun h => h) fun hW Q hQ => ?_
  simp only [start, List.length_cons, List.length_nil, List.cons_append, List.nil_append, Nat.reduceAdd, Nat.reduceSub, List.replicate_succ, List.replicate_zero, Tryz.ntmps33]
  repeat' first | simp -implicitDefEqProofs (maxSteps := 400000) (disch := first | with_reducible rfl | omega | (simp only [wkH] <;> omega) | decide) only [wkAll, wkL, popO, wantedP, Int.reduceNeg, lenP, builtinP, tf22]
  refine w_loopH (α := Nat) ph ph.ob ph.ty (fun i => [.fsl 1 l.length (intsC l), .func g [] [.ptr c 0], .undef, .undef, .undef, .undef, .undef, .int .i64 l.length, .int .i64 i, .undef, .undef, .undef, .undef, .undef, .undef, .undef, .undef, .undef, .undef]) (fun i => []) (fun i => i ≤ l.length ∧ (l.take i).any p = false) (fun i => l.length - i) 0 (by simp) (fun _ _ => by simp) (.eq (by simp [FadeTo]) rfl) ?_
  rintro i ⟨hi, hno⟩ K hK
  rcases Nat.lt_or_ge i l.length with h | h
  · obtain ⟨r, hr⟩ := get_some h
    have hd := intsC_drop l i r hr
    have hla := intsC_len l
    have hlt : (i : Int) < l.length := by omega
    repeat' first | simp -implicitDefEqProofs (maxSteps := 400000) (disch := first | with_reducible rfl | omega | (simp only [wkH] <;> omega) | decide) only [wkAll, wkL, popO, wantedP, Nat.reduceLeDiff, Int.reduceNeg, binP, indexAddrOp, loadOp, loadP, PK.agg, seg, if_pos, if_neg, tf3, tf22, hd, hlt]
    refine w_eff (hp _ (by rw [h_getlt hcl]; exact hc) r) ?_
    cases hpr : p r with
    | false =>
      repeat' first | simp -implicitDefEqProofs (maxSteps := 400000) (disch := first | with_reducible rfl | omega | (simp only [wkH] <;> omega) | decide) only [wkAll, wkL, popO, wantedP, Int.reduceNeg, binP, wkN, if_pos]
      exact hK (i + 1) _ _ ⟨by omega, by rw [take_snoc hr]; simp only [List.any_append, hno, List.any_cons, List.any_nil, hpr, Bool.or_false]⟩ (by omega) (.eq (by simp [FadeTo]) rfl)
    | true =>
      repeat' first | simp -implicitDefEqProofs (maxSteps := 400000) (disch := first | with_reducible rfl | omega | (simp only [wkH] <;> omega) | decide) only [wkAll, wkL, popO, wantedP, Int.reduceNeg]
      refine hQ (by first | exact .inr rfl | exact .inl rfl) (by first | exact trivial | exact marks1) (by first | (simp -implicitDefEqProofs (maxSteps := 400000) (disch := first | with_reducible rfl | omega | (simp only [wkH] <;> omega) | decide) only [wkL, resP, resPs, resP1]; rfl) | rfl) ⟨6, by repeat' first | exact frz_scalar rfl | apply frz_tuple | apply frz_agg | apply frz_fsl | apply frz_gsl (by omega) | exact frzs_nil | apply frzs_cons⟩ (by first | exact keepsH0 | exact keeps1 (by assumption)) (nw_eq ?_)
      rw [idxL_found hno hr hpr]
  · have hge : ¬ (i : Int) < l.length := by omega
    repeat' first | simp -implicitDefEqProofs (maxSteps := 400000) (disch := first | with_reducible rfl | omega | (simp only [wkH] <;> omega) | decide) only [wkAll, wkL, popO, wantedP, Int.reduceNeg, binP, if_pos, hge]
    refine hQ (by first | exact .inr rfl | exact .inl rfl) (by first | exact trivial | exact marks1) (by first | (simp -implicitDefEqProofs (maxSteps := 400000) (disch := first | with_reducible rfl | omega | (simp only [wkH] <;> omega) | decide) only [wkL, Int.reduceNeg, resP, resPs, resP1]; rfl) | rfl) ⟨6, by repeat' first | exact frz_scalar rfl | apply frz_tuple | apply frz_agg | apply frz_fsl | apply frz_gsl (by omega) | exact frzs_nil | apply frzs_cons⟩ (by first | exact keepsH0 | exact keeps1 (by assumption)) (nw_eq ?_)
    rw [List.take_of_length_le h] at hno
    rw [idxL_none hno]
/-- A way that a server takes of those that are offered. -/
def takeB (A : List Int) (a : Int) : Bool := decide (0 < kszL a) && A.any (fun y => a == y)
theorem answer1_ok (A : List Int) (hA : A.length < 2 ^ 40) (a : Int) (c : Nat) (ph : PH) (hc : ph.get c = some [.fsl 1 A.length (intsC A)]) : Eff (Cx w0) 34 [.int .i64 a, .ptr c 0] ph (.bool (takeB A a)) ph := by
  have hcl := PH.get_lt hc
  have tk := negoKeySize_ok (w0 := w0) a
  have tc := contains_ok (w0 := w0) A a hA
  refine eff_of ([Go.ResultVar.tmp 3]) Tryz.func34 rfl rfl (by decide) rfl (fun h => h) fun hW Q hQ => ?_
  simp only [start, List.length_cons, List.length_nil, List.cons_append, List.nil_append, Nat.reduceAdd, Nat.reduceSub, List.replicate_succ, List.replicate_zero, Tryz.ntmps34]
  by_cases h : 0 < kszL a
  · rw [show takeB A a = A.any (fun y => a == y) by simp [takeB, h]] at hQ
    repeat' first | simp -implicitDefEqProofs (maxSteps := 400000) (disch := first | with_reducible rfl | omega | (simp only [wkH] <;> omega) | decide) only [wkAll, wkL, popO, wantedP, Nat.reduceLeDiff, binP, loadOp, loadP, PK.agg, gt_iff_lt, seg, if_pos, if_neg, tf22, h, gt_iff_lt, h_getlt hcl, hc] | refine w_pure (tk) ?_ | refine w_pure (tc) ?_
    refine hQ (by first | exact .inr rfl | exact .inl rfl) (by first | exact trivial | exact marks1) (by first | (simp -implicitDefEqProofs (maxSteps := 400000) (disch := first | with_reducible rfl | omega | (simp only [wkH] <;> omega) | decide) only [wkL, resP, resPs, resP1]; rfl) | rfl) ⟨6, by repeat' first | exact frz_scalar rfl | apply frz_tuple | apply frz_agg | apply frz_fsl | apply frz_gsl (by omega) | exact frzs_nil | apply frzs_cons⟩ (by first | exact keepsH0 | exact keeps1 (by assumption)) (nw_eq ?_)
    rfl
  · rw [show takeB A a = false by simp [takeB, h]] at hQ
    repeat' first | simp -implicitDefEqProofs (maxSteps := 400000) (disch := first | with_reducible rfl | omega | (simp only [wkH] <;> omega) | decide) only [wkAll, wkL, popO, wantedP, binP, gt_iff_lt, if_pos, if_neg, h, gt_iff_lt] | refine w_pure (tk) ?_
    refine hQ (by first | exact .inr rfl | exact .inl rfl) (by first | exact trivial | exact marks1) (by first | (simp -implicitDefEqProofs (maxSteps := 400000) (disch := first | with_reducible rfl | omega | (simp only [wkH] <;> omega) | decide) only [wkL, resP, resPs, resP1]; rfl) | rfl) ⟨6, by repeat' first | exact frz_scalar rfl | apply frz_tuple | apply frz_agg | apply frz_fsl | apply frz_gsl (by omega) | exact frzs_nil | apply frzs_cons⟩ (by first | exact keepsH0 | exact keeps1 (by assumption)) (nw_eq ?_)
    rfl
end Pv

--nosplit
--keep2
namespace Pv
set_option maxRecDepth 20000
set_option maxHeartbeats 4000000
open Go Go.Proofs Go.RowKit
variable {w0 : World}

theorem bneT {a b : Int} (h : ¬ a = b) : (a != b) = true := by rw [bne_iff_ne]; exact h
theorem bneF {a b : Int} (h : a = b) : (a != b) = false := by rw [h]; exact bne_self_eq_false _
theorem strEqF {a b : List UInt8} (h : ¬ a = b) : (!(a == b)) = true := by simpa using h
theorem strEqT {a b : List UInt8} (h : a = b) : (!(a == b)) = false := by subst h; simp
end Pv

namespace Go.Proofs
open Go.Shelf Go.RowKit
def Tryz.laysIdxF_ren : Go.Shelf.Ren := ⟨fun | 15 => 57 | 20 => 73 | n => n, fun | 9 => 9 | 23 => 104 | 3 => 3 | 4 => 4 | 0 => 0 | 21 => 21 | n => n, fun | n => n⟩
theorem Tryz.laysIdxF : LaysGw.n15 Tryz.prog Tryz.laysIdxF_ren where
  mixed := by kernel_rfl
  f15 := Tryz.func57.trans (congrArg some (by kernel_rfl))
  f20 := Tryz.func73.trans (congrArg some (by kernel_rfl))
  t0 := Tryz.underlying0
  a0 := Tryz.isAgg0
  z0 := Tryz.sizeOf0
  v0 := Tryz.zeroValue0
  i0 := by kernel_rfl
  t3 := Tryz.underlying3
  a3 := Tryz.isAgg3
  z3 := Tryz.sizeOf3
  v3 := Tryz.zeroValue3
  i3 := by kernel_rfl
  t4 := Tryz.underlying4
  a4 := Tryz.isAgg4
  z4 := Tryz.sizeOf4
  v4 := Tryz.zeroValue4
  i4 := by kernel_rfl
  t9 := Tryz.underlying9
  a9 := Tryz.isAgg9
  z9 := Tryz.sizeOf9
  v9 := Tryz.zeroValue9
  i9 := by kernel_rfl
  t21 := Tryz.underlying21
  a21 := Tryz.isAgg21
  z21 := Tryz.sizeOf21
  v21 := Tryz.zeroValue21
  i21 := by kernel_rfl
  t23 := Tryz.underlying104
  a23 := Tryz.isAgg104
  z23 := Tryz.sizeOf104
  v23 := Tryz.zeroValue104
  i23 := by kernel_rfl
end Go.Proofs
namespace Pv
open Go Go.Proofs Go.RowKit Go.Lib
variable {w0 : World}
def pHost (x : Nat) : Bool := decide (x < 33) || decide (126 < x)
set_option maxHeartbeats 1000000 in
theorem host1_gives (w : World) : PredAtRunes Tryz.prog 58 #[] pHost w := fun W r hr _ => by
  unfold FnGives
  by_cases h1 : r < 33 <;> by_cases h2 : 126 < r
  all_goals
    have z1 : (r : Int) < 33 ↔ r < 33 := by omega
    have z2 : (126 : Int) < (r : Int) ↔ 126 < r := by omega
    go_enter Tryz.func58, Tryz.ntmps58
    go_wp2
    all_goals first | (exfalso; omega) | (go_ret; exact ⟨by simp [pHost, h1, h2], 0, rfl⟩)
theorem dec_hi (s : ByteArray) (i : Nat) (h : 128 ≤ (s.get! i).toNat) : 128 ≤ (Utf8.decode s i).1 := by
  unfold Utf8.decode
  simp only [Nat.add_zero]
  rw [if_neg (by omega)]
  split
  · split
    · rename_i h2; exact h2
    · decide
  · split
    · split
      · rename_i h2; simp only [Bool.and_eq_true, decide_eq_true_eq] at h2; omega
      · decide
    · split
      · split
        · rename_i h2; simp only [Bool.and_eq_true, decide_eq_true_eq] at h2; omega
        · decide
      · decide
theorem dec_lo (s : ByteArray) (i : Nat) (h : (s.get! i).toNat < 128) : Utf8.decode s i = ((s.get! i).toNat, 1) := by
  unfold Utf8.decode
  simp only [Nat.add_zero]
  rw [if_pos h]
def okB (b : UInt8) : Bool := decide (33 ≤ b.toNat) && decide (b.toNat ≤ 126)
theorem get!_list (s : ByteArray) (i : Nat) (h : i < s.size) : s.data.toList.drop i = s.get! i :: s.data.toList.drop (i + 1) := by
  have h2 : i < s.data.toList.length := by rw [Array.length_toList]; exact h
  rw [List.drop_eq_getElem_cons h2]
  congr 1
  show _ = s.data[i]!
  rw [getElem!_pos s.data i h, Array.getElem_toList]
theorem idx_all (s : ByteArray) : ∀ (f i : Nat), s.size ≤ i + f → decide (Lib.idxFuncFrom pHost true s f i < 0) = (s.data.toList.drop i).all okB
  | f, i, hf => by
    by_cases hi : i < s.size
    · obtain ⟨f, rfl⟩ : ∃ f', f = f' + 1 := ⟨f - 1, by omega⟩
      rw [get!_list s i hi, List.all_cons]
      rw [Lib.idxFuncFrom, if_pos hi]
      rcases Nat.lt_or_ge (s.get! i).toNat 128 with h | h
      · rw [dec_lo s i h]
        have ih := idx_all s f (i + 1) (by omega)
        simp only []
        cases hp : pHost (s.get! i).toNat with
        | true =>
          rw [if_pos rfl]
          have : okB (s.get! i) = false := by
            unfold pHost at hp; unfold okB
            simp only [Bool.or_eq_true, decide_eq_true_eq] at hp
            simp only [Bool.and_eq_false_iff, decide_eq_false_iff_not]; omega
          rw [this, Bool.false_and, decide_eq_false_iff_not]; omega
        | false =>
          rw [if_neg (by simp), ih]
          have : okB (s.get! i) = true := by
            unfold pHost at hp; unfold okB
            simp only [Bool.or_eq_false_iff, decide_eq_false_iff_not] at hp
            simp only [Bool.and_eq_true, decide_eq_true_eq]; omega
          rw [this, Bool.true_and]
      · have h2 := dec_hi s i h
        have hp : pHost (Utf8.decode s i).1 = true := by unfold pHost; simp; omega
        have : okB (s.get! i) = false := by unfold okB; simp only [Bool.and_eq_false_iff, decide_eq_false_iff_not]; omega
        simp only [hp, if_true]
        rw [this, Bool.false_and, decide_eq_false_iff_not]; omega
    · rw [Lib.idxFuncFrom_end _ _ _ _ _ hi, List.drop_eq_nil_of_le (by rw [Array.length_toList]; exact Nat.le_of_not_lt hi)]; rfl
/-- strings.IndexFunc at the host's closure. -/
def idxH (l : List UInt8) : Int := if l.all okB then -1 else Lib.idxFunc pHost true ⟨⟨l⟩⟩
theorem idxH_of (s : ByteArray) : Lib.idxFunc pHost true s = idxH s.data.toList := by
  unfold idxH
  have h := idx_all s s.size 0 (by omega)
  rw [List.drop_zero] at h
  have hs : (⟨⟨s.data.toList⟩⟩ : ByteArray) = s := rfl
  rw [hs]
  cases ha : s.data.toList.all okB with
  | false => rfl
  | true =>
    rw [if_pos rfl]
    rw [ha, decide_eq_true_iff] at h
    rcases Lib.idxFuncFrom_range pHost true s s.size 0 with h2 | h2
    · exact h2
    · have : Lib.idxFuncFrom pHost true s s.size 0 = Lib.idxFunc pHost true s := rfl
      omega
theorem idxH_lt (l : List UInt8) : decide (idxH l < 0) = l.all okB := by
  have := idx_all (⟨⟨l⟩⟩ : ByteArray) (⟨⟨l⟩⟩ : ByteArray).size 0 (by omega)
  rw [List.drop_zero] at this
  show _ = (⟨⟨l⟩⟩ : ByteArray).data.toList.all okB
  rw [← this]
  exact congrArg (fun x => decide (x < 0)) (idxH_of (⟨⟨l⟩⟩ : ByteArray)).symm
theorem idxH_ok (s : List UInt8) : Fn (Cx w0) 57 [.str s, .func 58 [] []] (.int .i64 (idxH s)) := by
  refine fn_of_calls Tryz.func57 (by kernel_rfl) (by kernel_rfl) ?_
  intro G w rargs hr
  cases hr with
  | cons _ v1 _ _ h1 h2 =>
    cases h2 with
    | cons _ v2 _ _ h3 h4 =>
      cases h4
      cases h1 with
      | str _ t ht =>
        cases h3 with
        | func _ _ _ a b ha hb =>
          cases ha
          cases hb
          refine (Any.strings_IndexFunc_runes Tryz.laysIdxF 58 #[] (enters_of Tryz.func58 (by kernel_rfl) rfl) pHost t w (host1_gives w)).mono fun e w' ⟨he, hw⟩ => ⟨⟨_, he, ?_⟩, hw⟩
          rw [idxH_of, ht]
          exact .int _ _
end Pv

--nosplit
--keep2
namespace Pv
set_option maxRecDepth 20000
set_option maxHeartbeats 4000000
open Go Go.Proofs Go.RowKit
variable {w0 : World}

/-- Is it a server's name? -/
def hostL (s : List UInt8) : Bool := !decide (s = []) && decide (s.length ≤ 64) && s.all okB
theorem negoHost_ok (s : List UInt8) : Fn (Cx w0) 21 [.str s] (.bool (hostL s)) := by
  have ti := idxH_ok (w0 := w0) s
  have tl := idxH_lt s
  by_cases h1 : s = []
  · have c1 := strEqT h1
    rw [show hostL s = false by rw [hostL, decide_eq_true h1]; rfl]
    refine fn_H ([Go.ResultVar.tmp 2]) Tryz.func21 rfl rfl (by decide) fun ph hW Q hQ => ?_
    simp only [start, List.length_cons, List.length_nil, List.cons_append, List.nil_append, Nat.reduceAdd, Nat.reduceSub, List.replicate_succ, List.replicate_zero, Tryz.ntmps21]
    repeat' first | simp -implicitDefEqProofs (maxSteps := 400000) (disch := first | with_reducible rfl | omega | (simp only [wkH] <;> omega) | decide) only [wkAll, wkL, popO, wantedP, binP, if_neg, c1]
    refine hQ (by first | exact .inr rfl | exact .inl rfl) (by first | exact trivial | exact marks1) (by first | (simp -implicitDefEqProofs (maxSteps := 400000) (disch := first | with_reducible rfl | omega | (simp only [wkH] <;> omega) | decide) only [wkL, resP, resPs, resP1]; rfl) | rfl) ⟨6, by repeat' first | exact frz_scalar rfl | apply frz_tuple | apply frz_agg | apply frz_fsl | apply frz_gsl (by omega) | exact frzs_nil | apply frzs_cons⟩ (by first | exact keepsH0 | exact keeps1 (by assumption)) (nw_eq ?_)
    rfl
  · have c1 := strEqF h1
    by_cases h2 : s.length ≤ 64
    · have c2 : (s.length : Int) ≤ 64 := by omega
      rw [show hostL s = s.all okB by rw [hostL, decide_eq_false h1, decide_eq_true h2]; rfl]
      rw [← tl]
      refine fn_H ([Go.ResultVar.tmp 2]) Tryz.func21 rfl rfl (by decide) fun ph hW Q hQ => ?_
      simp only [start, List.length_cons, List.length_nil, List.cons_append, List.nil_append, Nat.reduceAdd, Nat.reduceSub, List.replicate_succ, List.replicate_zero, Tryz.ntmps21]
      repeat' first | simp -implicitDefEqProofs (maxSteps := 400000) (disch := first | with_reducible rfl | omega | (simp only [wkH] <;> omega) | decide) only [wkAll, wkL, popO, wantedP, binP, lenP, builtinP, if_pos, tf9, c1, c2] | refine w_pure (ti) ?_
      refine hQ (by first | exact .inr rfl | exact .inl rfl) (by first | exact trivial | exact marks1) (by first | (simp -implicitDefEqProofs (maxSteps := 400000) (disch := first | with_reducible rfl | omega | (simp only [wkH] <;> omega) | decide) only [wkL, resP, resPs, resP1]; rfl) | rfl) ⟨6, by repeat' first | exact frz_scalar rfl | apply frz_tuple | apply frz_agg | apply frz_fsl | apply frz_gsl (by omega) | exact frzs_nil | apply frzs_cons⟩ (by first | exact keepsH0 | exact keeps1 (by assumption)) (nw_eq ?_)
      rfl
    · have c2 : ¬ (s.length : Int) ≤ 64 := by omega
      rw [show hostL s = false by rw [hostL, decide_eq_false h2]; simp]
      refine fn_H ([Go.ResultVar.tmp 2]) Tryz.func21 rfl rfl (by decide) fun ph hW Q hQ => ?_
      simp only [start, List.length_cons, List.length_nil, List.cons_append, List.nil_append, Nat.reduceAdd, Nat.reduceSub, List.replicate_succ, List.replicate_zero, Tryz.ntmps21]
      repeat' first | simp -implicitDefEqProofs (maxSteps := 400000) (disch := first | with_reducible rfl | omega | (simp only [wkH] <;> omega) | decide) only [wkAll, wkL, popO, wantedP, binP, lenP, builtinP, if_pos, if_neg, tf9, c1, c2]
      refine hQ (by first | exact .inr rfl | exact .inl rfl) (by first | exact trivial | exact marks1) (by first | (simp -implicitDefEqProofs (maxSteps := 400000) (disch := first | with_reducible rfl | omega | (simp only [wkH] <;> omega) | decide) only [wkL, resP, resPs, resP1]; rfl) | rfl) ⟨6, by repeat' first | exact frz_scalar rfl | apply frz_tuple | apply frz_agg | apply frz_fsl | apply frz_gsl (by omega) | exact frzs_nil | apply frzs_cons⟩ (by first | exact keepsH0 | exact keeps1 (by assumption)) (nw_eq ?_)
      rfl
end Pv

--nosplit
--keep2
namespace Pv
set_option maxRecDepth 20000
set_option maxHeartbeats 4000000
open Go Go.Proofs Go.RowKit
variable {w0 : World}

end Pv

namespace Pv
open Go Go.RowKit
variable {X : Ctx} {G : Ghost} {ph : PH} {w : World} {ρ : Option Nat} {n0 : Nat} {Q : Exit → PSt → PH → Prop}

/-! ### A row of one's own that is only read from now on: blocks that hold it tell its cells -/
/-- Arguments, those within a struct too. -/
def FA2 (p : Nat) (cells : List PV) : List PV → List PV → Prop
  | [], [] => True
  | a :: az, b :: bs => (b = a ∨ (∃ off esz len cap, a = .sl p off esz len cap ∧ b = .fsl esz len (seg cells off (len * esz)) ∧ off + len * esz ≤ cells.length) ∨ ∃ c c', a = .agg c ∧ b = .agg c' ∧ FA p cells c c') ∧ FA2 p cells az bs
  | _, _ => False
def FB (p : Nat) (cells : List PV) : List (Option Blk) → List (Option Blk) → Prop
  | [], [] => True
  | x :: xs, y :: ys => (y = x ∨ ∃ c c', x = some (.own c) ∧ y = some (.own c') ∧ FA p cells c c') ∧ FB p cells xs ys
  | _, _ => False
theorem FA2.rvs (h : Rel X G ph w) {p : Nat} {cells : List PV} {L : Loc} (hp : ph.get p = some cells) (hL : G.l[p]? = some L) : ∀ {az bs : List PV} {rs : List Value}, FA2 p cells az bs → RVs G az rs → RVs (G.frzB w L.b) bs rs
  | [], [], _, _, hr => by cases hr; exact .nil
  | a :: az, b :: bs, _, hf, hr => by
    obtain ⟨h1, h2⟩ := hf
    cases hr with
    | cons _ r _ rs ha hs =>
      refine .cons _ _ _ _ ?_ (FA2.rvs h hp hL h2 hs)
      rcases h1 with rfl | ⟨off, esz, len, cap, rfl, rfl, hle⟩ | ⟨c, c', rfl, rfl, h3⟩
      · exact ha.mono (le_frzB _ _ _)
      · exact rv_frz h hp hL ha hle
      · cases ha with
        | agg _ vals hv => exact .agg _ _ (h3.rvs h hp hL hv)
  | [], _ :: _, _, hf, _ => hf.elim
  | _ :: _, [], _, hf, _ => hf.elim
theorem FB.at {p : Nat} {cells : List PV} : ∀ {l l' : List (Option Blk)}, FB p cells l l' → l'.length = l.length ∧ ∀ k : Nat, (l'[k]? = l[k]?) ∨ ∃ c c', l[k]? = some (some (.own c)) ∧ l'[k]? = some (some (.own c')) ∧ FA p cells c c'
  | [], [], _ => ⟨rfl, fun _ => .inl rfl⟩
  | x :: xs, y :: ys, h => by
    obtain ⟨h1, h2⟩ := h
    obtain ⟨h3, h4⟩ := h2.at
    refine ⟨by simp [h3], fun k => ?_⟩
    cases k with
    | zero =>
      rcases h1 with rfl | ⟨c, c', rfl, rfl, h⟩
      · exact .inl rfl
      · exact .inr ⟨c, c', rfl, rfl, h⟩
    | succ k => simpa using h4 k
  | [], _ :: _, h => h.elim
  | _ :: _, [], h => h.elim

theorem Rel.frzC {b : PH} {l l' : List (Option Blk)} {ob : Nat → Option PObj} {ty : Nat → Option TypeId} {k : Nat} {cells : List PV} {L : Loc} (hr : Rel X G (H b l ob ty) w) (hk : l[k]? = some (some (.own cells))) (hL : G.l[b.n + k]? = some L) (h2 : FB (b.n + k) cells (l.set k none) l') :
    Rel X (G.frzB w L.b) (H b l' ob ty) w := by
  have hpk : (H b l ob ty).get (b.n + k) = some cells := by rw [h_get, hk]; rfl
  have hp := hr.frzB hpk hL
  rw [show (H b l ob ty).kill (b.n + k) = H b (l.set k none) ob ty from h_kill] at hp
  obtain ⟨h3, h4⟩ := h2.at
  have hgen : ∀ (p : Nat) (hp : ¬ p < b.n), ∃ k, p = b.n + k := fun p hp => ⟨p - b.n, by omega⟩
  have hget : ∀ p c', (H b l' ob ty).get p = some c' → ∃ c, (H b (l.set k none) ob ty).get p = some c := by
    intro p c' hc
    by_cases hpb : p < b.n
    · exact ⟨c', by rw [h_getlt hpb] at hc ⊢; exact hc⟩
    · obtain ⟨j, rfl⟩ := hgen p hpb
      rcases h4 j with h5 | ⟨c, d, h5, h6, h7⟩
      · exact ⟨c', by rw [h_get] at hc ⊢; rw [← h5]; exact hc⟩
      · exact ⟨c, by rw [h_get, h5]; rfl⟩
  refine ⟨by rw [hp.len]; simp [H, h3], hp.below, ?_, ?_, hp.fz, ?_, hp.ob, hp.ty, ?_⟩
  · intro p c' hc
    by_cases hpb : p < b.n
    · have hc2 : (H b (l.set k none) ob ty).get p = some c' := by rw [h_getlt hpb] at hc ⊢; exact hc
      exact hp.own p c' hc2
    · obtain ⟨j, rfl⟩ := hgen p hpb
      rcases h4 j with h5 | ⟨c, d, h5, h6, h7⟩
      · have hc2 : (H b (l.set k none) ob ty).get (b.n + j) = some c' := by rw [h_get] at hc ⊢; rw [← h5]; exact hc
        exact hp.own _ c' hc2
      · rw [h_get, h6] at hc
        cases hc
        have hjk : j ≠ k := by
          rintro rfl
          have hlt : j < l.length := (List.getElem?_eq_some_iff.1 hk).1
          rw [List.getElem?_set, if_pos rfl, if_pos hlt] at h5
          cases h5
        have hc0 : (H b l ob ty).get (b.n + j) = some c := by
          rw [h_get]; rw [List.getElem?_set, if_neg (Ne.symm hjk)] at h5; rw [h5]; rfl
        obtain ⟨M, vals, cs, e', fz, hM, o⟩ := hr.own _ c hc0
        exact ⟨M, vals, cs, e', fz, hM, ⟨h7.rvs hr hpk hL o.rv, o.lt, o.ge, o.hb, o.sz, o.fr, o.at_, o.one⟩⟩
  · intro p q c d L M hpq hp' hq hL hM
    obtain ⟨c0, hc0⟩ := hget p c hp'
    obtain ⟨d0, hd0⟩ := hget q d hq
    exact hp.disj p q _ _ L M hpq hc0 hd0 hL hM
  · intro a v p c L hv hp' hL
    obtain ⟨c0, hc0⟩ := hget p c hp'
    exact hp.fdisj a v p _ L hv hc0 hL
  · refine hp.grow.step rfl (Nat.le_refl _) (fun p r hr => ?_) (fun _ _ => rfl) (fun _ _ h => .inl h) fun q c L hc hL => by
      obtain ⟨c0, hc0⟩ := hget q c hc
      exact .inl ⟨c0, hc0, hL⟩
    by_cases hpb : p < b.n
    · rw [h_grolt hpb] at hr ⊢; exact hr
    · obtain ⟨j, rfl⟩ := hgen p hpb
      rw [h_gro] at hr ⊢
      rcases h4 j with h5 | ⟨c, d, h5, h6, h7⟩
      · rw [← h5]; exact hr
      · rw [h6] at hr; cases hr

/-- A call: block k is only read from now on. -/
theorem w_frzC {f : FuncId} {args args' : List PV} {K : PV → PH → Prop} {b : PH} {l l' : List (Option Blk)} {ob : Nat → Option PObj} {ty : Nat → Option TypeId} (k : Nat) (cells : List PV) (hk : l[k]? = some (some (.own cells))) (ha : FA2 (b.n + k) cells args args') (hb : FB (b.n + k) cells (l.set k none) l')
    (h : PCalls X f args' (H b l' ob ty) K) : PCalls X f args (H b l ob ty) K := by
  intro G w rargs hr hv
  have hpk : (H b l ob ty).get (b.n + k) = some cells := by rw [h_get, hk]; rfl
  obtain ⟨L, hL⟩ : ∃ L, G.l[b.n + k]? = some L := ⟨_, List.getElem?_eq_getElem (by rw [hr.lenN]; exact PH.get_lt hpk)⟩
  have hr' := hr.frzC hk hL hb
  have hv' := ha.rvs hr hpk hL hv
  have hn : (H b l' ob ty).n = (H b l ob ty).n := by rw [h_n, h_n, hb.at.1, List.length_set]
  have key : ∀ v w', CPost X (H b l' ob ty).n (G.frzB w L.b) K v w' → CPost X (H b l ob ty).n G K v w' := by
    rintro v w' ⟨G2, pv, ph', h1, h2, h3, h4, h5⟩
    rw [hn] at h1 h4
    exact ⟨G2, pv, ph', ((le_frzB G w L.b).n _).trans h1, h2, h3, h4, h5⟩
  rcases h _ w rargs hr' hv' with ⟨v, w', e, hc⟩ | ⟨w', e, hc⟩
  · exact .inl ⟨v, w', e, key _ _ hc⟩
  · refine .inr ⟨w', e, Calls.mono hc ?_⟩
    intro e w he
    cases e with
    | returned v => exact key _ _ he
    | _ => exact he

theorem FB.refl {p : Nat} {cells : List PV} : ∀ {l : List (Option Blk)}, FB p cells l l
  | [] => trivial
  | _ :: _ => ⟨.inl rfl, FB.refl⟩
theorem FB.set {p : Nat} {cells c c' : List PV} : ∀ {l : List (Option Blk)} {j : Nat}, l[j]? = some (some (.own c)) → FA p cells c c' → FB p cells l (l.set j (some (.own c')))
  | [], _, h, _ => by simp at h
  | x :: xs, 0, h, hf => by simp at h; subst h; exact ⟨.inr ⟨c, c', rfl, rfl, hf⟩, FB.refl⟩
  | x :: xs, j + 1, h, hf => by simp only [List.getElem?_cons_succ] at h; exact ⟨.inl rfl, FB.set h hf⟩

end Pv

namespace Pv
open Go Go.RowKit
/-! ### Answers that lie on the heap -/
/-- A call that answers v and leaves blocks behind. -/
def EffA (X : Ctx) (f : FuncId) (args : List PV) (ph : PH) (v : PV) (bl : List (Option Blk)) : Prop := ∀ K : PV → PH → Prop, K v (H ph bl ph.ob ph.ty) → PCalls X f args ph K
theorem h_app {b : PH} {l m : List (Option Blk)} {ob ob' : Nat → Option PObj} {ty ty' : Nat → Option TypeId} : H (H b l ob ty) m ob' ty' = H b (l ++ m) ob' ty' := by simp [H]
theorem w_effA {X : Ctx} {f : FuncId} {args : List PV} {b : PH} {l bl : List (Option Blk)} {ob : Nat → Option PObj} {ty : Nat → Option TypeId} {v : PV} {K : PV → PH → Prop} (h : EffA X f args (H b l ob ty) v bl) (k : K v (H b (l ++ bl) ob ty)) : PCalls X f args (H b l ob ty) K :=
  h K (by rw [h_app]; exact k)
/-- **A loop** whose base grows. -/
theorem w_loopJ {X : Ctx} {ph : PH} {ρ : Option Nat} {n0 : Nat} {Q : Exit → PSt → PH → Prop} {α : Type} {c : Code} {tm : List PV} {ms : List Nat} (ob : Nat → Option PObj) (ty : Nat → Option TypeId) (b : α → PH) (st : PH → α → List PV) (hl : α → List (Option Blk)) (Inv : α → Prop) (μ : α → Nat) (a0 : α) (h0 : Inv a0) (hn : ∀ a, Inv a → n0 ≤ (b a).n + (hl a).length)
    (hi : HTo (b a0) (hl a0) ob ty (st (b a0) a0) tm ph)
    (round : ∀ a, Inv a → ∀ B, B = b a → ∀ K : PSt → PH → Prop, (∀ a' tm ph', Inv a' → μ a' < μ a → HTo (b a') (hl a') ob ty (st (b a') a') tm ph' → K ⟨tm, ms⟩ ph') → vc X ρ n0 c (PExit.seq K Q) ⟨st B a, ms⟩ (H B (hl a) ob ty)) : vc X ρ n0 (.loop c) Q ⟨tm, ms⟩ ph := by
  show PWp X ρ n0 (.loop c) Q ⟨tm, ms⟩ ph
  refine PWp.weak (s' := ⟨st (b a0) a0, ms⟩) (ph' := H (b a0) (hl a0) ob ty) (hi.weak (hn _ h0)) rfl ?_
  refine pwp_loopN (I := fun j s' ph' => ∃ a, Inv a ∧ μ a = j ∧ HTo (b a) (hl a) ob ty (st (b a) a) s'.tm ph' ∧ s'.ms = ms) (μ a0) ⟨a0, h0, rfl, .same (by
    clear hi round
    generalize st (b a0) a0 = s
    induction s with
    | nil => trivial
    | cons p ps ih => exact ⟨.inr rfl, ih⟩), rfl⟩ ?_
  rintro j s' ph' ⟨a, hI, rfl, hT, hm⟩
  refine PWp.weak (s' := ⟨st (b a) a, ms⟩) (ph' := H (b a) (hl a) ob ty) (hT.weak (hn a hI)) hm.symm ?_
  refine vc_ok _ _ _ _ (round a hI _ rfl _ ?_)
  intro a' tm' ph' h1 h2 h3
  exact ⟨μ a', h2, a', h1, rfl, h3, rfl⟩

end Pv

--nosplit
--keep2
namespace Pv
set_option maxRecDepth 20000
set_option maxHeartbeats 4000000
open Go Go.Proofs Go.RowKit
variable {w0 : World}

theorem so_ok (ph : PH) (e : Int) (b : Bool) : EffA (Cx w0) 20 [.int .i64 e, .bool b] ph (.func 56 [] [.ptr (ph.n + 1) 0, .ptr ph.n 0]) [some (.own [.int .i64 e]), some (.own [.bool b])] := by
  intro K hK
  rw [show ph = H ph [] ph.ob ph.ty from (h_start ph).symm]
  refine w_inl ([Go.ResultVar.tmp 4]) Tryz.func20 rfl rfl (by decide) fun _ hI => ?_
  simp only [start, List.length_cons, List.length_nil, List.cons_append, List.nil_append, Nat.reduceAdd, Nat.reduceSub, List.replicate_succ, List.replicate_zero, Tryz.ntmps20]
  repeat' first | simp -implicitDefEqProofs (maxSteps := 400000) (disch := first | with_reducible rfl | omega | (simp only [wkH] <;> omega) | decide) only [wkAll, wkL, popO, wantedP, if_pos]
  refine hI (by first | exact .inr rfl | exact .inl rfl) trivial (by first | (simp -implicitDefEqProofs (maxSteps := 400000) (disch := first | with_reducible rfl | omega | (simp only [wkH] <;> omega) | decide) only [wkL, resP, resPs, resP1]; rfl) | rfl) ?_
  exact hK
end Pv
