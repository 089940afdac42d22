/- Part of the proof: the layer of pure values, or walks through functions (PvSha1, PvSha2, PvSha3). -/
import Derived.Test.YtjomgffpkdcanaaGreatPvDrawP
import Derived.Test.YtjomgffpkdcanaaGreatPvNg2
set_option linter.all false
namespace Pv
set_option maxRecDepth 20000
set_option maxHeartbeats 4000000
open Go Go.Proofs Go.RowKit
variable {w0 : World}

theorem and31 (n : Nat) (h0 : 0 < n) (h : n < 32) : bitsP .and .u64 (IntKind.wrap .u64 (0 - (n : Int))) 31 = ((32 - n : Nat) : Int) := by
  have : ∀ n : Fin 32, 0 < n.val → bitsP .and .u64 (IntKind.wrap .u64 (0 - (n.val : Int))) 31 = ((32 - n.val : Nat) : Int) := by decide
  exact this ⟨n, h⟩ h0

theorem rotl_ok (x : UInt32) (n : Nat) (h0 : 0 < n) (h : n < 32) : Fn (Cx w0) 117 [.int .u32 x.toNat, .int .i64 (0 - (n : Int))] (.int .u32 (rotr x n).toNat) := by
  have e1 := and31 n h0 h
  have e2 := shl32 x (32 - n) (by omega)
  have e3 := shr32 x n h
  have e4 : ((32 : Int) - ((32 - n : Nat) : Int)) = (n : Int) := by omega
  refine fn_H ([Go.ResultVar.tmp 4]) Tryz.func117 rfl rfl (by decide) fun ph hW Q hQ => ?_
  simp only [start, List.length_cons, List.length_nil, List.cons_append, List.nil_append, Nat.reduceAdd, Nat.reduceSub, List.replicate_succ, List.replicate_zero, Tryz.ntmps117]
  repeat' first | simp -implicitDefEqProofs (maxSteps := 400000) (disch := first | with_reducible rfl | omega | (simp only [wkH] <;> omega) | decide) only [wkAll, wkL, popO, wantedP, binP, convP, wkN, if_pos, tf3, tf105, e1, e2, e3, e4, or32] | refine w_dec (fun _ => ?_) (fun _ => ?_) | refine w_eqc (fun _ => ?_) (fun _ => ?_) | refine w_neqc (fun _ => ?_) (fun _ => ?_) | refine w_nneqc (fun _ => ?_) (fun _ => ?_) | ((first | refine w_split (fun h => ?_) (fun h => ?_) | refine d_split (fun h => ?_) (fun h => ?_) | refine w_csplit (fun h => ?_) (fun h => ?_)) <;> (try simp only [wkS] at h) <;> (have h2 := h) <;> (try simp only [wkT, ne_eq] at h2) <;> (try simp only [h]))
  refine hQ (by first | exact .inr rfl | exact .inl rfl) (by first | exact trivial | exact marks1) (by first | (simp -implicitDefEqProofs (maxSteps := 400000) (disch := first | with_reducible rfl | omega | (simp only [wkH] <;> omega) | decide) only [wkL, resP, resPs, resP1]; rfl) | rfl) ⟨6, by repeat' first | exact frz_scalar rfl | apply frz_tuple | apply frz_agg | apply frz_fsl | apply frz_gsl (by omega) | exact frzs_nil | apply frzs_cons⟩ (by first | exact keepsH0 | exact keeps1 (by assumption) | exact keepsH (fun _ _ h => h) (fun p hp => by simp only [upF]; (repeat rw [if_neg (by omega)])) | exact keeps1t (by assumption) (fun p hp => by simp only [upF]; (repeat rw [if_neg (by omega)])) | (subst hT; exact keepsH (fun _ _ h => h) fun _ _ => rfl)) (nw_eq ?_)
  rw [rotr, UInt32.or_comm]

theorem turn_ok (x : UInt32) (n : Nat) (h0 : 0 < n) (h : n < 32) : Fn (Cx w0) 109 [.int .u32 x.toNat, .int .i64 (n : Int)] (.int .u32 (rotr x n).toNat) := by
  refine fn_H ([Go.ResultVar.tmp 4]) Tryz.func109 rfl rfl (by decide) fun ph hW Q hQ => ?_
  simp only [start, List.length_cons, List.length_nil, List.cons_append, List.nil_append, Nat.reduceAdd, Nat.reduceSub, List.replicate_succ, List.replicate_zero, Tryz.ntmps109]
  repeat' first | simp -implicitDefEqProofs (maxSteps := 400000) (disch := first | with_reducible rfl | omega | (simp only [wkH] <;> omega) | decide) only [wkAll, wkL, popO, wantedP, unP, wkN] | refine w_pure (rotl_ok x n h0 h) ?_ | refine w_dec (fun _ => ?_) (fun _ => ?_) | refine w_eqc (fun _ => ?_) (fun _ => ?_) | refine w_neqc (fun _ => ?_) (fun _ => ?_) | refine w_nneqc (fun _ => ?_) (fun _ => ?_) | ((first | refine w_split (fun h => ?_) (fun h => ?_) | refine d_split (fun h => ?_) (fun h => ?_) | refine w_csplit (fun h => ?_) (fun h => ?_)) <;> (try simp only [wkS] at h) <;> (have h2 := h) <;> (try simp only [wkT, ne_eq] at h2) <;> (try simp only [h]))
  refine hQ (by first | exact .inr rfl | exact .inl rfl) (by first | exact trivial | exact marks1) (by first | (simp -implicitDefEqProofs (maxSteps := 400000) (disch := first | with_reducible rfl | omega | (simp only [wkH] <;> omega) | decide) only [wkL, resP, resPs, resP1]; rfl) | rfl) ⟨6, by repeat' first | exact frz_scalar rfl | apply frz_tuple | apply frz_agg | apply frz_fsl | apply frz_gsl (by omega) | exact frzs_nil | apply frzs_cons⟩ (by first | exact keepsH0 | exact keeps1 (by assumption) | exact keepsH (fun _ _ h => h) (fun p hp => by simp only [upF]; (repeat rw [if_neg (by omega)])) | exact keeps1t (by assumption) (fun p hp => by simp only [upF]; (repeat rw [if_neg (by omega)])) | (subst hT; exact keepsH (fun _ _ h => h) fun _ _ => rfl)) (nw_eq ?_)
  rfl

theorem refTurn_ok (x : UInt32) (n : Nat) (h0 : 0 < n) (h : n < 32) : Fn (Cx w0) 101 [.int .u32 x.toNat, .int .u64 (n : Int)] (.int .u32 (rotr x n).toNat) := by
  have e2 := shl32 x (32 - n) (by omega)
  have e3 := shr32 x n h
  have e4 : ((32 : Int) - (n : Int)) = ((32 - n : Nat) : Int) := by omega
  refine fn_H ([Go.ResultVar.tmp 4]) Tryz.func101 rfl rfl (by decide) fun ph hW Q hQ => ?_
  simp only [start, List.length_cons, List.length_nil, List.cons_append, List.nil_append, Nat.reduceAdd, Nat.reduceSub, List.replicate_succ, List.replicate_zero, Tryz.ntmps101]
  repeat' first | simp -implicitDefEqProofs (maxSteps := 400000) (disch := first | with_reducible rfl | omega | (simp only [wkH] <;> omega) | decide) only [wkAll, wkL, popO, wantedP, binP, wkN, if_pos, e2, e3, e4, or32] | refine w_dec (fun _ => ?_) (fun _ => ?_) | refine w_eqc (fun _ => ?_) (fun _ => ?_) | refine w_neqc (fun _ => ?_) (fun _ => ?_) | refine w_nneqc (fun _ => ?_) (fun _ => ?_) | ((first | refine w_split (fun h => ?_) (fun h => ?_) | refine d_split (fun h => ?_) (fun h => ?_) | refine w_csplit (fun h => ?_) (fun h => ?_)) <;> (try simp only [wkS] at h) <;> (have h2 := h) <;> (try simp only [wkT, ne_eq] at h2) <;> (try simp only [h]))
  refine hQ (by first | exact .inr rfl | exact .inl rfl) (by first | exact trivial | exact marks1) (by first | (simp -implicitDefEqProofs (maxSteps := 400000) (disch := first | with_reducible rfl | omega | (simp only [wkH] <;> omega) | decide) only [wkL, resP, resPs, resP1]; rfl) | rfl) ⟨6, by repeat' first | exact frz_scalar rfl | apply frz_tuple | apply frz_agg | apply frz_fsl | apply frz_gsl (by omega) | exact frzs_nil | apply frzs_cons⟩ (by first | exact keepsH0 | exact keeps1 (by assumption) | exact keepsH (fun _ _ h => h) (fun p hp => by simp only [upF]; (repeat rw [if_neg (by omega)])) | exact keeps1t (by assumption) (fun p hp => by simp only [upF]; (repeat rw [if_neg (by omega)])) | (subst hT; exact keepsH (fun _ _ h => h) fun _ _ => rfl)) (nw_eq ?_)
  rfl

theorem setL_all : ∀ (vs cells : List PV) (n : Nat), cells.length = vs.length + n → setL cells n vs = cells.take n ++ vs
  | [], cells, n, h => by simp [setL]; rw [List.take_of_length_le (by simp at h; omega)]
  | v :: vs, cells, n, h => by
    have hn : n < cells.length := by simp at h; omega
    rw [setL, setL_all vs _ (n + 1) (by simp at h ⊢; omega)]
    rw [List.take_set, List.take_succ_eq_append_getElem hn]
    rw [List.set_append_right _ _ (by simp; omega)]
    simp [Nat.min_eq_left (Nat.le_of_lt hn)]
theorem setL_whole {vs cells : List PV} (h : cells.length = vs.length) : setL cells 0 vs = vs := by rw [setL_all vs cells 0 (by omega)]; simp
theorem take_w {l : List UInt32} {n : Nat} (h : l.length = n) : (wC l).take n = wC l := List.take_of_length_le (by rw [wC_len]; omega)

theorem shaK_len : shaK.length = 64 := rfl
theorem opK_of {K : PV → PH → Prop} {e : Option (PV × PH)} (v : PV) (ph' : PH) (h : e = some (v, ph')) (k : K v ph') : opK K e := by subst h; exact k
theorem w_build {X : Ctx} {ops : Array Oper} {Q : Exit → PSt → PH → Prop} {os : List Oper} {s : PSt} {ph : PH} {d : Option Tmp} {ty t : TypeId} {p : String} {af : Array Edge} {parts : Array (Nat × Operand)} (v : PV)
  (hv : buildP X.P ty (parts.toList.map fun x => (x.1, s.ev x.2)) = some v) (k : vcL X ops Q os (s.put d v) ph) :
  vcG X ops Q os s ph { dst := d, op := .build ty parts, type := t, pos := p, after := af, guard := none } (some true) := by
  rw [w_true, w_op rfl]
  simp only [popO]
  rw [hv]
  exact k
theorem constants_ok : Fn (Cx w0) 107 [] (.agg (wC shaK)) := by
  refine fn_H ([Go.ResultVar.cell 0 161]) Tryz.func107 rfl rfl (by decide) fun ph hW Q hQ => ?_
  simp only [start, List.length_nil, List.nil_append, Nat.reduceSub, List.replicate_succ, List.replicate_zero, Tryz.ntmps107]
  simp only [w_seq, w_region, w_cons, w_noguard, w_true]
  rw [w_op rfl]
  obtain ⟨zs, hzs, hzl⟩ : ∃ l : List UInt32, List.replicate 64 0 = l ∧ l.length = 64 := ⟨_, rfl, List.length_replicate⟩
  refine opK_of (.ptr ph.n 0) (H ph [some (.own (wC zs))] ph.ob ph.ty) ?_ ?_
  · simp only [popO]
    rw [Tryz.ze161, wC_zero, hzs]
    rw [Option.map_some, Tryz.se161]
    simp only [pc_agg, h_push, h_n, if_false, Bool.false_eq_true, List.length_nil, Nat.add_zero, List.nil_append]
  simp only [w_snormal, w_next, w_put, List.set_cons_zero, w_nil, w_seq, w_region, w_cons]
  rw [w_noguard]
  obtain ⟨ks, hks, hkl⟩ : ∃ l : List UInt32, shaK = l ∧ l.length = 64 := ⟨_, rfl, rfl⟩
  refine w_build (.agg (wC ks)) ?_ ?_
  · subst hks
    kernel_rfl
  rw [hks] at hQ
  have e1 : (wC zs).length = 64 := by rw [wC_len, hzl]
  have e2 : (wC ks).length = 64 := by rw [wC_len, hkl]
  have e3 : setL (wC zs) 0 (wC ks) = wC ks := setL_whole (by rw [e1, e2])
  have e4 : (wC ks).take 64 = wC ks := take_w hkl
  clear hks
  simp only [w_put, List.set_cons_zero, List.set_cons_succ, w_cons]
  repeat' first | simp -implicitDefEqProofs (maxSteps := 400000) (disch := first | with_reducible rfl | omega | (simp only [wkH] <;> omega) | decide) only [wkAll, wkL, popO, wantedP, Nat.reduceLeDiff, storeOp, if_pos, tf161, e1, e2, e3, wC_ok] | refine w_dec (fun _ => ?_) (fun _ => ?_) | refine w_eqc (fun _ => ?_) (fun _ => ?_) | refine w_neqc (fun _ => ?_) (fun _ => ?_) | refine w_nneqc (fun _ => ?_) (fun _ => ?_) | ((first | refine w_split (fun h => ?_) (fun h => ?_) | refine d_split (fun h => ?_) (fun h => ?_) | refine w_csplit (fun h => ?_) (fun h => ?_)) <;> (try simp only [wkS] at h) <;> (have h2 := h) <;> (try simp only [wkT, ne_eq] at h2) <;> (try simp only [h]))
  refine hQ (by first | exact .inr rfl | exact .inl rfl) (by first | exact trivial | exact marks1) (by first | (simp -implicitDefEqProofs (maxSteps := 400000) (disch := first | with_reducible rfl | omega | (simp only [wkH] <;> omega) | decide) only [wkAll, wkL, Nat.reduceLeDiff, loadOp, loadP, PK.agg, seg, if_pos, tf161, resP, resPs, resP1, e2, e4]; rfl) | rfl) ⟨6, by repeat' first | exact frz_scalar rfl | apply frz_tuple | apply frz_agg | apply frz_fsl | apply frz_gsl (by omega) | exact frzs_nil | apply frzs_cons | exact frzs_scalars (wC_scalar _)⟩ (by first | exact keepsH0 | exact keeps1 (by assumption) | exact keepsH (fun _ _ h => h) (fun p hp => by simp only [upF]; (repeat rw [if_neg (by omega)])) | exact keeps1t (by assumption) (fun p hp => by simp only [upF]; (repeat rw [if_neg (by omega)])) | (subst hT; exact keepsH (fun _ _ h => h) fun _ _ => rfl)) (nw_eq ?_)
  rfl
end Pv

namespace Pv
set_option maxRecDepth 20000
set_option maxHeartbeats 4000000
open Go Go.Proofs Go.RowKit
variable {w0 : World}

theorem refBeginning_ok : Fn (Cx w0) 93 [] (.agg (wC shaH0)) := by
  refine fn_H ([Go.ResultVar.cell 0 129]) Tryz.func93 rfl rfl (by decide) fun ph hW Q hQ => ?_
  simp only [start, List.length_nil, List.nil_append, Nat.reduceSub, List.replicate_succ, List.replicate_zero, Tryz.ntmps93]
  repeat' first | simp -implicitDefEqProofs (maxSteps := 400000) (disch := first | with_reducible rfl | omega | (simp only [wkH] <;> omega) | decide) only [wkAll, wkL, popO, wantedP, ne_eq, Nat.reduceAdd, Nat.reduceLeDiff, Nat.reduceLT, storeOp, buildP, placeF, fillP, setL, gt_iff_lt, if_pos, if_neg, tf129, Tryz.ze129] | refine w_dec (fun _ => ?_) (fun _ => ?_) | refine w_eqc (fun _ => ?_) (fun _ => ?_) | refine w_neqc (fun _ => ?_) (fun _ => ?_) | refine w_nneqc (fun _ => ?_) (fun _ => ?_) | ((first | refine w_split (fun h => ?_) (fun h => ?_) | refine d_split (fun h => ?_) (fun h => ?_) | refine w_csplit (fun h => ?_) (fun h => ?_)) <;> (try simp only [wkS] at h) <;> (have h2 := h) <;> (try simp only [wkT, ne_eq] at h2) <;> (try simp only [h]))
  refine hQ (by first | exact .inr rfl | exact .inl rfl) (by first | exact trivial | exact marks1) (by first | (simp -implicitDefEqProofs (maxSteps := 400000) (disch := first | with_reducible rfl | omega | (simp only [wkH] <;> omega) | decide) only [wkAll, wkL, Nat.reduceAdd, Nat.reduceLeDiff, loadOp, loadP, PK.agg, seg, if_pos, tf129, resP, resPs, resP1]; rfl) | rfl) ⟨6, by repeat' first | exact frz_scalar rfl | apply frz_tuple | apply frz_agg | apply frz_fsl | apply frz_gsl (by omega) | exact frzs_nil | apply frzs_cons⟩ (by first | exact keepsH0 | exact keeps1 (by assumption) | exact keepsH (fun _ _ h => h) (fun p hp => by simp only [upF]; (repeat rw [if_neg (by omega)])) | exact keeps1t (by assumption) (fun p hp => by simp only [upF]; (repeat rw [if_neg (by omega)])) | (subst hT; exact keepsH (fun _ _ h => h) fun _ _ => rfl)) (nw_eq ?_)
  rfl

theorem w_buildSl {X : Ctx} {ops : Array Oper} {Q : Exit → PSt → PH → Prop} {os : List Oper} {s : PSt} {ph : PH} {d : Option Tmp} {ty t : TypeId} {p : String} {af : Array Edge} {n : Nat} {parts : Array (Nat × Operand)} (v : PV) (ph' : PH)
  (hv : buildSliceP X.P ty n (parts.toList.map fun x => (x.1, s.ev x.2)) ph = some (v, ph')) (k : vcL X ops Q os (s.put d v) ph') :
  vcG X ops Q os s ph { dst := d, op := .buildSlice ty n parts, type := t, pos := p, after := af, guard := none } (some true) := by
  rw [w_true, w_op rfl]
  simp only [popO]
  rw [hv]
  exact k
theorem buildSl_of {P : Program} {t e : TypeId} {len sz : Nat} {parts : List (Nat × PV)} {ph : PH} {z : PV} {cs : List PV} (h1 : kSl P t = some e) (h2 : szP P e = some sz) (h3 : zeroP P e = some z) (h4 : z.cells.length = sz ∧ 0 < sz ∧ len * sz ≤ 2 ^ 24 ∧ parts.all (fun x => x.2.cells.all cellOk) = true)
  (h5 : fillP (fun i => some (i * sz, sz)) (reps len z.cells) parts = some cs) : buildSliceP P t len parts ph = some (.sl ph.n 0 sz len (some len), ph.push cs) := by
  simp only [buildSliceP, h1, h2, h3, if_pos h4, h5, Option.map_some]

theorem refConstants_ok : Fn (Cx w0) 100 [] (.fsl 1 64 (wC shaK)) := by
  refine fn_H ([Go.ResultVar.tmp 0]) Tryz.func100 rfl rfl (by decide) fun ph hW Q hQ => ?_
  simp only [start, List.length_nil, List.nil_append, Nat.reduceSub, List.replicate_succ, List.replicate_zero, Tryz.ntmps100]
  simp only [w_seq, w_region, w_cons, w_noguard, w_true]
  rw [w_op rfl]
  refine opK_of .nilsl (H ph [] ph.ob ph.ty) rfl ?_
  simp only [w_snormal, w_next, w_put, List.set_cons_zero, w_nil, w_seq, w_region, w_cons]
  rw [w_noguard]
  obtain ⟨ks, hks, hkl⟩ : ∃ l : List UInt32, shaK = l ∧ l.length = 64 := ⟨_, rfl, rfl⟩
  refine w_buildSl (.sl ph.n 0 1 64 (some 64)) (H ph [some (.own (wC ks))] ph.ob ph.ty) ?_ ?_
  · refine (buildSl_of (e := 128) (z := .int .u32 0) (cs := wC ks) Tryz.sl153 Tryz.sz128 Tryz.ze128 ?_ ?_).trans ?_
    · refine ⟨rfl, by decide, by decide, by kernel_rfl⟩
    · subst hks; kernel_rfl
    · simp only [h_n, h_push, List.length_nil, Nat.add_zero, List.nil_append]
  rw [hks] at hQ
  have e2 : (wC ks).length = 64 := by rw [wC_len, hkl]
  clear hks
  simp only [w_put, List.set_cons_zero, List.set_cons_succ, w_cons]
  repeat' first | simp -implicitDefEqProofs (maxSteps := 400000) (disch := first | with_reducible rfl | omega | (simp only [wkH] <;> omega) | decide) only [wkAll, wkL, popO, wantedP] | refine w_dec (fun _ => ?_) (fun _ => ?_) | refine w_eqc (fun _ => ?_) (fun _ => ?_) | refine w_neqc (fun _ => ?_) (fun _ => ?_) | refine w_nneqc (fun _ => ?_) (fun _ => ?_) | ((first | refine w_split (fun h => ?_) (fun h => ?_) | refine d_split (fun h => ?_) (fun h => ?_) | refine w_csplit (fun h => ?_) (fun h => ?_)) <;> (try simp only [wkS] at h) <;> (have h2 := h) <;> (try simp only [wkT, ne_eq] at h2) <;> (try simp only [h]))
  refine hQ (.inr rfl) (by first | exact trivial | exact marks1) (by first | (simp -implicitDefEqProofs (maxSteps := 400000) (disch := first | with_reducible rfl | omega | (simp only [wkH] <;> omega) | decide) only [wkL, resP, resPs, resP1]; rfl) | rfl) ⟨6, frz_sl (cells := wC ks) (qs := wC ks) (Nat.le_refl _) (by rw [h_shut0, h_get0]; rfl) (by rw [e2]; omega) (by rw [show seg (wC ks) 0 (64 * 1) = wC ks from take_w hkl]; exact frzs_scalars (wC_scalar _))⟩ (by first | exact keepsH0 | exact keeps1 (by assumption) | exact keepsH (fun _ _ h => h) (fun p hp => by simp only [upF]; (repeat rw [if_neg (by omega)]))) (nw_eq rfl)
end Pv

namespace Pv
set_option maxRecDepth 20000
set_option maxHeartbeats 4000000
open Go Go.Proofs Go.RowKit
def tb108_10Sha3 : Tab := [[], [0], [0, 1], [0, 1, 2], [], [4], [4, 5], [4, 5, 6], [0, 1, 2, 3], [0, 1, 2, 3, 4, 5, 6, 7, 8]]
def pl108_10Sha3 : Plan := [(0, true, []), (1, true, []), (2, true, []), (3, true, []), (4, true, []), (5, true, []), (6, true, []), (7, true, []), (8, false, [4, 5, 6, 7]), (9, false, [])]
def tb108_11Sha3 : Tab := [[], [], [1], [1, 2], [1, 2, 3], [], [5], [5, 6], [5, 6, 7], [1, 2, 3, 4, 5, 6, 7, 8], [], [10], [], [10, 11, 12], [10, 11, 12, 13], [], [15], [10, 11, 12, 13, 14, 15, 16], [1, 2, 3, 4, 5, 6, 7, 8, 9, 10, 11, 12, 13, 14, 15, 16, 17], [], [10, 11, 12, 13, 19], [], [10, 11, 12, 13, 19, 20, 21], [10, 11, 12, 13, 19, 20, 21, 22], [], [24], [10, 11, 12, 13, 19, 20, 21, 22, 23, 24, 25], [1, 2, 3, 4, 5, 6, 7, 8, 9, 10, 11, 12, 13, 14, 15, 16, 17, 18, 19, 20, 21, 22, 23, 24, 25, 26], [0, 1, 2, 3, 4, 5, 6, 7, 8, 9, 10, 11, 12, 13, 14, 15, 16, 17, 18, 19, 20, 21, 22, 23, 24, 25, 26, 27], [0, 1, 2, 3, 4, 5, 6, 7, 8, 9, 10, 11, 12, 13, 14, 15, 16, 17, 18, 19, 20, 21, 22, 23, 24, 25, 26, 27, 28]]
def pl108_11Sha3 : Plan := [(0, true, []), (1, true, []), (2, true, []), (3, true, []), (4, true, []), (5, true, []), (6, true, []), (7, true, []), (8, true, []), (9, true, []), (10, true, []), (12, true, []), (15, true, []), (16, true, []), (19, true, []), (21, true, []), (24, true, []), (25, true, []), (11, false, [0, 1, 2, 3, 4, 5, 6, 7, 8, 9, 12, 15, 16, 19, 21, 24, 25]), (13, false, [0, 1, 2, 3, 4, 5, 6, 7, 8, 9, 15, 16, 19, 21, 24, 25]), (14, true, []), (17, true, []), (18, true, []), (20, false, [0, 1, 2, 3, 4, 5, 6, 7, 8, 9, 15, 16, 21, 24, 25, 14, 17, 18]), (22, false, [0, 1, 2, 3, 4, 5, 6, 7, 8, 9, 15, 16, 24, 25, 14, 17, 18]), (23, true, []), (26, true, []), (27, true, []), (28, true, []), (29, false, [])]
def tb108_5Sha3 : Tab := [[], [0], [], [2], [2, 3], [2, 3, 4], [2, 3, 4, 5], [], [], [7, 8], [7, 8, 9], [2, 3, 4, 5, 6, 7, 8, 9, 10], [0, 1, 2, 3, 4, 5, 6, 7, 8, 9, 10, 11], [0, 1, 2, 3, 4, 5, 6, 7, 8, 9, 10, 11, 12]]
def pl108_5Sha3 : Plan := [(0, true, []), (1, true, []), (2, true, []), (3, true, []), (4, true, []), (5, true, []), (6, true, []), (7, true, []), (8, true, []), (9, true, []), (10, true, []), (11, true, []), (12, true, []), (13, false, [])]
variable {w0 : World}

theorem get_someW {α : Type} {l : List α} {i : Nat} (h : i < l.length) : ∃ x, l[i]? = some x := ⟨_, List.getElem?_eq_getElem h⟩
/-- The words, when i bytes are in. -/
def loadW (s : List UInt8) (i : Nat) : List UInt32 := (List.range 64).map fun j => beW s (4 * j) (min 4 (i - 4 * j))
theorem loadW_len (s : List UInt8) (i : Nat) : (loadW s i).length = 64 := by simp [loadW]
theorem loadW_get (s : List UInt8) (i j : Nat) (h : j < 64) : (loadW s i)[j]? = some (beW s (4 * j) (min 4 (i - 4 * j))) := by simp [loadW, h]
theorem loadW_zero (s : List UInt8) : loadW s 0 = List.replicate 64 0 := by
  apply List.ext_getElem? ; intro j
  rcases Nat.lt_or_ge j 64 with h | h
  · rw [loadW_get _ _ _ h, List.getElem?_replicate, if_pos h]; simp [beW]
  · rw [List.getElem?_eq_none (by rw [loadW_len]; exact h), List.getElem?_eq_none (by simp; exact h)]
theorem loadW_succ (s : List UInt8) (i : Nat) (h : i < 64) (x : UInt32) (hx : (loadW s i)[i / 4]? = some x) (b : UInt8) (hb : s[i]? = some b) : loadW s (i + 1) = (loadW s i).set (i / 4) ((x <<< 8) ||| b.toUInt32) := by
  apply List.ext_getElem? ; intro j
  rcases Nat.lt_or_ge j 64 with hj | hj
  · rw [loadW_get _ _ _ hj, List.getElem?_set]
    by_cases e : i / 4 = j
    · subst e
      rw [if_pos rfl, if_pos (by rw [loadW_len]; omega)]
      rw [loadW_get _ _ _ (by omega)] at hx
      have hm : min 4 (i + 1 - 4 * (i / 4)) = min 4 (i - 4 * (i / 4)) + 1 := by omega
      have hm2 : 4 * (i / 4) + min 4 (i - 4 * (i / 4)) = i := by omega
      rw [hm, beW, hm2, List.getD_eq_getElem?_getD, hb]
      injection hx with hx
      rw [hx]; rfl
    · rw [if_neg e, loadW_get _ _ _ hj]
      have hm : min 4 (i + 1 - 4 * j) = min 4 (i - 4 * j) := by omega
      rw [hm]
  · rw [List.getElem?_eq_none (by rw [loadW_len]; exact hj), List.getElem?_eq_none (by rw [List.length_set, loadW_len]; exact hj)]
/-- The words of the schedule, i of them made. -/
def schedW (s : List UInt8) (i : Nat) : List UInt32 := schedL s i ++ List.replicate (64 - i) 0
theorem schedW_len (s : List UInt8) (i : Nat) (h : i ≤ 64) : (schedW s i).length = 64 := by simp [schedW, schedL_len]; omega
theorem schedL_first (s : List UInt8) : ∀ i j, i ≤ 16 → j < i → (schedL s i)[j]? = some (beW s (4 * j) 4)
  | 0, j, _, h => absurd h (Nat.not_lt_zero _)
  | i + 1, j, hi, h => by
    rw [schedL]
    rcases Nat.lt_or_ge j i with hj | hj
    · rw [List.getElem?_append_left (by rw [schedL_len]; exact hj)]; exact schedL_first s i j (by omega) hj
    · have : j = i := by omega
      subst this
      rw [List.getElem?_append_right (by rw [schedL_len]; exact Nat.le_refl _), schedL_len, Nat.sub_self, nextW, schedL_len, if_pos (by omega)]
      rfl
theorem load_sched (s : List UInt8) : loadW s 64 = schedW s 16 := by
  apply List.ext_getElem? ; intro j
  rcases Nat.lt_or_ge j 64 with hj | hj
  · rw [loadW_get _ _ _ hj, schedW]
    rcases Nat.lt_or_ge j 16 with h | h
    · rw [List.getElem?_append_left (by rw [schedL_len]; exact h), schedL_first s 16 j (by omega) h]
      have hm : min 4 (64 - 4 * j) = 4 := by omega
      rw [hm]
    · rw [List.getElem?_append_right (by rw [schedL_len]; exact h), schedL_len, List.getElem?_replicate, if_pos (by omega)]
      have hm : min 4 (64 - 4 * j) = 0 := by omega
      rw [hm, beW]
  · rw [List.getElem?_eq_none (by rw [loadW_len]; exact hj), List.getElem?_eq_none (by rw [schedW_len _ _ (by omega)]; exact hj)]
theorem schedW_get (s : List UInt8) (i j : Nat) (h : j < i) : (schedW s i)[j]? = some ((schedL s i).getD j 0) := by
  rw [schedW, List.getElem?_append_left (by rw [schedL_len]; exact h), List.getD_eq_getElem?_getD, List.getElem?_eq_getElem (by rw [schedL_len]; exact h)]
  rfl
theorem schedW_succ (s : List UInt8) (i : Nat) (h : i < 64) : schedW s (i + 1) = (schedW s i).set i (nextW s (schedL s i)) := by
  have e : List.replicate (64 - i) (0 : UInt32) = 0 :: List.replicate (64 - (i + 1)) 0 := by
    rw [show 64 - i = (64 - (i + 1)) + 1 by omega, List.replicate_succ]
  rw [schedW, schedW, e, schedL, List.set_append_right _ _ (by rw [schedL_len]; exact Nat.le_refl _), schedL_len, Nat.sub_self, List.append_assoc]
  rfl
theorem schedW_all (s : List UInt8) : schedW s 64 = schedL s 64 := by simp [schedW]

/-- 64 words of nought. -/
def zW : List UInt32 := List.replicate 64 0
theorem zW_len : zW.length = 64 := rfl
theorem ze136w : zeroP Tryz.prog 161 = some (.agg (wC zW)) := by rw [Tryz.ze161, wC_zero]; rfl
theorem loadW_z (s : List UInt8) : loadW s 0 = zW := loadW_zero s
attribute [irreducible] zW
theorem schedule_ok (s : List UInt8) (h : s.length = 64) : Fn (Cx w0) 108 [.str s] (.agg (wC (schedL s 64))) := by
  refine fn_H ([Go.ResultVar.cell 2 161]) Tryz.func108 rfl rfl (by decide) fun ph hW Q hQ => ?_
  simp only [start, List.length_cons, List.length_nil, List.cons_append, List.nil_append, Nat.reduceAdd, Nat.reduceSub, List.replicate_succ, List.replicate_zero, Tryz.ntmps108]
  repeat' first | simp -implicitDefEqProofs (maxSteps := 400000) (disch := first | with_reducible rfl | omega | (simp only [wkH] <;> omega) | decide) only [wkAll, wkL, popO, wantedP, if_neg, tf161, ze136w] | refine w_dec (fun _ => ?_) (fun _ => ?_) | refine w_eqc (fun _ => ?_) (fun _ => ?_) | refine w_neqc (fun _ => ?_) (fun _ => ?_) | refine w_nneqc (fun _ => ?_) (fun _ => ?_) | ((first | refine w_split (fun h => ?_) (fun h => ?_) | refine d_split (fun h => ?_) (fun h => ?_) | refine w_csplit (fun h => ?_) (fun h => ?_)) <;> (try simp only [wkS] at h) <;> (have h2 := h) <;> (try simp only [wkT, ne_eq] at h2) <;> (try simp only [h])) | refine w_drawnF (id := 5) tb108_5Sha3 pl108_5Sha3 24 (by kernel_rfl) (by kernel_rfl) (by simp) ?_ | refine w_drawnF (id := 10) tb108_10Sha3 pl108_10Sha3 37 (by kernel_rfl) (by kernel_rfl) (by simp) ?_ | refine w_drawnF (id := 11) tb108_11Sha3 pl108_11Sha3 66 (by kernel_rfl) (by kernel_rfl) (by simp) ?_
  refine w_loopH (α := Nat) ph ph.ob ph.ty (fun i => [.str s, .undef, .ptr ph.n 0, .ptr (ph.n + 1) 0, .undef, .undef, .undef, .undef, .int .i64 i, .undef, .undef, .undef, .undef, .undef, .undef, .undef, .undef, .undef, .undef, .undef, .undef, .undef, .undef, .undef, .undef, .undef, .undef, .undef, .undef, .undef, .undef, .undef, .undef, .undef, .undef, .undef, .undef, .undef, .undef, .undef, .undef, .undef, .undef, .undef, .undef, .undef, .undef, .undef, .undef, .undef, .undef, .undef, .undef, .undef, .undef, .undef, .undef, .undef, .undef, .undef, .undef, .undef, .undef, .undef, .undef, .undef, .undef]) (fun i => [some (.own (wC zW)), some (.own (wC (loadW s i)))]) (fun i => i ≤ 64) (fun i => 64 - i) 0 (by simp) (fun _ _ => by simp) (.eq (by simp [FadeTo]) (by simp only [loadW_z])) ?_
  rintro i hi K hK
  rcases Nat.lt_or_ge i 64 with hlt | hge
  · have hlt' : (i : Int) < 64 := by omega
    obtain ⟨x, hx⟩ : ∃ x, (loadW s i)[i / 4]? = some x := ⟨_, loadW_get _ _ _ (by omega)⟩
    obtain ⟨b, hb⟩ := get_someW (show i < s.length by omega)
    have hs' := loadW_succ s i hlt x hx b hb
    obtain ⟨q, hq⟩ : ∃ q, i / 4 = q := ⟨_, rfl⟩
    rw [hq] at hx hs'
    have htd : (i : Int).tdiv 4 = (q : Int) := by rw [quo_nn _ _ (by omega) (by omega)]; omega
    have hql : (q : Int) < 64 := by omega
    have hq0 : (0 : Int) ≤ q := by omega
    have hqw : IntKind.wrap .i64 (q : Int) = q := by rw [wrap_i64] <;> omega
    have hc : (wC (loadW s i))[q]? = some (.int .u32 x.toNat) := by rw [wC_get, hx]; rfl
    have hor : bitsP .or .u32 ((x <<< 8).toNat : Int) (b.toNat : Int) = (((x <<< 8) ||| b.toUInt32).toNat : Int) := by rw [← b32, or32]
    have hlen : q + 1 ≤ (wC (loadW s i)).length := by rw [wC_len, loadW_len]; omega
    have hs2 := hs'.symm
    repeat' first | simp -implicitDefEqProofs (maxSteps := 400000) (disch := first | with_reducible rfl | omega | (simp only [wkH] <;> omega) | decide) only [wkAll, wkL, popO, wantedP, Int.reduceLE, Int.reduceEq, binP, convP, indexOp, indexAddrOp, loadOp, storeOp, loadP, setL, PK.agg, seg, wkN, if_pos, if_neg, tf5, tf9, tf128, tf161, pl108_5Sha3, hlt', htd, hqw, hql, hq0, hc, hb, shl32_8, hor, wC_set, hlen, hs2] | refine w_dec (fun _ => ?_) (fun _ => ?_) | refine w_eqc (fun _ => ?_) (fun _ => ?_) | refine w_neqc (fun _ => ?_) (fun _ => ?_) | refine w_nneqc (fun _ => ?_) (fun _ => ?_) | ((first | refine w_split (fun h => ?_) (fun h => ?_) | refine d_split (fun h => ?_) (fun h => ?_) | refine w_csplit (fun h => ?_) (fun h => ?_)) <;> (try simp only [wkS] at h) <;> (have h2 := h) <;> (try simp only [wkT, ne_eq] at h2) <;> (try simp only [h])) | refine w_drawnF (id := 5) tb108_5Sha3 pl108_5Sha3 24 (by kernel_rfl) (by kernel_rfl) (by simp) ?_ | refine w_drawnF (id := 10) tb108_10Sha3 pl108_10Sha3 37 (by kernel_rfl) (by kernel_rfl) (by simp) ?_ | refine w_drawnF (id := 11) tb108_11Sha3 pl108_11Sha3 66 (by kernel_rfl) (by kernel_rfl) (by simp) ?_
    exact hK (i + 1) _ _ (by omega) (by omega) (.eq (by simp [FadeTo]) rfl)
  · have hge' : ¬ (i : Int) < 64 := by omega
    have : i = 64 := by omega
    subst this
    rw [load_sched]
    repeat' first | simp -implicitDefEqProofs (maxSteps := 400000) (disch := first | with_reducible rfl | omega | (simp only [wkH] <;> omega) | decide) only [wkAll, wkL, popO, wantedP, Int.reduceLT, binP, wkN, if_pos] | refine w_dec (fun _ => ?_) (fun _ => ?_) | refine w_eqc (fun _ => ?_) (fun _ => ?_) | refine w_neqc (fun _ => ?_) (fun _ => ?_) | refine w_nneqc (fun _ => ?_) (fun _ => ?_) | ((first | refine w_split (fun h => ?_) (fun h => ?_) | refine d_split (fun h => ?_) (fun h => ?_) | refine w_csplit (fun h => ?_) (fun h => ?_)) <;> (try simp only [wkS] at h) <;> (have h2 := h) <;> (try simp only [wkT, ne_eq] at h2) <;> (try simp only [h])) | refine w_drawnF (id := 5) tb108_5Sha3 pl108_5Sha3 24 (by kernel_rfl) (by kernel_rfl) (by simp) ?_ | refine w_drawnF (id := 10) tb108_10Sha3 pl108_10Sha3 37 (by kernel_rfl) (by kernel_rfl) (by simp) ?_ | refine w_drawnF (id := 11) tb108_11Sha3 pl108_11Sha3 66 (by kernel_rfl) (by kernel_rfl) (by simp) ?_
    refine w_loopH (α := Nat) ph ph.ob ph.ty (fun i => [.str s, .undef, .ptr ph.n 0, .ptr (ph.n + 1) 0, .undef, .int .i64 i, .undef, .undef, .undef, .undef, .undef, .undef, .undef, .undef, .undef, .undef, .undef, .undef, .undef, .undef, .undef, .undef, .undef, .undef, .undef, .undef, .undef, .undef, .undef, .undef, .undef, .undef, .undef, .undef, .undef, .undef, .undef, .undef, .undef, .undef, .undef, .undef, .undef, .undef, .undef, .undef, .undef, .undef, .undef, .undef, .undef, .undef, .undef, .undef, .undef, .undef, .undef, .undef, .undef, .undef, .undef, .undef, .undef, .undef, .undef, .undef, .undef]) (fun i => [some (.own (wC zW)), some (.own (wC (schedW s i)))]) (fun i => 16 ≤ i ∧ i ≤ 64) (fun i => 64 - i) 16 (by simp) (fun _ _ => by simp) (.eq (by simp [FadeTo]) rfl) ?_
    clear hi hK hge hge'
    rintro i ⟨hi0, hi⟩ K hK
    rcases Nat.lt_or_ge i 64 with hlt | hge
    · have hlt' : (i : Int) < 64 := by omega
      have hs2 := (schedW_succ s i hlt).symm
      have hn : nextW s (schedL s i) = (schedL s i).getD (i - 16) 0 + (schedL s i).getD (i - 7) 0 + sig0 ((schedL s i).getD (i - 15) 0) + sig1 ((schedL s i).getD (i - 2) 0) := by
        rw [nextW, schedL_len, if_neg (by omega)]
      have g1 := schedW_get s i (i - 15) (by omega)
      have g2 := schedW_get s i (i - 2) (by omega)
      have g3 := schedW_get s i (i - 16) (by omega)
      have g4 := schedW_get s i (i - 7) (by omega)
      generalize (schedL s i).getD (i - 15) 0 = a1 at *
      generalize (schedL s i).getD (i - 2) 0 = a2 at *
      generalize (schedL s i).getD (i - 16) 0 = a3 at *
      generalize (schedL s i).getD (i - 7) 0 = a4 at *
      have c1 : (wC (schedW s i))[i - 15]? = some (.int .u32 a1.toNat) := by rw [wC_get, g1]; rfl
      have c2 : (wC (schedW s i))[i - 2]? = some (.int .u32 a2.toNat) := by rw [wC_get, g2]; rfl
      have c3 : (wC (schedW s i))[i - 16]? = some (.int .u32 a3.toNat) := by rw [wC_get, g3]; rfl
      have c4 : (wC (schedW s i))[i - 7]? = some (.int .u32 a4.toNat) := by rw [wC_get, g4]; rfl
      rw [hn] at hs2
      simp only [sig0, sig1] at hs2
      have i1 : (i : Int) - 15 = ((i - 15 : Nat) : Int) := by omega
      have i2 : (i : Int) - 2 = ((i - 2 : Nat) : Int) := by omega
      have i3 : (i : Int) - 16 = ((i - 16 : Nat) : Int) := by omega
      have i4 : (i : Int) - 7 = ((i - 7 : Nat) : Int) := by omega
      have hlen : i + 1 ≤ (wC (schedW s i)).length := by rw [wC_len, schedW_len _ _ hi]; omega
      repeat' first | simp -implicitDefEqProofs (maxSteps := 400000) (disch := first | with_reducible rfl | omega | (simp only [wkH] <;> omega) | decide) only [wkAll, wkL, popO, wantedP, Int.reduceLE, binP, indexAddrOp, loadOp, storeOp, loadP, setL, PK.agg, seg, wkN, if_pos, if_neg, tf128, tf161, pl108_10Sha3, pl108_11Sha3, hlt', i1, i2, i3, i4, c1, c2, c3, c4, shr32_3, shr32_10, xor32, add32, wC_set, hlen, hs2] | refine w_pure (turn_ok a1 7 (by omega) (by omega)) ?_ | refine w_pure (turn_ok a1 18 (by omega) (by omega)) ?_ | refine w_pure (turn_ok a2 17 (by omega) (by omega)) ?_ | refine w_pure (turn_ok a2 19 (by omega) (by omega)) ?_ | refine w_dec (fun _ => ?_) (fun _ => ?_) | refine w_eqc (fun _ => ?_) (fun _ => ?_) | refine w_neqc (fun _ => ?_) (fun _ => ?_) | refine w_nneqc (fun _ => ?_) (fun _ => ?_) | ((first | refine w_split (fun h => ?_) (fun h => ?_) | refine d_split (fun h => ?_) (fun h => ?_) | refine w_csplit (fun h => ?_) (fun h => ?_)) <;> (try simp only [wkS] at h) <;> (have h2 := h) <;> (try simp only [wkT, ne_eq] at h2) <;> (try simp only [h])) | refine w_drawnF (id := 5) tb108_5Sha3 pl108_5Sha3 24 (by kernel_rfl) (by kernel_rfl) (by simp) ?_ | refine w_drawnF (id := 10) tb108_10Sha3 pl108_10Sha3 37 (by kernel_rfl) (by kernel_rfl) (by simp) ?_ | refine w_drawnF (id := 11) tb108_11Sha3 pl108_11Sha3 66 (by kernel_rfl) (by kernel_rfl) (by simp) ?_
      exact hK (i + 1) _ _ ⟨by omega, by omega⟩ (by omega) (.eq (by simp [FadeTo]) rfl)
    · have hge' : ¬ (i : Int) < 64 := by omega
      have : i = 64 := by omega
      subst this
      rw [schedW_all]
      have hl64 := schedL_len s 64
      generalize schedL s 64 = ws at *
      have z1 : (wC zW).length = 64 := by rw [wC_len, zW_len]
      have e2 : (wC ws).length = 64 := by rw [wC_len, hl64]
      have e3 : setL (wC zW) 0 (wC ws) = wC ws := setL_whole (by rw [z1, e2])
      have e4 : (wC ws).take 64 = wC ws := take_w hl64
      repeat' first | simp -implicitDefEqProofs (maxSteps := 400000) (disch := first | with_reducible rfl | omega | (simp only [wkH] <;> omega) | decide) only [wkAll, wkL, popO, wantedP, Nat.reduceLeDiff, Int.reduceLT, binP, loadOp, storeOp, loadP, PK.agg, seg, wkN, if_pos, tf161, z1, e2, e3, e4, wC_ok] | refine w_dec (fun _ => ?_) (fun _ => ?_) | refine w_eqc (fun _ => ?_) (fun _ => ?_) | refine w_neqc (fun _ => ?_) (fun _ => ?_) | refine w_nneqc (fun _ => ?_) (fun _ => ?_) | ((first | refine w_split (fun h => ?_) (fun h => ?_) | refine d_split (fun h => ?_) (fun h => ?_) | refine w_csplit (fun h => ?_) (fun h => ?_)) <;> (try simp only [wkS] at h) <;> (have h2 := h) <;> (try simp only [wkT, ne_eq] at h2) <;> (try simp only [h])) | refine w_drawnF (id := 5) tb108_5Sha3 pl108_5Sha3 24 (by kernel_rfl) (by kernel_rfl) (by simp) ?_ | refine w_drawnF (id := 10) tb108_10Sha3 pl108_10Sha3 37 (by kernel_rfl) (by kernel_rfl) (by simp) ?_ | refine w_drawnF (id := 11) tb108_11Sha3 pl108_11Sha3 66 (by kernel_rfl) (by kernel_rfl) (by simp) ?_
      refine hQ (by first | exact .inr rfl | exact .inl rfl) (by first | exact trivial | exact marks1) (by first | (simp -implicitDefEqProofs (maxSteps := 400000) (disch := first | with_reducible rfl | omega | (simp only [wkH] <;> omega) | decide) only [wkAll, wkL, Nat.reduceLeDiff, loadOp, loadP, PK.agg, seg, if_pos, tf161, resP, resPs, resP1, e2, e4]; rfl) | rfl) ⟨6, by repeat' first | exact frz_scalar rfl | apply frz_tuple | apply frz_agg | apply frz_fsl | apply frz_gsl (by omega) | exact frzs_nil | apply frzs_cons | exact frzs_scalars (wC_scalar _)⟩ (by first | exact keepsH0 | exact keeps1 (by assumption) | exact keepsH (fun _ _ h => h) (fun p hp => by simp only [upF]; (repeat rw [if_neg (by omega)])) | exact keeps1t (by assumption) (fun p hp => by simp only [upF]; (repeat rw [if_neg (by omega)])) | (subst hT; exact keepsH (fun _ _ h => h) fun _ _ => rfl)) (nw_eq ?_)
      rfl
end Pv
