/- Part of the proof: the layer of pure values, or walks through functions (PvNg3, PvW32, PvShaS, PvSha1). -/
import Derived.Test.YtjomgffpkdcanaaGreatPvNg1
import Derived.Test.YtjomgffpkdcanaaGreatPvBldX
import Derived.Test.YtjomgffpkdcanaaGreatPvH
import Derived.Test.YtjomgffpkdcanaaGreatPvDrawP
set_option linter.all false
namespace Pv
set_option maxRecDepth 20000
set_option maxHeartbeats 4000000
open Go Go.Proofs Go.RowKit
variable {w0 : World}

/-- The one number of the one record of a kind. -/
def singL (l : List KR) (k : Int) : Int × Bool := match numL l k false with
  | ([n], true) => (n, true)
  | _ => (0, false)
theorem negoSingle_ok (l : List KR) (k : Int) (hl : l.length < 2 ^ 40) (hb : ∀ r ∈ l, r.b.length < 2 ^ 50) : Fn (Cx w0) 41 [.fsl 3 l.length (krsC l), .int .i64 k] (.tuple [.int .i64 (singL l k).1, .bool (singL l k).2]) := by
  have tn := negoNumbers_ok (w0 := w0) l k false hl hb
  match hN : numL l k false with
  | (N, false) =>
    rw [hN] at tn
    rw [show singL l k = (0, false) by unfold singL; rw [hN]; match N with | [] | [_] | _ :: _ :: _ => rfl]
    refine fn_H ([Go.ResultVar.tmp 4, Go.ResultVar.tmp 5]) Tryz.func41 rfl rfl (by decide) fun ph hW Q hQ => ?_
    simp only [start, List.length_cons, List.length_nil, List.cons_append, List.nil_append, Nat.reduceAdd, Nat.reduceSub, List.replicate_succ, List.replicate_zero, Tryz.ntmps41]
    repeat' first | simp -implicitDefEqProofs (maxSteps := 400000) (disch := first | with_reducible rfl | omega | (simp only [wkH] <;> omega) | decide) only [wkAll, wkL, popO, wantedP, unP, if_pos] | refine w_pure (tn) ?_ | refine w_dec (fun _ => ?_) (fun _ => ?_) | refine w_eqc (fun _ => ?_) (fun _ => ?_) | refine w_neqc (fun _ => ?_) (fun _ => ?_) | refine w_nneqc (fun _ => ?_) (fun _ => ?_) | ((first | refine w_split (fun h => ?_) (fun h => ?_) | refine d_split (fun h => ?_) (fun h => ?_) | refine w_csplit (fun h => ?_) (fun h => ?_)) <;> (try simp only [wkS] at h) <;> (have h2 := h) <;> (try simp only [wkT, ne_eq] at h2) <;> (try simp only [h]))
    refine hQ (by first | exact .inr rfl | exact .inl rfl) (by first | exact trivial | exact marks1) (by first | (simp -implicitDefEqProofs (maxSteps := 400000) (disch := first | with_reducible rfl | omega | (simp only [wkH] <;> omega) | decide) only [wkL, resP, resPs, resP1]; rfl) | rfl) ⟨6, by repeat' first | exact frz_scalar rfl | apply frz_tuple | apply frz_agg | apply frz_fsl | apply frz_gsl (by omega) | exact frzs_nil | apply frzs_cons⟩ (by first | exact keepsH0 | exact keeps1 (by assumption) | exact keepsH (fun _ _ h => h) (fun p hp => by simp only [upF]; (repeat rw [if_neg (by omega)])) | exact keeps1t (by assumption) (fun p hp => by simp only [upF]; (repeat rw [if_neg (by omega)])) | (subst hT; exact keepsH (fun _ _ h => h) fun _ _ => rfl)) (nw_eq ?_)
    rfl
  | ([], true) =>
    rw [hN] at tn
    rw [show singL l k = (0, false) by rw [singL, hN]]
    refine fn_H ([Go.ResultVar.tmp 4, Go.ResultVar.tmp 5]) Tryz.func41 rfl rfl (by decide) fun ph hW Q hQ => ?_
    simp only [start, List.length_cons, List.length_nil, List.cons_append, List.nil_append, Nat.reduceAdd, Nat.reduceSub, List.replicate_succ, List.replicate_zero, Tryz.ntmps41]
    repeat' first | simp -implicitDefEqProofs (maxSteps := 400000) (disch := first | with_reducible rfl | omega | (simp only [wkH] <;> omega) | decide) only [wkAll, wkL, popO, wantedP, Int.reduceBNe, binP, unP, lenP, builtinP, wkN, if_pos, if_neg, tf22] | refine w_pure (tn) ?_ | refine w_dec (fun _ => ?_) (fun _ => ?_) | refine w_eqc (fun _ => ?_) (fun _ => ?_) | refine w_neqc (fun _ => ?_) (fun _ => ?_) | refine w_nneqc (fun _ => ?_) (fun _ => ?_) | ((first | refine w_split (fun h => ?_) (fun h => ?_) | refine d_split (fun h => ?_) (fun h => ?_) | refine w_csplit (fun h => ?_) (fun h => ?_)) <;> (try simp only [wkS] at h) <;> (have h2 := h) <;> (try simp only [wkT, ne_eq] at h2) <;> (try simp only [h]))
    refine hQ (by first | exact .inr rfl | exact .inl rfl) (by first | exact trivial | exact marks1) (by first | (simp -implicitDefEqProofs (maxSteps := 400000) (disch := first | with_reducible rfl | omega | (simp only [wkH] <;> omega) | decide) only [wkL, resP, resPs, resP1]; rfl) | rfl) ⟨6, by repeat' first | exact frz_scalar rfl | apply frz_tuple | apply frz_agg | apply frz_fsl | apply frz_gsl (by omega) | exact frzs_nil | apply frzs_cons⟩ (by first | exact keepsH0 | exact keeps1 (by assumption) | exact keepsH (fun _ _ h => h) (fun p hp => by simp only [upF]; (repeat rw [if_neg (by omega)])) | exact keeps1t (by assumption) (fun p hp => by simp only [upF]; (repeat rw [if_neg (by omega)])) | (subst hT; exact keepsH (fun _ _ h => h) fun _ _ => rfl)) (nw_eq ?_)
    rfl
  | ([n], true) =>
    rw [hN] at tn
    rw [show singL l k = (n, true) by rw [singL, hN]]
    refine fn_H ([Go.ResultVar.tmp 4, Go.ResultVar.tmp 5]) Tryz.func41 rfl rfl (by decide) fun ph hW Q hQ => ?_
    simp only [start, List.length_cons, List.length_nil, List.cons_append, List.nil_append, Nat.reduceAdd, Nat.reduceSub, List.replicate_succ, List.replicate_zero, Tryz.ntmps41]
    repeat' first | simp -implicitDefEqProofs (maxSteps := 400000) (disch := first | with_reducible rfl | omega | (simp only [wkH] <;> omega) | decide) only [wkAll, wkL, popO, wantedP, Nat.reduceLeDiff, Int.reduceLE, Int.reduceLT, Int.reduceToNat, binP, unP, lenP, builtinP, indexAddrOp, loadOp, loadP, PK.agg, seg, wkN, if_pos, if_neg, tf3, tf22, intsC] | refine w_pure (tn) ?_ | refine w_dec (fun _ => ?_) (fun _ => ?_) | refine w_eqc (fun _ => ?_) (fun _ => ?_) | refine w_neqc (fun _ => ?_) (fun _ => ?_) | refine w_nneqc (fun _ => ?_) (fun _ => ?_) | ((first | refine w_split (fun h => ?_) (fun h => ?_) | refine d_split (fun h => ?_) (fun h => ?_) | refine w_csplit (fun h => ?_) (fun h => ?_)) <;> (try simp only [wkS] at h) <;> (have h2 := h) <;> (try simp only [wkT, ne_eq] at h2) <;> (try simp only [h]))
    refine hQ (by first | exact .inr rfl | exact .inl rfl) (by first | exact trivial | exact marks1) (by first | (simp -implicitDefEqProofs (maxSteps := 400000) (disch := first | with_reducible rfl | omega | (simp only [wkH] <;> omega) | decide) only [wkL, resP, resPs, resP1]; rfl) | rfl) ⟨6, by repeat' first | exact frz_scalar rfl | apply frz_tuple | apply frz_agg | apply frz_fsl | apply frz_gsl (by omega) | exact frzs_nil | apply frzs_cons⟩ (by first | exact keepsH0 | exact keeps1 (by assumption) | exact keepsH (fun _ _ h => h) (fun p hp => by simp only [upF]; (repeat rw [if_neg (by omega)])) | exact keeps1t (by assumption) (fun p hp => by simp only [upF]; (repeat rw [if_neg (by omega)])) | (subst hT; exact keepsH (fun _ _ h => h) fun _ _ => rfl)) (nw_eq ?_)
    rfl
  | (n :: m :: t, true) =>
    rw [hN] at tn
    rw [show singL l k = (0, false) by rw [singL, hN]]
    obtain ⟨F, hF⟩ : ∃ F, F = n :: m :: t := ⟨_, rfl⟩
    rw [← hF] at tn
    have hl2 : 2 ≤ F.length := by rw [hF]; simp
    have hn : ((F.length : Int) != 1) = true := by rw [bne_iff_ne]; omega
    clear hN hF
    refine fn_H ([Go.ResultVar.tmp 4, Go.ResultVar.tmp 5]) Tryz.func41 rfl rfl (by decide) fun ph hW Q hQ => ?_
    simp only [start, List.length_cons, List.length_nil, List.cons_append, List.nil_append, Nat.reduceAdd, Nat.reduceSub, List.replicate_succ, List.replicate_zero, Tryz.ntmps41]
    repeat' first | simp -implicitDefEqProofs (maxSteps := 400000) (disch := first | with_reducible rfl | omega | (simp only [wkH] <;> omega) | decide) only [wkAll, wkL, popO, wantedP, binP, unP, lenP, builtinP, if_pos, if_neg, tf22, hn] | refine w_pure (tn) ?_ | refine w_dec (fun _ => ?_) (fun _ => ?_) | refine w_eqc (fun _ => ?_) (fun _ => ?_) | refine w_neqc (fun _ => ?_) (fun _ => ?_) | refine w_nneqc (fun _ => ?_) (fun _ => ?_) | ((first | refine w_split (fun h => ?_) (fun h => ?_) | refine d_split (fun h => ?_) (fun h => ?_) | refine w_csplit (fun h => ?_) (fun h => ?_)) <;> (try simp only [wkS] at h) <;> (have h2 := h) <;> (try simp only [wkT, ne_eq] at h2) <;> (try simp only [h]))
    refine hQ (by first | exact .inr rfl | exact .inl rfl) (by first | exact trivial | exact marks1) (by first | (simp -implicitDefEqProofs (maxSteps := 400000) (disch := first | with_reducible rfl | omega | (simp only [wkH] <;> omega) | decide) only [wkL, resP, resPs, resP1]; rfl) | rfl) ⟨6, by repeat' first | exact frz_scalar rfl | apply frz_tuple | apply frz_agg | apply frz_fsl | apply frz_gsl (by omega) | exact frzs_nil | apply frzs_cons⟩ (by first | exact keepsH0 | exact keeps1 (by assumption) | exact keepsH (fun _ _ h => h) (fun p hp => by simp only [upF]; (repeat rw [if_neg (by omega)])) | exact keeps1t (by assumption) (fun p hp => by simp only [upF]; (repeat rw [if_neg (by omega)])) | (subst hT; exact keepsH (fun _ _ h => h) fun _ _ => rfl)) (nw_eq ?_)
    rfl
theorem must_ok (k : Int) (l : List Int) (hl : l.length < 2 ^ 40) (hb : ∀ n ∈ l, -9223372036854775808 ≤ n ∧ n ≤ 9223372036854775807) : Fn (Cx w0) 23 [.int .i64 k, .fsl 1 l.length (intsC l)] (.agg (krC ⟨true, k, l.flatMap twoL⟩)) := by
  refine fn_H ([Go.ResultVar.cell 4 46]) Tryz.func23 rfl rfl (by decide) fun ph hW Q hQ => ?_
  simp only [start, List.length_cons, List.length_nil, List.cons_append, List.nil_append, Nat.reduceAdd, Nat.reduceSub, List.replicate_succ, List.replicate_zero, Tryz.ntmps23]
  repeat' first | simp -implicitDefEqProofs (maxSteps := 400000) (disch := first | with_reducible rfl | omega | (simp only [wkH] <;> omega) | decide) only [wkAll, wkL, popO, wantedP, lenP, builtinP, if_pos, if_neg, tf22, tf46, Tryz.ze46, tf96, Tryz.ze96] | refine w_dec (fun _ => ?_) (fun _ => ?_) | refine w_eqc (fun _ => ?_) (fun _ => ?_) | refine w_neqc (fun _ => ?_) (fun _ => ?_) | refine w_nneqc (fun _ => ?_) (fun _ => ?_) | ((first | refine w_split (fun h => ?_) (fun h => ?_) | refine d_split (fun h => ?_) (fun h => ?_) | refine w_csplit (fun h => ?_) (fun h => ?_)) <;> (try simp only [wkS] at h) <;> (have h2 := h) <;> (try simp only [wkT, ne_eq] at h2) <;> (try simp only [h]))
  refine w_growL0 1 5 [some (.own [.bool false, .int .i64 0, .str []]), some (.own (bldC false (ph.n + 1) (ph.n + 2) []))] (by simp) (by simp [NilB, NilL, bldC, adP, bytesPV]) ?_
  refine w_loopH (α := Nat × Bool) ph ph.ob _ (fun a => [.int .i64 k, .undef, .undef, .undef, .ptr ph.n 0, .ptr (ph.n + 1) 0, .undef, .undef, .fsl 1 l.length (intsC l), .int .i64 l.length, .int .i64 a.1, .undef, .undef, .undef, .undef, .undef, .undef, .undef, .undef, .undef, .undef]) (fun a => [some (.own [.bool false, .int .i64 0, .str []]), some (.own (bldC a.2 (ph.n + 1) (ph.n + 2) ((l.take a.1).flatMap twoL))), some (.grow 1 ((l.take a.1).flatMap twoL).length 5)]) (fun a => a.1 ≤ l.length) (fun a => l.length - a.1) (0, false) (by simp) (fun _ _ => by simp) (.eq (by simp [FadeTo]) rfl) ?_
  rintro ⟨i, w⟩ hi K hK
  simp only at hi ⊢
  have hlen2 : ((l.take i).flatMap twoL).length = i * 2 := by rw [twoLs_len, List.length_take]; omega
  rcases Nat.lt_or_ge i l.length with h | h
  · obtain ⟨n, hn⟩ := get_some h
    have hd := intsC_drop l i n hn
    have hlt : (i : Int) < l.length := by omega
    have ht := take_snoc hn
    repeat' first | simp -implicitDefEqProofs (maxSteps := 400000) (disch := first | with_reducible rfl | omega | (simp only [wkH] <;> omega) | decide) only [wkAll, wkL, popO, wantedP, Nat.reduceLeDiff, binP, indexAddrOp, loadOp, loadP, PK.agg, seg, if_pos, if_neg, tf3, tf22, hd, hlt] | refine w_dec (fun _ => ?_) (fun _ => ?_) | refine w_eqc (fun _ => ?_) (fun _ => ?_) | refine w_neqc (fun _ => ?_) (fun _ => ?_) | refine w_nneqc (fun _ => ?_) (fun _ => ?_) | ((first | refine w_split (fun h => ?_) (fun h => ?_) | refine d_split (fun h => ?_) (fun h => ?_) | refine w_csplit (fun h => ?_) (fun h => ?_)) <;> (try simp only [wkS] at h) <;> (have h2 := h) <;> (try simp only [wkT, ne_eq] at h2) <;> (try simp only [h]))
    refine w_pure (negoTwo_ok n (hb n (List.mem_of_getElem? hn))) ?_
    repeat' first | simp -implicitDefEqProofs (maxSteps := 400000) (disch := first | with_reducible rfl | omega | (simp only [wkH] <;> omega) | decide) only [wkAll, wkL, wantedP] | refine w_dec (fun _ => ?_) (fun _ => ?_) | refine w_eqc (fun _ => ?_) (fun _ => ?_) | refine w_neqc (fun _ => ?_) (fun _ => ?_) | refine w_nneqc (fun _ => ?_) (fun _ => ?_) | ((first | refine w_split (fun h => ?_) (fun h => ?_) | refine d_split (fun h => ?_) (fun h => ?_) | refine w_csplit (fun h => ?_) (fun h => ?_)) <;> (try simp only [wkS] at h) <;> (have h2 := h) <;> (try simp only [wkT, ne_eq] at h2) <;> (try simp only [h]))
    refine w_eff (bldW_ok _ _ (ph.n + 2) w ((l.take i).flatMap twoL) _ (by rw [h_get]; rfl) (by rw [h_gro]; rfl) (by rw [h_ty, up_same]) (by rw [hlen2, twoL_len]; omega)) ?_
    repeat' first | simp -implicitDefEqProofs (maxSteps := 400000) (disch := first | with_reducible rfl | omega | (simp only [wkH] <;> omega) | decide) only [wkAll, wkL, popO, wantedP, binP, wkN, if_pos] | refine w_dec (fun _ => ?_) (fun _ => ?_) | refine w_eqc (fun _ => ?_) (fun _ => ?_) | refine w_neqc (fun _ => ?_) (fun _ => ?_) | refine w_nneqc (fun _ => ?_) (fun _ => ?_) | ((first | refine w_split (fun h => ?_) (fun h => ?_) | refine d_split (fun h => ?_) (fun h => ?_) | refine w_csplit (fun h => ?_) (fun h => ?_)) <;> (try simp only [wkS] at h) <;> (have h2 := h) <;> (try simp only [wkT, ne_eq] at h2) <;> (try simp only [h]))
    refine hK (i + 1, true) _ _ (by show i + 1 ≤ _; omega) (by show l.length - (i + 1) < l.length - i; omega) (.eq ?_ ?_)
    · simp [FadeTo]
    · simp only [ht, List.flatMap_append, List.flatMap_cons, List.flatMap_nil, List.append_nil, List.length_append]
  · have hge : ¬ (i : Int) < l.length := by omega
    have hte : l.take i = l := List.take_of_length_le h
    rw [hte] at hlen2 ⊢
    repeat' first | simp -implicitDefEqProofs (maxSteps := 400000) (disch := first | with_reducible rfl | omega | (simp only [wkH] <;> omega) | decide) only [wkAll, wkL, popO, wantedP, binP, if_pos, hge] | refine w_dec (fun _ => ?_) (fun _ => ?_) | refine w_eqc (fun _ => ?_) (fun _ => ?_) | refine w_neqc (fun _ => ?_) (fun _ => ?_) | refine w_nneqc (fun _ => ?_) (fun _ => ?_) | ((first | refine w_split (fun h => ?_) (fun h => ?_) | refine d_split (fun h => ?_) (fun h => ?_) | refine w_csplit (fun h => ?_) (fun h => ?_)) <;> (try simp only [wkS] at h) <;> (have h2 := h) <;> (try simp only [wkT, ne_eq] at h2) <;> (try simp only [h]))
    refine w_eff (bldS_ok _ _ (ph.n + 2) w (l.flatMap twoL) (by rw [h_get]; rfl) (by rw [h_gro]; rfl) (by rw [hlen2]; omega)) ?_
    repeat' first | simp -implicitDefEqProofs (maxSteps := 400000) (disch := first | with_reducible rfl | omega | (simp only [wkH] <;> omega) | decide) only [wkAll, wkL, popO, wantedP, ne_eq, Nat.reduceAdd, Nat.reduceLeDiff, Nat.reduceLT, storeOp, buildP, placeF, fillP, setL, gt_iff_lt, if_pos, if_neg, tf46, Tryz.ze46] | refine w_dec (fun _ => ?_) (fun _ => ?_) | refine w_eqc (fun _ => ?_) (fun _ => ?_) | refine w_neqc (fun _ => ?_) (fun _ => ?_) | refine w_nneqc (fun _ => ?_) (fun _ => ?_) | ((first | refine w_split (fun h => ?_) (fun h => ?_) | refine d_split (fun h => ?_) (fun h => ?_) | refine w_csplit (fun h => ?_) (fun h => ?_)) <;> (try simp only [wkS] at h) <;> (have h2 := h) <;> (try simp only [wkT, ne_eq] at h2) <;> (try simp only [h]))
    refine hQ (by first | exact .inr rfl | exact .inl rfl) (by first | exact trivial | exact marks1) (by first | (simp -implicitDefEqProofs (maxSteps := 400000) (disch := first | with_reducible rfl | omega | (simp only [wkH] <;> omega) | decide) only [wkAll, wkL, Nat.reduceAdd, Nat.reduceLeDiff, loadOp, loadP, PK.agg, seg, if_pos, tf46, resP, resPs, resP1]; rfl) | rfl) ⟨6, by repeat' first | exact frz_scalar rfl | apply frz_tuple | apply frz_agg | apply frz_fsl | apply frz_gsl (by omega) | exact frzs_nil | apply frzs_cons⟩ (by first | exact keepsH0 | exact keeps1 (by assumption) | exact keepsH (fun _ _ h => h) (fun p hp => by simp only [upF]; (repeat rw [if_neg (by omega)])) | exact keeps1t (by assumption) (fun p hp => by simp only [upF]; (repeat rw [if_neg (by omega)])) | (subst hT; exact keepsH (fun _ _ h => h) fun _ _ => rfl)) (nw_eq ?_)
    rfl
/-- A check, called. -/
theorem soV_ok (ph : PH) (p q : Nat) (b : Bool) (e : Int) (h1 : ph.get p = some [.bool b]) (h2 : ph.get q = some [.int .i64 e]) : Eff (Cx w0) 56 [.ptr p 0, .ptr q 0] ph (.int .i64 (if b then 0 else e)) ph := by
  have hp := PH.get_lt h1
  have hq := PH.get_lt h2
  refine eff_of ([Go.ResultVar.tmp 2]) Tryz.func56 rfl rfl (by decide) rfl (fun h => h) fun hW Q hQ => ?_
  simp only [start, List.length_cons, List.length_nil, List.cons_append, List.nil_append, Nat.reduceAdd, Nat.reduceSub, List.replicate_succ, List.replicate_zero, Tryz.ntmps56]
  cases b with
  | true =>
    repeat' first | simp -implicitDefEqProofs (maxSteps := 400000) (disch := first | with_reducible rfl | omega | (simp only [wkH] <;> omega) | decide) only [wkAll, wkL, popO, wantedP, Nat.reduceLeDiff, loadOp, loadP, PK.agg, seg, if_pos, if_neg, tf4, h_getlt hp, h1] | refine w_dec (fun _ => ?_) (fun _ => ?_) | refine w_eqc (fun _ => ?_) (fun _ => ?_) | refine w_neqc (fun _ => ?_) (fun _ => ?_) | refine w_nneqc (fun _ => ?_) (fun _ => ?_) | ((first | refine w_split (fun h => ?_) (fun h => ?_) | refine d_split (fun h => ?_) (fun h => ?_) | refine w_csplit (fun h => ?_) (fun h => ?_)) <;> (try simp only [wkS] at h) <;> (have h2 := h) <;> (try simp only [wkT, ne_eq] at h2) <;> (try simp only [h]))
    refine hQ (by first | exact .inr rfl | exact .inl rfl) (by first | exact trivial | exact marks1) (by first | (simp -implicitDefEqProofs (maxSteps := 400000) (disch := first | with_reducible rfl | omega | (simp only [wkH] <;> omega) | decide) only [wkL, resP, resPs, resP1]; rfl) | rfl) ⟨6, by repeat' first | exact frz_scalar rfl | apply frz_tuple | apply frz_agg | apply frz_fsl | apply frz_gsl (by omega) | exact frzs_nil | apply frzs_cons⟩ (by first | exact keepsH0 | exact keeps1 (by assumption) | exact keepsH (fun _ _ h => h) (fun p hp => by simp only [upF]; (repeat rw [if_neg (by omega)])) | exact keeps1t (by assumption) (fun p hp => by simp only [upF]; (repeat rw [if_neg (by omega)])) | (subst hT; exact keepsH (fun _ _ h => h) fun _ _ => rfl)) (nw_eq ?_)
    rfl
  | false =>
    repeat' first | simp -implicitDefEqProofs (maxSteps := 400000) (disch := first | with_reducible rfl | omega | (simp only [wkH] <;> omega) | decide) only [wkAll, wkL, popO, wantedP, Nat.reduceLeDiff, loadOp, loadP, PK.agg, seg, if_pos, if_neg, tf4, tf29, h_getlt hp, h1, h_getlt hq, h2] | refine w_dec (fun _ => ?_) (fun _ => ?_) | refine w_eqc (fun _ => ?_) (fun _ => ?_) | refine w_neqc (fun _ => ?_) (fun _ => ?_) | refine w_nneqc (fun _ => ?_) (fun _ => ?_) | ((first | refine w_split (fun h => ?_) (fun h => ?_) | refine d_split (fun h => ?_) (fun h => ?_) | refine w_csplit (fun h => ?_) (fun h => ?_)) <;> (try simp only [wkS] at h) <;> (have h2 := h) <;> (try simp only [wkT, ne_eq] at h2) <;> (try simp only [h]))
    refine hQ (by first | exact .inr rfl | exact .inl rfl) (by first | exact trivial | exact marks1) (by first | (simp -implicitDefEqProofs (maxSteps := 400000) (disch := first | with_reducible rfl | omega | (simp only [wkH] <;> omega) | decide) only [wkL, resP, resPs, resP1]; rfl) | rfl) ⟨6, by repeat' first | exact frz_scalar rfl | apply frz_tuple | apply frz_agg | apply frz_fsl | apply frz_gsl (by omega) | exact frzs_nil | apply frzs_cons⟩ (by first | exact keepsH0 | exact keeps1 (by assumption) | exact keepsH (fun _ _ h => h) (fun p hp => by simp only [upF]; (repeat rw [if_neg (by omega)])) | exact keeps1t (by assumption) (fun p hp => by simp only [upF]; (repeat rw [if_neg (by omega)])) | (subst hT; exact keepsH (fun _ _ h => h) fun _ _ => rfl)) (nw_eq ?_)
    rfl
end Pv

namespace Pv
open Go Go.RowKit

/-! ### Words of 32 bits -/
def w32 (x : UInt32) : PV := .int .u32 (x.toNat : Int)
def wC (l : List UInt32) : List PV := l.map w32

theorem wrap_u32 (n : Nat) : IntKind.wrap .u32 (n : Int) = ((n % 4294967296 : Nat) : Int) := by
  simp [IntKind.wrap, IntKind.bits, IntKind.signed]
theorem add32 (x y : UInt32) : IntKind.wrap .u32 ((x.toNat : Int) + (y.toNat : Int)) = ((x + y).toNat : Int) := by
  have : (x.toNat : Int) + (y.toNat : Int) = ((x.toNat + y.toNat : Nat) : Int) := by omega
  rw [this, wrap_u32, UInt32.toNat_add]
theorem wrap32 (x : UInt32) : IntKind.wrap .u32 (x.toNat : Int) = x.toNat := by
  rw [wrap_u32, Nat.mod_eq_of_lt x.toNat_lt]
theorem xor32 (a b : UInt32) : bitsP .xor .u32 a.toNat b.toNat = ((a ^^^ b).toNat : Int) := by
  show IntKind.wrap .u32 (((BitVec.ofInt 32 (a.toNat : Int)) ^^^ (BitVec.ofInt 32 (b.toNat : Int))).toNat : Int) = _
  rw [ofInt_nat, ofInt_nat, BitVec.toNat_xor, BitVec.toNat_ofNat, BitVec.toNat_ofNat, Nat.mod_eq_of_lt a.toNat_lt, Nat.mod_eq_of_lt b.toNat_lt, ← UInt32.toNat_xor]
  exact wrap32 _
theorem and32 (a b : UInt32) : bitsP .and .u32 a.toNat b.toNat = ((a &&& b).toNat : Int) := by
  show IntKind.wrap .u32 (((BitVec.ofInt 32 (a.toNat : Int)) &&& (BitVec.ofInt 32 (b.toNat : Int))).toNat : Int) = _
  rw [ofInt_nat, ofInt_nat, BitVec.toNat_and, BitVec.toNat_ofNat, BitVec.toNat_ofNat, Nat.mod_eq_of_lt a.toNat_lt, Nat.mod_eq_of_lt b.toNat_lt, ← UInt32.toNat_and]
  exact wrap32 _
theorem or32 (a b : UInt32) : bitsP .or .u32 a.toNat b.toNat = ((a ||| b).toNat : Int) := by
  show IntKind.wrap .u32 (((BitVec.ofInt 32 (a.toNat : Int)) ||| (BitVec.ofInt 32 (b.toNat : Int))).toNat : Int) = _
  rw [ofInt_nat, ofInt_nat, BitVec.toNat_or, BitVec.toNat_ofNat, BitVec.toNat_ofNat, Nat.mod_eq_of_lt a.toNat_lt, Nat.mod_eq_of_lt b.toNat_lt, ← UInt32.toNat_or]
  exact wrap32 _
theorem shl32 (x : UInt32) (m : Nat) (h : m < 32) : shlP .u32 (x.toNat : Int) (m : Int) = ((x <<< UInt32.ofNat m).toNat : Int) := by
  have e : min ((m : Int)).toNat (IntKind.bits .u32) = m := by simp [IntKind.bits]; omega
  have e2 : (UInt32.ofNat m).toNat = m := by simp; omega
  simp only [shlP]
  rw [e, UInt32.toNat_shiftLeft, e2, Nat.mod_eq_of_lt h, Nat.shiftLeft_eq]
  have : (x.toNat : Int) * 2 ^ m = ((x.toNat * 2 ^ m : Nat) : Int) := by simp
  rw [this, wrap_u32]
theorem shr32 (x : UInt32) (m : Nat) (h : m < 32) : shrP .u32 (x.toNat : Int) (m : Int) = ((x >>> UInt32.ofNat m).toNat : Int) := by
  have e : min ((m : Int)).toNat (IntKind.bits .u32) = m := by simp [IntKind.bits]; omega
  have e2 : (UInt32.ofNat m).toNat = m := by simp; omega
  simp only [shrP]
  rw [e, UInt32.toNat_shiftRight, e2, Nat.mod_eq_of_lt h, Nat.shiftRight_eq_div_pow]
  have e3 : (2 : Int) ^ m = ((2 ^ m : Nat) : Int) := by simp
  rw [e3, Int.fdiv_eq_ediv_of_nonneg _ (Int.natCast_nonneg _)]; rfl
theorem shl32_8 (x : UInt32) : shlP .u32 (x.toNat : Int) 8 = ((x <<< 8).toNat : Int) := shl32 x 8 (by decide)
theorem shl32_16 (x : UInt32) : shlP .u32 (x.toNat : Int) 16 = ((x <<< 16).toNat : Int) := shl32 x 16 (by decide)
theorem shl32_24 (x : UInt32) : shlP .u32 (x.toNat : Int) 24 = ((x <<< 24).toNat : Int) := shl32 x 24 (by decide)
theorem shr32_3 (x : UInt32) : shrP .u32 (x.toNat : Int) 3 = ((x >>> 3).toNat : Int) := shr32 x 3 (by decide)
theorem shr32_8 (x : UInt32) : shrP .u32 (x.toNat : Int) 8 = ((x >>> 8).toNat : Int) := shr32 x 8 (by decide)
theorem shr32_10 (x : UInt32) : shrP .u32 (x.toNat : Int) 10 = ((x >>> 10).toNat : Int) := shr32 x 10 (by decide)
theorem shr32_16 (x : UInt32) : shrP .u32 (x.toNat : Int) 16 = ((x >>> 16).toNat : Int) := shr32 x 16 (by decide)
theorem shr32_24 (x : UInt32) : shrP .u32 (x.toNat : Int) 24 = ((x >>> 24).toNat : Int) := shr32 x 24 (by decide)
/-- A byte, as a word. -/
theorem b32 (b : UInt8) : (b.toUInt32.toNat : Int) = (b.toNat : Int) := by simp
theorem low32 (x : UInt32) : IntKind.wrap .u8 (x.toNat : Int) = (x.toUInt8.toNat : Int) := by
  have : IntKind.wrap .u8 ((x.toNat : Nat) : Int) = ((x.toNat % 256 : Nat) : Int) := by simp [IntKind.wrap, IntKind.bits, IntKind.signed]
  rw [this]; simp

def rotr (x : UInt32) (n : Nat) : UInt32 := (x >>> UInt32.ofNat n) ||| (x <<< UInt32.ofNat (32 - n))

theorem wC_get (l : List UInt32) (i : Nat) : (wC l)[i]? = (l[i]?).map w32 := by simp [wC]
theorem wC_len (l : List UInt32) : (wC l).length = l.length := by simp [wC]
theorem wC_set (l : List UInt32) (i : Nat) (x : UInt32) : (wC l).set i (.int .u32 (x.toNat : Int)) = wC (l.set i x) := by simp [wC, List.map_set, w32]
theorem wC_ok (l : List UInt32) : (wC l).all cellOk = true := by simp [wC, w32, cellOk]
theorem wC_scalar (l : List UInt32) : (wC l).all scalarV = true := by simp [wC, w32, scalarV]
theorem scs_w {n : Nat} {l : List UInt32} : Scs n (wC l) = True := eq_true (scs_scalars (wC_scalar l))
theorem wC_zero (n : Nat) : List.replicate n (PV.int .u32 0) = wC (List.replicate n 0) := by simp [wC, w32]
end Pv

namespace Pv
open Go

/-! ### Chapter 6: SHA-256 -/
def shaK : List UInt32 := [0x428a2f98, 0x71374491, 0xb5c0fbcf, 0xe9b5dba5, 0x3956c25b, 0x59f111f1, 0x923f82a4, 0xab1c5ed5, 0xd807aa98, 0x12835b01, 0x243185be, 0x550c7dc3, 0x72be5d74, 0x80deb1fe, 0x9bdc06a7, 0xc19bf174, 0xe49b69c1, 0xefbe4786, 0x0fc19dc6, 0x240ca1cc, 0x2de92c6f, 0x4a7484aa, 0x5cb0a9dc, 0x76f988da, 0x983e5152, 0xa831c66d, 0xb00327c8, 0xbf597fc7, 0xc6e00bf3, 0xd5a79147, 0x06ca6351, 0x14292967, 0x27b70a85, 0x2e1b2138, 0x4d2c6dfc, 0x53380d13, 0x650a7354, 0x766a0abb, 0x81c2c92e, 0x92722c85, 0xa2bfe8a1, 0xa81a664b, 0xc24b8b70, 0xc76c51a3, 0xd192e819, 0xd6990624, 0xf40e3585, 0x106aa070, 0x19a4c116, 0x1e376c08, 0x2748774c, 0x34b0bcb5, 0x391c0cb3, 0x4ed8aa4a, 0x5b9cca4f, 0x682e6ff3, 0x748f82ee, 0x78a5636f, 0x84c87814, 0x8cc70208, 0x90befffa, 0xa4506ceb, 0xbef9a3f7, 0xc67178f2]
def shaH0 : List UInt32 := [0x6a09e667, 0xbb67ae85, 0x3c6ef372, 0xa54ff53a, 0x510e527f, 0x9b05688c, 0x1f83d9ab, 0x5be0cd19]

/-- Big-endian words of a text's bytes: n bytes from i on. -/
def beW (s : List UInt8) (i : Nat) : Nat → UInt32
  | 0 => 0
  | n + 1 => (beW s i n <<< 8) ||| (s.getD (i + n) 0).toUInt32
def sig0 (a : UInt32) : UInt32 := rotr a 7 ^^^ rotr a 18 ^^^ (a >>> 3)
def sig1 (b : UInt32) : UInt32 := rotr b 17 ^^^ rotr b 19 ^^^ (b >>> 10)
def nextW (s : List UInt8) (w : List UInt32) : UInt32 :=
  if w.length < 16 then beW s (4 * w.length) 4
  else w.getD (w.length - 16) 0 + w.getD (w.length - 7) 0 + sig0 (w.getD (w.length - 15) 0) + sig1 (w.getD (w.length - 2) 0)
def schedL (s : List UInt8) : Nat → List UInt32
  | 0 => []
  | i + 1 => schedL s i ++ [nextW s (schedL s i)]
theorem schedL_len (s : List UInt8) : ∀ i, (schedL s i).length = i
  | 0 => rfl
  | i + 1 => by simp [schedL, schedL_len s i]

/-- One round; k and w: the round's words. -/
def roundL (h : List UInt32) (k w : UInt32) : List UInt32 :=
  let a := h.getD 0 0; let b := h.getD 1 0; let c := h.getD 2 0; let e := h.getD 4 0; let f := h.getD 5 0; let g := h.getD 6 0
  let t := h.getD 7 0 + (rotr e 6 ^^^ rotr e 11 ^^^ rotr e 25) + ((e &&& f) ^^^ (~~~ e &&& g)) + k + w
  let u := (rotr a 2 ^^^ rotr a 13 ^^^ rotr a 22) + ((a &&& b) ^^^ (a &&& c) ^^^ (b &&& c))
  [t + u, a, b, c, h.getD 3 0 + t, e, f, g]
def roundsL (h : List UInt32) (s : List UInt8) : Nat → List UInt32
  | 0 => h
  | i + 1 => roundL (roundsL h s i) (shaK.getD i 0) ((schedL s 64).getD i 0)
theorem roundsL_len {h : List UInt32} (hl : h.length = 8) (s : List UInt8) : ∀ i, (roundsL h s i).length = 8
  | 0 => hl
  | i + 1 => rfl
/-- What a block makes of eight words. -/
def blockW (h : List UInt32) (s : List UInt8) : List UInt32 := List.zipWith (· + ·) (roundsL h s 64) h
def blockL (h : List UInt32) (s : List UInt8) : List UInt32 × Int := if s.length = 64 then (blockW h s, 0) else (List.replicate 8 0, 10)
theorem blockW_len {h : List UInt32} (hl : h.length = 8) (s : List UInt8) : (blockW h s).length = 8 := by simp [blockW, roundsL_len hl, hl]

theorem ch_eq (e f g : UInt32) : g ^^^ (e &&& (f ^^^ g)) = (e &&& f) ^^^ (~~~ e &&& g) := by
  apply UInt32.toBitVec_inj.1
  simp only [UInt32.toBitVec_xor, UInt32.toBitVec_and, UInt32.toBitVec_not]
  apply BitVec.eq_of_getLsbD_eq
  intro i hi
  simp only [BitVec.getLsbD_xor, BitVec.getLsbD_and, BitVec.getLsbD_not, hi, decide_true, Bool.true_and]
  cases e.toBitVec.getLsbD i <;> cases f.toBitVec.getLsbD i <;> cases g.toBitVec.getLsbD i <;> rfl
theorem maj_eq (a b c : UInt32) : (a &&& b) ||| (c &&& (a ||| b)) = (a &&& b) ^^^ (a &&& c) ^^^ (b &&& c) := by
  apply UInt32.toBitVec_inj.1
  simp only [UInt32.toBitVec_xor, UInt32.toBitVec_and, UInt32.toBitVec_or]
  apply BitVec.eq_of_getLsbD_eq
  intro i hi
  simp only [BitVec.getLsbD_xor, BitVec.getLsbD_and, BitVec.getLsbD_or]
  cases a.toBitVec.getLsbD i <;> cases b.toBitVec.getLsbD i <;> cases c.toBitVec.getLsbD i <;> rfl

/-- A list of eight. -/
theorem eight {α : Type} {l : List α} (h : l.length = 8) : ∃ a b c d e f g i, l = [a, b, c, d, e, f, g, i] := by
  match l, h with
  | [a, b, c, d, e, f, g, i], _ => exact ⟨a, b, c, d, e, f, g, i, rfl⟩
end Pv

namespace Pv
set_option maxRecDepth 20000
set_option maxHeartbeats 4000000
open Go Go.Proofs Go.RowKit
variable {w0 : World}

theorem and31 (n : Nat) (h0 : 0 < n) (h : n < 32) : bitsP .and .u64 (IntKind.wrap .u64 (0 - (n : Int))) 31 = ((32 - n : Nat) : Int) := by
  have : ∀ n : Fin 32, 0 < n.val → bitsP .and .u64 (IntKind.wrap .u64 (0 - (n.val : Int))) 31 = ((32 - n.val : Nat) : Int) := by decide
  exact this ⟨n, h⟩ h0

theorem rotl_ok (x : UInt32) (n : Nat) (h0 : 0 < n) (h : n < 32) : Fn (Cx w0) 117 [.int .u32 x.toNat, .int .i64 (0 - (n : Int))] (.int .u32 (rotr x n).toNat) := by
  have e1 := and31 n h0 h
  have e2 := shl32 x (32 - n) (by omega)
  have e3 := shr32 x n h
  have e4 : ((32 : Int) - ((32 - n : Nat) : Int)) = (n : Int) := by omega
  refine fn_H ([Go.ResultVar.tmp 4]) Tryz.func117 rfl rfl (by decide) fun ph hW Q hQ => ?_
  simp only [start, List.length_cons, List.length_nil, List.cons_append, List.nil_append, Nat.reduceAdd, Nat.reduceSub, List.replicate_succ, List.replicate_zero, Tryz.ntmps117]
  repeat' first | simp -implicitDefEqProofs (maxSteps := 400000) (disch := first | with_reducible rfl | omega | (simp only [wkH] <;> omega) | decide) only [wkAll, wkL, popO, wantedP, binP, convP, wkN, if_pos, tf3, tf105, e1, e2, e3, e4, or32] | refine w_dec (fun _ => ?_) (fun _ => ?_) | refine w_eqc (fun _ => ?_) (fun _ => ?_) | refine w_neqc (fun _ => ?_) (fun _ => ?_) | refine w_nneqc (fun _ => ?_) (fun _ => ?_) | ((first | refine w_split (fun h => ?_) (fun h => ?_) | refine d_split (fun h => ?_) (fun h => ?_) | refine w_csplit (fun h => ?_) (fun h => ?_)) <;> (try simp only [wkS] at h) <;> (have h2 := h) <;> (try simp only [wkT, ne_eq] at h2) <;> (try simp only [h]))
  refine hQ (by first | exact .inr rfl | exact .inl rfl) (by first | exact trivial | exact marks1) (by first | (simp -implicitDefEqProofs (maxSteps := 400000) (disch := first | with_reducible rfl | omega | (simp only [wkH] <;> omega) | decide) only [wkL, resP, resPs, resP1]; rfl) | rfl) ⟨6, by repeat' first | exact frz_scalar rfl | apply frz_tuple | apply frz_agg | apply frz_fsl | apply frz_gsl (by omega) | exact frzs_nil | apply frzs_cons⟩ (by first | exact keepsH0 | exact keeps1 (by assumption) | exact keepsH (fun _ _ h => h) (fun p hp => by simp only [upF]; (repeat rw [if_neg (by omega)])) | exact keeps1t (by assumption) (fun p hp => by simp only [upF]; (repeat rw [if_neg (by omega)])) | (subst hT; exact keepsH (fun _ _ h => h) fun _ _ => rfl)) (nw_eq ?_)
  rw [rotr, UInt32.or_comm]

theorem turn_ok (x : UInt32) (n : Nat) (h0 : 0 < n) (h : n < 32) : Fn (Cx w0) 109 [.int .u32 x.toNat, .int .i64 (n : Int)] (.int .u32 (rotr x n).toNat) := by
  refine fn_H ([Go.ResultVar.tmp 4]) Tryz.func109 rfl rfl (by decide) fun ph hW Q hQ => ?_
  simp only [start, List.length_cons, List.length_nil, List.cons_append, List.nil_append, Nat.reduceAdd, Nat.reduceSub, List.replicate_succ, List.replicate_zero, Tryz.ntmps109]
  repeat' first | simp -implicitDefEqProofs (maxSteps := 400000) (disch := first | with_reducible rfl | omega | (simp only [wkH] <;> omega) | decide) only [wkAll, wkL, popO, wantedP, unP, wkN] | refine w_pure (rotl_ok x n h0 h) ?_ | refine w_dec (fun _ => ?_) (fun _ => ?_) | refine w_eqc (fun _ => ?_) (fun _ => ?_) | refine w_neqc (fun _ => ?_) (fun _ => ?_) | refine w_nneqc (fun _ => ?_) (fun _ => ?_) | ((first | refine w_split (fun h => ?_) (fun h => ?_) | refine d_split (fun h => ?_) (fun h => ?_) | refine w_csplit (fun h => ?_) (fun h => ?_)) <;> (try simp only [wkS] at h) <;> (have h2 := h) <;> (try simp only [wkT, ne_eq] at h2) <;> (try simp only [h]))
  refine hQ (by first | exact .inr rfl | exact .inl rfl) (by first | exact trivial | exact marks1) (by first | (simp -implicitDefEqProofs (maxSteps := 400000) (disch := first | with_reducible rfl | omega | (simp only [wkH] <;> omega) | decide) only [wkL, resP, resPs, resP1]; rfl) | rfl) ⟨6, by repeat' first | exact frz_scalar rfl | apply frz_tuple | apply frz_agg | apply frz_fsl | apply frz_gsl (by omega) | exact frzs_nil | apply frzs_cons⟩ (by first | exact keepsH0 | exact keeps1 (by assumption) | exact keepsH (fun _ _ h => h) (fun p hp => by simp only [upF]; (repeat rw [if_neg (by omega)])) | exact keeps1t (by assumption) (fun p hp => by simp only [upF]; (repeat rw [if_neg (by omega)])) | (subst hT; exact keepsH (fun _ _ h => h) fun _ _ => rfl)) (nw_eq ?_)
  rfl

theorem refTurn_ok (x : UInt32) (n : Nat) (h0 : 0 < n) (h : n < 32) : Fn (Cx w0) 101 [.int .u32 x.toNat, .int .u64 (n : Int)] (.int .u32 (rotr x n).toNat) := by
  have e2 := shl32 x (32 - n) (by omega)
  have e3 := shr32 x n h
  have e4 : ((32 : Int) - (n : Int)) = ((32 - n : Nat) : Int) := by omega
  refine fn_H ([Go.ResultVar.tmp 4]) Tryz.func101 rfl rfl (by decide) fun ph hW Q hQ => ?_
  simp only [start, List.length_cons, List.length_nil, List.cons_append, List.nil_append, Nat.reduceAdd, Nat.reduceSub, List.replicate_succ, List.replicate_zero, Tryz.ntmps101]
  repeat' first | simp -implicitDefEqProofs (maxSteps := 400000) (disch := first | with_reducible rfl | omega | (simp only [wkH] <;> omega) | decide) only [wkAll, wkL, popO, wantedP, binP, wkN, if_pos, e2, e3, e4, or32] | refine w_dec (fun _ => ?_) (fun _ => ?_) | refine w_eqc (fun _ => ?_) (fun _ => ?_) | refine w_neqc (fun _ => ?_) (fun _ => ?_) | refine w_nneqc (fun _ => ?_) (fun _ => ?_) | ((first | refine w_split (fun h => ?_) (fun h => ?_) | refine d_split (fun h => ?_) (fun h => ?_) | refine w_csplit (fun h => ?_) (fun h => ?_)) <;> (try simp only [wkS] at h) <;> (have h2 := h) <;> (try simp only [wkT, ne_eq] at h2) <;> (try simp only [h]))
  refine hQ (by first | exact .inr rfl | exact .inl rfl) (by first | exact trivial | exact marks1) (by first | (simp -implicitDefEqProofs (maxSteps := 400000) (disch := first | with_reducible rfl | omega | (simp only [wkH] <;> omega) | decide) only [wkL, resP, resPs, resP1]; rfl) | rfl) ⟨6, by repeat' first | exact frz_scalar rfl | apply frz_tuple | apply frz_agg | apply frz_fsl | apply frz_gsl (by omega) | exact frzs_nil | apply frzs_cons⟩ (by first | exact keepsH0 | exact keeps1 (by assumption) | exact keepsH (fun _ _ h => h) (fun p hp => by simp only [upF]; (repeat rw [if_neg (by omega)])) | exact keeps1t (by assumption) (fun p hp => by simp only [upF]; (repeat rw [if_neg (by omega)])) | (subst hT; exact keepsH (fun _ _ h => h) fun _ _ => rfl)) (nw_eq ?_)
  rfl

theorem setL_all : ∀ (vs cells : List PV) (n : Nat), cells.length = vs.length + n → setL cells n vs = cells.take n ++ vs
  | [], cells, n, h => by simp [setL]; rw [List.take_of_length_le (by simp at h; omega)]
  | v :: vs, cells, n, h => by
    have hn : n < cells.length := by simp at h; omega
    rw [setL, setL_all vs _ (n + 1) (by simp at h ⊢; omega)]
    rw [List.take_set, List.take_succ_eq_append_getElem hn]
    rw [List.set_append_right _ _ (by simp; omega)]
    simp [Nat.min_eq_left (Nat.le_of_lt hn)]
theorem setL_whole {vs cells : List PV} (h : cells.length = vs.length) : setL cells 0 vs = vs := by rw [setL_all vs cells 0 (by omega)]; simp
theorem take_w {l : List UInt32} {n : Nat} (h : l.length = n) : (wC l).take n = wC l := List.take_of_length_le (by rw [wC_len]; omega)

theorem shaK_len : shaK.length = 64 := rfl
theorem opK_of {K : PV → PH → Prop} {e : Option (PV × PH)} (v : PV) (ph' : PH) (h : e = some (v, ph')) (k : K v ph') : opK K e := by subst h; exact k
theorem w_build {X : Ctx} {ops : Array Oper} {Q : Exit → PSt → PH → Prop} {os : List Oper} {s : PSt} {ph : PH} {d : Option Tmp} {ty t : TypeId} {p : String} {af : Array Edge} {parts : Array (Nat × Operand)} (v : PV)
  (hv : buildP X.P ty (parts.toList.map fun x => (x.1, s.ev x.2)) = some v) (k : vcL X ops Q os (s.put d v) ph) :
  vcG X ops Q os s ph { dst := d, op := .build ty parts, type := t, pos := p, after := af, guard := none } (some true) := by
  rw [w_true, w_op rfl]
  simp only [popO]
  rw [hv]
  exact k
theorem constants_ok : Fn (Cx w0) 107 [] (.agg (wC shaK)) := by
  refine fn_H ([Go.ResultVar.cell 0 161]) Tryz.func107 rfl rfl (by decide) fun ph hW Q hQ => ?_
  simp only [start, List.length_nil, List.nil_append, Nat.reduceSub, List.replicate_succ, List.replicate_zero, Tryz.ntmps107]
  simp only [w_seq, w_region, w_cons, w_noguard, w_true]
  rw [w_op rfl]
  obtain ⟨zs, hzs, hzl⟩ : ∃ l : List UInt32, List.replicate 64 0 = l ∧ l.length = 64 := ⟨_, rfl, List.length_replicate⟩
  refine opK_of (.ptr ph.n 0) (H ph [some (.own (wC zs))] ph.ob ph.ty) ?_ ?_
  · simp only [popO]
    rw [Tryz.ze161, wC_zero, hzs]
    rw [Option.map_some, Tryz.se161]
    simp only [pc_agg, h_push, h_n, if_false, Bool.false_eq_true, List.length_nil, Nat.add_zero, List.nil_append]
  simp only [w_snormal, w_next, w_put, List.set_cons_zero, w_nil, w_seq, w_region, w_cons]
  rw [w_noguard]
  obtain ⟨ks, hks, hkl⟩ : ∃ l : List UInt32, shaK = l ∧ l.length = 64 := ⟨_, rfl, rfl⟩
  refine w_build (.agg (wC ks)) ?_ ?_
  · subst hks
    kernel_rfl
  rw [hks] at hQ
  have e1 : (wC zs).length = 64 := by rw [wC_len, hzl]
  have e2 : (wC ks).length = 64 := by rw [wC_len, hkl]
  have e3 : setL (wC zs) 0 (wC ks) = wC ks := setL_whole (by rw [e1, e2])
  have e4 : (wC ks).take 64 = wC ks := take_w hkl
  clear hks
  simp only [w_put, List.set_cons_zero, List.set_cons_succ, w_cons]
  repeat' first | simp -implicitDefEqProofs (maxSteps := 400000) (disch := first | with_reducible rfl | omega | (simp only [wkH] <;> omega) | decide) only [wkAll, wkL, popO, wantedP, Nat.reduceLeDiff, storeOp, if_pos, tf161, e1, e2, e3, wC_ok] | refine w_dec (fun _ => ?_) (fun _ => ?_) | refine w_eqc (fun _ => ?_) (fun _ => ?_) | refine w_neqc (fun _ => ?_) (fun _ => ?_) | refine w_nneqc (fun _ => ?_) (fun _ => ?_) | ((first | refine w_split (fun h => ?_) (fun h => ?_) | refine d_split (fun h => ?_) (fun h => ?_) | refine w_csplit (fun h => ?_) (fun h => ?_)) <;> (try simp only [wkS] at h) <;> (have h2 := h) <;> (try simp only [wkT, ne_eq] at h2) <;> (try simp only [h]))
  refine hQ (by first | exact .inr rfl | exact .inl rfl) (by first | exact trivial | exact marks1) (by first | (simp -implicitDefEqProofs (maxSteps := 400000) (disch := first | with_reducible rfl | omega | (simp only [wkH] <;> omega) | decide) only [wkAll, wkL, Nat.reduceLeDiff, loadOp, loadP, PK.agg, seg, if_pos, tf161, resP, resPs, resP1, e2, e4]; rfl) | rfl) ⟨6, by repeat' first | exact frz_scalar rfl | apply frz_tuple | apply frz_agg | apply frz_fsl | apply frz_gsl (by omega) | exact frzs_nil | apply frzs_cons | exact frzs_scalars (wC_scalar _)⟩ (by first | exact keepsH0 | exact keeps1 (by assumption) | exact keepsH (fun _ _ h => h) (fun p hp => by simp only [upF]; (repeat rw [if_neg (by omega)])) | exact keeps1t (by assumption) (fun p hp => by simp only [upF]; (repeat rw [if_neg (by omega)])) | (subst hT; exact keepsH (fun _ _ h => h) fun _ _ => rfl)) (nw_eq ?_)
  rfl
end Pv
