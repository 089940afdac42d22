/- Part of the proof: the layer of pure values, or walks through functions (PvSha6, PvH2, PvSha7). -/
import Derived.Test.YtjomgffpkdcanaaGreatPvSha5
import Derived.Test.YtjomgffpkdcanaaGreatPvH
set_option linter.all false
namespace Pv
set_option maxRecDepth 20000
set_option maxHeartbeats 4000000
open Go Go.Proofs Go.RowKit
def tb81_4Sha6 : Tab := [[], [0], [], [2], [0, 1, 2, 3], [0, 1, 2, 3, 4], [0, 1, 2, 3, 4, 5], [0, 1, 2, 3, 4, 5], [0, 1, 2, 3, 4, 5, 6], [0, 1, 2, 3, 4, 5, 6, 8]]
def pl81_4Sha6 : Plan := [(0, true, []), (1, true, []), (2, true, []), (3, true, []), (4, false, []), (5, true, []), (6, true, []), (7, true, []), (8, true, []), (9, false, [7])]
variable {w0 : World}

/-! ### A hash's cells -/
def hc (h : List UInt32) (l : List UInt8) (n : UInt64) : List PV := wC h ++ [.str l, .int .u64 (n.toNat : Int)]
section hc
variable {h h' : List UInt32} {l l' : List UInt8} {n n' : UInt64}
theorem hc_len (hl : h.length = 8) : (hc h l n).length = 10 := by simp [hc, wC_len, hl]
theorem hc_g8 (hl : h.length = 8) : (hc h l n)[8]? = some (.str l) := by
  rw [hc, List.getElem?_append_right (by rw [wC_len, hl]; decide), wC_len, hl]; rfl
theorem hc_g9 (hl : h.length = 8) : (hc h l n)[9]? = some (.int .u64 (n.toNat : Int)) := by
  rw [hc, List.getElem?_append_right (by rw [wC_len, hl]; decide), wC_len, hl]; rfl
theorem hc_s8 (hl : h.length = 8) : (hc h l n).set 8 (.str l') = hc h l' n := by
  rw [hc, List.set_append_right _ _ (by rw [wC_len, hl]; decide), wC_len, hl]; rfl
theorem hc_s9 (hl : h.length = 8) : (hc h l n).set 9 (.int .u64 (n'.toNat : Int)) = hc h l n' := by
  rw [hc, List.set_append_right _ _ (by rw [wC_len, hl]; decide), wC_len, hl]; rfl
theorem hc_sH (hl : h.length = 8) (hl' : h'.length = 8) : setL (hc h l n) 0 (wC h') = hc h' l n := by
  obtain ⟨a, b, c, d, e, f, g, i, rfl⟩ := eight hl
  obtain ⟨a', b', c', d', e', f', g', i', rfl⟩ := eight hl'
  rfl
theorem hc_all (hl : h.length = 8) (hl' : h'.length = 8) : setL (hc h l n) 0 (hc h' l' n') = hc h' l' n' := setL_whole (by rw [hc_len hl, hc_len hl'])
theorem hc_t10 (hl : h.length = 8) : (hc h l n).take 10 = hc h l n := List.take_of_length_le (by rw [hc_len hl]; decide)
theorem hc_t8 (hl : h.length = 8) : (hc h l n).take 8 = wC h := by
  rw [hc, List.take_append_of_le_length (by rw [wC_len, hl]; decide), List.take_of_length_le (by rw [wC_len, hl]; decide)]
theorem hc_ok : (hc h l n).all cellOk = true := by simp [hc, wC_ok, cellOk]
theorem hc_scalar : (hc h l n).all scalarV = true := by simp [hc, wC_scalar, scalarV]
theorem scs_hc {m : Nat} : Scs m (hc h l n) = True := eq_true (scs_scalars hc_scalar)
end hc
theorem ze37h : zeroP Tryz.prog 131 = some (.agg (hc z8W [] 0)) := by rw [Tryz.ze131]; unfold z8W; rfl

theorem len64 (s : List UInt8) (hs : s.length < 2 ^ 50) : IntKind.wrap .u64 (s.length : Int) = (s.length : Int) := by rw [wrap_u64, Nat.mod_eq_of_lt (by omega)]

theorem refWrite_ok (h : List UInt32) (hl : h.length = 8) (l : List UInt8) (n : UInt64) (s : List UInt8) (hb : l.length + s.length < 2 ^ 46) :
    Fn (Cx w0) 81 [.agg (hc h l n), .str s] (.agg (hc (feed h (l ++ s)).1 (feed h (l ++ s)).2 (n + UInt64.ofNat s.length))) := by
  have z8 := z8W_len
  have e1 := len64 s (by omega)
  refine fn_H ([Go.ResultVar.cell 4 131]) Tryz.func81 rfl rfl (by decide) fun ph hW Q hQ => ?_
  simp only [start, List.length_cons, List.length_nil, List.cons_append, List.nil_append, Nat.reduceAdd, Nat.reduceSub, List.replicate_succ, List.replicate_zero, Tryz.ntmps81]
  repeat' first | simp -implicitDefEqProofs (maxSteps := 400000) (disch := first | with_reducible rfl | omega | (simp only [wkH] <;> omega) | decide) only [wkAll, wkL, popO, wantedP, Nat.reduceAdd, Nat.reduceLeDiff, binP, convP, lenP, builtinP, loadOp, storeOp, loadP, fieldAddrOp, setL, PK.agg, seg, if_pos, if_neg, tf3, tf9, tf50, tf131, ze37h, e1, add64n, hc_len, hc_g8, hc_g9, hc_s9, hc_ok] | refine w_dec (fun _ => ?_) (fun _ => ?_) | refine w_eqc (fun _ => ?_) (fun _ => ?_) | refine w_neqc (fun _ => ?_) (fun _ => ?_) | refine w_nneqc (fun _ => ?_) (fun _ => ?_) | ((first | refine w_split (fun h => ?_) (fun h => ?_) | refine d_split (fun h => ?_) (fun h => ?_) | refine w_csplit (fun h => ?_) (fun h => ?_)) <;> (try simp only [wkS] at h) <;> (have h2 := h) <;> (try simp only [wkT, ne_eq] at h2) <;> (try simp only [h])) | refine w_drawnF (id := 4) tb81_4Sha6 pl81_4Sha6 29 (by kernel_rfl) (by kernel_rfl) (by simp) ?_
  obtain ⟨m, hm⟩ : ∃ m, m = n + UInt64.ofNat s.length := ⟨_, rfl⟩
  rw [← hm] at hQ ⊢
  obtain ⟨r0, hr0⟩ : ∃ r0, r0 = l ++ s := ⟨_, rfl⟩
  have hrl : r0.length < 2 ^ 46 := by rw [hr0, List.length_append]; exact hb
  rw [← hr0] at hQ ⊢
  refine w_loopH (α := List UInt32 × List UInt8) ph ph.ob ph.ty (fun a => [.undef, .undef, .ptr ph.n 0, .undef, .ptr (ph.n + 1) 0, .str a.2, .undef, .undef, .undef, .undef, .undef, .undef, .undef, .undef, .undef, .undef, .undef, .undef, .undef, .undef, .undef, .undef, .undef, .undef, .undef, .undef, .undef, .undef, .undef, .undef, .undef, .undef, .undef, .undef]) (fun a => [some (.own (hc a.1 l m)), some (.own (hc z8W [] 0))]) (fun a => a.1.length = 8 ∧ feed a.1 a.2 = feed h r0 ∧ a.2.length ≤ r0.length) (fun a => a.2.length) (h, r0) ⟨hl, rfl, Nat.le_refl _⟩ (fun _ _ => by simp) (.eq (by simp [FadeTo]) rfl) ?_
  rintro ⟨H1, r⟩ ⟨hH, hf, hr⟩ K hK
  simp only at hH hf hr ⊢
  rcases Nat.lt_or_ge r.length 64 with hlt | hge
  · have hlt' : ¬ (64 : Int) ≤ (r.length : Int) := by omega
    rw [← hf, feed_lt _ _ hlt] at hQ
    repeat' first | simp -implicitDefEqProofs (maxSteps := 400000) (disch := first | with_reducible rfl | omega | (simp only [wkH] <;> omega) | decide) only [wkAll, wkL, popO, wantedP, Nat.reduceAdd, Nat.reduceLeDiff, binP, lenP, builtinP, loadOp, storeOp, loadP, fieldAddrOp, setL, PK.agg, seg, if_pos, tf9, tf131, ge_iff_le, hlt', hc_len, hc_s8, hc_all, hc_t10, hc_ok] | refine w_dec (fun _ => ?_) (fun _ => ?_) | refine w_eqc (fun _ => ?_) (fun _ => ?_) | refine w_neqc (fun _ => ?_) (fun _ => ?_) | refine w_nneqc (fun _ => ?_) (fun _ => ?_) | ((first | refine w_split (fun h => ?_) (fun h => ?_) | refine d_split (fun h => ?_) (fun h => ?_) | refine w_csplit (fun h => ?_) (fun h => ?_)) <;> (try simp only [wkS] at h) <;> (have h2 := h) <;> (try simp only [wkT, ne_eq] at h2) <;> (try simp only [h])) | refine w_drawnF (id := 4) tb81_4Sha6 pl81_4Sha6 29 (by kernel_rfl) (by kernel_rfl) (by simp) ?_
    refine hQ (by first | exact .inr rfl | exact .inl rfl) (by first | exact trivial | exact marks1) (by first | (simp -implicitDefEqProofs (maxSteps := 400000) (disch := first | with_reducible rfl | omega | (simp only [wkH] <;> omega) | decide) only [wkAll, wkL, Nat.reduceLeDiff, loadOp, loadP, PK.agg, seg, if_pos, tf131, resP, resPs, resP1, hc_len, hc_t10]; rfl) | rfl) ⟨6, by repeat' first | exact frz_scalar rfl | apply frz_tuple | apply frz_agg | apply frz_fsl | apply frz_gsl (by omega) | exact frzs_nil | apply frzs_cons | exact frzs_scalars (hc_scalar)⟩ (by first | exact keepsH0 | exact keeps1 (by assumption) | exact keepsH (fun _ _ h => h) (fun p hp => by simp only [upF]; (repeat rw [if_neg (by omega)])) | exact keeps1t (by assumption) (fun p hp => by simp only [upF]; (repeat rw [if_neg (by omega)])) | (subst hT; exact keepsH (fun _ _ h => h) fun _ _ => rfl)) (nw_eq ?_)
    rfl
  · have hge' : (64 : Int) ≤ (r.length : Int) := by omega
    have ht : (r.take 64).length = 64 := by rw [List.length_take]; omega
    have hbk := refBlock_ok (w0 := w0) H1 hH (r.take 64) (by omega)
    have hB : blockL H1 (r.take 64) = (blockW H1 (r.take 64), 0) := by rw [blockL, if_pos ht]
    simp only [hB] at hbk
    have hH2 := blockW_len hH (r.take 64)
    have hd : (r.drop 64).take (r.length - 64) = r.drop 64 := List.take_of_length_le (by rw [List.length_drop]; exact Nat.le_refl _)
    have hf2 := feed_step H1 r hge
    generalize hBW : blockW H1 (r.take 64) = B at *
    repeat' first | simp -implicitDefEqProofs (maxSteps := 400000) (disch := first | with_reducible rfl | omega | (simp only [wkH] <;> omega) | decide) only [wkAll, wkL, popO, wantedP, Nat.reduceLeDiff, Int.reduceLE, Int.reduceToNat, binP, lenP, builtinP, sliceOp, bndsP, bndP, loadOp, storeOp, loadP, fieldAddrOp, PK.agg, seg, if_pos, tf9, tf129, tf131, pl81_4Sha6, ge_iff_le, hge', hd, hc_len, hc_sH, hc_t8, wC_len, hH2, wC_ok] | refine w_pure (hbk) ?_ | refine w_dec (fun _ => ?_) (fun _ => ?_) | refine w_eqc (fun _ => ?_) (fun _ => ?_) | refine w_neqc (fun _ => ?_) (fun _ => ?_) | refine w_nneqc (fun _ => ?_) (fun _ => ?_) | ((first | refine w_split (fun h => ?_) (fun h => ?_) | refine d_split (fun h => ?_) (fun h => ?_) | refine w_csplit (fun h => ?_) (fun h => ?_)) <;> (try simp only [wkS] at h) <;> (have h2 := h) <;> (try simp only [wkT, ne_eq] at h2) <;> (try simp only [h])) | refine w_drawnF (id := 4) tb81_4Sha6 pl81_4Sha6 29 (by kernel_rfl) (by kernel_rfl) (by simp) ?_
    refine hK (B, r.drop 64) _ _ ⟨hH2, by rw [← hf, hf2], by simp only [List.length_drop]; omega⟩ (by simp only [List.length_drop]; omega) (.eq (by simp [FadeTo]) rfl)

theorem write_ok (h : List UInt32) (h8 : h.length = 8) (lf : List UInt8) (n : UInt64) (s : List UInt8) (hb : lf.length + s.length < 2 ^ 46) :
    Fn (Cx w0) 88 [.agg (hc h lf n), .str s] (.agg (hc (feed h (lf ++ s)).1 (feed h (lf ++ s)).2 (n + UInt64.ofNat s.length))) := by
  have z8 := z8W_len
  have e1 := len64 s (by omega)
  refine fn_H ([Go.ResultVar.cell 4 131]) Tryz.func88 rfl rfl (by decide) fun ph hW Q hQ => ?_
  simp only [start, List.length_cons, List.length_nil, List.cons_append, List.nil_append, Nat.reduceAdd, Nat.reduceSub, List.replicate_succ, List.replicate_zero, Tryz.ntmps88]
  repeat' first | simp -implicitDefEqProofs (maxSteps := 400000) (disch := first | with_reducible rfl | omega | (simp only [wkH] <;> omega) | decide) only [wkAll, wkL, popO, wantedP, Nat.reduceAdd, Nat.reduceLeDiff, binP, convP, lenP, builtinP, loadOp, storeOp, loadP, fieldAddrOp, setL, PK.agg, seg, if_pos, if_neg, tf3, tf9, tf50, tf131, e1, add64n, ze37h, hc_len, hc_g8, hc_g9, hc_s8, hc_s9, hc_ok] | refine w_dec (fun _ => ?_) (fun _ => ?_) | refine w_eqc (fun _ => ?_) (fun _ => ?_) | refine w_neqc (fun _ => ?_) (fun _ => ?_) | refine w_nneqc (fun _ => ?_) (fun _ => ?_) | ((first | refine w_split (fun h => ?_) (fun h => ?_) | refine d_split (fun h => ?_) (fun h => ?_) | refine w_csplit (fun h => ?_) (fun h => ?_)) <;> (try simp only [wkS] at h) <;> (have h2 := h) <;> (try simp only [wkT, ne_eq] at h2) <;> (try simp only [h]))
  obtain ⟨m, hm⟩ : ∃ m, m = n + UInt64.ofNat s.length := ⟨_, rfl⟩
  rw [← hm] at hQ ⊢
  obtain ⟨r0, hr0⟩ : ∃ r0, r0 = lf ++ s := ⟨_, rfl⟩
  have hrl : r0.length < 2 ^ 46 := by rw [hr0, List.length_append]; exact hb
  rw [← hr0] at hQ ⊢
  refine w_inl ([Go.ResultVar.tmp 2]) Tryz.func96 rfl rfl (by decide) fun _ hI => ?_
  simp only [start, List.length_cons, List.length_nil, List.cons_append, List.nil_append, Nat.reduceAdd, Nat.reduceSub, List.replicate_succ, List.replicate_zero, Tryz.ntmps96]
  repeat' first | simp -implicitDefEqProofs (maxSteps := 400000) (disch := first | with_reducible rfl | omega | (simp only [wkH] <;> omega) | decide) only [wkAll, wkL, popO, wantedP, Nat.reduceAdd, if_pos] | refine w_dec (fun _ => ?_) (fun _ => ?_) | refine w_eqc (fun _ => ?_) (fun _ => ?_) | refine w_neqc (fun _ => ?_) (fun _ => ?_) | refine w_nneqc (fun _ => ?_) (fun _ => ?_) | ((first | refine w_split (fun h => ?_) (fun h => ?_) | refine d_split (fun h => ?_) (fun h => ?_) | refine w_csplit (fun h => ?_) (fun h => ?_)) <;> (try simp only [wkS] at h) <;> (have h2 := h) <;> (try simp only [wkT, ne_eq] at h2) <;> (try simp only [h]))
  refine hI (by first | exact .inr rfl | exact .inl rfl) trivial (by first | (simp -implicitDefEqProofs (maxSteps := 400000) (disch := first | with_reducible rfl | omega | (simp only [wkH] <;> omega) | decide) only [wkL, resP, resPs, resP1]; rfl) | rfl) ?_
  repeat' first | simp -implicitDefEqProofs (maxSteps := 400000) (disch := first | with_reducible rfl | omega | (simp only [wkH] <;> omega) | decide) only [wkAll, wkL] | refine w_dec (fun _ => ?_) (fun _ => ?_) | refine w_eqc (fun _ => ?_) (fun _ => ?_) | refine w_neqc (fun _ => ?_) (fun _ => ?_) | refine w_nneqc (fun _ => ?_) (fun _ => ?_) | ((first | refine w_split (fun h => ?_) (fun h => ?_) | refine d_split (fun h => ?_) (fun h => ?_) | refine w_csplit (fun h => ?_) (fun h => ?_)) <;> (try simp only [wkS] at h) <;> (have h2 := h) <;> (try simp only [wkT, ne_eq] at h2) <;> (try simp only [h]))
  refine w_range ([]) rfl Tryz.func106 rfl rfl (by decide) ?_
  intro r l fnid hr hl hne Q' hQ'
  simp only [start, List.length_cons, List.length_nil, List.cons_append, List.nil_append, Nat.reduceAdd, Nat.reduceSub, List.replicate_succ, List.replicate_zero, Tryz.ntmps106]
  have hl' : ph.ob l = none := hl
  have hr' : ph.ob r = none := hr
  repeat' first | simp -implicitDefEqProofs (maxSteps := 400000) (disch := first | with_reducible rfl | omega | (simp only [wkH] <;> omega) | decide) only [wkAll, wkL, Nat.reduceAdd] | refine w_dec (fun _ => ?_) (fun _ => ?_) | refine w_eqc (fun _ => ?_) (fun _ => ?_) | refine w_neqc (fun _ => ?_) (fun _ => ?_) | refine w_nneqc (fun _ => ?_) (fun _ => ?_) | ((first | refine w_split (fun h => ?_) (fun h => ?_) | refine d_split (fun h => ?_) (fun h => ?_) | refine w_csplit (fun h => ?_) (fun h => ?_)) <;> (try simp only [wkS] at h) <;> (have h2 := h) <;> (try simp only [wkT, ne_eq] at h2) <;> (try simp only [h]))
  refine w_loopH (α := List UInt32 × List UInt8) ph _ ph.ty (fun a => [.yield l, .ptr (ph.n + 2) 0, .undef, .undef, .undef, .undef, .undef, .undef, .undef, .undef, .undef, .undef, .undef, .undef, .undef, .undef]) (fun a => [some (.own (hc a.1 a.2 m)), some (.own (hc z8W [] 0)), some (.own [.str a.2])]) (fun a => a.1.length = 8 ∧ feed a.1 a.2 = feed h r0 ∧ a.2.length ≤ r0.length) (fun a => a.2.length) (h, r0) ⟨h8, rfl, Nat.le_refl _⟩ (fun _ _ => by simp []) (.eq (by simp [FadeTo]) rfl) ?_
  rintro ⟨H1, r⟩ ⟨hH, hf, hr⟩ K hK
  simp only at hH hf hr ⊢
  rcases Nat.lt_or_ge r.length 64 with hlt | hge
  · have hlt' : ¬ (64 : Int) ≤ (r.length : Int) := by omega
    rw [← hf, feed_lt _ _ hlt] at hQ
    repeat' first | simp -implicitDefEqProofs (maxSteps := 400000) (disch := first | with_reducible rfl | omega | (simp only [wkH] <;> omega) | decide) only [wkAll, wkL, popO, wantedP, Nat.reduceLeDiff, binP, lenP, builtinP, loadOp, loadP, PK.agg, seg, if_pos, if_neg, tf9, ge_iff_le, hlt'] | refine w_dec (fun _ => ?_) (fun _ => ?_) | refine w_eqc (fun _ => ?_) (fun _ => ?_) | refine w_neqc (fun _ => ?_) (fun _ => ?_) | refine w_nneqc (fun _ => ?_) (fun _ => ?_) | ((first | refine w_split (fun h => ?_) (fun h => ?_) | refine d_split (fun h => ?_) (fun h => ?_) | refine w_csplit (fun h => ?_) (fun h => ?_)) <;> (try simp only [wkS] at h) <;> (have h2 := h) <;> (try simp only [wkT, ne_eq] at h2) <;> (try simp only [h]))
    refine hQ' (by first | exact .inr rfl | exact .inl rfl) trivial (by first | (simp -implicitDefEqProofs (maxSteps := 400000) (disch := first | with_reducible rfl | omega | (simp only [wkH] <;> omega) | decide) only [wkL, resP, resPs]; rfl) | rfl) (re_normal (by rw [h_shut0, h_ob]; exact up_same) rfl rfl ?_)
    repeat' first | simp -implicitDefEqProofs (maxSteps := 400000) (disch := first | with_reducible rfl | omega | (simp only [wkH] <;> omega) | decide) only [wkAll, wkL, popO, wantedP, Nat.reduceLeDiff, loadOp, storeOp, loadP, PK.agg, seg, if_pos, tf131, up_none2 hl' hne, hc_len, hc_all, hc_t10, hc_ok] | refine w_dec (fun _ => ?_) (fun _ => ?_) | refine w_eqc (fun _ => ?_) (fun _ => ?_) | refine w_neqc (fun _ => ?_) (fun _ => ?_) | refine w_nneqc (fun _ => ?_) (fun _ => ?_) | ((first | refine w_split (fun h => ?_) (fun h => ?_) | refine d_split (fun h => ?_) (fun h => ?_) | refine w_csplit (fun h => ?_) (fun h => ?_)) <;> (try simp only [wkS] at h) <;> (have h2 := h) <;> (try simp only [wkT, ne_eq] at h2) <;> (try simp only [h]))
    refine hQ (by first | exact .inr rfl | exact .inl rfl) (by first | exact trivial | exact marks1) (by first | (simp -implicitDefEqProofs (maxSteps := 400000) (disch := first | with_reducible rfl | omega | (simp only [wkH] <;> omega) | decide) only [wkAll, wkL, Nat.reduceLeDiff, loadOp, loadP, PK.agg, seg, if_pos, tf131, resP, resPs, resP1, hc_len, hc_t10]; rfl) | rfl) ⟨6, by repeat' first | exact frz_scalar rfl | apply frz_tuple | apply frz_agg | apply frz_fsl | apply frz_gsl (by omega) | exact frzs_nil | apply frzs_cons | exact frzs_scalars (hc_scalar)⟩ (by first | exact keepsH0 | exact keeps1 (by assumption) | exact keepsH (fun _ _ h => h) (fun p hp => by simp only [upF]; (repeat rw [if_neg (by omega)])) | exact keeps1t (by assumption) (fun p hp => by simp only [upF]; (repeat rw [if_neg (by omega)])) | (subst hT; exact keepsH (fun _ _ h => h) fun _ _ => rfl)) (nw_eq ?_)
    rfl
  · have hge' : (64 : Int) ≤ (r.length : Int) := by omega
    have ht : (r.take 64).length = 64 := by rw [List.length_take]; omega
    have hbk := block_ok (w0 := w0) H1 hH (r.take 64) (by omega)
    have hB : blockL H1 (r.take 64) = (blockW H1 (r.take 64), 0) := by rw [blockL, if_pos ht]
    simp only [hB] at hbk
    have hH2 := blockW_len hH (r.take 64)
    have hd : (r.drop 64).take (r.length - 64) = r.drop 64 := List.take_of_length_le (by rw [List.length_drop]; exact Nat.le_refl _)
    have hf2 := feed_step H1 r hge
    generalize hBW : blockW H1 (r.take 64) = B at *
    repeat' first | simp -implicitDefEqProofs (maxSteps := 400000) (disch := first | with_reducible rfl | omega | (simp only [wkH] <;> omega) | decide) only [wkAll, wkL, popO, wantedP, Nat.reduceLeDiff, Int.reduceLE, Int.reduceToNat, binP, lenP, builtinP, sliceOp, bndsP, bndP, loadOp, storeOp, loadP, setL, PK.agg, seg, if_pos, if_neg, tf9, ge_iff_le, hge', hd] | refine w_dec (fun _ => ?_) (fun _ => ?_) | refine w_eqc (fun _ => ?_) (fun _ => ?_) | refine w_neqc (fun _ => ?_) (fun _ => ?_) | refine w_nneqc (fun _ => ?_) (fun _ => ?_) | ((first | refine w_split (fun h => ?_) (fun h => ?_) | refine d_split (fun h => ?_) (fun h => ?_) | refine w_csplit (fun h => ?_) (fun h => ?_)) <;> (try simp only [wkS] at h) <;> (have h2 := h) <;> (try simp only [wkT, ne_eq] at h2) <;> (try simp only [h]))
    refine w_round (by rw [h_ob]; exact up_same) rfl rfl ?_
    simp only [mkLoop, setPs, List.set_cons_zero, List.set_cons_succ, List.toList_toArray]
    repeat' first | simp -implicitDefEqProofs (maxSteps := 400000) (disch := first | with_reducible rfl | omega | (simp only [wkH] <;> omega) | decide) only [wkAll, wkL, popO, wantedP, Nat.reduceAdd, loadOp, loadP, fieldAddrOp, PK.agg, seg, if_pos, tf129, tf131] | refine w_dec (fun _ => ?_) (fun _ => ?_) | refine w_eqc (fun _ => ?_) (fun _ => ?_) | refine w_neqc (fun _ => ?_) (fun _ => ?_) | refine w_nneqc (fun _ => ?_) (fun _ => ?_) | ((first | refine w_split (fun h => ?_) (fun h => ?_) | refine d_split (fun h => ?_) (fun h => ?_) | refine w_csplit (fun h => ?_) (fun h => ?_)) <;> (try simp only [wkS] at h) <;> (have h2 := h) <;> (try simp only [wkT, ne_eq] at h2) <;> (try simp only [h]))
    first | refine ⟨_, rfl, rfl, ?_⟩ | refine ⟨_, by rw [h_ob]; exact up_same, rfl, ?_⟩
    repeat' first | simp -implicitDefEqProofs (maxSteps := 400000) (disch := first | with_reducible rfl | omega | (simp only [wkH] <;> omega) | decide) only [wkAll, wkL, popO, wantedP, Nat.reduceAdd, Nat.reduceLeDiff, storeOp, fieldAddrOp, setL, if_pos, tf9, tf129, tf131, hc_len, hc_s8, hc_sH, hc_t8, wC_len, hH2, wC_ok] | refine w_pure (hbk) ?_ | refine w_dec (fun _ => ?_) (fun _ => ?_) | refine w_eqc (fun _ => ?_) (fun _ => ?_) | refine w_neqc (fun _ => ?_) (fun _ => ?_) | refine w_nneqc (fun _ => ?_) (fun _ => ?_) | ((first | refine w_split (fun h => ?_) (fun h => ?_) | refine d_split (fun h => ?_) (fun h => ?_) | refine w_csplit (fun h => ?_) (fun h => ?_)) <;> (try simp only [wkS] at h) <;> (have h2 := h) <;> (try simp only [wkT, ne_eq] at h2) <;> (try simp only [h]))
    refine ⟨_, by rw [h_ob]; exact up_same, ?_⟩
    repeat' first | simp -implicitDefEqProofs (maxSteps := 400000) (disch := first | with_reducible rfl | omega | (simp only [wkH] <;> omega) | decide) only [wkAll, wkL, popO, wantedP, unP] | refine w_dec (fun _ => ?_) (fun _ => ?_) | refine w_eqc (fun _ => ?_) (fun _ => ?_) | refine w_neqc (fun _ => ?_) (fun _ => ?_) | refine w_nneqc (fun _ => ?_) (fun _ => ?_) | ((first | refine w_split (fun h => ?_) (fun h => ?_) | refine d_split (fun h => ?_) (fun h => ?_) | refine w_csplit (fun h => ?_) (fun h => ?_)) <;> (try simp only [wkS] at h) <;> (have h2 := h) <;> (try simp only [wkT, ne_eq] at h2) <;> (try simp only [h]))
    refine hK (B, r.drop 64) _ _ ⟨hH2, by rw [← hf, hf2], by simp only [List.length_drop]; omega⟩ (by simp only [List.length_drop]; omega) (.cut [] hW (by simp [FadeTo]) (by rfl) (by simp [scs_cons, scs_nil, sc_ptr, sc_undef, sc_yield]) (by simp [scs_cons, scs_nil, sc_str, scs_hc]) (h3 := .inr (obsc2 hW (by omega) (by simp [mkLoop, scs_cons, scs_nil, sc_ptr, sc_agg, sc_func, sc_int, sc_str, sc_tuple, scs_hc]))))
end Pv

namespace Pv
open Go Go.RowKit
variable {X : Ctx} {G : Ghost} {ph : PH} {w : World} {ρ : Option Nat} {n0 : Nat} {Q : Exit → PSt → PH → Prop}

theorem PCalls.args {f : FuncId} {args args' : List PV} {K : PV → PH → Prop} (h : NWs args args') (hc : PCalls X f args' ph K) : PCalls X f args ph K :=
  fun G w rargs hr ha => hc G w rargs hr (h G rargs ha)

theorem w_pureN {f : FuncId} {args args' : List PV} {v : PV} {K : PV → PH → Prop} (h : Fn X f args' v) (hn : NWs args args') (k : K v ph) : PCalls X f args ph K := PCalls.args hn (w_pure h k)

/-- All cells of a block are frozen. -/
noncomputable def Ghost.frzB (G : Ghost) (w : World) (b : Nat) : Ghost :=
  { G with f := fun a => match G.f a with
      | some v => some v
      | none => open Classical in if a.spot = none ∧ a.block = b then w.cell? a else none }

theorem le_frzB (G : Ghost) (w : World) (b : Nat) : Le G (G.frzB w b) := ⟨fun _ _ h => h, fun a v h => by simp only [Ghost.frzB, h], fun _ _ _ h => h⟩

theorem Rel.frzB (h : Rel X G ph w) {p : Nat} {cells : List PV} {L : Loc} (hp : ph.get p = some cells) (hL : G.l[p]? = some L) : Rel X (G.frzB w L.b) (ph.kill p) w := by
  have hle := le_frzB G w L.b
  have hk := h.kill p
  have hf : ∀ a v, (G.frzB w L.b).f a = some v → G.f a = some v ∨ (a.spot = none ∧ a.block = L.b ∧ w.cell? a = some v) := by
    intro a v ha
    simp only [Ghost.frzB] at ha
    split at ha
    · rename_i e; cases ha; exact .inl e
    · split at ha
      · rename_i e; exact .inr ⟨e.1, e.2, ha⟩
      · cases ha
  refine ⟨hk.len, hk.below, ?_, hk.disj, ?_, ?_, ?_, ?_, ?_⟩
  · intro q c hc
    obtain ⟨M, vals, cs, e, fz, hM, o⟩ := hk.own q c hc
    exact ⟨M, vals, cs, e, fz, hM, ⟨o.rv.mono hle, o.lt, o.ge, o.hb, o.sz, o.fr, o.at_, o.one⟩⟩
  · intro a v ha
    rcases hf a v ha with h1 | ⟨h1, h2, h3⟩
    · exact h.fz a v h1
    · exact ⟨h1, h3⟩
  · intro a v q c M ha hq hM
    rw [PH.get_kill] at hq
    split at hq
    · cases hq
    · rename_i hne
      rcases hf a v ha with h1 | ⟨h1, h2, h3⟩
      · exact h.fdisj a v q c M h1 hq hM
      · rw [h2]; exact fun e => h.disj q p c cells M L hne hq hp hM hL e.symm
  · intro r o hr
    exact ⟨(hk.ob r o hr).1, (hk.ob r o hr).2.mono hle rfl⟩
  · exact hk.ty.step hle (fun b cs e fz hb => ⟨cs, fz, hb⟩) rfl
  · refine hk.grow.step rfl (Nat.le_refl _) (fun _ _ h => h) (fun _ _ => rfl) (fun a v ha => ?_) fun q c L hc hL => .inl ⟨c, hc, hL⟩
    rcases hf a v ha with h1 | ⟨h1, h2, h3⟩
    · exact .inl h1
    · exact .inr fun hG => h.noGrow hp hL (h2 ▸ hG.kill)

/-- Arguments, of which those that lie in block p are told with their cells. -/
def FA (p : Nat) (cells : List PV) : List PV → List PV → Prop
  | [], [] => True
  | a :: az, b :: bs => (b = a ∨ ∃ off esz len cap, a = .sl p off esz len cap ∧ b = .fsl esz len (seg cells off (len * esz)) ∧ off + len * esz ≤ cells.length) ∧ FA p cells az bs
  | _, _ => False

theorem rv_frz (h : Rel X G ph w) {p : Nat} {cells : List PV} {L : Loc} (hp : ph.get p = some cells) (hL : G.l[p]? = some L) {off esz len : Nat} {cap : Option Nat} {v : Value} (hr : RV G (.sl p off esz len cap) v) (hle : off + len * esz ≤ cells.length) :
    RV (G.frzB w L.b) (.fsl esz len (seg cells off (len * esz))) v := by
  obtain ⟨L2, vals, cs, e, fz, hL2, o⟩ := h.own p cells hp
  rw [hL] at hL2
  obtain rfl : L = L2 := by simpa using hL2
  cases hr with
  | sl _ _ _ _ _ L' a rcap hL' h1 h2 h3 h4 =>
    rw [hL] at hL'
    obtain rfl : L = L' := by simpa using hL'
    refine .fsl _ _ _ ((vals.drop off).take (len * esz)) _ _ (((o.rv.drop off).take _).mono (le_frzB _ _ _)) h1 (by simp [seg]; omega) ?_ ?_
    · intro h0; rw [h4 (by omega)]
    · intro j u hj
      have h0 : 0 < rcap := by
        by_cases hz : rcap = 0
        · have : len = 0 := by omega
          subst this; simp at hj
        · omega
      rw [h4 h0]
      rw [List.getElem?_take] at hj
      split at hj
      · rw [List.getElem?_drop] at hj
        have hc := o.cell hj
        have hn : G.f ⟨L.b, L.o + (off + j), none⟩ = none := by
          cases e : G.f ⟨L.b, L.o + (off + j), none⟩ with
          | none => rfl
          | some u => exact absurd rfl (h.fdisj _ _ p cells L e hp hL)
        simp only [Ghost.frzB, Nat.add_assoc, hn]
        rw [if_pos (by simp)]; exact hc
      · cases hj

theorem FA.rvs (h : Rel X G ph w) {p : Nat} {cells : List PV} {L : Loc} (hp : ph.get p = some cells) (hL : G.l[p]? = some L) : ∀ {az bs : List PV} {rs : List Value}, FA p cells az bs → RVs G az rs → RVs (G.frzB w L.b) bs rs
  | [], [], _, _, hr => by cases hr; exact .nil
  | a :: az, b :: bs, _, hf, hr => by
    obtain ⟨h1, h2⟩ := hf
    cases hr with
    | cons _ r _ rs ha hs =>
      refine .cons _ _ _ _ ?_ (FA.rvs h hp hL h2 hs)
      rcases h1 with rfl | ⟨off, esz, len, cap, rfl, rfl, hle⟩
      · exact ha.mono (le_frzB _ _ _)
      · exact rv_frz h hp hL ha hle
  | [], _ :: _, _, hf, _ => hf.elim
  | _ :: _, [], _, hf, _ => hf.elim

/-- A call to which a row of one's own is handed that is only read from now on. -/
theorem w_frz {f : FuncId} {args args' : List PV} {K : PV → PH → Prop} {p : Nat} {cells : List PV} (hp : ph.get p = some cells) (ha : FA p cells args args') (h : PCalls X f args' (ph.kill p) K) : PCalls X f args ph K := by
  intro G w rargs hr hv
  obtain ⟨L, hL⟩ : ∃ L, G.l[p]? = some L := ⟨_, List.getElem?_eq_getElem (by rw [hr.lenN]; exact PH.get_lt hp)⟩
  have hr' := hr.frzB hp hL
  have hv' := ha.rvs hr hp hL hv
  have key : ∀ v w', CPost X (ph.kill p).n (G.frzB w L.b) K v w' → CPost X ph.n G K v w' := by
    rintro v w' ⟨G2, pv, ph', h1, h2, h3, h4, h5⟩
    rw [PH.n_kill] at h1 h4
    exact ⟨G2, pv, ph', ((le_frzB G w L.b).n _).trans h1, h2, h3, h4, h5⟩
  rcases h _ w rargs hr' hv' with ⟨v, w', e, hc⟩ | ⟨w', e, hc⟩
  · exact .inl ⟨v, w', e, key _ _ hc⟩
  · refine .inr ⟨w', e, Calls.mono hc ?_⟩
    intro e w he
    cases e with
    | returned v => exact key _ _ he
    | _ => exact he
end Pv

namespace Pv
set_option maxRecDepth 20000
set_option maxHeartbeats 4000000
open Go Go.Proofs Go.RowKit
variable {w0 : World}

theorem new_ok : Fn (Cx w0) 89 [] (.agg (hc shaH0 [] 0)) := by
  refine fn_H ([Go.ResultVar.cell 0 131]) Tryz.func89 rfl rfl (by decide) fun ph hW Q hQ => ?_
  simp only [start, List.length_nil, List.nil_append, Nat.reduceSub, List.replicate_succ, List.replicate_zero, Tryz.ntmps89]
  repeat' first | simp -implicitDefEqProofs (maxSteps := 400000) (disch := first | with_reducible rfl | omega | (simp only [wkH] <;> omega) | decide) only [wkAll, wkL, popO, wantedP, ne_eq, Nat.reduceAdd, Nat.reduceLeDiff, Nat.reduceLT, storeOp, buildP, placeF, fillP, setL, gt_iff_lt, if_pos, if_neg, tf129, Tryz.ze129, tf131, Tryz.ze131] | refine w_dec (fun _ => ?_) (fun _ => ?_) | refine w_eqc (fun _ => ?_) (fun _ => ?_) | refine w_neqc (fun _ => ?_) (fun _ => ?_) | refine w_nneqc (fun _ => ?_) (fun _ => ?_) | ((first | refine w_split (fun h => ?_) (fun h => ?_) | refine d_split (fun h => ?_) (fun h => ?_) | refine w_csplit (fun h => ?_) (fun h => ?_)) <;> (try simp only [wkS] at h) <;> (have h2 := h) <;> (try simp only [wkT, ne_eq] at h2) <;> (try simp only [h]))
  refine hQ (by first | exact .inr rfl | exact .inl rfl) (by first | exact trivial | exact marks1) (by first | (simp -implicitDefEqProofs (maxSteps := 400000) (disch := first | with_reducible rfl | omega | (simp only [wkH] <;> omega) | decide) only [wkAll, wkL, Nat.reduceAdd, Nat.reduceLeDiff, loadOp, loadP, PK.agg, seg, if_pos, tf131, resP, resPs, resP1]; rfl) | rfl) ⟨6, by repeat' first | exact frz_scalar rfl | apply frz_tuple | apply frz_agg | apply frz_fsl | apply frz_gsl (by omega) | exact frzs_nil | apply frzs_cons⟩ (by first | exact keepsH0 | exact keeps1 (by assumption) | exact keepsH (fun _ _ h => h) (fun p hp => by simp only [upF]; (repeat rw [if_neg (by omega)])) | exact keeps1t (by assumption) (fun p hp => by simp only [upF]; (repeat rw [if_neg (by omega)])) | (subst hT; exact keepsH (fun _ _ h => h) fun _ _ => rfl)) (nw_eq ?_)
  rfl
theorem refNew_ok : Fn (Cx w0) 82 [] (.agg (hc shaH0 [] 0)) := by
  have z8 := z8W_len
  have h8 : shaH0.length = 8 := rfl
  have hset : setL (hc z8W [] 0) 0 (wC shaH0) = hc shaH0 [] 0 := hc_sH z8 h8
  have e0 : wC shaH0 = [.int .u32 1779033703, .int .u32 3144134277, .int .u32 1013904242, .int .u32 2773480762, .int .u32 1359893119, .int .u32 2600822924, .int .u32 528734635, .int .u32 1541459225] := rfl
  refine fn_H ([Go.ResultVar.cell 0 131]) Tryz.func82 rfl rfl (by decide) fun ph hW Q hQ => ?_
  simp only [start, List.length_nil, List.nil_append, Nat.reduceSub, List.replicate_succ, List.replicate_zero, Tryz.ntmps82]
  repeat' first | simp -implicitDefEqProofs (maxSteps := 400000) (disch := first | with_reducible rfl | omega | (simp only [wkH] <;> omega) | decide) only [wkAll, wkL, popO, wantedP, ne_eq, Nat.reduceAdd, Nat.reduceLeDiff, Nat.reduceLT, storeOp, buildP, placeF, fillP, setL, gt_iff_lt, if_pos, if_neg, tf131, Tryz.ze131, e0] | refine w_pure (refBeginning_ok) ?_ | refine w_dec (fun _ => ?_) (fun _ => ?_) | refine w_eqc (fun _ => ?_) (fun _ => ?_) | refine w_neqc (fun _ => ?_) (fun _ => ?_) | refine w_nneqc (fun _ => ?_) (fun _ => ?_) | ((first | refine w_split (fun h => ?_) (fun h => ?_) | refine d_split (fun h => ?_) (fun h => ?_) | refine w_csplit (fun h => ?_) (fun h => ?_)) <;> (try simp only [wkS] at h) <;> (have h2 := h) <;> (try simp only [wkT, ne_eq] at h2) <;> (try simp only [h]))
  refine hQ (by first | exact .inr rfl | exact .inl rfl) (by first | exact trivial | exact marks1) (by first | (simp -implicitDefEqProofs (maxSteps := 400000) (disch := first | with_reducible rfl | omega | (simp only [wkH] <;> omega) | decide) only [wkAll, wkL, Nat.reduceAdd, Nat.reduceLeDiff, loadOp, loadP, PK.agg, seg, if_pos, tf131, resP, resPs, resP1]; rfl) | rfl) ⟨6, by repeat' first | exact frz_scalar rfl | apply frz_tuple | apply frz_agg | apply frz_fsl | apply frz_gsl (by omega) | exact frzs_nil | apply frzs_cons⟩ (by first | exact keepsH0 | exact keeps1 (by assumption) | exact keepsH (fun _ _ h => h) (fun p hp => by simp only [upF]; (repeat rw [if_neg (by omega)])) | exact keeps1t (by assumption) (fun p hp => by simp only [upF]; (repeat rw [if_neg (by omega)])) | (subst hT; exact keepsH (fun _ _ h => h) fun _ _ => rfl)) (nw_eq ?_)
  rfl
end Pv
