/- Part of the proof: the layer of pure values, or walks through functions (PvKe2, PvKe3, PvKe4). -/
import Derived.Test.YtjomgffpkdcanaaGreatPvKe1
set_option linter.all false
namespace Pv
set_option maxRecDepth 20000
open Go Go.Proofs Go.RowKit
def tb11_6Ke2 : Tab := [[], [], [0, 1], [0, 1, 2], [], [], [4, 5], [4, 5, 6], [0, 1, 2, 3, 4, 5, 6, 7]]
def pl11_6Ke2 : Plan := [(0, true, []), (1, true, []), (2, true, []), (3, true, []), (4, true, []), (5, true, []), (6, true, []), (7, true, []), (8, true, [])]
variable {w0 : World}

theorem refSame_ok (a b : List KR) (ha : a.length < 2 ^ 40) (hb : b.length < 2 ^ 40) : Fn (Cx w0) 11 [.fsl 3 a.length (krsC a), .fsl 3 b.length (krsC b)] (.bool (decide (a = b))) := by
  refine fn_H ([Go.ResultVar.tmp 4]) Tryz.func11 rfl rfl (by decide) fun ph hW Q hQ => ?_
  simp only [start, List.length_cons, List.length_nil, List.cons_append, List.nil_append, Nat.reduceAdd, Nat.reduceSub, List.replicate_succ, List.replicate_zero, Tryz.ntmps11]
  repeat' first | simp -implicitDefEqProofs (maxSteps := 400000) (disch := first | with_reducible rfl | omega | (simp only [wkH] <;> omega) | decide) only [wkAll, wkL, popO, wantedP, binP, lenP, builtinP, if_pos, tf26] | refine w_dec (fun _ => ?_) (fun _ => ?_) | refine w_eqc (fun _ => ?_) (fun _ => ?_) | refine w_neqc (fun _ => ?_) (fun _ => ?_) | refine w_nneqc (fun _ => ?_) (fun _ => ?_) | ((first | refine w_split (fun h => ?_) (fun h => ?_) | refine d_split (fun h => ?_) (fun h => ?_) | refine w_csplit (fun h => ?_) (fun h => ?_)) <;> (try simp only [wkS] at h) <;> (have h2 := h) <;> (try simp only [wkT, ne_eq] at h2) <;> (try simp only [h])) | refine w_drawnF (id := 6) tb11_6Ke2 pl11_6Ke2 26 (by kernel_rfl) (by kernel_rfl) (by simp) ?_
  ·
    refine hQ (by first | exact .inr rfl | exact .inl rfl) (by first | exact trivial | exact marks1) (by first | (simp -implicitDefEqProofs (maxSteps := 400000) (disch := first | with_reducible rfl | omega | (simp only [wkH] <;> omega) | decide) only [wkL, resP, resPs, resP1]; rfl) | rfl) ⟨6, by repeat' first | exact frz_scalar rfl | apply frz_tuple | apply frz_agg | apply frz_fsl | apply frz_gsl (by omega) | exact frzs_nil | apply frzs_cons⟩ (by first | exact keepsH0 | exact keeps1 (by assumption) | exact keepsH (fun _ _ h => h) (fun p hp => by simp only [upF]; (repeat rw [if_neg (by omega)])) | exact keeps1t (by assumption) (fun p hp => by simp only [upF]; (repeat rw [if_neg (by omega)])) | (subst hT; exact keepsH (fun _ _ h => h) fun _ _ => rfl)) (nw_eq ?_)
    have : a ≠ b := by rintro rfl; simp_all
    simp [this]
  · rename_i hlen
    have hlen' : a.length = b.length := by omega
    refine w_loopH (α := Nat) ph ph.ob ph.ty (fun i => [.fsl 3 a.length (krsC a), .fsl 3 b.length (krsC b), .undef, .undef, .undef, .int .i64 i, .undef, .undef, .undef, .undef, .undef, .undef, .undef, .undef, .undef, .undef, .undef, .undef, .undef, .undef, .undef, .undef, .undef, .undef, .undef, .undef]) (fun _ => []) (fun i => i ≤ a.length ∧ a.take i = b.take i) (fun i => a.length - i) 0 (by simp) (fun _ _ => by simp) (.eq (by simp [FadeTo]) rfl) ?_
    rintro i ⟨hi, heq⟩ K hK
    rcases Nat.lt_or_ge i a.length with h | h
    · obtain ⟨x, hx⟩ := get_some h
      obtain ⟨y, hy⟩ := get_some (show i < b.length by omega)
      have hd := krsC_drop a i x hx
      have hd2 := krsC_drop b i y hy
      have hlt : (i : Int) < a.length := by omega
      repeat' first | simp -implicitDefEqProofs (maxSteps := 400000) (disch := first | with_reducible rfl | omega | (simp only [wkH] <;> omega) | decide) only [wkAll, wkL, popO, wantedP, Nat.reduceAdd, Nat.reduceLeDiff, eqCell, eqCells, binP, lenP, builtinP, indexAddrOp, loadOp, loadP, PK.agg, seg, wkN, if_pos, tf26, tf46, pl11_6Ke2, hd, hd2, hlt] | refine w_dec (fun _ => ?_) (fun _ => ?_) | refine w_eqc (fun _ => ?_) (fun _ => ?_) | refine w_neqc (fun _ => ?_) (fun _ => ?_) | refine w_nneqc (fun _ => ?_) (fun _ => ?_) | ((first | refine w_split (fun h => ?_) (fun h => ?_) | refine d_split (fun h => ?_) (fun h => ?_) | refine w_csplit (fun h => ?_) (fun h => ?_)) <;> (try simp only [wkS] at h) <;> (have h2 := h) <;> (try simp only [wkT, ne_eq] at h2) <;> (try simp only [h])) | refine w_drawnF (id := 6) tb11_6Ke2 pl11_6Ke2 26 (by kernel_rfl) (by kernel_rfl) (by simp) ?_
      ·
        refine hQ (by first | exact .inr rfl | exact .inl rfl) (by first | exact trivial | exact marks1) (by first | (simp -implicitDefEqProofs (maxSteps := 400000) (disch := first | with_reducible rfl | omega | (simp only [wkH] <;> omega) | decide) only [wkL, resP, resPs, resP1]; rfl) | rfl) ⟨6, by repeat' first | exact frz_scalar rfl | apply frz_tuple | apply frz_agg | apply frz_fsl | apply frz_gsl (by omega) | exact frzs_nil | apply frzs_cons⟩ (by first | exact keepsH0 | exact keeps1 (by assumption) | exact keepsH (fun _ _ h => h) (fun p hp => by simp only [upF]; (repeat rw [if_neg (by omega)])) | exact keeps1t (by assumption) (fun p hp => by simp only [upF]; (repeat rw [if_neg (by omega)])) | (subst hT; exact keepsH (fun _ _ h => h) fun _ _ => rfl)) (nw_eq ?_)
        have : a ≠ b := get_ne hx hy (by rintro rfl; simp_all)
        simp [this]
      · exact hK (i + 1) _ _ ⟨by omega, take_eq_step heq hx (by rw [hy]; congr 1; cases x; cases y; simp_all)⟩ (by omega) (.eq (by simp [FadeTo]) rfl)
    · have hge : ¬ (i : Int) < a.length := by omega
      repeat' first | simp -implicitDefEqProofs (maxSteps := 400000) (disch := first | with_reducible rfl | omega | (simp only [wkH] <;> omega) | decide) only [wkAll, wkL, popO, wantedP, binP, lenP, builtinP, if_pos, tf26, hge] | refine w_dec (fun _ => ?_) (fun _ => ?_) | refine w_eqc (fun _ => ?_) (fun _ => ?_) | refine w_neqc (fun _ => ?_) (fun _ => ?_) | refine w_nneqc (fun _ => ?_) (fun _ => ?_) | ((first | refine w_split (fun h => ?_) (fun h => ?_) | refine d_split (fun h => ?_) (fun h => ?_) | refine w_csplit (fun h => ?_) (fun h => ?_)) <;> (try simp only [wkS] at h) <;> (have h2 := h) <;> (try simp only [wkT, ne_eq] at h2) <;> (try simp only [h])) | refine w_drawnF (id := 6) tb11_6Ke2 pl11_6Ke2 26 (by kernel_rfl) (by kernel_rfl) (by simp) ?_
      refine hQ (by first | exact .inr rfl | exact .inl rfl) (by first | exact trivial | exact marks1) (by first | (simp -implicitDefEqProofs (maxSteps := 400000) (disch := first | with_reducible rfl | omega | (simp only [wkH] <;> omega) | decide) only [wkL, resP, resPs, resP1]; rfl) | rfl) ⟨6, by repeat' first | exact frz_scalar rfl | apply frz_tuple | apply frz_agg | apply frz_fsl | apply frz_gsl (by omega) | exact frzs_nil | apply frzs_cons⟩ (by first | exact keepsH0 | exact keeps1 (by assumption) | exact keepsH (fun _ _ h => h) (fun p hp => by simp only [upF]; (repeat rw [if_neg (by omega)])) | exact keeps1t (by assumption) (fun p hp => by simp only [upF]; (repeat rw [if_neg (by omega)])) | (subst hT; exact keepsH (fun _ _ h => h) fun _ _ => rfl)) (nw_eq ?_)
      have : a = b := by rw [List.take_of_length_le h, List.take_of_length_le (by omega)] at heq; exact heq
      simp [this]

theorem refFind_ok (l : List KR) (k : Int) (hl : l.length < 2 ^ 40) : Fn (Cx w0) 47 [.fsl 3 l.length (krsC l), .int .i64 k] (.fsl 3 (findL l k).length (krsC (findL l k))) := by
  refine fn_H ([Go.ResultVar.tmp 4]) Tryz.func47 rfl rfl (by decide) fun ph hW Q hQ => ?_
  simp only [start, List.length_cons, List.length_nil, List.cons_append, List.nil_append, Nat.reduceAdd, Nat.reduceSub, List.replicate_succ, List.replicate_zero, Tryz.ntmps47]
  repeat' first | simp -implicitDefEqProofs (maxSteps := 400000) (disch := first | with_reducible rfl | omega | (simp only [wkH] <;> omega) | decide) only [wkAll, wkL, popO, wantedP] | refine w_dec (fun _ => ?_) (fun _ => ?_) | refine w_eqc (fun _ => ?_) (fun _ => ?_) | refine w_neqc (fun _ => ?_) (fun _ => ?_) | refine w_nneqc (fun _ => ?_) (fun _ => ?_) | ((first | refine w_split (fun h => ?_) (fun h => ?_) | refine d_split (fun h => ?_) (fun h => ?_) | refine w_csplit (fun h => ?_) (fun h => ?_)) <;> (try simp only [wkS] at h) <;> (have h2 := h) <;> (try simp only [wkT, ne_eq] at h2) <;> (try simp only [h]))
  refine w_growL 3 46 [.fsl 3 l.length (krsC l), .int .i64 k, .undef, .undef, .undef, .gsl ph.n 3 0 [], .int .i64 0, .undef, .undef, .undef, .undef, .undef, .undef, .undef, .undef, .undef, .undef, .undef, .undef, .undef, .undef, .undef, .undef, .undef, .undef, .undef, .undef, .undef] [] (by simp) (by simp [NilL]) (by simp [NilB]) ?_
  refine w_loopH (α := Nat) ph ph.ob ph.ty (fun i => [.fsl 3 l.length (krsC l), .int .i64 k, .undef, .undef, .undef, .gsl ph.n 3 (findL (l.take i) k).length (krsC (findL (l.take i) k)), .int .i64 i, .undef, .undef, .undef, .undef, .undef, .undef, .undef, .undef, .undef, .undef, .undef, .undef, .undef, .undef, .undef, .undef, .undef, .undef, .undef, .undef, .undef]) (fun i => [some (.grow 3 (findL (l.take i) k).length 46)]) (fun i => i ≤ l.length) (fun i => l.length - i) 0 (by simp) (fun _ _ => by simp) (.eq (by simp [FadeTo, findL, krsC]) rfl) ?_
  intro i hi K hK
  rcases Nat.lt_or_ge i l.length with h | h
  · obtain ⟨r, hr⟩ := get_some h
    have hd := krsC_drop l i r hr
    have hlt : (i : Int) < l.length := by omega
    have hs := find_snoc k hr
    have hle := find_le l i k
    repeat' first | simp -implicitDefEqProofs (maxSteps := 400000) (disch := first | with_reducible rfl | omega | (simp only [wkH] <;> omega) | decide) only [wkAll, wkL, popO, wantedP, ne_eq, Nat.reduceAdd, Nat.reduceLeDiff, Nat.reduceLT, reduceCtorEq, binP, lenP, builtinP, srcP, indexAddrOp, loadOp, loadP, fieldAddrOp, buildSliceP, fillP, setL, PK.agg, gt_iff_lt, Nat.reducePow, reps, seg, wkN, if_pos, if_neg, tf3, tf26, tf46, Tryz.ze46, hd, hlt, app_g] | refine w_dec (fun _ => ?_) (fun _ => ?_) | refine w_eqc (fun _ => ?_) (fun _ => ?_) | refine w_neqc (fun _ => ?_) (fun _ => ?_) | refine w_nneqc (fun _ => ?_) (fun _ => ?_) | ((first | refine w_split (fun h => ?_) (fun h => ?_) | refine d_split (fun h => ?_) (fun h => ?_) | refine w_csplit (fun h => ?_) (fun h => ?_)) <;> (try simp only [wkS] at h) <;> (have h2 := h) <;> (try simp only [wkT, ne_eq] at h2) <;> (try simp only [h]))
    · rename_i hk
      have hs' : findL (l.take (i + 1)) k = findL (l.take i) k ++ [r] := by rw [hs, if_pos hk]
      refine hK (i + 1) _ _ (by omega) (by omega) (.cut [_] hW (by simp [FadeTo, hs', krsC_snoc, krC]) (by first | rfl | (simp [hs']; rfl) | simp [hs', krsC_snoc, krC]) (by simp [scs_cons, scs_nil, sc_fsl, sc_gsl, sc_int, sc_undef, scs_krs]) (by simp []))
    · rename_i hk
      have hs' : findL (l.take (i + 1)) k = findL (l.take i) k := by rw [hs, if_neg hk, List.append_nil]
      refine hK (i + 1) _ _ (by omega) (by omega) (.cut [] hW (by simp [FadeTo, hs']) (by first | rfl | (simp [hs']; rfl) | simp [hs']) (by simp [scs_cons, scs_nil, sc_fsl, sc_gsl, sc_int, sc_undef, scs_krs]) (by simp []))
  · have hge : ¬ (i : Int) < l.length := by omega
    repeat' first | simp -implicitDefEqProofs (maxSteps := 400000) (disch := first | with_reducible rfl | omega | (simp only [wkH] <;> omega) | decide) only [wkAll, wkL, popO, wantedP, binP, lenP, builtinP, if_pos, tf26, hge] | refine w_dec (fun _ => ?_) (fun _ => ?_) | refine w_eqc (fun _ => ?_) (fun _ => ?_) | refine w_neqc (fun _ => ?_) (fun _ => ?_) | refine w_nneqc (fun _ => ?_) (fun _ => ?_) | ((first | refine w_split (fun h => ?_) (fun h => ?_) | refine d_split (fun h => ?_) (fun h => ?_) | refine w_csplit (fun h => ?_) (fun h => ?_)) <;> (try simp only [wkS] at h) <;> (have h2 := h) <;> (try simp only [wkT, ne_eq] at h2) <;> (try simp only [h]))
    refine hQ (by first | exact .inr rfl | exact .inl rfl) (by first | exact trivial | exact marks1) (by first | (simp -implicitDefEqProofs (maxSteps := 400000) (disch := first | with_reducible rfl | omega | (simp only [wkH] <;> omega) | decide) only [wkL, resP, resPs, resP1]; rfl) | rfl) ⟨6, by repeat' first | exact frz_scalar rfl | apply frz_tuple | apply frz_agg | apply frz_fsl | apply frz_gsl (by omega) | exact frzs_nil | apply frzs_cons | exact frzs_scalars (krsC_ok _)⟩ (by first | exact keepsH0 | exact keeps1 (by assumption) | exact keepsH (fun _ _ h => h) (fun p hp => by simp only [upF]; (repeat rw [if_neg (by omega)])) | exact keeps1t (by assumption) (fun p hp => by simp only [upF]; (repeat rw [if_neg (by omega)])) | (subst hT; exact keepsH (fun _ _ h => h) fun _ _ => rfl)) (nw_eq ?_)
    rw [List.take_of_length_le h]

theorem keFind_ok (l : List KR) (k : Int) (hl : l.length < 2 ^ 40) : Fn (Cx w0) 42 [.fsl 3 l.length (krsC l), .int .i64 k] (.fsl 3 (findL l k).length (krsC (findL l k))) := by
  refine fn_H ([Go.ResultVar.tmp 4]) Tryz.func42 rfl rfl (by decide) fun ph hW Q hQ => ?_
  simp only [start, List.length_cons, List.length_nil, List.cons_append, List.nil_append, Nat.reduceAdd, Nat.reduceSub, List.replicate_succ, List.replicate_zero, Tryz.ntmps42]
  repeat' first | simp -implicitDefEqProofs (maxSteps := 400000) (disch := first | with_reducible rfl | omega | (simp only [wkH] <;> omega) | decide) only [wkAll, wkL, popO, wantedP, lenP, builtinP, tf26] | refine w_dec (fun _ => ?_) (fun _ => ?_) | refine w_eqc (fun _ => ?_) (fun _ => ?_) | refine w_neqc (fun _ => ?_) (fun _ => ?_) | refine w_nneqc (fun _ => ?_) (fun _ => ?_) | ((first | refine w_split (fun h => ?_) (fun h => ?_) | refine d_split (fun h => ?_) (fun h => ?_) | refine w_csplit (fun h => ?_) (fun h => ?_)) <;> (try simp only [wkS] at h) <;> (have h2 := h) <;> (try simp only [wkT, ne_eq] at h2) <;> (try simp only [h]))
  refine w_growL 3 46 [.undef, .int .i64 k, .undef, .undef, .undef, .gsl ph.n 3 0 [], .undef, .undef, .fsl 3 l.length (krsC l), .int .i64 l.length, .int .i64 0, .undef, .undef, .undef, .undef, .undef, .undef, .undef, .undef, .undef, .undef, .undef, .undef, .undef] [] (by simp) (by simp [NilL]) (by simp [NilB]) ?_
  refine w_loopH (α := Nat) ph ph.ob ph.ty (fun i => [.undef, .int .i64 k, .undef, .undef, .undef, .gsl ph.n 3 (findL (l.take i) k).length (krsC (findL (l.take i) k)), .undef, .undef, .fsl 3 l.length (krsC l), .int .i64 l.length, .int .i64 i, .undef, .undef, .undef, .undef, .undef, .undef, .undef, .undef, .undef, .undef, .undef, .undef, .undef]) (fun i => [some (.grow 3 (findL (l.take i) k).length 46)]) (fun i => i ≤ l.length) (fun i => l.length - i) 0 (by simp) (fun _ _ => by simp) (.eq (by simp [FadeTo, findL, krsC]) rfl) ?_
  intro i hi K hK
  rcases Nat.lt_or_ge i l.length with h | h
  · obtain ⟨r, hr⟩ := get_some h
    have hd := krsC_drop l i r hr
    have hlt : (i : Int) < l.length := by omega
    have hs := find_snoc k hr
    have hle := find_le l i k
    repeat' first | simp -implicitDefEqProofs (maxSteps := 400000) (disch := first | with_reducible rfl | omega | (simp only [wkH] <;> omega) | decide) only [wkAll, wkL, popO, wantedP, ne_eq, Nat.reduceAdd, Nat.reduceLeDiff, Nat.reduceLT, reduceCtorEq, binP, builtinP, srcP, indexAddrOp, loadOp, storeOp, loadP, fieldAddrOp, buildSliceP, fillP, setL, PK.agg, gt_iff_lt, Nat.reducePow, reps, seg, wkN, if_pos, if_neg, tf3, tf26, tf46, Tryz.ze46, hd, hlt, app_g] | refine w_dec (fun _ => ?_) (fun _ => ?_) | refine w_eqc (fun _ => ?_) (fun _ => ?_) | refine w_neqc (fun _ => ?_) (fun _ => ?_) | refine w_nneqc (fun _ => ?_) (fun _ => ?_) | ((first | refine w_split (fun h => ?_) (fun h => ?_) | refine d_split (fun h => ?_) (fun h => ?_) | refine w_csplit (fun h => ?_) (fun h => ?_)) <;> (try simp only [wkS] at h) <;> (have h2 := h) <;> (try simp only [wkT, ne_eq] at h2) <;> (try simp only [h]))
    · rename_i hk
      have hs' : findL (l.take (i + 1)) k = findL (l.take i) k ++ [r] := by rw [hs, if_pos hk]
      refine hK (i + 1) _ _ (by omega) (by omega) (.cut [_, _] hW (by simp [FadeTo, hs', krsC_snoc, krC]) (by first | rfl | (simp [hs']; rfl) | simp [hs', krsC_snoc, krC]) (by simp [scs_cons, scs_nil, sc_fsl, sc_gsl, sc_int, sc_undef, scs_krs]) (by simp []))
    · rename_i hk
      have hs' : findL (l.take (i + 1)) k = findL (l.take i) k := by rw [hs, if_neg hk, List.append_nil]
      refine hK (i + 1) _ _ (by omega) (by omega) (.cut [_] hW (by simp [FadeTo, hs']) (by first | rfl | (simp [hs']; rfl) | simp [hs']) (by simp [scs_cons, scs_nil, sc_fsl, sc_gsl, sc_int, sc_undef, scs_krs]) (by simp []))
  · have hge : ¬ (i : Int) < l.length := by omega
    repeat' first | simp -implicitDefEqProofs (maxSteps := 400000) (disch := first | with_reducible rfl | omega | (simp only [wkH] <;> omega) | decide) only [wkAll, wkL, popO, wantedP, binP, if_pos, hge] | refine w_dec (fun _ => ?_) (fun _ => ?_) | refine w_eqc (fun _ => ?_) (fun _ => ?_) | refine w_neqc (fun _ => ?_) (fun _ => ?_) | refine w_nneqc (fun _ => ?_) (fun _ => ?_) | ((first | refine w_split (fun h => ?_) (fun h => ?_) | refine d_split (fun h => ?_) (fun h => ?_) | refine w_csplit (fun h => ?_) (fun h => ?_)) <;> (try simp only [wkS] at h) <;> (have h2 := h) <;> (try simp only [wkT, ne_eq] at h2) <;> (try simp only [h]))
    refine hQ (by first | exact .inr rfl | exact .inl rfl) (by first | exact trivial | exact marks1) (by first | (simp -implicitDefEqProofs (maxSteps := 400000) (disch := first | with_reducible rfl | omega | (simp only [wkH] <;> omega) | decide) only [wkL, resP, resPs, resP1]; rfl) | rfl) ⟨6, by repeat' first | exact frz_scalar rfl | apply frz_tuple | apply frz_agg | apply frz_fsl | apply frz_gsl (by omega) | exact frzs_nil | apply frzs_cons | exact frzs_scalars (krsC_ok _)⟩ (by first | exact keepsH0 | exact keeps1 (by assumption) | exact keepsH (fun _ _ h => h) (fun p hp => by simp only [upF]; (repeat rw [if_neg (by omega)])) | exact keeps1t (by assumption) (fun p hp => by simp only [upF]; (repeat rw [if_neg (by omega)])) | (subst hT; exact keepsH (fun _ _ h => h) fun _ _ => rfl)) (nw_eq ?_)
    rw [List.take_of_length_le h]

theorem refUnknown_ok (l : List KR) (hl : l.length < 2 ^ 40) : Fn (Cx w0) 36 [.fsl 3 l.length (krsC l)] (.int .i64 (idxL unkR l)) := by
  refine fn_H ([Go.ResultVar.tmp 2]) Tryz.func36 rfl rfl (by decide) fun ph hW Q hQ => ?_
  simp only [start, List.length_cons, List.length_nil, List.cons_append, List.nil_append, Nat.reduceAdd, Nat.reduceSub, List.replicate_succ, List.replicate_zero, Tryz.ntmps36]
  repeat' first | simp -implicitDefEqProofs (maxSteps := 400000) (disch := first | with_reducible rfl | omega | (simp only [wkH] <;> omega) | decide) only [wkAll, wkL, popO, wantedP, Int.reduceNeg] | refine w_dec (fun _ => ?_) (fun _ => ?_) | refine w_eqc (fun _ => ?_) (fun _ => ?_) | refine w_neqc (fun _ => ?_) (fun _ => ?_) | refine w_nneqc (fun _ => ?_) (fun _ => ?_) | ((first | refine w_split (fun h => ?_) (fun h => ?_) | refine d_split (fun h => ?_) (fun h => ?_) | refine w_csplit (fun h => ?_) (fun h => ?_)) <;> (try simp only [wkS] at h) <;> (have h2 := h) <;> (try simp only [wkT, ne_eq] at h2) <;> (try simp only [h]))
  refine w_loopH (α := Nat) ph ph.ob ph.ty (fun i => [.fsl 3 l.length (krsC l), .undef, .undef, .int .i64 i, .undef, .undef, .undef, .undef, .undef, .undef, .undef, .undef, .undef, .undef, .undef, .undef, .undef, .undef, .undef, .undef, .undef, .undef, .undef, .undef, .undef, .undef, .undef, .undef, .undef, .undef, .undef, .undef]) (fun i => []) (fun i => i ≤ l.length ∧ (l.take i).any unkR = false) (fun i => l.length - i) 0 (by simp) (fun _ _ => by simp) (.eq (by simp [FadeTo]) rfl) ?_
  rintro i ⟨hi, hno⟩ K hK
  rcases Nat.lt_or_ge i l.length with h | h
  · obtain ⟨r, hr⟩ := get_some h
    have hd := krsC_drop l i r hr
    have hlt : (i : Int) < l.length := by omega
    repeat' first | simp -implicitDefEqProofs (maxSteps := 400000) (disch := first | with_reducible rfl | omega | (simp only [wkH] <;> omega) | decide) only [wkAll, wkL, popO, wantedP, Nat.reduceLeDiff, Int.reduceNeg, binP, lenP, builtinP, indexAddrOp, loadOp, loadP, fieldAddrOp, PK.agg, seg, wkN, if_pos, if_neg, tf3, tf4, tf26, tf46, hd, hlt] | refine w_dec (fun _ => ?_) (fun _ => ?_) | refine w_eqc (fun _ => ?_) (fun _ => ?_) | refine w_neqc (fun _ => ?_) (fun _ => ?_) | refine w_nneqc (fun _ => ?_) (fun _ => ?_) | ((first | refine w_split (fun h => ?_) (fun h => ?_) | refine d_split (fun h => ?_) (fun h => ?_) | refine w_csplit (fun h => ?_) (fun h => ?_)) <;> (try simp only [wkS] at h) <;> (have h2 := h) <;> (try simp only [wkT] at h2) <;> (try simp only [h]))
    ·
      refine hQ (by first | exact .inr rfl | exact .inl rfl) (by first | exact trivial | exact marks1) (by first | (simp -implicitDefEqProofs (maxSteps := 400000) (disch := first | with_reducible rfl | omega | (simp only [wkH] <;> omega) | decide) only [wkL, resP, resPs, resP1]; rfl) | rfl) ⟨6, by repeat' first | exact frz_scalar rfl | apply frz_tuple | apply frz_agg | apply frz_fsl | apply frz_gsl (by omega) | exact frzs_nil | apply frzs_cons⟩ (by first | exact keepsH0 | exact keeps1 (by assumption) | exact keepsH (fun _ _ h => h) (fun p hp => by simp only [upF]; (repeat rw [if_neg (by omega)])) | exact keeps1t (by assumption) (fun p hp => by simp only [upF]; (repeat rw [if_neg (by omega)])) | (subst hT; exact keepsH (fun _ _ h => h) fun _ _ => rfl)) (nw_eq ?_)
      rw [idxL_found hno hr (by simp [unkR, *] <;> omega)]
    · exact hK (i + 1) _ _ ⟨by omega, by rw [take_snoc hr]; simp [List.any_append, unkR, *] <;> omega⟩ (by omega) (.eq (by simp [FadeTo]) rfl)
    ·
      refine hQ (by first | exact .inr rfl | exact .inl rfl) (by first | exact trivial | exact marks1) (by first | (simp -implicitDefEqProofs (maxSteps := 400000) (disch := first | with_reducible rfl | omega | (simp only [wkH] <;> omega) | decide) only [wkL, resP, resPs, resP1]; rfl) | rfl) ⟨6, by repeat' first | exact frz_scalar rfl | apply frz_tuple | apply frz_agg | apply frz_fsl | apply frz_gsl (by omega) | exact frzs_nil | apply frzs_cons⟩ (by first | exact keepsH0 | exact keeps1 (by assumption) | exact keepsH (fun _ _ h => h) (fun p hp => by simp only [upF]; (repeat rw [if_neg (by omega)])) | exact keeps1t (by assumption) (fun p hp => by simp only [upF]; (repeat rw [if_neg (by omega)])) | (subst hT; exact keepsH (fun _ _ h => h) fun _ _ => rfl)) (nw_eq ?_)
      rw [idxL_found hno hr (by simp [unkR, *])]
    · exact hK (i + 1) _ _ ⟨by omega, by rw [take_snoc hr]; simp [List.any_append, unkR, *]⟩ (by omega) (.eq (by simp [FadeTo]) rfl)
  · have hge : ¬ (i : Int) < l.length := by omega
    repeat' first | simp -implicitDefEqProofs (maxSteps := 400000) (disch := first | with_reducible rfl | omega | (simp only [wkH] <;> omega) | decide) only [wkAll, wkL, popO, wantedP, Int.reduceNeg, binP, lenP, builtinP, if_pos, tf26, hge] | refine w_dec (fun _ => ?_) (fun _ => ?_) | refine w_eqc (fun _ => ?_) (fun _ => ?_) | refine w_neqc (fun _ => ?_) (fun _ => ?_) | refine w_nneqc (fun _ => ?_) (fun _ => ?_) | ((first | refine w_split (fun h => ?_) (fun h => ?_) | refine d_split (fun h => ?_) (fun h => ?_) | refine w_csplit (fun h => ?_) (fun h => ?_)) <;> (try simp only [wkS] at h) <;> (have h2 := h) <;> (try simp only [wkT, ne_eq] at h2) <;> (try simp only [h]))
    refine hQ (by first | exact .inr rfl | exact .inl rfl) (by first | exact trivial | exact marks1) (by first | (simp -implicitDefEqProofs (maxSteps := 400000) (disch := first | with_reducible rfl | omega | (simp only [wkH] <;> omega) | decide) only [wkL, Int.reduceNeg, resP, resPs, resP1]; rfl) | rfl) ⟨6, by repeat' first | exact frz_scalar rfl | apply frz_tuple | apply frz_agg | apply frz_fsl | apply frz_gsl (by omega) | exact frzs_nil | apply frzs_cons⟩ (by first | exact keepsH0 | exact keeps1 (by assumption) | exact keepsH (fun _ _ h => h) (fun p hp => by simp only [upF]; (repeat rw [if_neg (by omega)])) | exact keeps1t (by assumption) (fun p hp => by simp only [upF]; (repeat rw [if_neg (by omega)])) | (subst hT; exact keepsH (fun _ _ h => h) fun _ _ => rfl)) (nw_eq ?_)
    rw [List.take_of_length_le h] at hno
    rw [idxL_none hno]

theorem unk1_ok (r : KR) : Fn (Cx w0) 62 [.agg (krC r)] (.bool (unkR r)) := by
  refine fn_H ([Go.ResultVar.tmp 2]) Tryz.func62 rfl rfl (by decide) fun ph hW Q hQ => ?_
  simp only [start, List.length_cons, List.length_nil, List.cons_append, List.nil_append, Nat.reduceAdd, Nat.reduceSub, List.replicate_succ, List.replicate_zero, Tryz.ntmps62]
  repeat' first | simp -implicitDefEqProofs (maxSteps := 400000) (disch := first | with_reducible rfl | omega | (simp only [wkH] <;> omega) | decide) only [wkAll, wkL, popO, wantedP, Nat.reduceAdd, Nat.reduceLeDiff, binP, loadOp, loadP, fieldAddrOp, PK.agg, seg, if_pos, if_neg, tf3, tf4, tf46, krC] | refine w_dec (fun _ => ?_) (fun _ => ?_) | refine w_eqc (fun _ => ?_) (fun _ => ?_) | refine w_neqc (fun _ => ?_) (fun _ => ?_) | refine w_nneqc (fun _ => ?_) (fun _ => ?_) | ((first | refine w_split (fun h => ?_) (fun h => ?_) | refine d_split (fun h => ?_) (fun h => ?_) | refine w_csplit (fun h => ?_) (fun h => ?_)) <;> (try simp only [wkS] at h) <;> (have h2 := h) <;> (try simp only [wkT] at h2) <;> (try simp only [h]))
  all_goals
    refine hQ (by first | exact .inr rfl | exact .inl rfl) (by first | exact trivial | exact marks1) (by first | (simp -implicitDefEqProofs (maxSteps := 400000) (disch := first | with_reducible rfl | omega | (simp only [wkH] <;> omega) | decide) only [wkL, resP, resPs, resP1]; rfl) | rfl) ⟨6, by repeat' first | exact frz_scalar rfl | apply frz_tuple | apply frz_agg | apply frz_fsl | apply frz_gsl (by omega) | exact frzs_nil | apply frzs_cons⟩ (by first | exact keepsH0 | exact keeps1 (by assumption) | exact keepsH (fun _ _ h => h) (fun p hp => by simp only [upF]; (repeat rw [if_neg (by omega)])) | exact keeps1t (by assumption) (fun p hp => by simp only [upF]; (repeat rw [if_neg (by omega)])) | (subst hT; exact keepsH (fun _ _ h => h) fun _ _ => rfl)) (nw_eq ?_)
    simp [unkR, *]

theorem index_ok (p : KR → Bool) (g : FuncId) (hp : ∀ r, Fn (Cx w0) g [.agg (krC r)] (.bool (p r))) (l : List KR) (hl : l.length < 2 ^ 40) :
    Fn (Cx w0) 61 [.fsl 3 l.length (krsC l), .func g [] []] (.int .i64 (idxL p l)) := by
  refine fn_H ([Go.ResultVar.tmp 4]) Tryz.func61 rfl rfl (by decide) fun ph hW Q hQ => ?_
  simp only [start, List.length_cons, List.length_nil, List.cons_append, List.nil_append, Nat.reduceAdd, Nat.reduceSub, List.replicate_succ, List.replicate_zero, Tryz.ntmps61]
  repeat' first | simp -implicitDefEqProofs (maxSteps := 400000) (disch := first | with_reducible rfl | omega | (simp only [wkH] <;> omega) | decide) only [wkAll, wkL, popO, wantedP, Int.reduceNeg, lenP, builtinP, tf26] | refine w_dec (fun _ => ?_) (fun _ => ?_) | refine w_eqc (fun _ => ?_) (fun _ => ?_) | refine w_neqc (fun _ => ?_) (fun _ => ?_) | refine w_nneqc (fun _ => ?_) (fun _ => ?_) | ((first | refine w_split (fun h => ?_) (fun h => ?_) | refine d_split (fun h => ?_) (fun h => ?_) | refine w_csplit (fun h => ?_) (fun h => ?_)) <;> (try simp only [wkS] at h) <;> (have h2 := h) <;> (try simp only [wkT, ne_eq] at h2) <;> (try simp only [h]))
  refine w_loopH (α := Nat) ph ph.ob ph.ty (fun i => [.fsl 3 l.length (krsC l), .func g [] [], .undef, .undef, .undef, .undef, .undef, .int .i64 l.length, .int .i64 i, .undef, .undef, .undef, .undef, .undef, .undef, .undef, .undef, .undef, .undef]) (fun i => []) (fun i => i ≤ l.length ∧ (l.take i).any p = false) (fun i => l.length - i) 0 (by simp) (fun _ _ => by simp) (.eq (by simp [FadeTo]) rfl) ?_
  rintro i ⟨hi, hno⟩ K hK
  rcases Nat.lt_or_ge i l.length with h | h
  · obtain ⟨r, hr⟩ := get_some h
    have hd := krsC_drop l i r hr
    have hlt : (i : Int) < l.length := by omega
    repeat' first | simp -implicitDefEqProofs (maxSteps := 400000) (disch := first | with_reducible rfl | omega | (simp only [wkH] <;> omega) | decide) only [wkAll, wkL, popO, wantedP, Nat.reduceLeDiff, Int.reduceNeg, binP, indexAddrOp, loadOp, loadP, PK.agg, seg, if_pos, tf26, tf46, hd, hlt] | refine w_dec (fun _ => ?_) (fun _ => ?_) | refine w_eqc (fun _ => ?_) (fun _ => ?_) | refine w_neqc (fun _ => ?_) (fun _ => ?_) | refine w_nneqc (fun _ => ?_) (fun _ => ?_) | ((first | refine w_split (fun h => ?_) (fun h => ?_) | refine d_split (fun h => ?_) (fun h => ?_) | refine w_csplit (fun h => ?_) (fun h => ?_)) <;> (try simp only [wkS] at h) <;> (have h2 := h) <;> (try simp only [wkT, ne_eq] at h2) <;> (try simp only [h]))
    refine w_pure (hp r) ?_
    cases hpr : p r
    ·
      repeat' first | simp -implicitDefEqProofs (maxSteps := 400000) (disch := first | with_reducible rfl | omega | (simp only [wkH] <;> omega) | decide) only [wkAll, wkL, popO, wantedP, Int.reduceNeg, binP, wkN, if_pos] | refine w_dec (fun _ => ?_) (fun _ => ?_) | refine w_eqc (fun _ => ?_) (fun _ => ?_) | refine w_neqc (fun _ => ?_) (fun _ => ?_) | refine w_nneqc (fun _ => ?_) (fun _ => ?_) | ((first | refine w_split (fun h => ?_) (fun h => ?_) | refine d_split (fun h => ?_) (fun h => ?_) | refine w_csplit (fun h => ?_) (fun h => ?_)) <;> (try simp only [wkS] at h) <;> (have h2 := h) <;> (try simp only [wkT, ne_eq] at h2) <;> (try simp only [h]))
      exact hK (i + 1) _ _ ⟨by omega, by rw [take_snoc hr]; simp [List.any_append, hno, hpr]⟩ (by omega) (.eq (by simp [FadeTo]) rfl)
    ·
      repeat' first | simp -implicitDefEqProofs (maxSteps := 400000) (disch := first | with_reducible rfl | omega | (simp only [wkH] <;> omega) | decide) only [wkAll, wkL, popO, wantedP, Int.reduceNeg] | refine w_dec (fun _ => ?_) (fun _ => ?_) | refine w_eqc (fun _ => ?_) (fun _ => ?_) | refine w_neqc (fun _ => ?_) (fun _ => ?_) | refine w_nneqc (fun _ => ?_) (fun _ => ?_) | ((first | refine w_split (fun h => ?_) (fun h => ?_) | refine d_split (fun h => ?_) (fun h => ?_) | refine w_csplit (fun h => ?_) (fun h => ?_)) <;> (try simp only [wkS] at h) <;> (have h2 := h) <;> (try simp only [wkT, ne_eq] at h2) <;> (try simp only [h]))
      refine hQ (by first | exact .inr rfl | exact .inl rfl) (by first | exact trivial | exact marks1) (by first | (simp -implicitDefEqProofs (maxSteps := 400000) (disch := first | with_reducible rfl | omega | (simp only [wkH] <;> omega) | decide) only [wkL, resP, resPs, resP1]; rfl) | rfl) ⟨6, by repeat' first | exact frz_scalar rfl | apply frz_tuple | apply frz_agg | apply frz_fsl | apply frz_gsl (by omega) | exact frzs_nil | apply frzs_cons⟩ (by first | exact keepsH0 | exact keeps1 (by assumption) | exact keepsH (fun _ _ h => h) (fun p hp => by simp only [upF]; (repeat rw [if_neg (by omega)])) | exact keeps1t (by assumption) (fun p hp => by simp only [upF]; (repeat rw [if_neg (by omega)])) | (subst hT; exact keepsH (fun _ _ h => h) fun _ _ => rfl)) (nw_eq ?_)
      rw [idxL_found hno hr hpr]
  · have hge : ¬ (i : Int) < l.length := by omega
    repeat' first | simp -implicitDefEqProofs (maxSteps := 400000) (disch := first | with_reducible rfl | omega | (simp only [wkH] <;> omega) | decide) only [wkAll, wkL, popO, wantedP, Int.reduceNeg, binP, if_pos, hge] | refine w_dec (fun _ => ?_) (fun _ => ?_) | refine w_eqc (fun _ => ?_) (fun _ => ?_) | refine w_neqc (fun _ => ?_) (fun _ => ?_) | refine w_nneqc (fun _ => ?_) (fun _ => ?_) | ((first | refine w_split (fun h => ?_) (fun h => ?_) | refine d_split (fun h => ?_) (fun h => ?_) | refine w_csplit (fun h => ?_) (fun h => ?_)) <;> (try simp only [wkS] at h) <;> (have h2 := h) <;> (try simp only [wkT, ne_eq] at h2) <;> (try simp only [h]))
    refine hQ (by first | exact .inr rfl | exact .inl rfl) (by first | exact trivial | exact marks1) (by first | (simp -implicitDefEqProofs (maxSteps := 400000) (disch := first | with_reducible rfl | omega | (simp only [wkH] <;> omega) | decide) only [wkL, Int.reduceNeg, resP, resPs, resP1]; rfl) | rfl) ⟨6, by repeat' first | exact frz_scalar rfl | apply frz_tuple | apply frz_agg | apply frz_fsl | apply frz_gsl (by omega) | exact frzs_nil | apply frzs_cons⟩ (by first | exact keepsH0 | exact keeps1 (by assumption) | exact keepsH (fun _ _ h => h) (fun p hp => by simp only [upF]; (repeat rw [if_neg (by omega)])) | exact keeps1t (by assumption) (fun p hp => by simp only [upF]; (repeat rw [if_neg (by omega)])) | (subst hT; exact keepsH (fun _ _ h => h) fun _ _ => rfl)) (nw_eq ?_)
    rw [List.take_of_length_le h] at hno
    rw [idxL_none hno]

theorem keUnknown_ok (l : List KR) (hl : l.length < 2 ^ 40) : Fn (Cx w0) 31 [.fsl 3 l.length (krsC l)] (.int .i64 (idxL unkR l)) := by
  refine fn_H ([Go.ResultVar.tmp 2]) Tryz.func31 rfl rfl (by decide) fun ph hW Q hQ => ?_
  simp only [start, List.length_cons, List.length_nil, List.cons_append, List.nil_append, Nat.reduceAdd, Nat.reduceSub, List.replicate_succ, List.replicate_zero, Tryz.ntmps31]
  repeat' first | simp -implicitDefEqProofs (maxSteps := 400000) (disch := first | with_reducible rfl | omega | (simp only [wkH] <;> omega) | decide) only [wkAll, wkL, popO, wantedP] | refine w_dec (fun _ => ?_) (fun _ => ?_) | refine w_eqc (fun _ => ?_) (fun _ => ?_) | refine w_neqc (fun _ => ?_) (fun _ => ?_) | refine w_nneqc (fun _ => ?_) (fun _ => ?_) | ((first | refine w_split (fun h => ?_) (fun h => ?_) | refine d_split (fun h => ?_) (fun h => ?_) | refine w_csplit (fun h => ?_) (fun h => ?_)) <;> (try simp only [wkS] at h) <;> (have h2 := h) <;> (try simp only [wkT, ne_eq] at h2) <;> (try simp only [h]))
  refine w_pure (index_ok unkR _ unk1_ok l hl) ?_
  repeat' first | simp -implicitDefEqProofs (maxSteps := 400000) (disch := first | with_reducible rfl | omega | (simp only [wkH] <;> omega) | decide) only [wkAll, wkL, popO, wantedP] | refine w_dec (fun _ => ?_) (fun _ => ?_) | refine w_eqc (fun _ => ?_) (fun _ => ?_) | refine w_neqc (fun _ => ?_) (fun _ => ?_) | refine w_nneqc (fun _ => ?_) (fun _ => ?_) | ((first | refine w_split (fun h => ?_) (fun h => ?_) | refine d_split (fun h => ?_) (fun h => ?_) | refine w_csplit (fun h => ?_) (fun h => ?_)) <;> (try simp only [wkS] at h) <;> (have h2 := h) <;> (try simp only [wkT, ne_eq] at h2) <;> (try simp only [h]))
  refine hQ (by first | exact .inr rfl | exact .inl rfl) (by first | exact trivial | exact marks1) (by first | (simp -implicitDefEqProofs (maxSteps := 400000) (disch := first | with_reducible rfl | omega | (simp only [wkH] <;> omega) | decide) only [wkL, resP, resPs, resP1]; rfl) | rfl) ⟨6, by repeat' first | exact frz_scalar rfl | apply frz_tuple | apply frz_agg | apply frz_fsl | apply frz_gsl (by omega) | exact frzs_nil | apply frzs_cons⟩ (by first | exact keepsH0 | exact keeps1 (by assumption) | exact keepsH (fun _ _ h => h) (fun p hp => by simp only [upF]; (repeat rw [if_neg (by omega)])) | exact keeps1t (by assumption) (fun p hp => by simp only [upF]; (repeat rw [if_neg (by omega)])) | (subst hT; exact keepsH (fun _ _ h => h) fun _ _ => rfl)) (nw_eq ?_)
  rfl
end Pv

namespace Pv
set_option maxRecDepth 20000
open Go Go.Proofs Go.RowKit
variable {w0 : World}

/-- Records, one after another, up to the end's: from a place on. -/
def readG (s : List UInt8) : Nat → Nat → List KR × Nat × Int
  | 0, _ => ([], 0, 12)
  | f + 1, a =>
    if (oneT a (s.drop a)).2 ≠ 0 then ([], 0, (oneT a (s.drop a)).2)
    else if (oneT a (s.drop a)).1.k = 0 then ([(oneT a (s.drop a)).1], a + 4 + (oneT a (s.drop a)).1.b.length, 0)
    else if (readG s f (a + 4 + (oneT a (s.drop a)).1.b.length)).2.2 ≠ 0 then ([], 0, (readG s f (a + 4 + (oneT a (s.drop a)).1.b.length)).2.2)
    else ((oneT a (s.drop a)).1 :: (readG s f (a + 4 + (oneT a (s.drop a)).1.b.length)).1, (readG s f (a + 4 + (oneT a (s.drop a)).1.b.length)).2.1, 0)
def fuelK : Nat := 600
def readL (s : List UInt8) : List KR × List UInt8 × Int := let x := readG s fuelK 0; (x.1, if x.2.2 = 0 then s.drop x.2.1 else [], x.2.2)

/-- What is behind a record that was read. -/
theorem oneT_le {a : Nat} {s : List UInt8} (h : (oneT a s).2 = 0) : 4 + (oneT a s).1.b.length ≤ s.length ∧ a + 4 + (oneT a s).1.b.length ≤ 2048 := by
  unfold oneT at h ⊢
  split
  · simp only at h ⊢
    repeat' (split at h)
    all_goals first
      | (simp at h; done)
      | (rename_i h1 h2 h3
         rw [if_neg h1, if_neg h2, if_neg h3]
         simp only [List.length_cons, List.length_take]; omega)
  · simp at h

/-- A walk through a text. -/
inductive Walk (s : List UInt8) : Nat → List KR → Prop
  | nil : Walk s 0 []
  | snoc {a : Nat} {l : List KR} (h : Walk s a l) (h1 : (oneT a (s.drop a)).2 = 0) (h2 : (oneT a (s.drop a)).1.k ≠ 0) : Walk s (a + 4 + (oneT a (s.drop a)).1.b.length) (l ++ [(oneT a (s.drop a)).1])

theorem Walk.le {s : List UInt8} {a : Nat} {l : List KR} (h : Walk s a l) : a ≤ s.length ∧ a ≤ 2048 ∧ 4 * l.length ≤ a := by
  induction h with
  | nil => simp
  | snoc h h1 h2 ih =>
    have := oneT_le h1
    rw [List.length_drop] at this
    simp only [List.length_append, List.length_cons, List.length_nil]; omega

theorem Walk.read {s : List UInt8} {a : Nat} {l : List KR} (h : Walk s a l) : ∃ f, f + l.length = fuelK ∧ 0 < f ∧ readG s fuelK 0 = (if (readG s f a).2.2 ≠ 0 then ([], 0, (readG s f a).2.2) else (l ++ (readG s f a).1, (readG s f a).2.1, 0)) := by
  induction h with
  | nil =>
    refine ⟨fuelK, rfl, by decide, ?_⟩
    have key : ∀ f a, (readG s f a).2.2 ≠ 0 → readG s f a = ([], 0, (readG s f a).2.2) := by
      intro f
      cases f with
      | zero => intro a _; rfl
      | succ f =>
        intro a h
        simp only [readG] at h ⊢
        repeat' split at h
        all_goals first
          | (simp at h; done)
          | (rename_i h1; rw [if_pos h1]; done)
          | (rename_i h1 h2 h3; rw [if_neg h1, if_neg h2, if_pos h3]; done)
          | (rename_i h1 h2 h3; simp at h)
    have key2 : ∀ f a, (readG s f a).2.2 = 0 → readG s f a = ((readG s f a).1, (readG s f a).2.1, 0) := by
      intro f a h; rw [← h]
    split
    · rename_i h; exact key _ _ h
    · rename_i h; rw [List.nil_append]; exact key2 _ _ (Decidable.of_not_not h)
  | snoc h h1 h2 ih =>
    obtain ⟨f, e1, e2, e3⟩ := ih
    have hl := (Walk.snoc h h1 h2).le
    simp only [List.length_append, List.length_cons, List.length_nil] at hl ⊢
    have hf : fuelK = 600 := rfl
    obtain ⟨g, rfl⟩ : ∃ g, f = g + 1 := ⟨f - 1, by omega⟩
    refine ⟨g, by omega, by omega, ?_⟩
    rw [e3]
    simp only [readG, if_neg (show ¬ (oneT _ (s.drop _)).2 ≠ 0 by simpa using h1), if_neg h2]
    split
    · rename_i h5; simp
    · rename_i h5; simp

theorem Walk.err {s : List UInt8} {a : Nat} {l : List KR} (h : Walk s a l) (e : (oneT a (s.drop a)).2 ≠ 0) : readL s = ([], [], (oneT a (s.drop a)).2) := by
  obtain ⟨f, e1, e2, e3⟩ := h.read
  obtain ⟨g, rfl⟩ : ∃ g, f = g + 1 := ⟨f - 1, by omega⟩
  simp only [readG, if_pos e] at e3
  simp only [readL, e3, if_neg e]
theorem Walk.fin {s : List UInt8} {a : Nat} {l : List KR} (h : Walk s a l) (h1 : (oneT a (s.drop a)).2 = 0) (h2 : (oneT a (s.drop a)).1.k = 0) : readL s = (l ++ [(oneT a (s.drop a)).1], s.drop (a + 4 + (oneT a (s.drop a)).1.b.length), 0) := by
  obtain ⟨f, e1, e2, e3⟩ := h.read
  obtain ⟨g, rfl⟩ : ∃ g, f = g + 1 := ⟨f - 1, by omega⟩
  simp only [readG, if_neg (show ¬ (oneT a (s.drop a)).2 ≠ 0 by simpa using h1), if_pos h2] at e3
  simp [readL, e3]

end Pv

namespace Pv
set_option maxRecDepth 20000
open Go Go.Proofs Go.RowKit
variable {w0 : World}

end Pv
