/- Part of the proof: the layer of pure values, or walks through functions (PvAe10). -/
import Derived.Test.YtefgmekiaelcmacPvAe9
set_option linter.all false
namespace Pv
set_option maxRecDepth 20000
set_option maxHeartbeats 4000000
open Go Go.Proofs Go.RowKit
variable {w0 : World}

theorem decrypt8_ok (ph : PH) (q : Nat) (key b : List UInt8) (bo : Bool) (hk : goodK key) (hb : b.length = 16) (h : ph.get q = some (ciC key bo)) :
    Eff (Cx w0) 30 [.ptr q 0, .agg (bytesPV b)] ph (.agg (bytesPV (decB (wordsL key) b))) (ph.put q (ciC key true)) := by
  have hq := PH.get_lt h
  refine eff_of ([Go.ResultVar.cell 4 49]) Try.func30 rfl rfl (by decide) (PH.n_put ..) (fun hW => hW.put hq ciC_scs) fun hW Q hQ => ?_
  simp only [start, List.length_cons, List.length_nil, List.cons_append, List.nil_append, Nat.reduceAdd, Nat.reduceSub, List.replicate_succ, List.replicate_zero, Try.ntmps30]
  obtain ⟨D, hD⟩ : ∃ D, D = ph.put q (ciC key true) := ⟨_, rfl⟩
  have hDn : D.n = ph.n := by rw [hD]; exact PH.n_put ..
  have hDq : D.get q = some (ciC key true) := by rw [hD]; exact get_putS _ hq
  have hDw : WF D := hD ▸ hW.put hq ciC_scs
  have hDob : D.ob = ph.ob := by rw [hD]; rfl
  have hDty : D.ty = ph.ty := by rw [hD]; rfl
  have hqD : q < D.n := by omega
  have rd : ∀ L : List (Option Blk), Eff (Cx w0) 28 [.ptr q 0] (H ph L ph.ob ph.ty) (.tuple []) (H D L D.ob D.ty) := fun L => by
    have := ready8_ok (w0 := w0) (H ph L ph.ob ph.ty) q key bo hk (by rw [h_getlt hq]; exact h)
    rw [h_putlt hq, ← hD] at this
    rw [hDob, hDty]; exact this
  obtain ⟨w, hw⟩ : ∃ w, w = wordsL key := ⟨_, rfl⟩
  obtain ⟨n, hn⟩ : ∃ n, n = key.length / 4 + 6 := ⟨_, rfl⟩
  have hwl : w.length = 16 * (n + 1) := by rw [hw, words_len hk, hn]
  have hcr : (ciC key true)[4612]? = some (.fsl 16 (n + 1) (bytesPV w)) := by rw [ci_r, ← hw, hn]
  have hdec : decB (wordsL key) b = xorB (decS w n b n) (rkL w 0) := by
    rw [← hw, decB_eq, hwl, show 16 * (n + 1) / 16 - 1 = n by omega]
  have hn1 : 10 ≤ n := by rcases hk with e | e <;> omega
  have hn2 : n ≤ 14 := by rcases hk with e | e <;> omega
  rw [← hD] at hQ
  rw [hdec] at hQ
  have n1 : ((n + 1 : Nat) : Int) - 1 = (n : Int) := by omega
  repeat' first
    | simp -implicitDefEqProofs (maxSteps := 400000) (disch := first | with_reducible rfl | omega | (simp only [h_n, PH.n_push, PH.n_put, List.length_cons, List.length_nil] <;> omega) | decide) only [wkAll, wkL, popO, wantedP, if_true, if_false, reduceIte, ne_eq, Nat.reduceAdd, Nat.reduceSub, Nat.reduceMul, Nat.reduceLeDiff, Nat.reduceLT, ofCells, ofCell, reduceCtorEq, Int.reduceLE, Int.reduceLT, Int.reduceToNat, Int.reduceAdd, Int.reduceSub, Int.reduceMul, Int.reduceNeg, Int.reduceBEq, Int.reduceBNe, Int.reduceEq, eqCell, eqCells, binP, unP, convP, lenP, builtinP, sliceDataP, unsafeStringP, appendT, appendS, appendP, copyP, srcP, mmsP, mmP, indexOp, indexAddrOp, sliceOp, bndsP, bndP, capw, capCut, loadOp, storeOp, loadP, fieldOp, fieldAddrOp, arrayAtOp, buildP, buildSliceP, makeSliceP, placeF, fillP, setL, PK.agg, isZero, gt_iff_lt, Nat.reducePow, Nat.reduceGT, reps, seg, wkN, if_pos, if_neg, tf3, Try.ze3, tf5, Try.ze5, tf9, Try.ze9, tf21, Try.ze21, tf45, Try.ze45, tf49, Try.ze49, tf57, Try.ze57, tf59, Try.ze59, tf61, Try.ze61, tf63, Try.ze63, tf65, Try.ze65, tf66, Try.ze66, tf67, Try.ze67, tf68, Try.ze68, tf70, Try.ze70, tf80, Try.ze80, tf83, Try.ze83, tf84, Try.ze84, bytesPV_cok]
    | refine w_eff (rd _) ?_
    | refine w_dec (fun _ => ?_) (fun _ => ?_)
    | refine w_eqc (fun _ => ?_) (fun _ => ?_)
    | refine w_neqc (fun _ => ?_) (fun _ => ?_)
    | refine w_nneqc (fun _ => ?_) (fun _ => ?_)
    | ((first | refine w_split (fun h => ?_) (fun h => ?_) | refine d_split (fun h => ?_) (fun h => ?_) | refine w_csplit (fun h => ?_) (fun h => ?_)) <;> (try simp only [wkS] at h) <;> (have h2 := h) <;> (try simp only [wkT, ne_eq] at h2) <;> (try simp only [h]))
  rw [← hDn]
  repeat' first
    | simp -implicitDefEqProofs (maxSteps := 400000) (disch := first | with_reducible rfl | omega | (simp only [h_n, PH.n_push, PH.n_put, List.length_cons, List.length_nil] <;> omega) | decide) only [wkAll, wkL, popO, wantedP, if_true, if_false, reduceIte, ne_eq, Nat.reduceAdd, Nat.reduceSub, Nat.reduceMul, Nat.reduceLeDiff, Nat.reduceLT, ofCells, ofCell, reduceCtorEq, Int.reduceLE, Int.reduceLT, Int.reduceToNat, Int.reduceAdd, Int.reduceSub, Int.reduceMul, Int.reduceNeg, Int.reduceBEq, Int.reduceBNe, Int.reduceEq, eqCell, eqCells, binP, unP, convP, lenP, builtinP, sliceDataP, unsafeStringP, appendT, appendS, appendP, copyP, srcP, mmsP, mmP, indexOp, indexAddrOp, sliceOp, bndsP, bndP, capw, capCut, loadOp, storeOp, loadP, fieldOp, fieldAddrOp, arrayAtOp, buildP, buildSliceP, makeSliceP, placeF, fillP, setL, PK.agg, isZero, gt_iff_lt, Nat.reducePow, Nat.reduceGT, reps, seg, wkN, if_pos, if_neg, tf3, Try.ze3, tf5, Try.ze5, tf9, Try.ze9, tf21, Try.ze21, tf45, Try.ze45, tf49, Try.ze49, tf57, Try.ze57, tf59, Try.ze59, tf61, Try.ze61, tf63, Try.ze63, tf65, Try.ze65, tf66, Try.ze66, tf67, Try.ze67, tf68, Try.ze68, tf70, Try.ze70, tf80, Try.ze80, tf83, Try.ze83, tf84, Try.ze84, h_getlt hqD, hDq, hcr, n1]
    | refine w_dec (fun _ => ?_) (fun _ => ?_)
    | refine w_eqc (fun _ => ?_) (fun _ => ?_)
    | refine w_neqc (fun _ => ?_) (fun _ => ?_)
    | refine w_nneqc (fun _ => ?_) (fun _ => ?_)
    | ((first | refine w_split (fun h => ?_) (fun h => ?_) | refine d_split (fun h => ?_) (fun h => ?_) | refine w_csplit (fun h => ?_) (fun h => ?_)) <;> (try simp only [wkS] at h) <;> (have h2 := h) <;> (try simp only [wkT, ne_eq] at h2) <;> (try simp only [h]))
  have hW := hDw
  have z16 : bytesPV (List.replicate 16 0) = [.int .u8 0, .int .u8 0, .int .u8 0, .int .u8 0, .int .u8 0, .int .u8 0, .int .u8 0, .int .u8 0, .int .u8 0, .int .u8 0, .int .u8 0, .int .u8 0, .int .u8 0, .int .u8 0, .int .u8 0, .int .u8 0] := rfl
  obtain ⟨Z, hZ⟩ : ∃ Z, Z = bytesPV (List.replicate 16 0) := ⟨_, rfl⟩
  have hZs : ∀ m, Scs m Z := fun m => hZ ▸ scs_b16 _
  have hZl : Z.length = 16 := by rw [hZ, bytesPV_len]; rfl
  rw [← z16, ← hZ]
  refine w_loopH (α := Nat) D D.ob D.ty (fun j => [.ptr q 0, .undef, .undef, .ptr D.n 0, .ptr (D.n + 1) 0, .int .i64 ((n - j : Nat) : Int), .undef, .undef, .undef, .undef, .undef, .undef, .undef, .undef, .undef, .undef, .undef, .undef, .undef, .undef, .undef, .undef, .undef, .undef, .undef, .undef, .undef, .undef, .undef, .undef, .undef, .undef, .undef, .undef, .undef, .undef, .undef, .undef, .undef, .undef, .undef, .undef, .undef, .undef, .undef, .undef, .undef, .undef, .undef, .undef]) (fun j => [some (.own (bytesPV (decS w n b j))), some (.own Z)]) (fun j => j ≤ n) (fun j => n - j) 0 (by simp) (fun _ _ => by simp) (.eq (by simp [FadeTo]) rfl) ?_
  intro j hj K hK
  rcases Nat.lt_or_ge j n with hlt | hge
  · have hlt' : (0 : Int) < ((n - j : Nat) : Int) := by omega
    have hds := decS_len (w := w) (n := n) hb j (by omega)
    obtain ⟨e, he⟩ : ∃ e, e = decS w n b j := ⟨_, rfl⟩
    obtain ⟨i, hi⟩ : ∃ i, i = n - j := ⟨_, rfl⟩
    obtain ⟨k, hkk⟩ : ∃ k, k = rkL w i := ⟨_, rfl⟩
    have hkl : k.length = 16 := by rw [hkk]; exact rk_len (by omega)
    have hnx : decS w n b (j + 1) = (backS (if i < n then mixL mD (xorB e k) else xorB e k)).map ibox := by rw [he, hkk, hi]; rfl
    have hxl : (xorB e k).length = 16 := by rw [xorB_len, he, hds, hkl]; rfl
    rw [← he] at hds ⊢
    rw [← hi] at hlt' ⊢
    have k1 : (List.drop (i * 16) (bytesPV w)).take 16 = bytesPV k := by rw [rk_cells, hkk]
    have k2 : 16 ≤ (List.drop (i * 16) (bytesPV w)).length := by rw [List.length_drop, bytesPV_len]; omega
    have k3 : (i : Int) < ((n + 1 : Nat) : Int) := by omega
    have k4 : (i : Int) - 1 = ((n - (j + 1) : Nat) : Int) := by omega
    by_cases hc : i < n
    · rw [if_pos hc] at hnx
      have k5 : (i : Int) < (n : Int) := by omega
      repeat' first
        | simp -implicitDefEqProofs (maxSteps := 400000) (disch := first | with_reducible rfl | omega | (simp only [h_n, PH.n_push, PH.n_put, List.length_cons, List.length_nil] <;> omega) | decide) only [wkAll, wkL, popO, wantedP, if_true, if_false, reduceIte, ne_eq, Nat.reduceAdd, Nat.reduceSub, Nat.reduceMul, Nat.reduceLeDiff, Nat.reduceLT, ofCells, ofCell, reduceCtorEq, Int.reduceLE, Int.reduceLT, Int.reduceToNat, Int.reduceAdd, Int.reduceSub, Int.reduceMul, Int.reduceNeg, Int.reduceBEq, Int.reduceBNe, Int.reduceEq, eqCell, eqCells, binP, unP, convP, lenP, builtinP, sliceDataP, unsafeStringP, appendT, appendS, appendP, copyP, srcP, mmsP, mmP, indexOp, indexAddrOp, sliceOp, bndsP, bndP, capw, capCut, loadOp, storeOp, loadP, fieldOp, fieldAddrOp, arrayAtOp, buildP, buildSliceP, makeSliceP, placeF, fillP, setL, PK.agg, isZero, gt_iff_lt, Nat.reducePow, Nat.reduceGT, reps, seg, wkN, if_pos, if_neg, tf3, Try.ze3, tf5, Try.ze5, tf9, Try.ze9, tf21, Try.ze21, tf45, Try.ze45, tf49, Try.ze49, tf57, Try.ze57, tf59, Try.ze59, tf61, Try.ze61, tf63, Try.ze63, tf65, Try.ze65, tf66, Try.ze66, tf67, Try.ze67, tf68, Try.ze68, tf70, Try.ze70, tf80, Try.ze80, tf83, Try.ze83, tf84, Try.ze84, gt_iff_lt, hlt', k1, k2, k3, k4, k5, n1, hwl, h_getlt hqD, hDq, hcr]
        | refine w_eff (plus8_ok _ _ e k hds hkl (by rw [h_get0]; rfl)) ?_
        | refine w_eff (mixD_ok _ _ _ (xorB e k) key hxl (by rw [h_get0]; rfl) (by rw [h_getlt hqD]; exact hDq) (by omega)) ?_
        | refine w_eff (turnE_ok _ _ (-4) (mixL mD (xorB e k)) _ (.inr ⟨rfl, rfl⟩) (mix_len _ _) (by rw [h_get0]; rfl)) ?_
        | refine w_eff (backB_ok _ _ _ (backS (mixL mD (xorB e k))) key (backS_len _) (by rw [h_get0]; rfl) (by rw [h_getlt hqD]; exact hDq) (by omega)) ?_
        | refine w_dec (fun _ => ?_) (fun _ => ?_)
        | refine w_eqc (fun _ => ?_) (fun _ => ?_)
        | refine w_neqc (fun _ => ?_) (fun _ => ?_)
        | refine w_nneqc (fun _ => ?_) (fun _ => ?_)
        | ((first | refine w_split (fun h => ?_) (fun h => ?_) | refine d_split (fun h => ?_) (fun h => ?_) | refine w_csplit (fun h => ?_) (fun h => ?_)) <;> (try simp only [wkS] at h) <;> (have h2 := h) <;> (try simp only [wkT, ne_eq] at h2) <;> (try simp only [h]))
      refine hK (j + 1) _ _ (by omega) (by omega) (.eq (by simp [FadeTo]) (by rw [hnx]))
    · rw [if_neg hc] at hnx
      have k5 : ¬ (i : Int) < (n : Int) := by omega
      repeat' first
        | simp -implicitDefEqProofs (maxSteps := 400000) (disch := first | with_reducible rfl | omega | (simp only [h_n, PH.n_push, PH.n_put, List.length_cons, List.length_nil] <;> omega) | decide) only [wkAll, wkL, popO, wantedP, if_true, if_false, reduceIte, ne_eq, Nat.reduceAdd, Nat.reduceSub, Nat.reduceMul, Nat.reduceLeDiff, Nat.reduceLT, ofCells, ofCell, reduceCtorEq, Int.reduceLE, Int.reduceLT, Int.reduceToNat, Int.reduceAdd, Int.reduceSub, Int.reduceMul, Int.reduceNeg, Int.reduceBEq, Int.reduceBNe, Int.reduceEq, eqCell, eqCells, binP, unP, convP, lenP, builtinP, sliceDataP, unsafeStringP, appendT, appendS, appendP, copyP, srcP, mmsP, mmP, indexOp, indexAddrOp, sliceOp, bndsP, bndP, capw, capCut, loadOp, storeOp, loadP, fieldOp, fieldAddrOp, arrayAtOp, buildP, buildSliceP, makeSliceP, placeF, fillP, setL, PK.agg, isZero, gt_iff_lt, Nat.reducePow, Nat.reduceGT, reps, seg, wkN, if_pos, if_neg, tf3, Try.ze3, tf5, Try.ze5, tf9, Try.ze9, tf21, Try.ze21, tf45, Try.ze45, tf49, Try.ze49, tf57, Try.ze57, tf59, Try.ze59, tf61, Try.ze61, tf63, Try.ze63, tf65, Try.ze65, tf66, Try.ze66, tf67, Try.ze67, tf68, Try.ze68, tf70, Try.ze70, tf80, Try.ze80, tf83, Try.ze83, tf84, Try.ze84, gt_iff_lt, hlt', k1, k2, k3, k4, k5, n1, hwl, h_getlt hqD, hDq, hcr]
        | refine w_eff (plus8_ok _ _ e k hds hkl (by rw [h_get0]; rfl)) ?_
        | refine w_eff (turnE_ok _ _ (-4) (xorB e k) _ (.inr ⟨rfl, rfl⟩) hxl (by rw [h_get0]; rfl)) ?_
        | refine w_eff (backB_ok _ _ _ (backS (xorB e k)) key (backS_len _) (by rw [h_get0]; rfl) (by rw [h_getlt hqD]; exact hDq) (by omega)) ?_
        | refine w_dec (fun _ => ?_) (fun _ => ?_)
        | refine w_eqc (fun _ => ?_) (fun _ => ?_)
        | refine w_neqc (fun _ => ?_) (fun _ => ?_)
        | refine w_nneqc (fun _ => ?_) (fun _ => ?_)
        | ((first | refine w_split (fun h => ?_) (fun h => ?_) | refine d_split (fun h => ?_) (fun h => ?_) | refine w_csplit (fun h => ?_) (fun h => ?_)) <;> (try simp only [wkS] at h) <;> (have h2 := h) <;> (try simp only [wkT, ne_eq] at h2) <;> (try simp only [h]))
      refine hK (j + 1) _ _ (by omega) (by omega) (.eq (by simp [FadeTo]) (by rw [hnx]))
  · have : n = j := by omega
    subst this
    have hge' : ¬ (0 : Int) < ((n - n : Nat) : Int) := by omega
    have hds := decS_len (w := w) (n := n) hb n (by omega)
    obtain ⟨e, he⟩ : ∃ e, e = decS w n b n := ⟨_, rfl⟩
    have hr0 : (rkL w 0).length = 16 := rk_len (by omega)
    have r0 : List.take 16 (bytesPV w) = bytesPV (rkL w 0) := rk_cells w 0
    rw [← he] at hQ hds ⊢
    obtain ⟨u, hu⟩ : ∃ u, u = xorB e (rkL w 0) := ⟨_, rfl⟩
    have hul : u.length = 16 := by rw [hu, xorB_len, hds, hr0]; rfl
    have pl := fun p hh => plus8_ok (w0 := w0) p D.n e (rkL w 0) hds hr0 hh
    rw [← hu] at pl hQ
    have k4 : List.take 16 (bytesPV u) = bytesPV u := List.take_of_length_le (by rw [bytesPV_len]; omega)
    have k3 : ∀ c : List PV, c.length = 16 → setL c 0 (bytesPV u) = bytesPV u := fun c hc => setL_all _ _ (by rw [hc, bytesPV_len, hul])
    repeat' first
      | simp -implicitDefEqProofs (maxSteps := 400000) (disch := first | with_reducible rfl | omega | (simp only [h_n, PH.n_push, PH.n_put, List.length_cons, List.length_nil] <;> omega) | decide) only [wkAll, wkL, popO, wantedP, if_true, if_false, reduceIte, ne_eq, Nat.reduceAdd, Nat.reduceSub, Nat.reduceMul, Nat.reduceLeDiff, Nat.reduceLT, ofCells, ofCell, reduceCtorEq, Int.reduceLE, Int.reduceLT, Int.reduceToNat, Int.reduceAdd, Int.reduceSub, Int.reduceMul, Int.reduceNeg, Int.reduceBEq, Int.reduceBNe, Int.reduceEq, eqCell, eqCells, binP, unP, convP, lenP, builtinP, sliceDataP, unsafeStringP, appendT, appendS, appendP, copyP, srcP, mmsP, mmP, indexOp, indexAddrOp, sliceOp, bndsP, bndP, capw, capCut, loadOp, storeOp, loadP, fieldOp, fieldAddrOp, arrayAtOp, buildP, buildSliceP, makeSliceP, placeF, fillP, setL, PK.agg, isZero, gt_iff_lt, Nat.reducePow, Nat.reduceGT, reps, seg, wkN, if_pos, if_neg, tf3, Try.ze3, tf5, Try.ze5, tf9, Try.ze9, tf21, Try.ze21, tf45, Try.ze45, tf49, Try.ze49, tf57, Try.ze57, tf59, Try.ze59, tf61, Try.ze61, tf63, Try.ze63, tf65, Try.ze65, tf66, Try.ze66, tf67, Try.ze67, tf68, Try.ze68, tf70, Try.ze70, tf80, Try.ze80, tf83, Try.ze83, tf84, Try.ze84, gt_iff_lt, hge', r0, hwl, h_getlt hqD, hDq, hcr, k3, k4, hul, hZl, bytesPV_cok]
      | refine w_eff (pl _ (by rw [h_get0]; rfl)) ?_
      | refine w_dec (fun _ => ?_) (fun _ => ?_)
      | refine w_eqc (fun _ => ?_) (fun _ => ?_)
      | refine w_neqc (fun _ => ?_) (fun _ => ?_)
      | refine w_nneqc (fun _ => ?_) (fun _ => ?_)
      | ((first | refine w_split (fun h => ?_) (fun h => ?_) | refine d_split (fun h => ?_) (fun h => ?_) | refine w_csplit (fun h => ?_) (fun h => ?_)) <;> (try simp only [wkS] at h) <;> (have h2 := h) <;> (try simp only [wkT, ne_eq] at h2) <;> (try simp only [h]))
    refine hQ (by first | exact .inr rfl | exact .inl rfl) (by first | exact trivial | exact marks1) (by first | (simp -implicitDefEqProofs (maxSteps := 400000) (disch := first | with_reducible rfl | omega | (simp only [h_n, PH.n_push, PH.n_put, List.length_cons, List.length_nil] <;> omega) | decide) only [wkAll, wkL, popO, wantedP, if_true, if_false, reduceIte, ne_eq, Nat.reduceAdd, Nat.reduceSub, Nat.reduceMul, Nat.reduceLeDiff, Nat.reduceLT, ofCells, ofCell, reduceCtorEq, Int.reduceLE, Int.reduceLT, Int.reduceToNat, Int.reduceAdd, Int.reduceSub, Int.reduceMul, Int.reduceNeg, Int.reduceBEq, Int.reduceBNe, Int.reduceEq, eqCell, eqCells, binP, unP, convP, lenP, builtinP, sliceDataP, unsafeStringP, appendT, appendS, appendP, copyP, srcP, mmsP, mmP, indexOp, indexAddrOp, sliceOp, bndsP, bndP, capw, capCut, loadOp, storeOp, loadP, fieldOp, fieldAddrOp, arrayAtOp, buildP, buildSliceP, makeSliceP, placeF, fillP, setL, PK.agg, isZero, gt_iff_lt, Nat.reducePow, Nat.reduceGT, reps, seg, wkN, if_pos, if_neg, tf3, Try.ze3, tf5, Try.ze5, tf9, Try.ze9, tf21, Try.ze21, tf45, Try.ze45, tf49, Try.ze49, tf57, Try.ze57, tf59, Try.ze59, tf61, Try.ze61, tf63, Try.ze63, tf65, Try.ze65, tf66, Try.ze66, tf67, Try.ze67, tf68, Try.ze68, tf70, Try.ze70, tf80, Try.ze80, tf83, Try.ze83, tf84, Try.ze84, resP, resPs, resP1, k4]; rfl) | rfl) ⟨6, by repeat' first | exact frz_scalar rfl | apply frz_tuple | apply frz_agg | apply frz_fsl | apply frz_gsl (by omega) | exact frzs_nil | apply frzs_cons | exact frzs_scalars (bytesPV_scalar _)⟩ (by first | exact keepsH0 | exact keeps1 (by assumption) | exact keepsH (fun _ _ h => h) (fun p hp => by simp only [upF]; (repeat rw [if_neg (by omega)])) | exact keeps1t (by assumption) (fun p hp => by simp only [upF]; (repeat rw [if_neg (by omega)])) | (subst hT; exact keepsH (fun _ _ h => h) fun _ _ => rfl)) (nw_eq ?_)
    rfl
end Pv
