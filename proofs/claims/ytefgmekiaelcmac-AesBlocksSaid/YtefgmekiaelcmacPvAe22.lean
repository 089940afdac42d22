/- Part of the proof: the layer of pure values, or walks through functions (PvAe22, PvAe23). -/
import Derived.Test.YtefgmekiaelcmacPvAe20
import Derived.Test.YtefgmekiaelcmacPvAe12
set_option linter.all false
namespace Pv
set_option maxRecDepth 20000
set_option maxHeartbeats 4000000
open Go Go.Proofs Go.RowKit
variable {w0 : World}

theorem rp256 : reps 256 [.int .u8 0] = bytesPV (backI 0) := by rfl
theorem refDecrypt_ok (key s : List UInt8) : Fn (Cx w0) 20 [.str key, .str s] (.tuple [.str (decR key s).1, .int .i64 (decR key s).2]) := by
  have sz := refSized2_ok (w0 := w0) key s
  by_cases hk : goodK key
  · rw [if_neg (by simpa using hk)] at sz
    by_cases hb : s.length = 16
    · rw [if_neg (by simpa using hb)] at sz
      have e : decR key s = (decB (wordsL key) s, 0) := by rw [decR, blockR, if_neg (by simpa using hk), if_neg (by simpa using hb)]
      rw [e]
      have wd := refWords_ok (w0 := w0) key hk
      have hwl := words_len hk
      obtain ⟨n, hn⟩ : ∃ n, n = key.length / 4 + 6 := ⟨_, rfl⟩
      have hn1 : 1 ≤ n := by omega
      have hn2 : n ≤ 14 := by rcases hk with h | h <;> omega
      rw [show key.length / 4 + 7 = n + 1 by omega] at hwl
      generalize wordsL key = w at *
      rw [hwl] at wd
      have hdec : decB w s = xorB (decS w n s n) (rkL w 0) := by rw [decB_eq, hwl, show 16 * (n + 1) / 16 - 1 = n by omega]
      rw [hdec]
      refine fn_H ([Go.ResultVar.tmp 4, Go.ResultVar.tmp 5]) Try.func20 rfl rfl (by decide) fun ph hW Q hQ => ?_
      simp only [start, List.length_cons, List.length_nil, List.cons_append, List.nil_append, Nat.reduceAdd, Nat.reduceSub, List.replicate_succ, List.replicate_zero, Try.ntmps20]
      repeat' first
        | simp -implicitDefEqProofs (maxSteps := 400000) (disch := first | with_reducible rfl | omega | (simp only [h_n, PH.n_push, PH.n_put, List.length_cons, List.length_nil] <;> omega) | decide) only [wkAll, wkL, popO, wantedP, if_true, if_false, reduceIte, ne_eq, Nat.reduceAdd, Nat.reduceSub, Nat.reduceMul, Nat.reduceLeDiff, Nat.reduceLT, ofCells, ofCell, reduceCtorEq, Int.reduceLE, Int.reduceLT, Int.reduceToNat, Int.reduceAdd, Int.reduceSub, Int.reduceMul, Int.reduceNeg, Int.reduceBEq, Int.reduceBNe, Int.reduceEq, eqCell, eqCells, binP, unP, convP, lenP, builtinP, sliceDataP, unsafeStringP, appendT, appendS, appendP, copyP, srcP, mmsP, mmP, indexOp, indexAddrOp, sliceOp, bndsP, bndP, capw, capCut, loadOp, storeOp, loadP, fieldOp, fieldAddrOp, arrayAtOp, buildP, buildSliceP, makeSliceP, placeF, fillP, setL, PK.agg, isZero, gt_iff_lt, Nat.reducePow, Nat.reduceGT, reps, seg, wkN, if_pos, if_neg, tf3, Try.ze3, tf4, Try.ze4, tf5, Try.ze5, tf9, Try.ze9, tf44, Try.ze44, -reps, rp256]
        | refine w_pure (sz) ?_
        | refine w_dec (fun _ => ?_) (fun _ => ?_)
        | refine w_eqc (fun _ => ?_) (fun _ => ?_)
        | refine w_neqc (fun _ => ?_) (fun _ => ?_)
        | refine w_nneqc (fun _ => ?_) (fun _ => ?_)
        | ((first | refine w_split (fun h => ?_) (fun h => ?_) | refine d_split (fun h => ?_) (fun h => ?_) | refine w_csplit (fun h => ?_) (fun h => ?_)) <;> (try simp only [wkS] at h) <;> (have h2 := h) <;> (try simp only [wkT, ne_eq] at h2) <;> (try simp only [h]))
      refine w_loopH (α := Nat) ph ph.ob ph.ty (fun i => [.str key, .str s, .undef, .undef, .undef, .undef, .undef, .sl ph.n 0 1 256 (some 256), .int .i64 i, .undef, .undef, .undef, .undef, .undef, .undef, .undef, .undef, .undef, .undef, .undef, .undef, .undef, .undef, .undef, .undef, .undef, .undef, .undef, .undef, .undef, .undef, .undef, .undef, .undef, .undef, .undef, .undef, .undef, .undef, .undef, .undef, .undef, .undef, .undef, .undef, .undef, .undef, .undef, .undef, .undef, .undef, .undef, .undef, .undef, .undef, .undef, .undef, .undef, .undef, .undef, .undef, .undef, .undef, .undef, .undef, .undef, .undef, .undef, .undef, .undef, .undef, .undef, .undef, .undef, .undef, .undef, .undef, .undef]) (fun i => [some (.own (bytesPV (backI i)))]) (fun i => i ≤ 256) (fun i => 256 - i) 0 (by simp) (fun _ _ => by simp) (.eq (by simp [FadeTo]) rfl) ?_
      intro i hi K hK
      have hml := backI_len i
      rcases Nat.lt_or_ge i 256 with hlt | hge
      · have hlt' : (i : Int) < 256 := by omega
        have hi8 : (UInt8.ofNat i).toNat = i := by rw [UInt8.toNat_ofNat']; omega
        have hb : ∀ X : List UInt8, X = boxL → X[i]? = some (sbox (UInt8.ofNat i)) := fun X h => by rw [h]; have := boxL_at (UInt8.ofNat i); rwa [hi8] at this
        have hv : ((sbox (UInt8.ofNat i)).toNat : Int) < 256 := by have := (sbox (UInt8.ofNat i)).toNat_lt; omega
        have hs : (bytesPV (backI i)).set (sbox (UInt8.ofNat i)).toNat (.int .u8 (i : Int)) = bytesPV (backI (i + 1)) := by
          rw [backI, ← bytesPV_set, hi8]
        have hK1 := fun tm ph' => hK (i + 1) tm ph' (by omega) (by omega)
        clear hK
        repeat' first
          | simp -implicitDefEqProofs (maxSteps := 400000) (disch := first | with_reducible rfl | omega | (simp only [h_n, PH.n_push, PH.n_put, List.length_cons, List.length_nil] <;> omega) | decide) only [wkAll, wkL, popO, wantedP, if_true, if_false, reduceIte, ne_eq, Nat.reduceAdd, Nat.reduceSub, Nat.reduceMul, Nat.reduceLeDiff, Nat.reduceLT, ofCells, ofCell, reduceCtorEq, Int.reduceLE, Int.reduceLT, Int.reduceToNat, Int.reduceAdd, Int.reduceSub, Int.reduceMul, Int.reduceNeg, Int.reduceBEq, Int.reduceBNe, Int.reduceEq, eqCell, eqCells, binP, unP, convP, lenP, builtinP, sliceDataP, unsafeStringP, appendT, appendS, appendP, copyP, srcP, mmsP, mmP, indexOp, indexAddrOp, sliceOp, bndsP, bndP, capw, capCut, loadOp, storeOp, loadP, fieldOp, fieldAddrOp, arrayAtOp, buildP, buildSliceP, makeSliceP, placeF, fillP, setL, PK.agg, isZero, gt_iff_lt, Nat.reducePow, Nat.reduceGT, reps, seg, wkN, if_pos, if_neg, tf3, Try.ze3, tf4, Try.ze4, tf5, Try.ze5, tf9, Try.ze9, tf44, Try.ze44, hlt']
          | refine w_dec (fun _ => ?_) (fun _ => ?_)
          | refine w_eqc (fun _ => ?_) (fun _ => ?_)
          | refine w_neqc (fun _ => ?_) (fun _ => ?_)
          | refine w_nneqc (fun _ => ?_) (fun _ => ?_)
          | ((first | refine w_split (fun h => ?_) (fun h => ?_) | refine d_split (fun h => ?_) (fun h => ?_) | refine w_csplit (fun h => ?_) (fun h => ?_)) <;> (try simp only [wkS] at h) <;> (have h2 := h) <;> (try simp only [wkT, ne_eq] at h2) <;> (try simp only [h]))
        rw [hb _ (by decide +kernel)]
        repeat' first
          | simp -implicitDefEqProofs (maxSteps := 400000) (disch := first | with_reducible rfl | omega | (simp only [h_n, PH.n_push, PH.n_put, List.length_cons, List.length_nil] <;> omega) | decide) only [wkAll, wkL, popO, wantedP, if_true, if_false, reduceIte, ne_eq, Nat.reduceAdd, Nat.reduceSub, Nat.reduceMul, Nat.reduceLeDiff, Nat.reduceLT, ofCells, ofCell, reduceCtorEq, Int.reduceLE, Int.reduceLT, Int.reduceToNat, Int.reduceAdd, Int.reduceSub, Int.reduceMul, Int.reduceNeg, Int.reduceBEq, Int.reduceBNe, Int.reduceEq, eqCell, eqCells, binP, unP, convP, lenP, builtinP, sliceDataP, unsafeStringP, appendT, appendS, appendP, copyP, srcP, mmsP, mmP, indexOp, indexAddrOp, sliceOp, bndsP, bndP, capw, capCut, loadOp, storeOp, loadP, fieldOp, fieldAddrOp, arrayAtOp, buildP, buildSliceP, makeSliceP, placeF, fillP, setL, PK.agg, isZero, gt_iff_lt, Nat.reducePow, Nat.reduceGT, reps, seg, wkN, if_pos, if_neg, tf3, Try.ze3, tf4, Try.ze4, tf5, Try.ze5, tf9, Try.ze9, tf44, Try.ze44, hlt', hml, hv, hs]
          | refine w_dec (fun _ => ?_) (fun _ => ?_)
          | refine w_eqc (fun _ => ?_) (fun _ => ?_)
          | refine w_neqc (fun _ => ?_) (fun _ => ?_)
          | refine w_nneqc (fun _ => ?_) (fun _ => ?_)
          | ((first | refine w_split (fun h => ?_) (fun h => ?_) | refine d_split (fun h => ?_) (fun h => ?_) | refine w_csplit (fun h => ?_) (fun h => ?_)) <;> (try simp only [wkS] at h) <;> (have h2 := h) <;> (try simp only [wkT, ne_eq] at h2) <;> (try simp only [h]))
        exact hK1 _ _ (.eq (by simp [FadeTo]) rfl)
      · have hge' : ¬ (i : Int) < 256 := by omega
        have : i = 256 := by omega
        subst this
        clear hK
        have hbk : backI 256 = backL := rfl
        rw [hbk] at hml ⊢
        have f1 : ((16 * (n + 1) : Nat) : Int) - 16 = ((16 * n : Nat) : Int) := by omega
        repeat' first
          | simp -implicitDefEqProofs (maxSteps := 400000) (disch := first | with_reducible rfl | omega | (simp only [h_n, PH.n_push, PH.n_put, List.length_cons, List.length_nil] <;> omega) | decide) only [wkAll, wkL, popO, wantedP, if_true, if_false, reduceIte, ne_eq, Nat.reduceAdd, Nat.reduceSub, Nat.reduceMul, Nat.reduceLeDiff, Nat.reduceLT, ofCells, ofCell, reduceCtorEq, Int.reduceLE, Int.reduceLT, Int.reduceToNat, Int.reduceAdd, Int.reduceSub, Int.reduceMul, Int.reduceNeg, Int.reduceBEq, Int.reduceBNe, Int.reduceEq, eqCell, eqCells, binP, unP, convP, lenP, builtinP, sliceDataP, unsafeStringP, appendT, appendS, appendP, copyP, srcP, mmsP, mmP, indexOp, indexAddrOp, sliceOp, bndsP, bndP, capw, capCut, loadOp, storeOp, loadP, fieldOp, fieldAddrOp, arrayAtOp, buildP, buildSliceP, makeSliceP, placeF, fillP, setL, PK.agg, isZero, gt_iff_lt, Nat.reducePow, Nat.reduceGT, reps, seg, wkN, if_pos, if_neg, tf3, Try.ze3, tf4, Try.ze4, tf5, Try.ze5, tf9, Try.ze9, tf44, Try.ze44, hge', f1, hb]
          | refine w_pure (wd) ?_
          | refine w_dec (fun _ => ?_) (fun _ => ?_)
          | refine w_eqc (fun _ => ?_) (fun _ => ?_)
          | refine w_neqc (fun _ => ?_) (fun _ => ?_)
          | refine w_nneqc (fun _ => ?_) (fun _ => ?_)
          | ((first | refine w_split (fun h => ?_) (fun h => ?_) | refine d_split (fun h => ?_) (fun h => ?_) | refine w_csplit (fun h => ?_) (fun h => ?_)) <;> (try simp only [wkS] at h) <;> (have h2 := h) <;> (try simp only [wkT, ne_eq] at h2) <;> (try simp only [h]))
        refine w_loopJ (α := Nat × List (Option Blk)) ph.ob ph.ty (fun a => H ph (some (.own (bytesPV backL)) :: a.2) ph.ob ph.ty) (fun B a => [.undef, .undef, .undef, .undef, .undef, .undef, .undef, .sl ph.n 0 1 256 (some 256), .undef, .fsl 1 (16 * (n + 1)) (bytesPV w), .sl B.n 0 1 16 (cpN a.1), .int .i64 ((16 * (n - a.1) : Nat) : Int), .undef, .undef, .undef, .undef, .undef, .undef, .undef, .undef, .undef, .undef, .undef, .undef, .undef, .undef, .undef, .undef, .undef, .undef, .undef, .undef, .undef, .undef, .undef, .undef, .undef, .undef, .undef, .undef, .undef, .undef, .undef, .undef, .undef, .undef, .undef, .undef, .undef, .undef, .undef, .undef, .undef, .undef, .undef, .undef, .undef, .undef, .undef, .undef, .undef, .undef, .undef, .undef, .undef, .undef, .undef, .undef, .undef, .undef, .undef, .undef, .undef, .undef, .undef, .undef, .undef, .undef]) (fun a => [some (.own (bytesPV (decS w n s a.1)))]) (fun a => a.1 ≤ n) (fun a => n - a.1) (0, []) (by simp) (fun a _ => by simp [h_n]; omega) (.eq (by simp [FadeTo, h_n, cpN]) (by simp [h_app, decS])) ?_
        rintro ⟨j, J⟩ hj B hB K hK
        simp only at hj hB ⊢
        have hBn : B.n = ph.n + 1 + J.length := by rw [hB, h_n]; simp; omega
        have hgB : B.get ph.n = some (bytesPV backL) := by rw [hB, h_get0]; rfl
        have hpB : ph.n < B.n := by omega
        have hbL : (backL).length = 256 := hml
        have hds := decS_len (w := w) (n := n) hb j (by omega)
        generalize hcp : cpN j = cp at *
        have hcp1 : cpN (j + 1) = some 16 := rfl
        rcases Nat.lt_or_ge j n with hlt | hge
        · obtain ⟨e, he⟩ : ∃ e, e = decS w n s j := ⟨_, rfl⟩
          obtain ⟨i, hi⟩ : ∃ i, i = n - j := ⟨_, rfl⟩
          obtain ⟨k, hkk⟩ : ∃ k, k = rkL w i := ⟨_, rfl⟩
          have hkl : k.length = 16 := by rw [hkk]; exact rk_len (by omega)
          have hnx : decS w n s (j + 1) = (backS (if i < n then mixL mD (xorB e k) else xorB e k)).map ibox := by rw [he, hkk, hi]; rfl
          have hxl : (xorB e k).length = 16 := by rw [xorB_len, he, hds, hkl]; rfl
          have hK1 := fun J' tm ph' => hK (j + 1, J') tm ph' (by show j + 1 ≤ _; omega) (by show _ - (j + 1) < _ - j; omega)
          simp only [hnx, hcp1] at hK1
          clear hK
          rw [← he] at hds ⊢
          rw [← hi]
          have hlt' : (0 : Int) < ((16 * i : Nat) : Int) := by omega
          have k1 : List.take 16 (List.drop (16 * i) (bytesPV w)) = bytesPV k := by rw [bytes_td, hkk]; rfl
          have k2 : ((16 * i : Nat) : Int) + 16 = ((16 * i + 16 : Nat) : Int) := by omega
          have k3 : 16 * i + 16 - 16 * i = 16 := by omega
          have k7 : 16 * i + 16 ≤ 16 * (n + 1) := by omega
          have k4 : ((16 * i : Nat) : Int) - 16 = ((16 * (n - (j + 1)) : Nat) : Int) := by omega
          by_cases hc : i < n
          · rw [if_pos hc] at hK1
            have c1 : ((16 * i + 16 : Nat) : Int) < ((16 * (n + 1) : Nat) : Int) := by omega
            repeat' first
              | simp -implicitDefEqProofs (maxSteps := 400000) (disch := first | with_reducible rfl | omega | (simp only [h_n, PH.n_push, PH.n_put, List.length_cons, List.length_nil] <;> omega) | decide) only [wkAll, wkL, popO, wantedP, if_true, if_false, reduceIte, ne_eq, Nat.reduceAdd, Nat.reduceSub, Nat.reduceMul, Nat.reduceLeDiff, Nat.reduceLT, ofCells, ofCell, reduceCtorEq, Int.reduceLE, Int.reduceLT, Int.reduceToNat, Int.reduceAdd, Int.reduceSub, Int.reduceMul, Int.reduceNeg, Int.reduceBEq, Int.reduceBNe, Int.reduceEq, eqCell, eqCells, binP, unP, convP, lenP, builtinP, sliceDataP, unsafeStringP, appendT, appendS, appendP, copyP, srcP, mmsP, mmP, indexOp, indexAddrOp, sliceOp, bndsP, bndP, capw, capCut, loadOp, storeOp, loadP, fieldOp, fieldAddrOp, arrayAtOp, buildP, buildSliceP, makeSliceP, placeF, fillP, setL, PK.agg, isZero, gt_iff_lt, Nat.reducePow, Nat.reduceGT, reps, seg, wkN, if_pos, if_neg, tf3, Try.ze3, tf4, Try.ze4, tf5, Try.ze5, tf9, Try.ze9, tf44, Try.ze44, gt_iff_lt, hlt', k1, k2, k3, k7, c1]
              | refine w_eff (refPlus_ok _ _ _ e k hds hkl (by rw [h_get0]; rfl)) ?_
              | refine w_effA (refMixed_ok _ _ _ _ _ (xorB e k) mD hxl rfl (by rw [h_get0]; rfl) (by rw [h_get]; rfl)) ?_
              | refine w_effA (refTurned_ok _ _ _ true (mixL mD (xorB e k)) (mix_len _ _) (by rw [h_get]; rfl)) ?_
              | refine w_dec (fun _ => ?_) (fun _ => ?_)
              | refine w_eqc (fun _ => ?_) (fun _ => ?_)
              | refine w_neqc (fun _ => ?_) (fun _ => ?_)
              | refine w_nneqc (fun _ => ?_) (fun _ => ?_)
              | ((first | refine w_split (fun h => ?_) (fun h => ?_) | refine d_split (fun h => ?_) (fun h => ?_) | refine w_csplit (fun h => ?_) (fun h => ?_)) <;> (try simp only [wkS] at h) <;> (have h2 := h) <;> (try simp only [wkT, ne_eq] at h2) <;> (try simp only [h]))
            obtain ⟨m, hm⟩ : ∃ m, m = backS (mixL mD (xorB e k)) := ⟨_, rfl⟩
            have hml0 : m.length = 16 := by rw [hm]; rfl
            rw [← hm] at hK1 ⊢
            refine w_loopH (α := Nat) B ph.ob ph.ty (fun t => [.undef, .undef, .undef, .undef, .undef, .undef, .undef, .sl ph.n 0 1 256 (some 256), .undef, .fsl 1 (16 * (n + 1)) (bytesPV w), .sl (B.n + 3) 0 1 16 (some 16), .int .i64 ((16 * i : Nat) : Int), .int .i64 t, .undef, .undef, .undef, .undef, .undef, .undef, .undef, .undef, .undef, .undef, .undef, .undef, .undef, .undef, .undef, .undef, .undef, .undef, .undef, .undef, .undef, .undef, .undef, .undef, .undef, .undef, .undef, .undef, .undef, .undef, .undef, .undef, .undef, .undef, .undef, .undef, .undef, .undef, .undef, .undef, .undef, .undef, .undef, .undef, .undef, .undef, .undef, .undef, .undef, .undef, .undef, .undef, .undef, .undef, .undef, .undef, .undef, .undef, .undef, .undef, .undef, .undef, .undef, .undef, .undef]) (fun t => [some (.own (bytesPV (xorB e k))), some (.own (bytesPV mD)), some (.own (bytesPV (mixL mD (xorB e k)))), some (.own (bytesPV (midB (m.map ibox) m t)))]) (fun t => t ≤ 16) (fun t => 16 - t) 0 (by simp) (fun t ht => by
              rw [hBn]; simp; omega) (.eq (by simp [FadeTo]) (by rw [midB_0] <;> rfl)) ?_
            intro t ht K2 hK2
            have h1l : (m.map ibox).length = m.length := by rw [List.length_map]
            have hml := midB_len h1l t
            rcases Nat.lt_or_ge t 16 with ht1 | ht1
            · have ht' : (t : Int) < 16 := by omega
              obtain ⟨x, hx⟩ := get_someW (show t < m.length by omega)
              have hm : (m.map ibox)[t]? = some (ibox x) := by rw [List.getElem?_map, hx]; rfl
              have ha := midB_at h1l (i := t) (by omega)
              rw [hx] at ha
              have hs := midB_set (m := m.map ibox) (l := m) (by omega) hm
              have hv : (x.toNat : Int) < 256 := by have := x.toNat_lt; omega
              have hbx := ibox_at x
              repeat' first
                | simp -implicitDefEqProofs (maxSteps := 400000) (disch := first | with_reducible rfl | omega | (simp only [h_n, PH.n_push, PH.n_put, List.length_cons, List.length_nil] <;> omega) | decide) only [wkAll, wkL, popO, wantedP, if_true, if_false, reduceIte, ne_eq, Nat.reduceAdd, Nat.reduceSub, Nat.reduceMul, Nat.reduceLeDiff, Nat.reduceLT, ofCells, ofCell, reduceCtorEq, Int.reduceLE, Int.reduceLT, Int.reduceToNat, Int.reduceAdd, Int.reduceSub, Int.reduceMul, Int.reduceNeg, Int.reduceBEq, Int.reduceBNe, Int.reduceEq, eqCell, eqCells, binP, unP, convP, lenP, builtinP, sliceDataP, unsafeStringP, appendT, appendS, appendP, copyP, srcP, mmsP, mmP, indexOp, indexAddrOp, sliceOp, bndsP, bndP, capw, capCut, loadOp, storeOp, loadP, fieldOp, fieldAddrOp, arrayAtOp, buildP, buildSliceP, makeSliceP, placeF, fillP, setL, PK.agg, isZero, gt_iff_lt, Nat.reducePow, Nat.reduceGT, reps, seg, wkN, if_pos, if_neg, tf3, Try.ze3, tf4, Try.ze4, tf5, Try.ze5, tf9, Try.ze9, tf44, Try.ze44, ht', hml, hml0, ha, hv, hbL, hbx, h_getlt hpB, hgB, bytesPV_set, hs]
                | refine w_dec (fun _ => ?_) (fun _ => ?_)
                | refine w_eqc (fun _ => ?_) (fun _ => ?_)
                | refine w_neqc (fun _ => ?_) (fun _ => ?_)
                | refine w_nneqc (fun _ => ?_) (fun _ => ?_)
                | ((first | refine w_split (fun h => ?_) (fun h => ?_) | refine d_split (fun h => ?_) (fun h => ?_) | refine w_csplit (fun h => ?_) (fun h => ?_)) <;> (try simp only [wkS] at h) <;> (have h2 := h) <;> (try simp only [wkT, ne_eq] at h2) <;> (try simp only [h]))
              exact hK2 (t + 1) _ _ (by omega) (by omega) (.eq (by simp [FadeTo]) rfl)
            · have ht' : ¬ (t : Int) < 16 := by omega
              have : t = 16 := by omega
              subst this
              rw [midB_all (by omega) (by omega)]
              repeat' first
                | simp -implicitDefEqProofs (maxSteps := 400000) (disch := first | with_reducible rfl | omega | (simp only [h_n, PH.n_push, PH.n_put, List.length_cons, List.length_nil] <;> omega) | decide) only [wkAll, wkL, popO, wantedP, if_true, if_false, reduceIte, ne_eq, Nat.reduceAdd, Nat.reduceSub, Nat.reduceMul, Nat.reduceLeDiff, Nat.reduceLT, ofCells, ofCell, reduceCtorEq, Int.reduceLE, Int.reduceLT, Int.reduceToNat, Int.reduceAdd, Int.reduceSub, Int.reduceMul, Int.reduceNeg, Int.reduceBEq, Int.reduceBNe, Int.reduceEq, eqCell, eqCells, binP, unP, convP, lenP, builtinP, sliceDataP, unsafeStringP, appendT, appendS, appendP, copyP, srcP, mmsP, mmP, indexOp, indexAddrOp, sliceOp, bndsP, bndP, capw, capCut, loadOp, storeOp, loadP, fieldOp, fieldAddrOp, arrayAtOp, buildP, buildSliceP, makeSliceP, placeF, fillP, setL, PK.agg, isZero, gt_iff_lt, Nat.reducePow, Nat.reduceGT, reps, seg, wkN, if_pos, if_neg, tf3, Try.ze3, tf4, Try.ze4, tf5, Try.ze5, tf9, Try.ze9, tf44, Try.ze44, ht', k4]
                | refine w_dec (fun _ => ?_) (fun _ => ?_)
                | refine w_eqc (fun _ => ?_) (fun _ => ?_)
                | refine w_neqc (fun _ => ?_) (fun _ => ?_)
                | refine w_nneqc (fun _ => ?_) (fun _ => ?_)
                | ((first | refine w_split (fun h => ?_) (fun h => ?_) | refine d_split (fun h => ?_) (fun h => ?_) | refine w_csplit (fun h => ?_) (fun h => ?_)) <;> (try simp only [wkS] at h) <;> (have h2 := h) <;> (try simp only [wkT, ne_eq] at h2) <;> (try simp only [h]))
              refine hK1 (J ++ [some (.own (bytesPV (xorB e k))), some (.own (bytesPV mD)), some (.own (bytesPV (mixL mD (xorB e k))))]) _ _ (.eq (by subst hB; simp [FadeTo, h_n, Nat.add_assoc] <;> omega) (by subst hB; simp [h_app]))
          · rw [if_neg hc] at hK1
            have c1 : ¬ ((16 * i + 16 : Nat) : Int) < ((16 * (n + 1) : Nat) : Int) := by omega
            repeat' first
              | simp -implicitDefEqProofs (maxSteps := 400000) (disch := first | with_reducible rfl | omega | (simp only [h_n, PH.n_push, PH.n_put, List.length_cons, List.length_nil] <;> omega) | decide) only [wkAll, wkL, popO, wantedP, if_true, if_false, reduceIte, ne_eq, Nat.reduceAdd, Nat.reduceSub, Nat.reduceMul, Nat.reduceLeDiff, Nat.reduceLT, ofCells, ofCell, reduceCtorEq, Int.reduceLE, Int.reduceLT, Int.reduceToNat, Int.reduceAdd, Int.reduceSub, Int.reduceMul, Int.reduceNeg, Int.reduceBEq, Int.reduceBNe, Int.reduceEq, eqCell, eqCells, binP, unP, convP, lenP, builtinP, sliceDataP, unsafeStringP, appendT, appendS, appendP, copyP, srcP, mmsP, mmP, indexOp, indexAddrOp, sliceOp, bndsP, bndP, capw, capCut, loadOp, storeOp, loadP, fieldOp, fieldAddrOp, arrayAtOp, buildP, buildSliceP, makeSliceP, placeF, fillP, setL, PK.agg, isZero, gt_iff_lt, Nat.reducePow, Nat.reduceGT, reps, seg, wkN, if_pos, if_neg, tf3, Try.ze3, tf4, Try.ze4, tf5, Try.ze5, tf9, Try.ze9, tf44, Try.ze44, gt_iff_lt, hlt', k1, k2, k3, k7, c1]
              | refine w_eff (refPlus_ok _ _ _ e k hds hkl (by rw [h_get0]; rfl)) ?_
              | refine w_effA (refTurned_ok _ _ _ true (xorB e k) hxl (by rw [h_get0]; rfl)) ?_
              | refine w_dec (fun _ => ?_) (fun _ => ?_)
              | refine w_eqc (fun _ => ?_) (fun _ => ?_)
              | refine w_neqc (fun _ => ?_) (fun _ => ?_)
              | refine w_nneqc (fun _ => ?_) (fun _ => ?_)
              | ((first | refine w_split (fun h => ?_) (fun h => ?_) | refine d_split (fun h => ?_) (fun h => ?_) | refine w_csplit (fun h => ?_) (fun h => ?_)) <;> (try simp only [wkS] at h) <;> (have h2 := h) <;> (try simp only [wkT, ne_eq] at h2) <;> (try simp only [h]))
            obtain ⟨m, hm⟩ : ∃ m, m = backS (xorB e k) := ⟨_, rfl⟩
            have hml0 : m.length = 16 := by rw [hm]; rfl
            rw [← hm] at hK1 ⊢
            refine w_loopH (α := Nat) B ph.ob ph.ty (fun t => [.undef, .undef, .undef, .undef, .undef, .undef, .undef, .sl ph.n 0 1 256 (some 256), .undef, .fsl 1 (16 * (n + 1)) (bytesPV w), .sl (B.n + 1) 0 1 16 (some 16), .int .i64 ((16 * i : Nat) : Int), .int .i64 t, .undef, .undef, .undef, .undef, .undef, .undef, .undef, .undef, .undef, .undef, .undef, .undef, .undef, .undef, .undef, .undef, .undef, .undef, .undef, .undef, .undef, .undef, .undef, .undef, .undef, .undef, .undef, .undef, .undef, .undef, .undef, .undef, .undef, .undef, .undef, .undef, .undef, .undef, .undef, .undef, .undef, .undef, .undef, .undef, .undef, .undef, .undef, .undef, .undef, .undef, .undef, .undef, .undef, .undef, .undef, .undef, .undef, .undef, .undef, .undef, .undef, .undef, .undef, .undef, .undef]) (fun t => [some (.own (bytesPV (xorB e k))), some (.own (bytesPV (midB (m.map ibox) m t)))]) (fun t => t ≤ 16) (fun t => 16 - t) 0 (by simp) (fun t ht => by
              rw [hBn]; simp; omega) (.eq (by simp [FadeTo]) (by rw [midB_0] <;> rfl)) ?_
            intro t ht K2 hK2
            have h1l : (m.map ibox).length = m.length := by rw [List.length_map]
            have hml := midB_len h1l t
            rcases Nat.lt_or_ge t 16 with ht1 | ht1
            · have ht' : (t : Int) < 16 := by omega
              obtain ⟨x, hx⟩ := get_someW (show t < m.length by omega)
              have hm : (m.map ibox)[t]? = some (ibox x) := by rw [List.getElem?_map, hx]; rfl
              have ha := midB_at h1l (i := t) (by omega)
              rw [hx] at ha
              have hs := midB_set (m := m.map ibox) (l := m) (by omega) hm
              have hv : (x.toNat : Int) < 256 := by have := x.toNat_lt; omega
              have hbx := ibox_at x
              repeat' first
                | simp -implicitDefEqProofs (maxSteps := 400000) (disch := first | with_reducible rfl | omega | (simp only [h_n, PH.n_push, PH.n_put, List.length_cons, List.length_nil] <;> omega) | decide) only [wkAll, wkL, popO, wantedP, if_true, if_false, reduceIte, ne_eq, Nat.reduceAdd, Nat.reduceSub, Nat.reduceMul, Nat.reduceLeDiff, Nat.reduceLT, ofCells, ofCell, reduceCtorEq, Int.reduceLE, Int.reduceLT, Int.reduceToNat, Int.reduceAdd, Int.reduceSub, Int.reduceMul, Int.reduceNeg, Int.reduceBEq, Int.reduceBNe, Int.reduceEq, eqCell, eqCells, binP, unP, convP, lenP, builtinP, sliceDataP, unsafeStringP, appendT, appendS, appendP, copyP, srcP, mmsP, mmP, indexOp, indexAddrOp, sliceOp, bndsP, bndP, capw, capCut, loadOp, storeOp, loadP, fieldOp, fieldAddrOp, arrayAtOp, buildP, buildSliceP, makeSliceP, placeF, fillP, setL, PK.agg, isZero, gt_iff_lt, Nat.reducePow, Nat.reduceGT, reps, seg, wkN, if_pos, if_neg, tf3, Try.ze3, tf4, Try.ze4, tf5, Try.ze5, tf9, Try.ze9, tf44, Try.ze44, ht', hml, hml0, ha, hv, hbL, hbx, h_getlt hpB, hgB, bytesPV_set, hs]
                | refine w_dec (fun _ => ?_) (fun _ => ?_)
                | refine w_eqc (fun _ => ?_) (fun _ => ?_)
                | refine w_neqc (fun _ => ?_) (fun _ => ?_)
                | refine w_nneqc (fun _ => ?_) (fun _ => ?_)
                | ((first | refine w_split (fun h => ?_) (fun h => ?_) | refine d_split (fun h => ?_) (fun h => ?_) | refine w_csplit (fun h => ?_) (fun h => ?_)) <;> (try simp only [wkS] at h) <;> (have h2 := h) <;> (try simp only [wkT, ne_eq] at h2) <;> (try simp only [h]))
              exact hK2 (t + 1) _ _ (by omega) (by omega) (.eq (by simp [FadeTo]) rfl)
            · have ht' : ¬ (t : Int) < 16 := by omega
              have : t = 16 := by omega
              subst this
              rw [midB_all (by omega) (by omega)]
              repeat' first
                | simp -implicitDefEqProofs (maxSteps := 400000) (disch := first | with_reducible rfl | omega | (simp only [h_n, PH.n_push, PH.n_put, List.length_cons, List.length_nil] <;> omega) | decide) only [wkAll, wkL, popO, wantedP, if_true, if_false, reduceIte, ne_eq, Nat.reduceAdd, Nat.reduceSub, Nat.reduceMul, Nat.reduceLeDiff, Nat.reduceLT, ofCells, ofCell, reduceCtorEq, Int.reduceLE, Int.reduceLT, Int.reduceToNat, Int.reduceAdd, Int.reduceSub, Int.reduceMul, Int.reduceNeg, Int.reduceBEq, Int.reduceBNe, Int.reduceEq, eqCell, eqCells, binP, unP, convP, lenP, builtinP, sliceDataP, unsafeStringP, appendT, appendS, appendP, copyP, srcP, mmsP, mmP, indexOp, indexAddrOp, sliceOp, bndsP, bndP, capw, capCut, loadOp, storeOp, loadP, fieldOp, fieldAddrOp, arrayAtOp, buildP, buildSliceP, makeSliceP, placeF, fillP, setL, PK.agg, isZero, gt_iff_lt, Nat.reducePow, Nat.reduceGT, reps, seg, wkN, if_pos, if_neg, tf3, Try.ze3, tf4, Try.ze4, tf5, Try.ze5, tf9, Try.ze9, tf44, Try.ze44, ht', k4]
                | refine w_dec (fun _ => ?_) (fun _ => ?_)
                | refine w_eqc (fun _ => ?_) (fun _ => ?_)
                | refine w_neqc (fun _ => ?_) (fun _ => ?_)
                | refine w_nneqc (fun _ => ?_) (fun _ => ?_)
                | ((first | refine w_split (fun h => ?_) (fun h => ?_) | refine d_split (fun h => ?_) (fun h => ?_) | refine w_csplit (fun h => ?_) (fun h => ?_)) <;> (try simp only [wkS] at h) <;> (have h2 := h) <;> (try simp only [wkT, ne_eq] at h2) <;> (try simp only [h]))
              refine hK1 (J ++ [some (.own (bytesPV (xorB e k)))]) _ _ (.eq (by subst hB; simp [FadeTo, h_n, Nat.add_assoc] <;> omega) (by subst hB; simp [h_app]))
        · have hjn : n = j := by omega
          have hge' : ¬ (0 : Int) < ((16 * (n - j) : Nat) : Int) := by omega
          rw [← hjn] at hds hge' ⊢
          clear hK
          generalize decS w n s n = e at *
          have hr0 : (rkL w 0).length = 16 := rk_len (by omega)
          have r0 : List.take 16 (bytesPV w) = bytesPV (rkL w 0) := rk_cells w 0
          have e16 : 16 ≤ 16 * (n + 1) := by omega
          obtain ⟨u, hu⟩ : ∃ u, u = xorB e (rkL w 0) := ⟨_, rfl⟩
          have hul : u.length = 16 := by rw [hu, xorB_len, hds, hr0]; rfl
          have pl := fun p hh => refPlus_ok (w0 := w0) p B.n cp e (rkL w 0) hds hr0 hh
          rw [← hu] at pl hQ
          have k4 : List.take 16 (bytesPV u) = bytesPV u := List.take_of_length_le (by rw [bytesPV_len]; omega)
          repeat' first
            | simp -implicitDefEqProofs (maxSteps := 400000) (disch := first | with_reducible rfl | omega | (simp only [h_n, PH.n_push, PH.n_put, List.length_cons, List.length_nil] <;> omega) | decide) only [wkAll, wkL, popO, wantedP, if_true, if_false, reduceIte, ne_eq, Nat.reduceAdd, Nat.reduceSub, Nat.reduceMul, Nat.reduceLeDiff, Nat.reduceLT, ofCells, ofCell, reduceCtorEq, Int.reduceLE, Int.reduceLT, Int.reduceToNat, Int.reduceAdd, Int.reduceSub, Int.reduceMul, Int.reduceNeg, Int.reduceBEq, Int.reduceBNe, Int.reduceEq, eqCell, eqCells, binP, unP, convP, lenP, builtinP, sliceDataP, unsafeStringP, appendT, appendS, appendP, copyP, srcP, mmsP, mmP, indexOp, indexAddrOp, sliceOp, bndsP, bndP, capw, capCut, loadOp, storeOp, loadP, fieldOp, fieldAddrOp, arrayAtOp, buildP, buildSliceP, makeSliceP, placeF, fillP, setL, PK.agg, isZero, gt_iff_lt, Nat.reducePow, Nat.reduceGT, reps, seg, wkN, if_pos, if_neg, tf3, Try.ze3, tf4, Try.ze4, tf5, Try.ze5, tf9, Try.ze9, tf44, Try.ze44, gt_iff_lt, hge', r0, e16, k4, hul, bytesX_bytesPV]
            | refine w_eff (pl _ (by rw [h_get0]; rfl)) ?_
            | refine w_dec (fun _ => ?_) (fun _ => ?_)
            | refine w_eqc (fun _ => ?_) (fun _ => ?_)
            | refine w_neqc (fun _ => ?_) (fun _ => ?_)
            | refine w_nneqc (fun _ => ?_) (fun _ => ?_)
            | ((first | refine w_split (fun h => ?_) (fun h => ?_) | refine d_split (fun h => ?_) (fun h => ?_) | refine w_csplit (fun h => ?_) (fun h => ?_)) <;> (try simp only [wkS] at h) <;> (have h2 := h) <;> (try simp only [wkT, ne_eq] at h2) <;> (try simp only [h]))
          subst hB
          rw [h_app]
          refine hQ (by first | exact .inr rfl | exact .inl rfl) (by first | exact trivial | exact marks1) (by first | (simp -implicitDefEqProofs (maxSteps := 400000) (disch := first | with_reducible rfl | omega | (simp only [h_n, PH.n_push, PH.n_put, List.length_cons, List.length_nil] <;> omega) | decide) only [wkAll, wkL, popO, wantedP, if_true, if_false, reduceIte, ne_eq, Nat.reduceAdd, Nat.reduceSub, Nat.reduceMul, Nat.reduceLeDiff, Nat.reduceLT, ofCells, ofCell, reduceCtorEq, Int.reduceLE, Int.reduceLT, Int.reduceToNat, Int.reduceAdd, Int.reduceSub, Int.reduceMul, Int.reduceNeg, Int.reduceBEq, Int.reduceBNe, Int.reduceEq, eqCell, eqCells, binP, unP, convP, lenP, builtinP, sliceDataP, unsafeStringP, appendT, appendS, appendP, copyP, srcP, mmsP, mmP, indexOp, indexAddrOp, sliceOp, bndsP, bndP, capw, capCut, loadOp, storeOp, loadP, fieldOp, fieldAddrOp, arrayAtOp, buildP, buildSliceP, makeSliceP, placeF, fillP, setL, PK.agg, isZero, gt_iff_lt, Nat.reducePow, Nat.reduceGT, reps, seg, wkN, if_pos, if_neg, tf3, Try.ze3, tf4, Try.ze4, tf5, Try.ze5, tf9, Try.ze9, tf44, Try.ze44, resP, resPs, resP1]; rfl) | rfl) ⟨6, by repeat' first | exact frz_scalar rfl | apply frz_tuple | apply frz_agg | apply frz_fsl | apply frz_gsl (by omega) | exact frzs_nil | apply frzs_cons⟩ (by first | exact keepsH0 | exact keeps1 (by assumption) | exact keepsH (fun _ _ h => h) (fun p hp => by simp only [upF]; (repeat rw [if_neg (by omega)])) | exact keeps1t (by assumption) (fun p hp => by simp only [upF]; (repeat rw [if_neg (by omega)])) | (subst hT; exact keepsH (fun _ _ h => h) fun _ _ => rfl)) (nw_eq ?_)
          rfl
    · rw [if_pos hb] at sz
      have e : decR key s = ([], 10) := by rw [decR, blockR, if_neg (by simpa using hk), if_pos hb]
      rw [e]
      refine fn_H ([Go.ResultVar.tmp 4, Go.ResultVar.tmp 5]) Try.func20 rfl rfl (by decide) fun ph hW Q hQ => ?_
      simp only [start, List.length_cons, List.length_nil, List.cons_append, List.nil_append, Nat.reduceAdd, Nat.reduceSub, List.replicate_succ, List.replicate_zero, Try.ntmps20]
      repeat' first
        | simp -implicitDefEqProofs (maxSteps := 400000) (disch := first | with_reducible rfl | omega | (simp only [h_n, PH.n_push, PH.n_put, List.length_cons, List.length_nil] <;> omega) | decide) only [wkAll, wkL, popO, wantedP, if_true, if_false, reduceIte, ne_eq, Nat.reduceAdd, Nat.reduceSub, Nat.reduceMul, Nat.reduceLeDiff, Nat.reduceLT, ofCells, ofCell, reduceCtorEq, Int.reduceLE, Int.reduceLT, Int.reduceToNat, Int.reduceAdd, Int.reduceSub, Int.reduceMul, Int.reduceNeg, Int.reduceBEq, Int.reduceBNe, Int.reduceEq, eqCell, eqCells, binP, unP, convP, lenP, builtinP, sliceDataP, unsafeStringP, appendT, appendS, appendP, copyP, srcP, mmsP, mmP, indexOp, indexAddrOp, sliceOp, bndsP, bndP, capw, capCut, loadOp, storeOp, loadP, fieldOp, fieldAddrOp, arrayAtOp, buildP, buildSliceP, makeSliceP, placeF, fillP, setL, PK.agg, isZero, gt_iff_lt, Nat.reducePow, Nat.reduceGT, reps, seg, wkN, if_pos, if_neg, tf3, Try.ze3, tf4, Try.ze4, tf5, Try.ze5, tf9, Try.ze9, tf44, Try.ze44]
        | refine w_pure (sz) ?_
        | refine w_dec (fun _ => ?_) (fun _ => ?_)
        | refine w_eqc (fun _ => ?_) (fun _ => ?_)
        | refine w_neqc (fun _ => ?_) (fun _ => ?_)
        | refine w_nneqc (fun _ => ?_) (fun _ => ?_)
        | ((first | refine w_split (fun h => ?_) (fun h => ?_) | refine d_split (fun h => ?_) (fun h => ?_) | refine w_csplit (fun h => ?_) (fun h => ?_)) <;> (try simp only [wkS] at h) <;> (have h2 := h) <;> (try simp only [wkT, ne_eq] at h2) <;> (try simp only [h]))
      refine hQ (by first | exact .inr rfl | exact .inl rfl) (by first | exact trivial | exact marks1) (by first | (simp -implicitDefEqProofs (maxSteps := 400000) (disch := first | with_reducible rfl | omega | (simp only [h_n, PH.n_push, PH.n_put, List.length_cons, List.length_nil] <;> omega) | decide) only [wkAll, wkL, popO, wantedP, if_true, if_false, reduceIte, ne_eq, Nat.reduceAdd, Nat.reduceSub, Nat.reduceMul, Nat.reduceLeDiff, Nat.reduceLT, ofCells, ofCell, reduceCtorEq, Int.reduceLE, Int.reduceLT, Int.reduceToNat, Int.reduceAdd, Int.reduceSub, Int.reduceMul, Int.reduceNeg, Int.reduceBEq, Int.reduceBNe, Int.reduceEq, eqCell, eqCells, binP, unP, convP, lenP, builtinP, sliceDataP, unsafeStringP, appendT, appendS, appendP, copyP, srcP, mmsP, mmP, indexOp, indexAddrOp, sliceOp, bndsP, bndP, capw, capCut, loadOp, storeOp, loadP, fieldOp, fieldAddrOp, arrayAtOp, buildP, buildSliceP, makeSliceP, placeF, fillP, setL, PK.agg, isZero, gt_iff_lt, Nat.reducePow, Nat.reduceGT, reps, seg, wkN, if_pos, if_neg, tf3, Try.ze3, tf4, Try.ze4, tf5, Try.ze5, tf9, Try.ze9, tf44, Try.ze44, resP, resPs, resP1]; rfl) | rfl) ⟨6, by repeat' first | exact frz_scalar rfl | apply frz_tuple | apply frz_agg | apply frz_fsl | apply frz_gsl (by omega) | exact frzs_nil | apply frzs_cons⟩ (by first | exact keepsH0 | exact keeps1 (by assumption) | exact keepsH (fun _ _ h => h) (fun p hp => by simp only [upF]; (repeat rw [if_neg (by omega)])) | exact keeps1t (by assumption) (fun p hp => by simp only [upF]; (repeat rw [if_neg (by omega)])) | (subst hT; exact keepsH (fun _ _ h => h) fun _ _ => rfl)) (nw_eq ?_)
      rfl
  · rw [if_pos hk] at sz
    have e : decR key s = ([], 13) := by rw [decR, blockR, if_pos hk]
    rw [e]
    refine fn_H ([Go.ResultVar.tmp 4, Go.ResultVar.tmp 5]) Try.func20 rfl rfl (by decide) fun ph hW Q hQ => ?_
    simp only [start, List.length_cons, List.length_nil, List.cons_append, List.nil_append, Nat.reduceAdd, Nat.reduceSub, List.replicate_succ, List.replicate_zero, Try.ntmps20]
    repeat' first
      | simp -implicitDefEqProofs (maxSteps := 400000) (disch := first | with_reducible rfl | omega | (simp only [h_n, PH.n_push, PH.n_put, List.length_cons, List.length_nil] <;> omega) | decide) only [wkAll, wkL, popO, wantedP, if_true, if_false, reduceIte, ne_eq, Nat.reduceAdd, Nat.reduceSub, Nat.reduceMul, Nat.reduceLeDiff, Nat.reduceLT, ofCells, ofCell, reduceCtorEq, Int.reduceLE, Int.reduceLT, Int.reduceToNat, Int.reduceAdd, Int.reduceSub, Int.reduceMul, Int.reduceNeg, Int.reduceBEq, Int.reduceBNe, Int.reduceEq, eqCell, eqCells, binP, unP, convP, lenP, builtinP, sliceDataP, unsafeStringP, appendT, appendS, appendP, copyP, srcP, mmsP, mmP, indexOp, indexAddrOp, sliceOp, bndsP, bndP, capw, capCut, loadOp, storeOp, loadP, fieldOp, fieldAddrOp, arrayAtOp, buildP, buildSliceP, makeSliceP, placeF, fillP, setL, PK.agg, isZero, gt_iff_lt, Nat.reducePow, Nat.reduceGT, reps, seg, wkN, if_pos, if_neg, tf3, Try.ze3, tf4, Try.ze4, tf5, Try.ze5, tf9, Try.ze9, tf44, Try.ze44]
      | refine w_pure (sz) ?_
      | refine w_dec (fun _ => ?_) (fun _ => ?_)
      | refine w_eqc (fun _ => ?_) (fun _ => ?_)
      | refine w_neqc (fun _ => ?_) (fun _ => ?_)
      | refine w_nneqc (fun _ => ?_) (fun _ => ?_)
      | ((first | refine w_split (fun h => ?_) (fun h => ?_) | refine d_split (fun h => ?_) (fun h => ?_) | refine w_csplit (fun h => ?_) (fun h => ?_)) <;> (try simp only [wkS] at h) <;> (have h2 := h) <;> (try simp only [wkT, ne_eq] at h2) <;> (try simp only [h]))
    refine hQ (by first | exact .inr rfl | exact .inl rfl) (by first | exact trivial | exact marks1) (by first | (simp -implicitDefEqProofs (maxSteps := 400000) (disch := first | with_reducible rfl | omega | (simp only [h_n, PH.n_push, PH.n_put, List.length_cons, List.length_nil] <;> omega) | decide) only [wkAll, wkL, popO, wantedP, if_true, if_false, reduceIte, ne_eq, Nat.reduceAdd, Nat.reduceSub, Nat.reduceMul, Nat.reduceLeDiff, Nat.reduceLT, ofCells, ofCell, reduceCtorEq, Int.reduceLE, Int.reduceLT, Int.reduceToNat, Int.reduceAdd, Int.reduceSub, Int.reduceMul, Int.reduceNeg, Int.reduceBEq, Int.reduceBNe, Int.reduceEq, eqCell, eqCells, binP, unP, convP, lenP, builtinP, sliceDataP, unsafeStringP, appendT, appendS, appendP, copyP, srcP, mmsP, mmP, indexOp, indexAddrOp, sliceOp, bndsP, bndP, capw, capCut, loadOp, storeOp, loadP, fieldOp, fieldAddrOp, arrayAtOp, buildP, buildSliceP, makeSliceP, placeF, fillP, setL, PK.agg, isZero, gt_iff_lt, Nat.reducePow, Nat.reduceGT, reps, seg, wkN, if_pos, if_neg, tf3, Try.ze3, tf4, Try.ze4, tf5, Try.ze5, tf9, Try.ze9, tf44, Try.ze44, resP, resPs, resP1]; rfl) | rfl) ⟨6, by repeat' first | exact frz_scalar rfl | apply frz_tuple | apply frz_agg | apply frz_fsl | apply frz_gsl (by omega) | exact frzs_nil | apply frzs_cons⟩ (by first | exact keepsH0 | exact keeps1 (by assumption) | exact keepsH (fun _ _ h => h) (fun p hp => by simp only [upF]; (repeat rw [if_neg (by omega)])) | exact keeps1t (by assumption) (fun p hp => by simp only [upF]; (repeat rw [if_neg (by omega)])) | (subst hT; exact keepsH (fun _ _ h => h) fun _ _ => rfl)) (nw_eq ?_)
    rfl
end Pv

namespace Pv
set_option maxRecDepth 20000
set_option maxHeartbeats 4000000
open Go Go.Proofs Go.RowKit
variable {w0 : World}

end Pv
