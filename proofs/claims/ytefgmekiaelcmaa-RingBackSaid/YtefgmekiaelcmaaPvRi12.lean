/- Part of the proof: the layer of pure values, or walks through functions (PvRi12, PvRiB, PvRi13). -/
import Derived.Test.YtefgmekiaelcmaaPvRi11
import Derived.Test.YtefgmekiaelcmaaPvRiE
set_option linter.all false
namespace Pv
set_option maxRecDepth 20000
set_option maxHeartbeats 4000000
open Go Go.Proofs Go.RowKit
variable {w0 : World}

end Pv

namespace Pv
open Go

/-! ### There and back -/
theorem wrap_i64u (m : Int) (h : -9223372036854775808 ≤ m ∧ m ≤ 9223372036854775807) : IntKind.wrap .i64 (((IntKind.wrap .u64 m).toNat : Nat) : Int) = m := by
  simp [IntKind.wrap, IntKind.bits, IntKind.signed]; omega
theorem wrap_u64i (v : Nat) (h : v < 2 ^ 64) : (IntKind.wrap .u64 (IntKind.wrap .i64 (v : Int))).toNat = v := by
  simp [IntKind.wrap, IntKind.bits, IntKind.signed]; omega
theorem flat_drop : ∀ {L : List RK}, (∀ k ∈ L, k.key.length = 32) → ∀ i : Nat, (L.flatMap encK).drop (40 * i) = (L.drop i).flatMap encK
  | [], _, i => by simp
  | k :: L, h, 0 => rfl
  | k :: L, h, i + 1 => by
    rw [List.flatMap_cons, show 40 * (i + 1) = (encK k).length + 40 * i by rw [encK_len (h k (by simp))]; omega, ← List.drop_drop, List.drop_left, flat_drop (fun x hx => h x (List.mem_cons_of_mem _ hx)) i]; rfl
theorem dec_keys {L : List RK} {nx : UInt32} (h : FitP L nx) (hm : ∀ k ∈ L, -9223372036854775808 ≤ k.made ∧ k.made ≤ 9223372036854775807) : decL (L.flatMap encK) nx L.length = L := by
  apply List.ext_getElem
  · simp [decL]
  · intro i h1 h2
    simp only [decL, List.getElem_map, List.getElem_range]
    have hk := List.getElem?_eq_getElem h2
    generalize L[i] = k at hk
    obtain ⟨a, b, c⟩ := h i k hk
    have hd : (L.flatMap encK).drop (40 * i) = beL (kM k) 8 ++ (k.key ++ (L.drop (i + 1)).flatMap encK) := by
      rw [flat_drop h.keys i]
      have : L.drop i = k :: L.drop (i + 1) := by
        rw [List.drop_eq_getElem_cons h2]
        congr 1
        have := (List.getElem?_eq_some_iff.1 hk).2; exact this
      rw [this, List.flatMap_cons, encK, List.append_assoc]
    have e1 : ((L.flatMap encK).drop (40 * i)).take 8 = beL (kM k) 8 := by
      rw [hd]; exact List.take_left' (beL_len _ _)
    have e2 : ((L.flatMap encK).drop (40 * i + 8)).take 32 = k.key := by
      rw [← List.drop_drop, hd, List.drop_left' (beL_len _ _)]; exact List.take_left' a
    rw [idK, rawK, e1, e2, val_be]
    have e3 : kM k % 256 ^ 8 = kM k := Nat.mod_eq_of_lt (by have := kM_lt k; have h3 : (256 : Nat) ^ 8 = 2 ^ 64 := by decide
                                                            omega)
    rw [e3, kM, wrap_i64u _ (hm k (List.mem_of_getElem? hk)), ← b]
theorem dec_enc {L : List RK} {nx : UInt32} (hf : fitG L nx = true) (hm : ∀ k ∈ L, -9223372036854775808 ≤ k.made ∧ k.made ≤ 9223372036854775807) : decG (encG L nx).1 = ((L, nx), 0) := by
  obtain ⟨f1, f2, fP⟩ := (fitG_iffP L nx).1 hf
  rw [encG, if_pos hf]
  show decG (encB L nx ++ shaOf (encB L nx)) = _
  have hl := encB_len fP.keys (nx := nx)
  have hsl := of_len (encB L nx)
  have hB : encB L nx = beL nx.toNat 4 ++ (beL L.length 1 ++ L.flatMap encK) := by rw [encB, encH, List.append_assoc]
  have hb : (encB L nx ++ shaOf (encB L nx))[4]? = some (UInt8.ofNat L.length) := by
    rw [List.getElem?_append_left (by omega), hB, List.getElem?_append_right (by rw [beL_len]; exact Nat.le_refl _), beL_len]
    simp [beL, beAt]
  have hbn : (UInt8.ofNat L.length).toNat = L.length := by rw [UInt8.toNat_ofNat']; omega
  simp only [decG, hb, hbn]
  have t1 : (encB L nx ++ shaOf (encB L nx)).take (5 + 40 * L.length) = encB L nx := List.take_left' hl
  have t2 : (encB L nx ++ shaOf (encB L nx)).drop (5 + 40 * L.length) = shaOf (encB L nx) := List.drop_left' hl
  have t3 : (encB L nx ++ shaOf (encB L nx)).take 4 = beL nx.toNat 4 := by rw [hB, List.append_assoc]; exact List.take_left' (beL_len _ _)
  have t4 : ((encB L nx ++ shaOf (encB L nx)).drop 5).take (40 * L.length) = L.flatMap encK := by
    rw [encB, List.append_assoc, List.drop_left' (encH_len _ _)]; exact List.take_left' (encF_len fP.keys)
  have t5 : UInt32.ofNat (valN (beL nx.toNat 4)) = nx := by
    rw [val_be, show (256 : Nat) ^ 4 = 2 ^ 32 by decide, Nat.mod_eq_of_lt nx.toNat_lt, UInt32.ofNat_toNat]
  rw [if_neg (by rw [List.length_append, hl, hsl]; omega), t1, t2, if_neg (by simp), t3, t4, t5, dec_keys fP hm, if_pos hf]

theorem flat_enc {S : List UInt8} {nx : UInt32} {n : Nat} (hS : S.length = 40 * n) : ∀ m, m ≤ n → ((List.range m).map (idK S nx n)).flatMap encK = S.take (40 * m)
  | 0, _ => by simp
  | m + 1, h => by
    rw [List.range_succ, List.map_append, List.flatMap_append, flat_enc hS m (by omega)]
    have e : encK (idK S nx n m) = (S.drop (40 * m)).take 40 := by
      have hl : ((S.drop (40 * m)).take 8).length = 8 := by rw [List.length_take, List.length_drop]; omega
      have hv := valN_lt ((S.drop (40 * m)).take 8)
      rw [hl] at hv
      have h3 : (256 : Nat) ^ 8 = 2 ^ 64 := by decide
      have hkm : kM (idK S nx n m) = valN ((S.drop (40 * m)).take 8) := by
        show (IntKind.wrap .u64 (IntKind.wrap .i64 _)).toNat = _
        exact wrap_u64i _ (by omega)
      have hb := be_val ((S.drop (40 * m)).take 8) (valN ((S.drop (40 * m)).take 8)) (by rw [hl]; exact Nat.mod_eq_of_lt hv)
      rw [hl] at hb
      rw [encK, hkm, hb]
      show _ ++ (S.drop (40 * m + 8)).take 32 = _
      rw [← List.drop_drop, show (40 : Nat) = 8 + 32 from rfl, List.take_add]
    simp only [List.map_cons, List.map_nil, List.flatMap_cons, List.flatMap_nil, List.append_nil]
    rw [e, show 40 * (m + 1) = 40 * m + 40 by omega, List.take_add]
theorem enc_dec {s : List UInt8} {L : List RK} {nx : UInt32} (h : decG s = ((L, nx), 0)) : fitG L nx = true ∧ encG L nx = (s, 0) := by
  rw [decG] at h
  split at h
  · simp at h
  · rename_i b hb
    split at h
    · simp at h
    · rename_i h1
      split at h
      · simp at h
      · rename_i h2
        split at h
        · rename_i h3
          have h1 : ¬ b.toNat < 1 ∧ ¬ 8 < b.toNat ∧ s.length = 37 + 40 * b.toNat := by omega
          simp only [ne_eq, Classical.not_not] at h2
          simp only [Prod.mk.injEq, and_true] at h
          obtain ⟨hL, hn⟩ := h
          rw [hL, hn] at h3
          refine ⟨h3, ?_⟩
          rw [encG, if_pos h3]
          have hSl : ((s.drop 5).take (40 * b.toNat)).length = 40 * b.toNat := by rw [List.length_take, List.length_drop]; omega
          have hLl : L.length = b.toNat := by rw [← hL]; exact decL_len _ _ _
          have hF : L.flatMap encK = (s.drop 5).take (40 * b.toNat) := by
            rw [← hL]
            have := flat_enc (S := (s.drop 5).take (40 * b.toNat)) (nx := UInt32.ofNat (valN (s.take 4))) hSl b.toNat (Nat.le_refl _)
            rw [List.take_of_length_le (l := (s.drop 5).take (40 * b.toNat)) (by omega)] at this
            exact this
          have h4 : (s.take 4).length = 4 := by rw [List.length_take]; omega
          have hv := valN_lt (s.take 4)
          rw [h4] at hv
          have hc : (256 : Nat) ^ 4 = 2 ^ 32 := by decide
          have hH : encH L nx = s.take 5 := by
            rw [encH, ← hn, UInt32.toNat_ofNat', Nat.mod_eq_of_lt (by omega), hLl]
            have hb4 := be_val (s.take 4) (valN (s.take 4)) (by rw [h4]; exact Nat.mod_eq_of_lt hv)
            rw [h4] at hb4
            rw [hb4, takeR hb]
            congr 1
            simp [beL, beAt]
          have hB : encB L nx = s.take (5 + 40 * b.toNat) := by
            rw [encB, hH, hF, List.take_add]
          rw [hB, h2, List.take_append_drop]
        · simp at h
end Pv

namespace Pv
set_option maxRecDepth 20000
set_option maxHeartbeats 4000000
open Go Go.Proofs Go.RowKit
variable {w0 : World}

theorem decG_len (s : List UInt8) : (decG s).1.1.length ≤ 8 := by
  rw [decG]
  split
  · simp
  · split
    · simp
    · split
      · simp
      · split
        · rename_i h; exact ((fitG_iffP _ _).1 h).2.1
        · simp
theorem RingBack_ok (W : World) (c0 : List PV) (o0 : OkL [.sl [.int .u32, .str, .int .i64], .int .u32] c0) (s : List UInt8) (hs : s.length < 2 ^ 47) :
    Fn (Cx W) 3 [.agg c0, .str s] (.bool true) := by
  obtain ⟨L, nx, hL, hB, rfl⟩ := okL_ring o0
  have aw := awake24_ok (w0 := W)
  have hmx : maxLen = 9223372036854775807 := rfl
  simp only [rgC]
  by_cases g1 : 100 < L.length
  · have q1 : (100 : Int) < (L.length : Int) := by omega
    refine fn_H ([Go.ResultVar.tmp 4]) Try.func3 rfl rfl (by decide) fun ph hW Q hQ => ?_
    simp only [start, List.length_cons, List.length_nil, List.cons_append, List.nil_append, Nat.reduceAdd, Nat.reduceSub, List.replicate_succ, List.replicate_zero, Try.ntmps3]
    repeat' first
      | simp -implicitDefEqProofs (maxSteps := 400000) (disch := first | with_reducible rfl | omega | (simp only [h_n, PH.n_push, PH.n_put, List.length_cons, List.length_nil] <;> omega) | decide) only [wkAll, wkL, popO, wantedP, if_true, if_false, reduceIte, ne_eq, Nat.reduceAdd, Nat.reduceSub, Nat.reduceMul, Nat.reduceLeDiff, Nat.reduceLT, ofCells, ofCell, reduceCtorEq, Int.reduceLE, Int.reduceLT, Int.reduceToNat, Int.reduceAdd, Int.reduceSub, Int.reduceMul, Int.reduceNeg, Int.reduceBEq, Int.reduceBNe, Int.reduceEq, eqCell, eqCells, binP, unP, convP, lenP, builtinP, sliceDataP, unsafeStringP, appendT, appendS, appendP, copyP, srcP, mmsP, mmP, indexOp, indexAddrOp, sliceOp, bndsP, bndP, capw, capCut, loadOp, storeOp, loadP, fieldOp, fieldAddrOp, arrayAtOp, buildP, buildSliceP, makeSliceP, placeF, fillP, setL, PK.agg, isZero, gt_iff_lt, Nat.reducePow, Nat.reduceGT, reps, seg, wkN, if_pos, if_neg, tf2, Try.ze2, tf3, Try.ze3, tf4, Try.ze4, tf9, Try.ze9, tf22, Try.ze22, tf23, Try.ze23, tf25, Try.ze25, tf27, Try.ze27, tf44, Try.ze44, gt_iff_lt, q1]
      | refine w_pure (aw) ?_
      | refine w_dec (fun _ => ?_) (fun _ => ?_)
      | refine w_eqc (fun _ => ?_) (fun _ => ?_)
      | refine w_neqc (fun _ => ?_) (fun _ => ?_)
      | refine w_nneqc (fun _ => ?_) (fun _ => ?_)
      | ((first | refine w_split (fun h => ?_) (fun h => ?_) | refine d_split (fun h => ?_) (fun h => ?_) | refine w_csplit (fun h => ?_) (fun h => ?_)) <;> (try simp only [Bool.not_eq_true', Bool.not_eq_false', Bool.not_true, Bool.not_false] at h) <;> (have h2 := h) <;> (try simp only [decide_eq_true_eq, decide_eq_false_iff_not, beq_iff_eq, beq_eq_false_iff_ne, bne_iff_ne, bne_eq_false_iff_eq, Int.not_lt, Int.not_le, ne_eq] at h2) <;> (try simp only [h]))
    refine hQ (by first | exact .inr rfl | exact .inl rfl) (by first | exact trivial | exact marks1) (by first | (simp -implicitDefEqProofs (maxSteps := 400000) (disch := first | with_reducible rfl | omega | (simp only [h_n, PH.n_push, PH.n_put, List.length_cons, List.length_nil] <;> omega) | decide) only [wkAll, wkL, popO, wantedP, if_true, if_false, reduceIte, ne_eq, Nat.reduceAdd, Nat.reduceSub, Nat.reduceMul, Nat.reduceLeDiff, Nat.reduceLT, ofCells, ofCell, reduceCtorEq, Int.reduceLE, Int.reduceLT, Int.reduceToNat, Int.reduceAdd, Int.reduceSub, Int.reduceMul, Int.reduceNeg, Int.reduceBEq, Int.reduceBNe, Int.reduceEq, eqCell, eqCells, binP, unP, convP, lenP, builtinP, sliceDataP, unsafeStringP, appendT, appendS, appendP, copyP, srcP, mmsP, mmP, indexOp, indexAddrOp, sliceOp, bndsP, bndP, capw, capCut, loadOp, storeOp, loadP, fieldOp, fieldAddrOp, arrayAtOp, buildP, buildSliceP, makeSliceP, placeF, fillP, setL, PK.agg, isZero, gt_iff_lt, Nat.reducePow, Nat.reduceGT, reps, seg, wkN, if_pos, if_neg, tf2, Try.ze2, tf3, Try.ze3, tf4, Try.ze4, tf9, Try.ze9, tf22, Try.ze22, tf23, Try.ze23, tf25, Try.ze25, tf27, Try.ze27, tf44, Try.ze44, resP, resPs, resP1]; rfl) | rfl) ⟨6, by repeat' first | exact frz_scalar rfl | apply frz_tuple | apply frz_agg | apply frz_fsl | apply frz_gsl (by omega) | exact frzs_nil | apply frzs_cons⟩ (by first | exact keepsH0 | exact keeps1 (by assumption) | exact keepsH (fun _ _ h => h) (fun p hp => by simp only [upF]; (repeat rw [if_neg (by omega)])) | exact keeps1t (by assumption) (fun p hp => by simp only [upF]; (repeat rw [if_neg (by omega)])) | (subst hT; exact keepsH (fun _ _ h => h) fun _ _ => rfl)) (nw_eq ?_)
    rfl
  have q1 : ¬ (100 : Int) < (L.length : Int) := by omega
  by_cases g3 : 2000 < s.length
  · have q3 : (2000 : Int) < (s.length : Int) := by omega
    refine fn_H ([Go.ResultVar.tmp 4]) Try.func3 rfl rfl (by decide) fun ph hW Q hQ => ?_
    simp only [start, List.length_cons, List.length_nil, List.cons_append, List.nil_append, Nat.reduceAdd, Nat.reduceSub, List.replicate_succ, List.replicate_zero, Try.ntmps3]
    repeat' first
      | simp -implicitDefEqProofs (maxSteps := 400000) (disch := first | with_reducible rfl | omega | (simp only [h_n, PH.n_push, PH.n_put, List.length_cons, List.length_nil] <;> omega) | decide) only [wkAll, wkL, popO, wantedP, if_true, if_false, reduceIte, ne_eq, Nat.reduceAdd, Nat.reduceSub, Nat.reduceMul, Nat.reduceLeDiff, Nat.reduceLT, ofCells, ofCell, reduceCtorEq, Int.reduceLE, Int.reduceLT, Int.reduceToNat, Int.reduceAdd, Int.reduceSub, Int.reduceMul, Int.reduceNeg, Int.reduceBEq, Int.reduceBNe, Int.reduceEq, eqCell, eqCells, binP, unP, convP, lenP, builtinP, sliceDataP, unsafeStringP, appendT, appendS, appendP, copyP, srcP, mmsP, mmP, indexOp, indexAddrOp, sliceOp, bndsP, bndP, capw, capCut, loadOp, storeOp, loadP, fieldOp, fieldAddrOp, arrayAtOp, buildP, buildSliceP, makeSliceP, placeF, fillP, setL, PK.agg, isZero, gt_iff_lt, Nat.reducePow, Nat.reduceGT, reps, seg, wkN, if_pos, if_neg, tf2, Try.ze2, tf3, Try.ze3, tf4, Try.ze4, tf9, Try.ze9, tf22, Try.ze22, tf23, Try.ze23, tf25, Try.ze25, tf27, Try.ze27, tf44, Try.ze44, gt_iff_lt, q1, q3]
      | refine w_pure (aw) ?_
      | refine w_dec (fun _ => ?_) (fun _ => ?_)
      | refine w_eqc (fun _ => ?_) (fun _ => ?_)
      | refine w_neqc (fun _ => ?_) (fun _ => ?_)
      | refine w_nneqc (fun _ => ?_) (fun _ => ?_)
      | ((first | refine w_split (fun h => ?_) (fun h => ?_) | refine d_split (fun h => ?_) (fun h => ?_) | refine w_csplit (fun h => ?_) (fun h => ?_)) <;> (try simp only [Bool.not_eq_true', Bool.not_eq_false', Bool.not_true, Bool.not_false] at h) <;> (have h2 := h) <;> (try simp only [decide_eq_true_eq, decide_eq_false_iff_not, beq_iff_eq, beq_eq_false_iff_ne, bne_iff_ne, bne_eq_false_iff_eq, Int.not_lt, Int.not_le, ne_eq] at h2) <;> (try simp only [h]))
    refine hQ (by first | exact .inr rfl | exact .inl rfl) (by first | exact trivial | exact marks1) (by first | (simp -implicitDefEqProofs (maxSteps := 400000) (disch := first | with_reducible rfl | omega | (simp only [h_n, PH.n_push, PH.n_put, List.length_cons, List.length_nil] <;> omega) | decide) only [wkAll, wkL, popO, wantedP, if_true, if_false, reduceIte, ne_eq, Nat.reduceAdd, Nat.reduceSub, Nat.reduceMul, Nat.reduceLeDiff, Nat.reduceLT, ofCells, ofCell, reduceCtorEq, Int.reduceLE, Int.reduceLT, Int.reduceToNat, Int.reduceAdd, Int.reduceSub, Int.reduceMul, Int.reduceNeg, Int.reduceBEq, Int.reduceBNe, Int.reduceEq, eqCell, eqCells, binP, unP, convP, lenP, builtinP, sliceDataP, unsafeStringP, appendT, appendS, appendP, copyP, srcP, mmsP, mmP, indexOp, indexAddrOp, sliceOp, bndsP, bndP, capw, capCut, loadOp, storeOp, loadP, fieldOp, fieldAddrOp, arrayAtOp, buildP, buildSliceP, makeSliceP, placeF, fillP, setL, PK.agg, isZero, gt_iff_lt, Nat.reducePow, Nat.reduceGT, reps, seg, wkN, if_pos, if_neg, tf2, Try.ze2, tf3, Try.ze3, tf4, Try.ze4, tf9, Try.ze9, tf22, Try.ze22, tf23, Try.ze23, tf25, Try.ze25, tf27, Try.ze27, tf44, Try.ze44, resP, resPs, resP1]; rfl) | rfl) ⟨6, by repeat' first | exact frz_scalar rfl | apply frz_tuple | apply frz_agg | apply frz_fsl | apply frz_gsl (by omega) | exact frzs_nil | apply frzs_cons⟩ (by first | exact keepsH0 | exact keeps1 (by assumption) | exact keepsH (fun _ _ h => h) (fun p hp => by simp only [upF]; (repeat rw [if_neg (by omega)])) | exact keeps1t (by assumption) (fun p hp => by simp only [upF]; (repeat rw [if_neg (by omega)])) | (subst hT; exact keepsH (fun _ _ h => h) fun _ _ => rfl)) (nw_eq ?_)
    rfl
  have q3 : ¬ (2000 : Int) < (s.length : Int) := by omega
  have hkl : ∀ k ∈ L, k.key.length < 2 ^ 63 := fun k hk => by have := (hB k hk).1; omega
  have d1 := dec24_ok (w0 := W) s (by omega)
  have e2 := enc24_ok (w0 := W) L nx (by omega) hkl
  have f2 := refFit24_ok (w0 := W) L nx (by omega) hkl
  have hdl := decG_len s
  have eb : ∀ Y ny, decG s = ((Y, ny), 0) → fitG Y ny = true ∧ encG Y ny = (s, 0) := fun Y ny h => enc_dec h
  generalize decG s = x at *
  obtain ⟨⟨Y, ny⟩, e⟩ := x
  simp only at hdl
  -- behind the first part
  have key : ∀ (hf : fitG L nx = true), ∃ B : List UInt8, encG L nx = (B, 0) ∧ B.length < 2 ^ 44 ∧ decG B = ((L, nx), 0) := fun hf => by
    refine ⟨(encG L nx).1, ?_, ?_, dec_enc hf fun k hk => (hB k hk).2⟩
    · rw [encG, if_pos hf]
    · obtain ⟨f1, f2, fP⟩ := (fitG_iffP L nx).1 hf
      rw [encG, if_pos hf]; show (encB L nx ++ _).length < _
      rw [List.length_append, encB_len fP.keys, of_len]; omega
  have s1 := same_ok (w0 := W) L L nx nx (by omega) (by omega)
  simp only [decide_true, Bool.and_self] at s1
  by_cases he : e = 0
  · subst he
    obtain ⟨hfy, hey⟩ := eb Y ny rfl
    have hyk := ((fitG_iffP Y ny).1 hfy).2.2.keys
    have e1 := enc24_ok (w0 := W) Y ny (by omega) (fun k hk => by have := hyk k hk; omega)
    have f1 := refFit24_ok (w0 := W) Y ny (by omega) (fun k hk => by have := hyk k hk; omega)
    rw [hey] at e1
    rw [hfy] at f1
    cases hf : fitG L nx
    · rw [hf] at f2
      rw [encG, if_neg (by rw [hf]; decide)] at e2
      simp only [rgC] at *
      refine fn_H ([Go.ResultVar.tmp 4]) Try.func3 rfl rfl (by decide) fun ph hW Q hQ => ?_
      simp only [start, List.length_cons, List.length_nil, List.cons_append, List.nil_append, Nat.reduceAdd, Nat.reduceSub, List.replicate_succ, List.replicate_zero, Try.ntmps3]
      repeat' first
        | simp -implicitDefEqProofs (maxSteps := 400000) (disch := first | with_reducible rfl | omega | (simp only [h_n, PH.n_push, PH.n_put, List.length_cons, List.length_nil] <;> omega) | decide) only [wkAll, wkL, popO, wantedP, if_true, if_false, reduceIte, ne_eq, Nat.reduceAdd, Nat.reduceSub, Nat.reduceMul, Nat.reduceLeDiff, Nat.reduceLT, ofCells, ofCell, reduceCtorEq, Int.reduceLE, Int.reduceLT, Int.reduceToNat, Int.reduceAdd, Int.reduceSub, Int.reduceMul, Int.reduceNeg, Int.reduceBEq, Int.reduceBNe, Int.reduceEq, eqCell, eqCells, binP, unP, convP, lenP, builtinP, sliceDataP, unsafeStringP, appendT, appendS, appendP, copyP, srcP, mmsP, mmP, indexOp, indexAddrOp, sliceOp, bndsP, bndP, capw, capCut, loadOp, storeOp, loadP, fieldOp, fieldAddrOp, arrayAtOp, buildP, buildSliceP, makeSliceP, placeF, fillP, setL, PK.agg, isZero, gt_iff_lt, Nat.reducePow, Nat.reduceGT, reps, seg, wkN, if_pos, if_neg, tf2, Try.ze2, tf3, Try.ze3, tf4, Try.ze4, tf9, Try.ze9, tf22, Try.ze22, tf23, Try.ze23, tf25, Try.ze25, tf27, Try.ze27, tf44, Try.ze44, gt_iff_lt, q1, q3]
        | refine w_pure (d1) ?_
        | refine w_pure (e1) ?_
        | refine w_pure (f1) ?_
        | refine w_pure (e2) ?_
        | refine w_pure (f2) ?_
        | refine w_pure (aw) ?_
        | refine w_dec (fun _ => ?_) (fun _ => ?_)
        | refine w_eqc (fun _ => ?_) (fun _ => ?_)
        | refine w_neqc (fun _ => ?_) (fun _ => ?_)
        | refine w_nneqc (fun _ => ?_) (fun _ => ?_)
        | ((first | refine w_split (fun h => ?_) (fun h => ?_) | refine d_split (fun h => ?_) (fun h => ?_) | refine w_csplit (fun h => ?_) (fun h => ?_)) <;> (try simp only [Bool.not_eq_true', Bool.not_eq_false', Bool.not_true, Bool.not_false] at h) <;> (have h2 := h) <;> (try simp only [decide_eq_true_eq, decide_eq_false_iff_not, beq_iff_eq, beq_eq_false_iff_ne, bne_iff_ne, bne_eq_false_iff_eq, Int.not_lt, Int.not_le, ne_eq] at h2) <;> (try simp only [h]))
      refine hQ (by first | exact .inr rfl | exact .inl rfl) (by first | exact trivial | exact marks1) (by first | (simp -implicitDefEqProofs (maxSteps := 400000) (disch := first | with_reducible rfl | omega | (simp only [h_n, PH.n_push, PH.n_put, List.length_cons, List.length_nil] <;> omega) | decide) only [wkAll, wkL, popO, wantedP, if_true, if_false, reduceIte, ne_eq, Nat.reduceAdd, Nat.reduceSub, Nat.reduceMul, Nat.reduceLeDiff, Nat.reduceLT, ofCells, ofCell, reduceCtorEq, Int.reduceLE, Int.reduceLT, Int.reduceToNat, Int.reduceAdd, Int.reduceSub, Int.reduceMul, Int.reduceNeg, Int.reduceBEq, Int.reduceBNe, Int.reduceEq, eqCell, eqCells, binP, unP, convP, lenP, builtinP, sliceDataP, unsafeStringP, appendT, appendS, appendP, copyP, srcP, mmsP, mmP, indexOp, indexAddrOp, sliceOp, bndsP, bndP, capw, capCut, loadOp, storeOp, loadP, fieldOp, fieldAddrOp, arrayAtOp, buildP, buildSliceP, makeSliceP, placeF, fillP, setL, PK.agg, isZero, gt_iff_lt, Nat.reducePow, Nat.reduceGT, reps, seg, wkN, if_pos, if_neg, tf2, Try.ze2, tf3, Try.ze3, tf4, Try.ze4, tf9, Try.ze9, tf22, Try.ze22, tf23, Try.ze23, tf25, Try.ze25, tf27, Try.ze27, tf44, Try.ze44, resP, resPs, resP1]; rfl) | rfl) ⟨6, by repeat' first | exact frz_scalar rfl | apply frz_tuple | apply frz_agg | apply frz_fsl | apply frz_gsl (by omega) | exact frzs_nil | apply frzs_cons⟩ (by first | exact keepsH0 | exact keeps1 (by assumption) | exact keepsH (fun _ _ h => h) (fun p hp => by simp only [upF]; (repeat rw [if_neg (by omega)])) | exact keeps1t (by assumption) (fun p hp => by simp only [upF]; (repeat rw [if_neg (by omega)])) | (subst hT; exact keepsH (fun _ _ h => h) fun _ _ => rfl)) (nw_eq ?_)
      rfl
    · rw [hf] at f2
      obtain ⟨B, hB1, hB2, hB3⟩ := key hf
      have d2 := dec24_ok (w0 := W) B hB2
      rw [hB3] at d2
      rw [hB1] at e2
      simp only [rgC] at *
      refine fn_H ([Go.ResultVar.tmp 4]) Try.func3 rfl rfl (by decide) fun ph hW Q hQ => ?_
      simp only [start, List.length_cons, List.length_nil, List.cons_append, List.nil_append, Nat.reduceAdd, Nat.reduceSub, List.replicate_succ, List.replicate_zero, Try.ntmps3]
      repeat' first
        | simp -implicitDefEqProofs (maxSteps := 400000) (disch := first | with_reducible rfl | omega | (simp only [h_n, PH.n_push, PH.n_put, List.length_cons, List.length_nil] <;> omega) | decide) only [wkAll, wkL, popO, wantedP, if_true, if_false, reduceIte, ne_eq, Nat.reduceAdd, Nat.reduceSub, Nat.reduceMul, Nat.reduceLeDiff, Nat.reduceLT, ofCells, ofCell, reduceCtorEq, Int.reduceLE, Int.reduceLT, Int.reduceToNat, Int.reduceAdd, Int.reduceSub, Int.reduceMul, Int.reduceNeg, Int.reduceBEq, Int.reduceBNe, Int.reduceEq, eqCell, eqCells, binP, unP, convP, lenP, builtinP, sliceDataP, unsafeStringP, appendT, appendS, appendP, copyP, srcP, mmsP, mmP, indexOp, indexAddrOp, sliceOp, bndsP, bndP, capw, capCut, loadOp, storeOp, loadP, fieldOp, fieldAddrOp, arrayAtOp, buildP, buildSliceP, makeSliceP, placeF, fillP, setL, PK.agg, isZero, gt_iff_lt, Nat.reducePow, Nat.reduceGT, reps, seg, wkN, if_pos, if_neg, tf2, Try.ze2, tf3, Try.ze3, tf4, Try.ze4, tf9, Try.ze9, tf22, Try.ze22, tf23, Try.ze23, tf25, Try.ze25, tf27, Try.ze27, tf44, Try.ze44, gt_iff_lt, q1, q3]
        | refine w_pure (d1) ?_
        | refine w_pure (e1) ?_
        | refine w_pure (f1) ?_
        | refine w_pure (e2) ?_
        | refine w_pure (f2) ?_
        | refine w_pure (d2) ?_
        | refine w_pure (s1) ?_
        | refine w_pure (aw) ?_
        | refine w_dec (fun _ => ?_) (fun _ => ?_)
        | refine w_eqc (fun _ => ?_) (fun _ => ?_)
        | refine w_neqc (fun _ => ?_) (fun _ => ?_)
        | refine w_nneqc (fun _ => ?_) (fun _ => ?_)
        | ((first | refine w_split (fun h => ?_) (fun h => ?_) | refine d_split (fun h => ?_) (fun h => ?_) | refine w_csplit (fun h => ?_) (fun h => ?_)) <;> (try simp only [Bool.not_eq_true', Bool.not_eq_false', Bool.not_true, Bool.not_false] at h) <;> (have h2 := h) <;> (try simp only [decide_eq_true_eq, decide_eq_false_iff_not, beq_iff_eq, beq_eq_false_iff_ne, bne_iff_ne, bne_eq_false_iff_eq, Int.not_lt, Int.not_le, ne_eq] at h2) <;> (try simp only [h]))
      refine hQ (by first | exact .inr rfl | exact .inl rfl) (by first | exact trivial | exact marks1) (by first | (simp -implicitDefEqProofs (maxSteps := 400000) (disch := first | with_reducible rfl | omega | (simp only [h_n, PH.n_push, PH.n_put, List.length_cons, List.length_nil] <;> omega) | decide) only [wkAll, wkL, popO, wantedP, if_true, if_false, reduceIte, ne_eq, Nat.reduceAdd, Nat.reduceSub, Nat.reduceMul, Nat.reduceLeDiff, Nat.reduceLT, ofCells, ofCell, reduceCtorEq, Int.reduceLE, Int.reduceLT, Int.reduceToNat, Int.reduceAdd, Int.reduceSub, Int.reduceMul, Int.reduceNeg, Int.reduceBEq, Int.reduceBNe, Int.reduceEq, eqCell, eqCells, binP, unP, convP, lenP, builtinP, sliceDataP, unsafeStringP, appendT, appendS, appendP, copyP, srcP, mmsP, mmP, indexOp, indexAddrOp, sliceOp, bndsP, bndP, capw, capCut, loadOp, storeOp, loadP, fieldOp, fieldAddrOp, arrayAtOp, buildP, buildSliceP, makeSliceP, placeF, fillP, setL, PK.agg, isZero, gt_iff_lt, Nat.reducePow, Nat.reduceGT, reps, seg, wkN, if_pos, if_neg, tf2, Try.ze2, tf3, Try.ze3, tf4, Try.ze4, tf9, Try.ze9, tf22, Try.ze22, tf23, Try.ze23, tf25, Try.ze25, tf27, Try.ze27, tf44, Try.ze44, resP, resPs, resP1]; rfl) | rfl) ⟨6, by repeat' first | exact frz_scalar rfl | apply frz_tuple | apply frz_agg | apply frz_fsl | apply frz_gsl (by omega) | exact frzs_nil | apply frzs_cons⟩ (by first | exact keepsH0 | exact keeps1 (by assumption) | exact keepsH (fun _ _ h => h) (fun p hp => by simp only [upF]; (repeat rw [if_neg (by omega)])) | exact keeps1t (by assumption) (fun p hp => by simp only [upF]; (repeat rw [if_neg (by omega)])) | (subst hT; exact keepsH (fun _ _ h => h) fun _ _ => rfl)) (nw_eq ?_)
      rfl
  · have qe : (e == 0) = false := by rw [beq_eq_false_iff_ne]; exact he
    cases hf : fitG L nx
    · rw [hf] at f2
      rw [encG, if_neg (by rw [hf]; decide)] at e2
      simp only [rgC] at *
      refine fn_H ([Go.ResultVar.tmp 4]) Try.func3 rfl rfl (by decide) fun ph hW Q hQ => ?_
      simp only [start, List.length_cons, List.length_nil, List.cons_append, List.nil_append, Nat.reduceAdd, Nat.reduceSub, List.replicate_succ, List.replicate_zero, Try.ntmps3]
      repeat' first
        | simp -implicitDefEqProofs (maxSteps := 400000) (disch := first | with_reducible rfl | omega | (simp only [h_n, PH.n_push, PH.n_put, List.length_cons, List.length_nil] <;> omega) | decide) only [wkAll, wkL, popO, wantedP, if_true, if_false, reduceIte, ne_eq, Nat.reduceAdd, Nat.reduceSub, Nat.reduceMul, Nat.reduceLeDiff, Nat.reduceLT, ofCells, ofCell, reduceCtorEq, Int.reduceLE, Int.reduceLT, Int.reduceToNat, Int.reduceAdd, Int.reduceSub, Int.reduceMul, Int.reduceNeg, Int.reduceBEq, Int.reduceBNe, Int.reduceEq, eqCell, eqCells, binP, unP, convP, lenP, builtinP, sliceDataP, unsafeStringP, appendT, appendS, appendP, copyP, srcP, mmsP, mmP, indexOp, indexAddrOp, sliceOp, bndsP, bndP, capw, capCut, loadOp, storeOp, loadP, fieldOp, fieldAddrOp, arrayAtOp, buildP, buildSliceP, makeSliceP, placeF, fillP, setL, PK.agg, isZero, gt_iff_lt, Nat.reducePow, Nat.reduceGT, reps, seg, wkN, if_pos, if_neg, tf2, Try.ze2, tf3, Try.ze3, tf4, Try.ze4, tf9, Try.ze9, tf22, Try.ze22, tf23, Try.ze23, tf25, Try.ze25, tf27, Try.ze27, tf44, Try.ze44, gt_iff_lt, q1, q3, qe]
        | refine w_pure (d1) ?_
        | refine w_pure (e2) ?_
        | refine w_pure (f2) ?_
        | refine w_pure (aw) ?_
        | refine w_dec (fun _ => ?_) (fun _ => ?_)
        | refine w_eqc (fun _ => ?_) (fun _ => ?_)
        | refine w_neqc (fun _ => ?_) (fun _ => ?_)
        | refine w_nneqc (fun _ => ?_) (fun _ => ?_)
        | ((first | refine w_split (fun h => ?_) (fun h => ?_) | refine d_split (fun h => ?_) (fun h => ?_) | refine w_csplit (fun h => ?_) (fun h => ?_)) <;> (try simp only [Bool.not_eq_true', Bool.not_eq_false', Bool.not_true, Bool.not_false] at h) <;> (have h2 := h) <;> (try simp only [decide_eq_true_eq, decide_eq_false_iff_not, beq_iff_eq, beq_eq_false_iff_ne, bne_iff_ne, bne_eq_false_iff_eq, Int.not_lt, Int.not_le, ne_eq] at h2) <;> (try simp only [h]))
      refine hQ (by first | exact .inr rfl | exact .inl rfl) (by first | exact trivial | exact marks1) (by first | (simp -implicitDefEqProofs (maxSteps := 400000) (disch := first | with_reducible rfl | omega | (simp only [h_n, PH.n_push, PH.n_put, List.length_cons, List.length_nil] <;> omega) | decide) only [wkAll, wkL, popO, wantedP, if_true, if_false, reduceIte, ne_eq, Nat.reduceAdd, Nat.reduceSub, Nat.reduceMul, Nat.reduceLeDiff, Nat.reduceLT, ofCells, ofCell, reduceCtorEq, Int.reduceLE, Int.reduceLT, Int.reduceToNat, Int.reduceAdd, Int.reduceSub, Int.reduceMul, Int.reduceNeg, Int.reduceBEq, Int.reduceBNe, Int.reduceEq, eqCell, eqCells, binP, unP, convP, lenP, builtinP, sliceDataP, unsafeStringP, appendT, appendS, appendP, copyP, srcP, mmsP, mmP, indexOp, indexAddrOp, sliceOp, bndsP, bndP, capw, capCut, loadOp, storeOp, loadP, fieldOp, fieldAddrOp, arrayAtOp, buildP, buildSliceP, makeSliceP, placeF, fillP, setL, PK.agg, isZero, gt_iff_lt, Nat.reducePow, Nat.reduceGT, reps, seg, wkN, if_pos, if_neg, tf2, Try.ze2, tf3, Try.ze3, tf4, Try.ze4, tf9, Try.ze9, tf22, Try.ze22, tf23, Try.ze23, tf25, Try.ze25, tf27, Try.ze27, tf44, Try.ze44, resP, resPs, resP1]; rfl) | rfl) ⟨6, by repeat' first | exact frz_scalar rfl | apply frz_tuple | apply frz_agg | apply frz_fsl | apply frz_gsl (by omega) | exact frzs_nil | apply frzs_cons⟩ (by first | exact keepsH0 | exact keeps1 (by assumption) | exact keepsH (fun _ _ h => h) (fun p hp => by simp only [upF]; (repeat rw [if_neg (by omega)])) | exact keeps1t (by assumption) (fun p hp => by simp only [upF]; (repeat rw [if_neg (by omega)])) | (subst hT; exact keepsH (fun _ _ h => h) fun _ _ => rfl)) (nw_eq ?_)
      rfl
    · rw [hf] at f2
      obtain ⟨B, hB1, hB2, hB3⟩ := key hf
      have d2 := dec24_ok (w0 := W) B hB2
      rw [hB3] at d2
      rw [hB1] at e2
      simp only [rgC] at *
      refine fn_H ([Go.ResultVar.tmp 4]) Try.func3 rfl rfl (by decide) fun ph hW Q hQ => ?_
      simp only [start, List.length_cons, List.length_nil, List.cons_append, List.nil_append, Nat.reduceAdd, Nat.reduceSub, List.replicate_succ, List.replicate_zero, Try.ntmps3]
      repeat' first
        | simp -implicitDefEqProofs (maxSteps := 400000) (disch := first | with_reducible rfl | omega | (simp only [h_n, PH.n_push, PH.n_put, List.length_cons, List.length_nil] <;> omega) | decide) only [wkAll, wkL, popO, wantedP, if_true, if_false, reduceIte, ne_eq, Nat.reduceAdd, Nat.reduceSub, Nat.reduceMul, Nat.reduceLeDiff, Nat.reduceLT, ofCells, ofCell, reduceCtorEq, Int.reduceLE, Int.reduceLT, Int.reduceToNat, Int.reduceAdd, Int.reduceSub, Int.reduceMul, Int.reduceNeg, Int.reduceBEq, Int.reduceBNe, Int.reduceEq, eqCell, eqCells, binP, unP, convP, lenP, builtinP, sliceDataP, unsafeStringP, appendT, appendS, appendP, copyP, srcP, mmsP, mmP, indexOp, indexAddrOp, sliceOp, bndsP, bndP, capw, capCut, loadOp, storeOp, loadP, fieldOp, fieldAddrOp, arrayAtOp, buildP, buildSliceP, makeSliceP, placeF, fillP, setL, PK.agg, isZero, gt_iff_lt, Nat.reducePow, Nat.reduceGT, reps, seg, wkN, if_pos, if_neg, tf2, Try.ze2, tf3, Try.ze3, tf4, Try.ze4, tf9, Try.ze9, tf22, Try.ze22, tf23, Try.ze23, tf25, Try.ze25, tf27, Try.ze27, tf44, Try.ze44, gt_iff_lt, q1, q3, qe]
        | refine w_pure (d1) ?_
        | refine w_pure (e2) ?_
        | refine w_pure (f2) ?_
        | refine w_pure (d2) ?_
        | refine w_pure (s1) ?_
        | refine w_pure (aw) ?_
        | refine w_dec (fun _ => ?_) (fun _ => ?_)
        | refine w_eqc (fun _ => ?_) (fun _ => ?_)
        | refine w_neqc (fun _ => ?_) (fun _ => ?_)
        | refine w_nneqc (fun _ => ?_) (fun _ => ?_)
        | ((first | refine w_split (fun h => ?_) (fun h => ?_) | refine d_split (fun h => ?_) (fun h => ?_) | refine w_csplit (fun h => ?_) (fun h => ?_)) <;> (try simp only [Bool.not_eq_true', Bool.not_eq_false', Bool.not_true, Bool.not_false] at h) <;> (have h2 := h) <;> (try simp only [decide_eq_true_eq, decide_eq_false_iff_not, beq_iff_eq, beq_eq_false_iff_ne, bne_iff_ne, bne_eq_false_iff_eq, Int.not_lt, Int.not_le, ne_eq] at h2) <;> (try simp only [h]))
      refine hQ (by first | exact .inr rfl | exact .inl rfl) (by first | exact trivial | exact marks1) (by first | (simp -implicitDefEqProofs (maxSteps := 400000) (disch := first | with_reducible rfl | omega | (simp only [h_n, PH.n_push, PH.n_put, List.length_cons, List.length_nil] <;> omega) | decide) only [wkAll, wkL, popO, wantedP, if_true, if_false, reduceIte, ne_eq, Nat.reduceAdd, Nat.reduceSub, Nat.reduceMul, Nat.reduceLeDiff, Nat.reduceLT, ofCells, ofCell, reduceCtorEq, Int.reduceLE, Int.reduceLT, Int.reduceToNat, Int.reduceAdd, Int.reduceSub, Int.reduceMul, Int.reduceNeg, Int.reduceBEq, Int.reduceBNe, Int.reduceEq, eqCell, eqCells, binP, unP, convP, lenP, builtinP, sliceDataP, unsafeStringP, appendT, appendS, appendP, copyP, srcP, mmsP, mmP, indexOp, indexAddrOp, sliceOp, bndsP, bndP, capw, capCut, loadOp, storeOp, loadP, fieldOp, fieldAddrOp, arrayAtOp, buildP, buildSliceP, makeSliceP, placeF, fillP, setL, PK.agg, isZero, gt_iff_lt, Nat.reducePow, Nat.reduceGT, reps, seg, wkN, if_pos, if_neg, tf2, Try.ze2, tf3, Try.ze3, tf4, Try.ze4, tf9, Try.ze9, tf22, Try.ze22, tf23, Try.ze23, tf25, Try.ze25, tf27, Try.ze27, tf44, Try.ze44, resP, resPs, resP1]; rfl) | rfl) ⟨6, by repeat' first | exact frz_scalar rfl | apply frz_tuple | apply frz_agg | apply frz_fsl | apply frz_gsl (by omega) | exact frzs_nil | apply frzs_cons⟩ (by first | exact keepsH0 | exact keeps1 (by assumption) | exact keepsH (fun _ _ h => h) (fun p hp => by simp only [upF]; (repeat rw [if_neg (by omega)])) | exact keeps1t (by assumption) (fun p hp => by simp only [upF]; (repeat rw [if_neg (by omega)])) | (subst hT; exact keepsH (fun _ _ h => h) fun _ _ => rfl)) (nw_eq ?_)
      rfl
end Pv
