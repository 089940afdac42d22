/- Part of the proof: the layer of pure values, or walks through functions (PvAe8). -/
import Derived.Test.YtbocckencbkdeaaPvAe7
import Derived.Test.YtbocckencbkdeaaPvGcE
set_option linter.all false
namespace Pv
set_option maxRecDepth 20000
set_option maxHeartbeats 4000000
open Go Go.Proofs Go.RowKit
variable {w0 : World}

/-- A cipher: fresh (b false), or ready. -/
def ciC (key : List UInt8) (b : Bool) : List PV := if b then cC key 1 0 tabL (.fsl 16 (key.length / 4 + 7) (bytesPV (wordsL key))) else cC key 0 0 (tabI 0) .nilsl
theorem ciC_t (key : List UInt8) : ciC key true = cC key 1 0 tabL (.fsl 16 (key.length / 4 + 7) (bytesPV (wordsL key))) := rfl
theorem ciC_f (key : List UInt8) : ciC key false = cC key 0 0 (tabI 0) .nilsl := rfl
theorem cC_setd {key : List UInt8} {d s d' : Int} {T : List UInt8} {r : PV} : (cC key d s T r).set 1 (.int .u32 d') = cC key d' s T r := rfl
theorem cC_sets {key : List UInt8} {d s s' : Int} {T : List UInt8} {r : PV} : (cC key d s T r).set 2 (.int .i32 s') = cC key d s' T r := rfl
theorem ciC_scs {key : List UInt8} {b : Bool} {n : Nat} : Scs n (ciC key b) := by
  cases b
  · exact cC_scs trivial
  · exact cC_scs (scs_scalars (bytesPV_scalar _))

theorem readyF_ok (ph : PH) (q p : Nat) (key : List UInt8) (hk : goodK key) (hp : ph.get p = some [.ptr q 0]) (h : ph.get q = some (cC key 0 1 (tabI 0) .nilsl)) :
    Eff (Cx w0) 75 [.ptr p 0] ph (.tuple []) (ph.put q (cC key 0 1 tabL (.fsl 16 (key.length / 4 + 7) (bytesPV (wordsL key))))) := by
  have hq := PH.get_lt h
  have hpn := PH.get_lt hp
  have hne : p ≠ q := by
    rintro rfl
    rw [hp] at h
    have := congrArg (Option.map List.length) h
    simp [cC_len, tabI_len] at this
  have t1 := tables8_ok (w0 := w0) ph q key 0 1 .nilsl rfl h
  obtain ⟨B, hB⟩ : ∃ B, B = ph.put q (cC key 0 1 tabL .nilsl) := ⟨_, rfl⟩
  rw [← hB] at t1
  have hBn : B.n = ph.n := by rw [hB]; exact PH.n_put ..
  have hBq : B.get q = some (cC key 0 1 tabL .nilsl) := by rw [hB]; exact get_putS _ hq
  have hBp : B.get p = some [.ptr q 0] := by rw [hB, get_putO _ hq hne]; exact hp
  have t2 := schedule8_ok (w0 := w0) B q key 0 1 hk hBq
  have hBB : B.put q (cC key 0 1 tabL (.fsl 16 (key.length / 4 + 7) (bytesPV (wordsL key)))) = ph.put q (cC key 0 1 tabL (.fsl 16 (key.length / 4 + 7) (bytesPV (wordsL key)))) := by rw [hB, put_putS]
  rw [hBB] at t2
  obtain ⟨D, hD⟩ : ∃ D, D = ph.put q (cC key 0 1 tabL (.fsl 16 (key.length / 4 + 7) (bytesPV (wordsL key)))) := ⟨_, rfl⟩
  rw [← hD] at t2 ⊢
  have hDn : D.n = ph.n := by rw [hD]; exact PH.n_put ..
  have hDw : WF ph → WF D := fun hW => hD ▸ hW.put hq (cC_scs (scs_scalars (bytesPV_scalar _)))
  refine eff_of ([]) Try.func75 rfl rfl (by decide) hDn hDw fun hW Q hQ => ?_
  simp only [start, List.length_cons, List.length_nil, List.cons_append, List.nil_append, Nat.reduceAdd, Nat.reduceSub, List.replicate_succ, List.replicate_zero, Try.ntmps75]
  rw [show H ph [] ph.ob ph.ty = ph from h_start ph]
  repeat' first
    | simp -implicitDefEqProofs (maxSteps := 400000) (disch := first | with_reducible rfl | omega | (simp only [h_n, PH.n_push, PH.n_put, List.length_cons, List.length_nil] <;> omega) | decide) only [wkAll, wkL, popO, wantedP, if_true, if_false, reduceIte, ne_eq, Nat.reduceAdd, Nat.reduceSub, Nat.reduceMul, Nat.reduceLeDiff, Nat.reduceLT, ofCells, ofCell, reduceCtorEq, Int.reduceLE, Int.reduceLT, Int.reduceToNat, Int.reduceAdd, Int.reduceSub, Int.reduceMul, Int.reduceNeg, Int.reduceBEq, Int.reduceBNe, Int.reduceEq, eqCell, eqCells, binP, unP, convP, lenP, builtinP, sliceDataP, unsafeStringP, appendT, appendS, appendP, copyP, srcP, mmsP, mmP, indexOp, indexAddrOp, sliceOp, bndsP, bndP, capw, capCut, loadOp, storeOp, loadP, fieldOp, fieldAddrOp, arrayAtOp, buildP, buildSliceP, makeSliceP, placeF, fillP, setL, PK.agg, isZero, gt_iff_lt, Nat.reducePow, Nat.reduceGT, reps, seg, wkN, if_pos, if_neg, tf87, Try.ze87, hp, hBp]
    | refine w_eff t1 ?_
    | refine w_eff t2 ?_
    | refine w_dec (fun _ => ?_) (fun _ => ?_)
    | refine w_eqc (fun _ => ?_) (fun _ => ?_)
    | refine w_neqc (fun _ => ?_) (fun _ => ?_)
    | refine w_nneqc (fun _ => ?_) (fun _ => ?_)
    | ((first | refine w_split (fun h => ?_) (fun h => ?_) | refine d_split (fun h => ?_) (fun h => ?_) | refine w_csplit (fun h => ?_) (fun h => ?_)) <;> (try simp only [wkS] at h) <;> (have h2 := h) <;> (try simp only [wkT, ne_eq] at h2) <;> (try simp only [h]))
  exact hQ (.inl rfl) trivial rfl ⟨6, frz_tuple frzs_nil⟩ (Keeps.refl D) (nw_eq rfl)

/-- A cipher is made ready. -/
theorem ready8_ok (ph : PH) (q : Nat) (key : List UInt8) (b : Bool) (hk : goodK key) (h : ph.get q = some (ciC key b)) :
    Eff (Cx w0) 65 [.ptr q 0] ph (.tuple []) (ph.put q (ciC key true)) := by
  have hq := PH.get_lt h
  refine eff_of ([]) Try.func65 rfl rfl (by decide) (PH.n_put ..) (fun hW => hW.put hq ciC_scs) fun hW Q hQ => ?_
  simp only [start, List.length_cons, List.length_nil, List.cons_append, List.nil_append, Nat.reduceAdd, Nat.reduceSub, List.replicate_succ, List.replicate_zero, Try.ntmps65]
  cases b
  · rw [ciC_f] at h
    obtain ⟨B, hB⟩ : ∃ B, B = H ph [some (.own [.ptr q 0])] ph.ob ph.ty := ⟨_, rfl⟩
    have hBq : B.get q = some (cC key 0 0 (tabI 0) .nilsl) := by rw [hB, h_getlt hq]; exact h
    have hBn : B.n = ph.n + 1 := by rw [hB, h_n]; rfl
    have hqB : q < B.n := by omega
    obtain ⟨B1, hB1⟩ : ∃ B1, B1 = B.put q (cC key 0 1 (tabI 0) .nilsl) := ⟨_, rfl⟩
    have hB1p : B1.get ph.n = some [.ptr q 0] := by rw [hB1, get_putO _ hqB (by omega), hB, h_get0]; rfl
    have hB1q : B1.get q = some (cC key 0 1 (tabI 0) .nilsl) := by rw [hB1]; exact get_putS _ hqB
    have hg := readyF_ok (w0 := w0) B1 q ph.n key hk hB1p hB1q
    have hB1n : B1.n = B.n := by rw [hB1]; exact PH.n_put ..
    have hB12 : B1.put q (cC key 0 1 tabL (.fsl 16 (key.length / 4 + 7) (bytesPV (wordsL key)))) = B.put q (cC key 0 1 tabL (.fsl 16 (key.length / 4 + 7) (bytesPV (wordsL key)))) := by rw [hB1, put_putS]
    rw [hB12] at hg
    have on := once_first (w0 := w0) (ph := B) (ph2 := B.put q (cC key 0 1 tabL (.fsl 16 (key.length / 4 + 7) (bytesPV (wordsL key))))) (p := q) (o := 1) (caps := [.ptr ph.n 0]) hBq cC_1 cC_2 (by rw [cC_sets, ← hB1]; exact hg) (get_putS _ hqB) cC_1 cC_2 (PH.n_put ..)
    rw [cC_setd, cC_sets, put_putS, ← ciC_t] at on
    have hEnd : B.put q (ciC key true) = H (ph.put q (ciC key true)) [some (.own [.ptr q 0])] ph.ob ph.ty := by rw [hB, h_putlt hq]
    rw [hEnd, hB] at on
    repeat' first
      | simp -implicitDefEqProofs (maxSteps := 400000) (disch := first | with_reducible rfl | omega | (simp only [h_n, PH.n_push, PH.n_put, List.length_cons, List.length_nil] <;> omega) | decide) only [wkAll, wkL, popO, wantedP, if_true, if_false, reduceIte, ne_eq, Nat.reduceAdd, Nat.reduceSub, Nat.reduceMul, Nat.reduceLeDiff, Nat.reduceLT, ofCells, ofCell, reduceCtorEq, Int.reduceLE, Int.reduceLT, Int.reduceToNat, Int.reduceAdd, Int.reduceSub, Int.reduceMul, Int.reduceNeg, Int.reduceBEq, Int.reduceBNe, Int.reduceEq, eqCell, eqCells, binP, unP, convP, lenP, builtinP, sliceDataP, unsafeStringP, appendT, appendS, appendP, copyP, srcP, mmsP, mmP, indexOp, indexAddrOp, sliceOp, bndsP, bndP, capw, capCut, loadOp, storeOp, loadP, fieldOp, fieldAddrOp, arrayAtOp, buildP, buildSliceP, makeSliceP, placeF, fillP, setL, PK.agg, isZero, gt_iff_lt, Nat.reducePow, Nat.reduceGT, reps, seg, wkN, if_pos, if_neg, tf1, Try.ze1, tf5, Try.ze5, tf9, Try.ze9, tf21, Try.ze21, tf87, Try.ze87, tf90, Try.ze90, tf95, Try.ze95, tf105, Try.ze105, tf107, Try.ze107, tf109, Try.ze109, tf111, Try.ze111, tf112, Try.ze112, tf113, Try.ze113, tf114, Try.ze114, tf116, Try.ze116]
      | refine w_eff on ?_
      | refine w_dec (fun _ => ?_) (fun _ => ?_)
      | refine w_eqc (fun _ => ?_) (fun _ => ?_)
      | refine w_neqc (fun _ => ?_) (fun _ => ?_)
      | refine w_nneqc (fun _ => ?_) (fun _ => ?_)
      | ((first | refine w_split (fun h => ?_) (fun h => ?_) | refine d_split (fun h => ?_) (fun h => ?_) | refine w_csplit (fun h => ?_) (fun h => ?_)) <;> (try simp only [wkS] at h) <;> (have h2 := h) <;> (try simp only [wkT, ne_eq] at h2) <;> (try simp only [h]))
    exact hQ (.inl rfl) trivial rfl ⟨6, frz_tuple frzs_nil⟩ (keepsH (fun _ _ h => h) fun _ _ => rfl) (nw_eq rfl)
  · have hBq : (H ph [some (.own [.ptr q 0])] ph.ob ph.ty).get q = some (ciC key true) := by rw [h_getlt hq]; exact h
    have on := once_done (w0 := w0) (p := q) (o := 1) (f := .func 75 [] [.ptr ph.n 0]) hBq (by rw [ciC_t]; exact cC_1)
    rw [put_self h] at hQ
    repeat' first
      | simp -implicitDefEqProofs (maxSteps := 400000) (disch := first | with_reducible rfl | omega | (simp only [h_n, PH.n_push, PH.n_put, List.length_cons, List.length_nil] <;> omega) | decide) only [wkAll, wkL, popO, wantedP, if_true, if_false, reduceIte, ne_eq, Nat.reduceAdd, Nat.reduceSub, Nat.reduceMul, Nat.reduceLeDiff, Nat.reduceLT, ofCells, ofCell, reduceCtorEq, Int.reduceLE, Int.reduceLT, Int.reduceToNat, Int.reduceAdd, Int.reduceSub, Int.reduceMul, Int.reduceNeg, Int.reduceBEq, Int.reduceBNe, Int.reduceEq, eqCell, eqCells, binP, unP, convP, lenP, builtinP, sliceDataP, unsafeStringP, appendT, appendS, appendP, copyP, srcP, mmsP, mmP, indexOp, indexAddrOp, sliceOp, bndsP, bndP, capw, capCut, loadOp, storeOp, loadP, fieldOp, fieldAddrOp, arrayAtOp, buildP, buildSliceP, makeSliceP, placeF, fillP, setL, PK.agg, isZero, gt_iff_lt, Nat.reducePow, Nat.reduceGT, reps, seg, wkN, if_pos, if_neg, tf1, Try.ze1, tf5, Try.ze5, tf9, Try.ze9, tf21, Try.ze21, tf87, Try.ze87, tf90, Try.ze90, tf95, Try.ze95, tf105, Try.ze105, tf107, Try.ze107, tf109, Try.ze109, tf111, Try.ze111, tf112, Try.ze112, tf113, Try.ze113, tf114, Try.ze114, tf116, Try.ze116]
      | refine w_eff on ?_
      | refine w_dec (fun _ => ?_) (fun _ => ?_)
      | refine w_eqc (fun _ => ?_) (fun _ => ?_)
      | refine w_neqc (fun _ => ?_) (fun _ => ?_)
      | refine w_nneqc (fun _ => ?_) (fun _ => ?_)
      | ((first | refine w_split (fun h => ?_) (fun h => ?_) | refine d_split (fun h => ?_) (fun h => ?_) | refine w_csplit (fun h => ?_) (fun h => ?_)) <;> (try simp only [wkS] at h) <;> (have h2 := h) <;> (try simp only [wkT, ne_eq] at h2) <;> (try simp only [h]))
    exact hQ (.inl rfl) trivial rfl ⟨6, frz_tuple frzs_nil⟩ keepsH0 (nw_eq rfl)
end Pv
