/- Part of the proof: the layer of pure values, or walks through functions (PvAe8, PvAe9, PvAe10). -/
import Derived.Test.YtjomgffpkdcanaaGreatDoorPvAe7
import Derived.Test.YtjomgffpkdcanaaGreatDoorPvRb2
set_option linter.all false
--nosplit
--keep2
namespace Pv
set_option maxRecDepth 20000
set_option maxHeartbeats 4000000
open Go Go.Proofs Go.RowKit
variable {w0 : World}

/-- A cipher: fresh (b false), or ready. -/
def ciC (key : List UInt8) (b : Bool) : List PV := if b then cC key 1 0 tabL (.fsl 16 (key.length / 4 + 7) (bytesPV (wordsL key))) else cC key 0 0 (tabI 0) .nilsl
theorem ciC_t (key : List UInt8) : ciC key true = cC key 1 0 tabL (.fsl 16 (key.length / 4 + 7) (bytesPV (wordsL key))) := rfl
theorem ciC_f (key : List UInt8) : ciC key false = cC key 0 0 (tabI 0) .nilsl := rfl
theorem cC_setd {key : List UInt8} {d s d' : Int} {T : List UInt8} {r : PV} : (cC key d s T r).set 1 (.int .u32 d') = cC key d' s T r := rfl
theorem cC_sets {key : List UInt8} {d s s' : Int} {T : List UInt8} {r : PV} : (cC key d s T r).set 2 (.int .i32 s') = cC key d s' T r := rfl
theorem ciC_scs {key : List UInt8} {b : Bool} {n : Nat} : Scs n (ciC key b) := by
  cases b
  · exact cC_scs trivial
  · exact cC_scs (scs_scalars (bytesPV_scalar _))

theorem readyF_ok (ph : PH) (q p : Nat) (key : List UInt8) (hk : goodK key) (hp : ph.get p = some [.ptr q 0]) (h : ph.get q = some (cC key 0 1 (tabI 0) .nilsl)) :
    Eff (Cx w0) 81 [.ptr p 0] ph (.tuple []) (ph.put q (cC key 0 1 tabL (.fsl 16 (key.length / 4 + 7) (bytesPV (wordsL key))))) := by
  have hq := PH.get_lt h
  have hpn := PH.get_lt hp
  have hne : p ≠ q := by
    rintro rfl
    rw [hp] at h
    have := congrArg (Option.map List.length) h
    simp [cC_len, tabI_len] at this
  have t1 := tables8_ok (w0 := w0) ph q key 0 1 .nilsl rfl h
  obtain ⟨B, hB⟩ : ∃ B, B = ph.put q (cC key 0 1 tabL .nilsl) := ⟨_, rfl⟩
  rw [← hB] at t1
  have hBn : B.n = ph.n := by rw [hB]; exact PH.n_put ..
  have hBq : B.get q = some (cC key 0 1 tabL .nilsl) := by rw [hB]; exact get_putS _ hq
  have hBp : B.get p = some [.ptr q 0] := by rw [hB, get_putO _ hq hne]; exact hp
  have t2 := schedule8_ok (w0 := w0) B q key 0 1 hk hBq
  have hBB : B.put q (cC key 0 1 tabL (.fsl 16 (key.length / 4 + 7) (bytesPV (wordsL key)))) = ph.put q (cC key 0 1 tabL (.fsl 16 (key.length / 4 + 7) (bytesPV (wordsL key)))) := by rw [hB, put_putS]
  rw [hBB] at t2
  obtain ⟨D, hD⟩ : ∃ D, D = ph.put q (cC key 0 1 tabL (.fsl 16 (key.length / 4 + 7) (bytesPV (wordsL key)))) := ⟨_, rfl⟩
  rw [← hD] at t2 ⊢
  have hDn : D.n = ph.n := by rw [hD]; exact PH.n_put ..
  have hDw : WF ph → WF D := fun hW => hD ▸ hW.put hq (cC_scs (scs_scalars (bytesPV_scalar _)))
  refine eff_of ([]) Tryz.func81 rfl rfl (by decide) hDn hDw fun hW Q hQ => ?_
  simp only [start, List.length_cons, List.length_nil, List.cons_append, List.nil_append, Nat.reduceAdd, Nat.reduceSub, List.replicate_succ, List.replicate_zero, Tryz.ntmps81]
  rw [show H ph [] ph.ob ph.ty = ph from h_start ph]
  repeat' first | simp -implicitDefEqProofs (maxSteps := 400000) (disch := first | with_reducible rfl | omega | (simp only [wkH] <;> omega) | decide) only [wkAll, wkL, popO, wantedP, if_true, if_false, reduceIte, ne_eq, Nat.reduceAdd, Nat.reduceSub, Nat.reduceMul, Nat.reduceLeDiff, Nat.reduceLT, ofCells, ofCell, reduceCtorEq, Int.reduceLE, Int.reduceLT, Int.reduceToNat, Int.reduceAdd, Int.reduceSub, Int.reduceMul, Int.reduceNeg, Int.reduceBEq, Int.reduceBNe, Int.reduceEq, eqCell, eqCells, binP, unP, convP, lenP, builtinP, sliceDataP, unsafeStringP, appendT, appendS, appendP, copyP, srcP, mmsP, mmP, indexOp, indexAddrOp, sliceOp, bndsP, bndP, capw, capCut, loadOp, storeOp, loadP, fieldOp, fieldAddrOp, arrayAtOp, buildP, buildSliceP, makeSliceP, placeF, fillP, setL, PK.agg, isZero, gt_iff_lt, Nat.reducePow, Nat.reduceGT, reps, seg, wkN, if_pos, if_neg, tf117, Tryz.ze117, hp, hBp] | refine w_eff t1 ?_ | refine w_eff t2 ?_
  exact hQ (.inl rfl) trivial rfl ⟨6, frz_tuple frzs_nil⟩ (Keeps.refl D) (nw_eq rfl)

/-- A cipher is made ready. -/
theorem ready8_ok (ph : PH) (q : Nat) (key : List UInt8) (b : Bool) (hk : goodK key) (h : ph.get q = some (ciC key b)) :
    Eff (Cx w0) 68 [.ptr q 0] ph (.tuple []) (ph.put q (ciC key true)) := by
  have hq := PH.get_lt h
  refine eff_of ([]) Tryz.func68 rfl rfl (by decide) (PH.n_put ..) (fun hW => hW.put hq ciC_scs) fun hW Q hQ => ?_
  simp only [start, List.length_cons, List.length_nil, List.cons_append, List.nil_append, Nat.reduceAdd, Nat.reduceSub, List.replicate_succ, List.replicate_zero, Tryz.ntmps68]
  cases b
  · rw [ciC_f] at h
    obtain ⟨B, hB⟩ : ∃ B, B = H ph [some (.own [.ptr q 0])] ph.ob ph.ty := ⟨_, rfl⟩
    have hBq : B.get q = some (cC key 0 0 (tabI 0) .nilsl) := by rw [hB, h_getlt hq]; exact h
    have hBn : B.n = ph.n + 1 := by rw [hB, h_n]; rfl
    have hqB : q < B.n := by omega
    obtain ⟨B1, hB1⟩ : ∃ B1, B1 = B.put q (cC key 0 1 (tabI 0) .nilsl) := ⟨_, rfl⟩
    have hB1p : B1.get ph.n = some [.ptr q 0] := by rw [hB1, get_putO _ hqB (by omega), hB, h_get0]; rfl
    have hB1q : B1.get q = some (cC key 0 1 (tabI 0) .nilsl) := by rw [hB1]; exact get_putS _ hqB
    have hg := readyF_ok (w0 := w0) B1 q ph.n key hk hB1p hB1q
    have hB1n : B1.n = B.n := by rw [hB1]; exact PH.n_put ..
    have hB12 : B1.put q (cC key 0 1 tabL (.fsl 16 (key.length / 4 + 7) (bytesPV (wordsL key)))) = B.put q (cC key 0 1 tabL (.fsl 16 (key.length / 4 + 7) (bytesPV (wordsL key)))) := by rw [hB1, put_putS]
    rw [hB12] at hg
    have on := once_first (w0 := w0) (ph := B) (ph2 := B.put q (cC key 0 1 tabL (.fsl 16 (key.length / 4 + 7) (bytesPV (wordsL key))))) (p := q) (o := 1) (caps := [.ptr ph.n 0]) hBq cC_1 cC_2 (by rw [cC_sets, ← hB1]; exact hg) (get_putS _ hqB) cC_1 cC_2 (PH.n_put ..)
    rw [cC_setd, cC_sets, put_putS, ← ciC_t] at on
    have hEnd : B.put q (ciC key true) = H (ph.put q (ciC key true)) [some (.own [.ptr q 0])] ph.ob ph.ty := by rw [hB, h_putlt hq]
    rw [hEnd, hB] at on
    repeat' first | simp -implicitDefEqProofs (maxSteps := 400000) (disch := first | with_reducible rfl | omega | (simp only [wkH] <;> omega) | decide) only [wkAll, wkL, popO, wantedP, if_true, if_false, reduceIte, ne_eq, Nat.reduceAdd, Nat.reduceSub, Nat.reduceMul, Nat.reduceLeDiff, Nat.reduceLT, ofCells, ofCell, reduceCtorEq, Int.reduceLE, Int.reduceLT, Int.reduceToNat, Int.reduceAdd, Int.reduceSub, Int.reduceMul, Int.reduceNeg, Int.reduceBEq, Int.reduceBNe, Int.reduceEq, eqCell, eqCells, binP, unP, convP, lenP, builtinP, sliceDataP, unsafeStringP, appendT, appendS, appendP, copyP, srcP, mmsP, mmP, indexOp, indexAddrOp, sliceOp, bndsP, bndP, capw, capCut, loadOp, storeOp, loadP, fieldOp, fieldAddrOp, arrayAtOp, buildP, buildSliceP, makeSliceP, placeF, fillP, setL, PK.agg, isZero, gt_iff_lt, Nat.reducePow, Nat.reduceGT, reps, seg, wkN, if_pos, if_neg, tf1, Tryz.ze1, tf5, Tryz.ze5, tf9, Tryz.ze9, tf21, Tryz.ze21, tf99, Tryz.ze99, tf117, Tryz.ze117, tf121, Tryz.ze121, tf135, Tryz.ze135, tf137, Tryz.ze137, tf139, Tryz.ze139, tf141, Tryz.ze141, tf142, Tryz.ze142, tf143, Tryz.ze143, tf144, Tryz.ze144, tf146, Tryz.ze146] | refine w_eff on ?_
    exact hQ (.inl rfl) trivial rfl ⟨6, frz_tuple frzs_nil⟩ (keepsH (fun _ _ h => h) fun _ _ => rfl) (nw_eq rfl)
  · have hBq : (H ph [some (.own [.ptr q 0])] ph.ob ph.ty).get q = some (ciC key true) := by rw [h_getlt hq]; exact h
    have on := once_done (w0 := w0) (p := q) (o := 1) (f := .func 81 [] [.ptr ph.n 0]) hBq (by rw [ciC_t]; exact cC_1)
    rw [put_self h] at hQ
    repeat' first | simp -implicitDefEqProofs (maxSteps := 400000) (disch := first | with_reducible rfl | omega | (simp only [wkH] <;> omega) | decide) only [wkAll, wkL, popO, wantedP, if_true, if_false, reduceIte, ne_eq, Nat.reduceAdd, Nat.reduceSub, Nat.reduceMul, Nat.reduceLeDiff, Nat.reduceLT, ofCells, ofCell, reduceCtorEq, Int.reduceLE, Int.reduceLT, Int.reduceToNat, Int.reduceAdd, Int.reduceSub, Int.reduceMul, Int.reduceNeg, Int.reduceBEq, Int.reduceBNe, Int.reduceEq, eqCell, eqCells, binP, unP, convP, lenP, builtinP, sliceDataP, unsafeStringP, appendT, appendS, appendP, copyP, srcP, mmsP, mmP, indexOp, indexAddrOp, sliceOp, bndsP, bndP, capw, capCut, loadOp, storeOp, loadP, fieldOp, fieldAddrOp, arrayAtOp, buildP, buildSliceP, makeSliceP, placeF, fillP, setL, PK.agg, isZero, gt_iff_lt, Nat.reducePow, Nat.reduceGT, reps, seg, wkN, if_pos, if_neg, tf1, Tryz.ze1, tf5, Tryz.ze5, tf9, Tryz.ze9, tf21, Tryz.ze21, tf99, Tryz.ze99, tf117, Tryz.ze117, tf121, Tryz.ze121, tf135, Tryz.ze135, tf137, Tryz.ze137, tf139, Tryz.ze139, tf141, Tryz.ze141, tf142, Tryz.ze142, tf143, Tryz.ze143, tf144, Tryz.ze144, tf146, Tryz.ze146] | refine w_eff on ?_
    exact hQ (.inl rfl) trivial rfl ⟨6, frz_tuple frzs_nil⟩ keepsH0 (nw_eq rfl)
end Pv

--nosplit
--keep2
namespace Pv
set_option maxRecDepth 20000
set_option maxHeartbeats 4000000
open Go Go.Proofs Go.RowKit
def tb84_3Ae9 : Tab := [[], [], [], [], [3], [3, 4], [3, 4, 5], [3, 4, 5, 6], [3, 4, 5, 6, 7], [2, 3, 4, 5, 6, 7, 8], [0, 1, 2, 3, 4, 5, 6, 7, 8, 9], [0, 1, 2, 3, 4, 5, 6, 7, 8, 9, 10]]
def pl84_3Ae9 : Plan := [(0, true, []), (1, true, []), (2, true, []), (3, true, []), (4, true, []), (5, true, []), (6, true, []), (7, true, []), (8, true, []), (9, true, []), (10, false, []), (11, true, [])]
variable {w0 : World}

theorem ci_len (key : List UInt8) : (ciC key true).length = 4613 := by rw [ciC_t, cC_len, tabL_len]
theorem ci_sub (key : List UInt8) (v : UInt8) : (ciC key true)[4 + v.toNat]? = some (.int .u8 ((sbox v).toNat : Int)) := by
  rw [ciC_t, cC_get (by rw [tabL_len]; have := v.toNat_lt; omega), tab_sub]; rfl
theorem ci_by (key : List UInt8) (x v : UInt8) (h : x ∈ ks) (h16 : x.toNat < 16) : (ciC key true)[516 + x.toNat * 256 + v.toNat]? = some (.int .u8 ((gm v x).toNat : Int)) := by
  rw [ciC_t, show 516 + x.toNat * 256 + v.toNat = 4 + (512 + x.toNat * 256 + v.toNat) by omega, cC_get (by rw [tabL_len]; have := v.toNat_lt; omega), tab_by x v h]; rfl
theorem ci_r (key : List UInt8) : (ciC key true)[4612]? = some (.fsl 16 (key.length / 4 + 7) (bytesPV (wordsL key))) := by rw [ciC_t]; exact cC_r tabL_len
theorem rk_cells (w : List UInt8) (i : Nat) : ((bytesPV w).drop (i * 16)).take 16 = bytesPV (rkL w i) := by rw [bytes_td, Nat.mul_comm]; rfl
theorem mE_in : ∀ (k : Nat) (x : UInt8), mE[k]? = some x → x ∈ ks ∧ x.toNat < 16 := by
  intro k x h
  have : x ∈ mE := List.mem_of_getElem? h
  simp [mE] at this
  rcases this with rfl | rfl | rfl <;> decide
theorem mixE_ok (ph : PH) (p q : Nat) (b key : List UInt8) (hb : b.length = 16) (h : ph.get p = some (bytesPV b)) (hq : ph.get q = some (ciC key true)) (hne : q ≠ p) :
    Eff (Cx w0) 73 [.ptr q 0, .ptr p 0, .agg [.int .u8 2, .int .u8 3, .int .u8 1, .int .u8 1]] ph (.tuple []) (ph.put p (bytesPV (mixL mE b))) :=
  mix8_ok ph p q b mE _ hb rfl h hq hne (by rw [ci_len]; omega) (fun k x hx => (mE_in k x hx).2) (fun k x v hx => ci_by key x v (mE_in k x hx).1 (mE_in k x hx).2)
theorem subB_ok (ph : PH) (p q : Nat) (b key : List UInt8) (hb : b.length = 16) (h : ph.get p = some (bytesPV b)) (hq : ph.get q = some (ciC key true)) (hne : q ≠ p) :
    Eff (Cx w0) 71 [.ptr p 0, .ptr q 4] ph (.tuple []) (ph.put p (bytesPV (b.map sbox))) :=
  become8_ok ph p q 4 b _ sbox hb h hq hne (by rw [ci_len]; omega) (ci_sub key)
theorem encrypt8_ok (ph : PH) (q : Nat) (key b : List UInt8) (bo : Bool) (hk : goodK key) (hb : b.length = 16) (h : ph.get q = some (ciC key bo)) :
    Eff (Cx w0) 59 [.ptr q 0, .agg (bytesPV b)] ph (.agg (bytesPV (encB (wordsL key) b))) (ph.put q (ciC key true)) := by
  have hq := PH.get_lt h
  refine eff_of ([Go.ResultVar.cell 4 121]) Tryz.func59 rfl rfl (by decide) (PH.n_put ..) (fun hW => hW.put hq ciC_scs) fun hW Q hQ => ?_
  simp only [start, List.length_cons, List.length_nil, List.cons_append, List.nil_append, Nat.reduceAdd, Nat.reduceSub, List.replicate_succ, List.replicate_zero, Tryz.ntmps59]
  obtain ⟨D, hD⟩ : ∃ D, D = ph.put q (ciC key true) := ⟨_, rfl⟩
  have hDn : D.n = ph.n := by rw [hD]; exact PH.n_put ..
  have hDq : D.get q = some (ciC key true) := by rw [hD]; exact get_putS _ hq
  have hDw : WF D := hD ▸ hW.put hq ciC_scs
  have hDob : D.ob = ph.ob := by rw [hD]; rfl
  have hDty : D.ty = ph.ty := by rw [hD]; rfl
  have hqD : q < D.n := by omega
  have rd : ∀ L : List (Option Blk), Eff (Cx w0) 68 [.ptr q 0] (H ph L ph.ob ph.ty) (.tuple []) (H D L D.ob D.ty) := fun L => by
    have := ready8_ok (w0 := w0) (H ph L ph.ob ph.ty) q key bo hk (by rw [h_getlt hq]; exact h)
    rw [h_putlt hq, ← hD] at this
    rw [hDob, hDty]; exact this
  obtain ⟨w, hw⟩ : ∃ w, w = wordsL key := ⟨_, rfl⟩
  obtain ⟨n, hn⟩ : ∃ n, n = key.length / 4 + 6 := ⟨_, rfl⟩
  have hwl : w.length = 16 * (n + 1) := by rw [hw, words_len hk, hn]
  have hcr : (ciC key true)[4612]? = some (.fsl 16 (n + 1) (bytesPV w)) := by rw [ci_r, ← hw, hn]
  have henc : encB (wordsL key) b = encS w n b n := by rw [← hw, encB_eq, hwl]; congr 1 <;> omega
  rw [← hD] at hQ
  rw [henc] at hQ
  have r0 : List.take 16 (bytesPV w) = bytesPV (rkL w 0) := rk_cells w 0
  have hr0 : (rkL w 0).length = 16 := rk_len (by omega)
  repeat' first | simp -implicitDefEqProofs (maxSteps := 400000) (disch := first | with_reducible rfl | omega | (simp only [wkH] <;> omega) | decide) only [wkAll, wkL, popO, wantedP, if_true, if_false, reduceIte, ne_eq, Nat.reduceAdd, Nat.reduceSub, Nat.reduceMul, Nat.reduceLeDiff, Nat.reduceLT, ofCells, ofCell, reduceCtorEq, Int.reduceLE, Int.reduceLT, Int.reduceToNat, Int.reduceAdd, Int.reduceSub, Int.reduceMul, Int.reduceNeg, Int.reduceBEq, Int.reduceBNe, Int.reduceEq, eqCell, eqCells, binP, unP, convP, lenP, builtinP, sliceDataP, unsafeStringP, appendT, appendS, appendP, copyP, srcP, mmsP, mmP, indexOp, indexAddrOp, sliceOp, bndsP, bndP, capw, capCut, loadOp, storeOp, loadP, fieldOp, fieldAddrOp, arrayAtOp, buildP, buildSliceP, makeSliceP, placeF, fillP, setL, PK.agg, isZero, gt_iff_lt, Nat.reducePow, Nat.reduceGT, reps, seg, wkN, if_pos, if_neg, tf3, Tryz.ze3, tf4, Tryz.ze4, tf5, Tryz.ze5, tf9, Tryz.ze9, tf21, Tryz.ze21, tf99, Tryz.ze99, tf117, Tryz.ze117, tf121, Tryz.ze121, tf135, Tryz.ze135, tf137, Tryz.ze137, tf139, Tryz.ze139, tf141, Tryz.ze141, tf142, Tryz.ze142, tf143, Tryz.ze143, tf144, Tryz.ze144, tf146, Tryz.ze146, tf152, Tryz.ze152, tf154, Tryz.ze154, tf155, Tryz.ze155, bytesPV_cok] | refine w_eff (rd _) ?_
  rw [← hDn]
  repeat' first | simp -implicitDefEqProofs (maxSteps := 400000) (disch := first | with_reducible rfl | omega | (simp only [wkH] <;> omega) | decide) only [wkAll, wkL, popO, wantedP, if_true, if_false, reduceIte, ne_eq, Nat.reduceAdd, Nat.reduceSub, Nat.reduceMul, Nat.reduceLeDiff, Nat.reduceLT, ofCells, ofCell, reduceCtorEq, Int.reduceLE, Int.reduceLT, Int.reduceToNat, Int.reduceAdd, Int.reduceSub, Int.reduceMul, Int.reduceNeg, Int.reduceBEq, Int.reduceBNe, Int.reduceEq, eqCell, eqCells, binP, unP, convP, lenP, builtinP, sliceDataP, unsafeStringP, appendT, appendS, appendP, copyP, srcP, mmsP, mmP, indexOp, indexAddrOp, sliceOp, bndsP, bndP, capw, capCut, loadOp, storeOp, loadP, fieldOp, fieldAddrOp, arrayAtOp, buildP, buildSliceP, makeSliceP, placeF, fillP, setL, PK.agg, isZero, gt_iff_lt, Nat.reducePow, Nat.reduceGT, reps, seg, wkN, if_pos, if_neg, tf3, Tryz.ze3, tf4, Tryz.ze4, tf5, Tryz.ze5, tf9, Tryz.ze9, tf21, Tryz.ze21, tf99, Tryz.ze99, tf117, Tryz.ze117, tf121, Tryz.ze121, tf135, Tryz.ze135, tf137, Tryz.ze137, tf139, Tryz.ze139, tf141, Tryz.ze141, tf142, Tryz.ze142, tf143, Tryz.ze143, tf144, Tryz.ze144, tf146, Tryz.ze146, tf152, Tryz.ze152, tf154, Tryz.ze154, tf155, Tryz.ze155, h_getlt hqD, hDq, hcr, r0] | refine w_eff (plus8_ok _ _ b (rkL w 0) hb hr0 (by rw [h_get]; rfl)) ?_
  refine w_inl ([Go.ResultVar.tmp 2]) Tryz.func70 rfl rfl (by decide) fun _ hI => ?_
  simp only [start, List.length_cons, List.length_nil, List.cons_append, List.nil_append, Nat.reduceAdd, Nat.reduceSub, List.replicate_succ, List.replicate_zero, Tryz.ntmps70]
  repeat' first | simp -implicitDefEqProofs (maxSteps := 400000) (disch := first | with_reducible rfl | omega | (simp only [wkH] <;> omega) | decide) only [wkAll, wkL, popO, wantedP, if_true, if_false, reduceIte, ne_eq, Nat.reduceAdd, Nat.reduceSub, Nat.reduceMul, Nat.reduceLeDiff, Nat.reduceLT, ofCells, ofCell, reduceCtorEq, Int.reduceLE, Int.reduceLT, Int.reduceToNat, Int.reduceAdd, Int.reduceSub, Int.reduceMul, Int.reduceNeg, Int.reduceBEq, Int.reduceBNe, Int.reduceEq, eqCell, eqCells, binP, unP, convP, lenP, builtinP, sliceDataP, unsafeStringP, appendT, appendS, appendP, copyP, srcP, mmsP, mmP, indexOp, indexAddrOp, sliceOp, bndsP, bndP, capw, capCut, loadOp, storeOp, loadP, fieldOp, fieldAddrOp, arrayAtOp, buildP, buildSliceP, makeSliceP, placeF, fillP, setL, PK.agg, isZero, gt_iff_lt, Nat.reducePow, Nat.reduceGT, reps, seg, wkN, if_pos, if_neg, tf117, Tryz.ze117]
  refine hI (by first | exact .inr rfl | exact .inl rfl) trivial (by first | (simp -implicitDefEqProofs (maxSteps := 400000) (disch := first | with_reducible rfl | omega | (simp only [wkH] <;> omega) | decide) only [wkAll, wkL, popO, wantedP, if_true, if_false, reduceIte, ne_eq, Nat.reduceAdd, Nat.reduceSub, Nat.reduceMul, Nat.reduceLeDiff, Nat.reduceLT, ofCells, ofCell, reduceCtorEq, Int.reduceLE, Int.reduceLT, Int.reduceToNat, Int.reduceAdd, Int.reduceSub, Int.reduceMul, Int.reduceNeg, Int.reduceBEq, Int.reduceBNe, Int.reduceEq, eqCell, eqCells, loadOp, storeOp, loadP, setL, PK.agg, isZero, gt_iff_lt, Nat.reducePow, Nat.reduceGT, reps, seg, wkN, if_pos, if_neg, tf117, Tryz.ze117, resP, resPs, resP1]; rfl) | rfl) ?_
  repeat' first | simp -implicitDefEqProofs (maxSteps := 400000) (disch := first | with_reducible rfl | omega | (simp only [wkH] <;> omega) | decide) only [wkAll, wkL, popO, wantedP, if_true, if_false, reduceIte, ne_eq, Nat.reduceAdd, Nat.reduceSub, Nat.reduceMul, Nat.reduceLeDiff, Nat.reduceLT, ofCells, ofCell, reduceCtorEq, Int.reduceLE, Int.reduceLT, Int.reduceToNat, Int.reduceAdd, Int.reduceSub, Int.reduceMul, Int.reduceNeg, Int.reduceBEq, Int.reduceBNe, Int.reduceEq, eqCell, eqCells, binP, unP, convP, lenP, builtinP, sliceDataP, unsafeStringP, appendT, appendS, appendP, copyP, srcP, mmsP, mmP, indexOp, indexAddrOp, sliceOp, bndsP, bndP, capw, capCut, loadOp, storeOp, loadP, fieldOp, fieldAddrOp, arrayAtOp, buildP, buildSliceP, makeSliceP, placeF, fillP, setL, PK.agg, isZero, gt_iff_lt, Nat.reducePow, Nat.reduceGT, reps, seg, wkN, if_pos, if_neg, tf3, Tryz.ze3, tf4, Tryz.ze4, tf5, Tryz.ze5, tf9, Tryz.ze9, tf21, Tryz.ze21, tf99, Tryz.ze99, tf117, Tryz.ze117, tf121, Tryz.ze121, tf135, Tryz.ze135, tf137, Tryz.ze137, tf139, Tryz.ze139, tf141, Tryz.ze141, tf142, Tryz.ze142, tf143, Tryz.ze143, tf144, Tryz.ze144, tf146, Tryz.ze146, tf152, Tryz.ze152, tf154, Tryz.ze154, tf155, Tryz.ze155]
  have hW := hDw
  refine w_range ([]) rfl Tryz.func84 rfl rfl (by decide) ?_
  intro r l fnid hr hl hne Q' hQ'
  simp only [start, List.length_cons, List.length_nil, List.cons_append, List.nil_append, Nat.reduceAdd, Nat.reduceSub, List.replicate_succ, List.replicate_zero, Tryz.ntmps84]
  have hl' : D.ob l = none := hl
  have hr' : D.ob r = none := hr
  have sl1 : ∀ p : PH, sliceOp Tryz.prog 144 (.fsl 16 (n + 1) (bytesPV w)) (some (.int .i64 1)) none none p = some (.fsl 16 n (seg (bytesPV w) 16 (n * 16))) := fun p => by
    have := slice1 (p := p) (lo := 1) (len := n + 1) (cells := bytesPV w) Tryz.underlying144 Tryz.sz121 (by omega)
    simpa using this
  repeat' first | simp -implicitDefEqProofs (maxSteps := 400000) (disch := first | with_reducible rfl | omega | (simp only [wkH] <;> omega) | decide) only [wkAll, wkL, popO, wantedP, if_true, if_false, reduceIte, ne_eq, Nat.reduceAdd, Nat.reduceSub, Nat.reduceMul, Nat.reduceLeDiff, Nat.reduceLT, ofCells, ofCell, reduceCtorEq, Int.reduceLE, Int.reduceLT, Int.reduceToNat, Int.reduceAdd, Int.reduceSub, Int.reduceMul, Int.reduceNeg, Int.reduceBEq, Int.reduceBNe, Int.reduceEq, eqCell, eqCells, binP, unP, convP, lenP, builtinP, sliceDataP, unsafeStringP, appendT, appendS, appendP, copyP, srcP, mmsP, mmP, indexOp, indexAddrOp, sliceOp, bndsP, bndP, capw, capCut, loadOp, storeOp, loadP, fieldOp, fieldAddrOp, arrayAtOp, buildP, buildSliceP, makeSliceP, placeF, fillP, setL, PK.agg, isZero, gt_iff_lt, Nat.reducePow, Nat.reduceGT, reps, seg, wkN, if_pos, if_neg, tf3, Tryz.ze3, tf4, Tryz.ze4, tf5, Tryz.ze5, tf9, Tryz.ze9, tf21, Tryz.ze21, tf99, Tryz.ze99, tf117, Tryz.ze117, tf121, Tryz.ze121, tf135, Tryz.ze135, tf137, Tryz.ze137, tf139, Tryz.ze139, tf141, Tryz.ze141, tf142, Tryz.ze142, tf143, Tryz.ze143, tf144, Tryz.ze144, tf146, Tryz.ze146, pl84_3Ae9, -sliceOp, h_getlt hqD, hDq, hcr, sl1] | refine w_drawnF (id := 3) tb84_3Ae9 pl84_3Ae9 28 (by kernel_rfl) (by kernel_rfl) (by simp) ?_
  have z16 : bytesPV (List.replicate 16 0) = [.int .u8 0, .int .u8 0, .int .u8 0, .int .u8 0, .int .u8 0, .int .u8 0, .int .u8 0, .int .u8 0, .int .u8 0, .int .u8 0, .int .u8 0, .int .u8 0, .int .u8 0, .int .u8 0, .int .u8 0, .int .u8 0] := rfl
  obtain ⟨Z, hZ⟩ : ∃ Z, Z = bytesPV (List.replicate 16 0) := ⟨_, rfl⟩
  have hZs : ∀ m, Scs m Z := fun m => hZ ▸ scs_b16 _
  have hZl : Z.length = 16 := by rw [hZ, bytesPV_len]; rfl
  rw [← z16, ← hZ]
  obtain ⟨Y, hY⟩ : ∃ Y, Y = seg (bytesPV w) 16 (n * 16) := ⟨_, rfl⟩
  have hYs : ∀ m, Scs m Y := fun m => by rw [hY, seg_bytes]; exact scs_b16 _
  have es0 : encS w n b 0 = xorB b (rkL w 0) := rfl
  rw [← es0]
  refine w_loopH (α := Nat) D _ D.ty (fun i => [.yield l, .ptr (D.n + 3) 0, .undef, .undef, .undef, .undef, .undef, .undef, .undef, .fsl 16 n Y, .int .i64 n, .int .i64 i, .undef, .undef, .undef, .undef, .undef, .undef, .undef, .undef, .undef, .undef, .undef, .undef, .undef, .undef, .undef, .undef, .undef]) (fun i => [some (.own [.ptr q 0]), some (.own (bytesPV (encS w n b i))), some (.own Z), some (.own [.ptr q 0])]) (fun i => i ≤ n) (fun i => n - i) 0 (by simp) (fun _ _ => by simp) (.eq (by simp [FadeTo, seg, hY]) rfl) ?_
  intro i hi K hK
  have hn1 : 10 ≤ n := by rcases hk with e | e <;> omega
  have hn2 : n ≤ 14 := by rcases hk with e | e <;> omega
  rcases Nat.lt_or_ge i n with hlt | hge
  · have hlt' : (i : Int) < (n : Int) := by omega
    have hes := encS_len hb (w := w) (n := n) (by omega) i (by omega)
    obtain ⟨e, he⟩ : ∃ e, e = encS w n b i := ⟨_, rfl⟩
    obtain ⟨k, hkk⟩ : ∃ k, k = rkL w (i + 1) := ⟨_, rfl⟩
    have hkl : k.length = 16 := by rw [hkk]; exact rk_len (by omega)
    have hnx : encS w n b (i + 1) = xorB (if i + 1 < n then mixL mE (shiftL (e.map sbox)) else shiftL (e.map sbox)) k := by rw [he, hkk]; rfl
    rw [← he] at hes ⊢
    have k1 : (List.drop (i * 16) Y).take 16 = bytesPV k := by
      rw [hY, seg_bytes, bytes_td, hkk]; congr 1
      rw [List.drop_take, List.take_take, List.drop_drop, Nat.min_eq_left (by rw [← Nat.sub_mul]; have : 1 ≤ n - i := by omega
                                                                              omega), rkL, show 16 + i * 16 = 16 * (i + 1) by omega]
    have k2 : 16 ≤ (List.drop (i * 16) Y).length := by
      rw [hY, seg_bytes, List.length_drop, bytesPV_len, List.length_take, List.length_drop]; omega
    have k3 : ∀ c : List PV, c.length = 16 → setL c 0 (bytesPV k) = bytesPV k := fun c hc => setL_all _ _ (by rw [hc, bytesPV_len, hkl])
    have k4 : List.take 16 (bytesPV k) = bytesPV k := List.take_of_length_le (by rw [bytesPV_len]; omega)
    have k5 : ((n + 1 : Nat) : Int) - 2 = ((n - 1 : Nat) : Int) := by omega
    have hq4 : q < D.n + 4 := by omega
    have h1l : (e.map sbox).length = 16 := by rw [List.length_map, hes]
    by_cases hc : i + 1 < n
    · rw [if_pos hc] at hnx
      have k6 : ((i : Int) == ((n - 1 : Nat) : Int)) = false := by rw [beq_eq_false_iff_ne]; omega
      repeat' first | simp -implicitDefEqProofs (maxSteps := 400000) (disch := first | with_reducible rfl | omega | (simp only [wkH] <;> omega) | decide) only [wkAll, wkL, popO, wantedP, if_true, if_false, reduceIte, ne_eq, Nat.reduceAdd, Nat.reduceSub, Nat.reduceMul, Nat.reduceLeDiff, Nat.reduceLT, ofCells, ofCell, reduceCtorEq, Int.reduceLE, Int.reduceLT, Int.reduceToNat, Int.reduceAdd, Int.reduceSub, Int.reduceMul, Int.reduceNeg, Int.reduceBEq, Int.reduceBNe, Int.reduceEq, eqCell, eqCells, binP, unP, convP, lenP, builtinP, sliceDataP, unsafeStringP, appendT, appendS, appendP, copyP, srcP, mmsP, mmP, indexOp, indexAddrOp, sliceOp, bndsP, bndP, capw, capCut, loadOp, storeOp, loadP, fieldOp, fieldAddrOp, arrayAtOp, buildP, buildSliceP, makeSliceP, placeF, fillP, setL, PK.agg, isZero, gt_iff_lt, Nat.reducePow, Nat.reduceGT, reps, seg, wkN, if_pos, if_neg, tf3, Tryz.ze3, tf4, Tryz.ze4, tf5, Tryz.ze5, tf9, Tryz.ze9, tf21, Tryz.ze21, tf99, Tryz.ze99, tf117, Tryz.ze117, tf121, Tryz.ze121, tf135, Tryz.ze135, tf137, Tryz.ze137, tf139, Tryz.ze139, tf141, Tryz.ze141, tf142, Tryz.ze142, tf143, Tryz.ze143, tf144, Tryz.ze144, tf146, Tryz.ze146, pl84_3Ae9, -sliceOp, hlt', k1, k2, k3, k4, k5, k6, hkl, h_getlt hqD, hDq, hcr, bytesPV_cok] | refine w_drawnF (id := 3) tb84_3Ae9 pl84_3Ae9 28 (by kernel_rfl) (by kernel_rfl) (by simp) ?_
      refine w_round (by rw [h_ob]; exact up_same) rfl rfl ?_
      simp only [mkLoop, setPs, List.set_cons_zero, List.set_cons_succ, List.toList_toArray]
      repeat' first | simp -implicitDefEqProofs (maxSteps := 400000) (disch := first | with_reducible rfl | omega | (simp only [wkH] <;> omega) | decide) only [wkAll, wkL, popO, wantedP, if_true, if_false, reduceIte, ne_eq, Nat.reduceAdd, Nat.reduceSub, Nat.reduceMul, Nat.reduceLeDiff, Nat.reduceLT, ofCells, ofCell, reduceCtorEq, Int.reduceLE, Int.reduceLT, Int.reduceToNat, Int.reduceAdd, Int.reduceSub, Int.reduceMul, Int.reduceNeg, Int.reduceBEq, Int.reduceBNe, Int.reduceEq, eqCell, eqCells, binP, unP, convP, lenP, builtinP, sliceDataP, unsafeStringP, appendT, appendS, appendP, copyP, srcP, mmsP, mmP, indexOp, indexAddrOp, sliceOp, bndsP, bndP, capw, capCut, loadOp, storeOp, loadP, fieldOp, fieldAddrOp, arrayAtOp, buildP, buildSliceP, makeSliceP, placeF, fillP, setL, PK.agg, isZero, gt_iff_lt, Nat.reducePow, Nat.reduceGT, reps, seg, wkN, if_pos, if_neg, tf3, Tryz.ze3, tf4, Tryz.ze4, tf5, Tryz.ze5, tf9, Tryz.ze9, tf21, Tryz.ze21, tf99, Tryz.ze99, tf117, Tryz.ze117, tf121, Tryz.ze121, tf135, Tryz.ze135, tf137, Tryz.ze137, tf139, Tryz.ze139, tf141, Tryz.ze141, tf142, Tryz.ze142, tf143, Tryz.ze143, tf144, Tryz.ze144, tf146, Tryz.ze146, tf152, Tryz.ze152, tf154, Tryz.ze154, tf155, Tryz.ze155, k3, k4, hkl, bytesPV_cok]
      first | refine ⟨_, rfl, rfl, ?_⟩ | refine ⟨_, by rw [h_ob]; exact up_same, rfl, ?_⟩
      repeat' first | simp -implicitDefEqProofs (maxSteps := 400000) (disch := first | with_reducible rfl | omega | (simp only [wkH] <;> omega) | decide) only [wkAll, wkL, popO, wantedP, if_true, if_false, reduceIte, ne_eq, Nat.reduceAdd, Nat.reduceSub, Nat.reduceMul, Nat.reduceLeDiff, Nat.reduceLT, ofCells, ofCell, reduceCtorEq, Int.reduceLE, Int.reduceLT, Int.reduceToNat, Int.reduceAdd, Int.reduceSub, Int.reduceMul, Int.reduceNeg, Int.reduceBEq, Int.reduceBNe, Int.reduceEq, eqCell, eqCells, binP, unP, convP, lenP, builtinP, sliceDataP, unsafeStringP, appendT, appendS, appendP, copyP, srcP, mmsP, mmP, indexOp, indexAddrOp, sliceOp, bndsP, bndP, capw, capCut, loadOp, storeOp, loadP, fieldOp, fieldAddrOp, arrayAtOp, buildP, buildSliceP, makeSliceP, placeF, fillP, setL, PK.agg, isZero, gt_iff_lt, Nat.reducePow, Nat.reduceGT, reps, seg, wkN, if_pos, if_neg, tf3, Tryz.ze3, tf4, Tryz.ze4, tf5, Tryz.ze5, tf9, Tryz.ze9, tf21, Tryz.ze21, tf99, Tryz.ze99, tf117, Tryz.ze117, tf121, Tryz.ze121, tf135, Tryz.ze135, tf137, Tryz.ze137, tf139, Tryz.ze139, tf141, Tryz.ze141, tf142, Tryz.ze142, tf143, Tryz.ze143, tf144, Tryz.ze144, tf146, Tryz.ze146, tf152, Tryz.ze152, tf154, Tryz.ze154, tf155, Tryz.ze155, k4, hkl, h_getlt hqD, hDq] | refine w_eff (subB_ok _ _ _ e key hes (by rw [h_get]; rfl) (by rw [h_getlt hqD]; exact hDq) (by omega)) ?_ | refine w_eff (turnE_ok _ _ 4 (e.map sbox) _ (.inl ⟨rfl, rfl⟩) h1l (by rw [h_get]; rfl)) ?_ | refine w_eff (mixE_ok _ _ _ (shiftL (e.map sbox)) key (shift_len _) (by rw [h_get]; rfl) (by rw [h_getlt hqD]; exact hDq) (by omega)) ?_ | refine w_eff (plus8_ok _ _ (mixL mE (shiftL (e.map sbox))) k (mix_len _ _) hkl (by rw [h_get]; rfl)) ?_
      refine ⟨_, by rw [h_ob]; exact up_same, ?_⟩
      repeat' first | simp -implicitDefEqProofs (maxSteps := 400000) (disch := first | with_reducible rfl | omega | (simp only [wkH] <;> omega) | decide) only [wkAll, wkL, popO, wantedP, if_true, if_false, reduceIte, ne_eq, Nat.reduceAdd, Nat.reduceSub, Nat.reduceMul, Nat.reduceLeDiff, Nat.reduceLT, ofCells, ofCell, reduceCtorEq, Int.reduceLE, Int.reduceLT, Int.reduceToNat, Int.reduceAdd, Int.reduceSub, Int.reduceMul, Int.reduceNeg, Int.reduceBEq, Int.reduceBNe, Int.reduceEq, eqCell, eqCells, binP, unP, convP, lenP, builtinP, sliceDataP, unsafeStringP, appendT, appendS, appendP, copyP, srcP, mmsP, mmP, indexOp, indexAddrOp, sliceOp, bndsP, bndP, capw, capCut, loadOp, storeOp, loadP, fieldOp, fieldAddrOp, arrayAtOp, buildP, buildSliceP, makeSliceP, placeF, fillP, setL, PK.agg, isZero, gt_iff_lt, Nat.reducePow, Nat.reduceGT, reps, seg, wkN, if_pos, if_neg, tf3, Tryz.ze3, tf4, Tryz.ze4, tf5, Tryz.ze5, tf9, Tryz.ze9, tf21, Tryz.ze21, tf99, Tryz.ze99, tf117, Tryz.ze117, tf121, Tryz.ze121, tf135, Tryz.ze135, tf137, Tryz.ze137, tf139, Tryz.ze139, tf141, Tryz.ze141, tf142, Tryz.ze142, tf143, Tryz.ze143, tf144, Tryz.ze144, tf146, Tryz.ze146, pl84_3Ae9] | refine w_drawnF (id := 3) tb84_3Ae9 pl84_3Ae9 28 (by kernel_rfl) (by kernel_rfl) (by simp) ?_
      refine hK (i + 1) _ _ (by omega) (by omega) (.cut [_, _] hW (by simp [FadeTo]) (by first | rfl | (simp [hnx]; rfl) | simp [hnx]) (by simp [scs_cons, scs_nil, sc_ptr, sc_fsl, sc_gsl, sc_sl, sc_agg, sc_func, sc_int, sc_bool, sc_str, sc_undef, sc_nilptr, sc_nilsl, sc_yield, sc_tuple, sc_fptr, scs_bytes, scs_append, scs_bytes, hZs, hYs, hq4]) (by simp [scs_cons, scs_nil, sc_ptr, sc_fsl, sc_gsl, sc_sl, sc_agg, sc_func, sc_int, sc_bool, sc_str, sc_undef, sc_nilptr, sc_nilsl, sc_yield, sc_tuple, sc_fptr, scs_bytes, scs_append, scs_bytes, hZs, hYs, hq4]) (h3 := .inr (obsc2 hW (by omega) (by simp [mkLoop, scs_cons, scs_nil, sc_ptr, sc_fsl, sc_gsl, sc_sl, sc_agg, sc_func, sc_int, sc_bool, sc_str, sc_undef, sc_nilptr, sc_nilsl, sc_yield, sc_tuple, sc_fptr, scs_bytes, scs_append, scs_bytes, hZs, hYs, hq4]))))
    · rw [if_neg hc] at hnx
      have k6 : ((i : Int) == ((n - 1 : Nat) : Int)) = true := by rw [beq_iff_eq]; omega
      repeat' first | simp -implicitDefEqProofs (maxSteps := 400000) (disch := first | with_reducible rfl | omega | (simp only [wkH] <;> omega) | decide) only [wkAll, wkL, popO, wantedP, if_true, if_false, reduceIte, ne_eq, Nat.reduceAdd, Nat.reduceSub, Nat.reduceMul, Nat.reduceLeDiff, Nat.reduceLT, ofCells, ofCell, reduceCtorEq, Int.reduceLE, Int.reduceLT, Int.reduceToNat, Int.reduceAdd, Int.reduceSub, Int.reduceMul, Int.reduceNeg, Int.reduceBEq, Int.reduceBNe, Int.reduceEq, eqCell, eqCells, binP, unP, convP, lenP, builtinP, sliceDataP, unsafeStringP, appendT, appendS, appendP, copyP, srcP, mmsP, mmP, indexOp, indexAddrOp, sliceOp, bndsP, bndP, capw, capCut, loadOp, storeOp, loadP, fieldOp, fieldAddrOp, arrayAtOp, buildP, buildSliceP, makeSliceP, placeF, fillP, setL, PK.agg, isZero, gt_iff_lt, Nat.reducePow, Nat.reduceGT, reps, seg, wkN, if_pos, if_neg, tf3, Tryz.ze3, tf4, Tryz.ze4, tf5, Tryz.ze5, tf9, Tryz.ze9, tf21, Tryz.ze21, tf99, Tryz.ze99, tf117, Tryz.ze117, tf121, Tryz.ze121, tf135, Tryz.ze135, tf137, Tryz.ze137, tf139, Tryz.ze139, tf141, Tryz.ze141, tf142, Tryz.ze142, tf143, Tryz.ze143, tf144, Tryz.ze144, tf146, Tryz.ze146, pl84_3Ae9, -sliceOp, hlt', k1, k2, k3, k4, k5, k6, hkl, h_getlt hqD, hDq, hcr, bytesPV_cok] | refine w_drawnF (id := 3) tb84_3Ae9 pl84_3Ae9 28 (by kernel_rfl) (by kernel_rfl) (by simp) ?_
      refine w_round (by rw [h_ob]; exact up_same) rfl rfl ?_
      simp only [mkLoop, setPs, List.set_cons_zero, List.set_cons_succ, List.toList_toArray]
      repeat' first | simp -implicitDefEqProofs (maxSteps := 400000) (disch := first | with_reducible rfl | omega | (simp only [wkH] <;> omega) | decide) only [wkAll, wkL, popO, wantedP, if_true, if_false, reduceIte, ne_eq, Nat.reduceAdd, Nat.reduceSub, Nat.reduceMul, Nat.reduceLeDiff, Nat.reduceLT, ofCells, ofCell, reduceCtorEq, Int.reduceLE, Int.reduceLT, Int.reduceToNat, Int.reduceAdd, Int.reduceSub, Int.reduceMul, Int.reduceNeg, Int.reduceBEq, Int.reduceBNe, Int.reduceEq, eqCell, eqCells, binP, unP, convP, lenP, builtinP, sliceDataP, unsafeStringP, appendT, appendS, appendP, copyP, srcP, mmsP, mmP, indexOp, indexAddrOp, sliceOp, bndsP, bndP, capw, capCut, loadOp, storeOp, loadP, fieldOp, fieldAddrOp, arrayAtOp, buildP, buildSliceP, makeSliceP, placeF, fillP, setL, PK.agg, isZero, gt_iff_lt, Nat.reducePow, Nat.reduceGT, reps, seg, wkN, if_pos, if_neg, tf3, Tryz.ze3, tf4, Tryz.ze4, tf5, Tryz.ze5, tf9, Tryz.ze9, tf21, Tryz.ze21, tf99, Tryz.ze99, tf117, Tryz.ze117, tf121, Tryz.ze121, tf135, Tryz.ze135, tf137, Tryz.ze137, tf139, Tryz.ze139, tf141, Tryz.ze141, tf142, Tryz.ze142, tf143, Tryz.ze143, tf144, Tryz.ze144, tf146, Tryz.ze146, tf152, Tryz.ze152, tf154, Tryz.ze154, tf155, Tryz.ze155, k3, k4, hkl, bytesPV_cok]
      first | refine ⟨_, rfl, rfl, ?_⟩ | refine ⟨_, by rw [h_ob]; exact up_same, rfl, ?_⟩
      repeat' first | simp -implicitDefEqProofs (maxSteps := 400000) (disch := first | with_reducible rfl | omega | (simp only [wkH] <;> omega) | decide) only [wkAll, wkL, popO, wantedP, if_true, if_false, reduceIte, ne_eq, Nat.reduceAdd, Nat.reduceSub, Nat.reduceMul, Nat.reduceLeDiff, Nat.reduceLT, ofCells, ofCell, reduceCtorEq, Int.reduceLE, Int.reduceLT, Int.reduceToNat, Int.reduceAdd, Int.reduceSub, Int.reduceMul, Int.reduceNeg, Int.reduceBEq, Int.reduceBNe, Int.reduceEq, eqCell, eqCells, binP, unP, convP, lenP, builtinP, sliceDataP, unsafeStringP, appendT, appendS, appendP, copyP, srcP, mmsP, mmP, indexOp, indexAddrOp, sliceOp, bndsP, bndP, capw, capCut, loadOp, storeOp, loadP, fieldOp, fieldAddrOp, arrayAtOp, buildP, buildSliceP, makeSliceP, placeF, fillP, setL, PK.agg, isZero, gt_iff_lt, Nat.reducePow, Nat.reduceGT, reps, seg, wkN, if_pos, if_neg, tf3, Tryz.ze3, tf4, Tryz.ze4, tf5, Tryz.ze5, tf9, Tryz.ze9, tf21, Tryz.ze21, tf99, Tryz.ze99, tf117, Tryz.ze117, tf121, Tryz.ze121, tf135, Tryz.ze135, tf137, Tryz.ze137, tf139, Tryz.ze139, tf141, Tryz.ze141, tf142, Tryz.ze142, tf143, Tryz.ze143, tf144, Tryz.ze144, tf146, Tryz.ze146, tf152, Tryz.ze152, tf154, Tryz.ze154, tf155, Tryz.ze155, k4, hkl, h_getlt hqD, hDq] | refine w_eff (subB_ok _ _ _ e key hes (by rw [h_get]; rfl) (by rw [h_getlt hqD]; exact hDq) (by omega)) ?_ | refine w_eff (turnE_ok _ _ 4 (e.map sbox) _ (.inl ⟨rfl, rfl⟩) h1l (by rw [h_get]; rfl)) ?_ | refine w_eff (plus8_ok _ _ (shiftL (e.map sbox)) k (shift_len _) hkl (by rw [h_get]; rfl)) ?_
      refine ⟨_, by rw [h_ob]; exact up_same, ?_⟩
      repeat' first | simp -implicitDefEqProofs (maxSteps := 400000) (disch := first | with_reducible rfl | omega | (simp only [wkH] <;> omega) | decide) only [wkAll, wkL, popO, wantedP, if_true, if_false, reduceIte, ne_eq, Nat.reduceAdd, Nat.reduceSub, Nat.reduceMul, Nat.reduceLeDiff, Nat.reduceLT, ofCells, ofCell, reduceCtorEq, Int.reduceLE, Int.reduceLT, Int.reduceToNat, Int.reduceAdd, Int.reduceSub, Int.reduceMul, Int.reduceNeg, Int.reduceBEq, Int.reduceBNe, Int.reduceEq, eqCell, eqCells, binP, unP, convP, lenP, builtinP, sliceDataP, unsafeStringP, appendT, appendS, appendP, copyP, srcP, mmsP, mmP, indexOp, indexAddrOp, sliceOp, bndsP, bndP, capw, capCut, loadOp, storeOp, loadP, fieldOp, fieldAddrOp, arrayAtOp, buildP, buildSliceP, makeSliceP, placeF, fillP, setL, PK.agg, isZero, gt_iff_lt, Nat.reducePow, Nat.reduceGT, reps, seg, wkN, if_pos, if_neg, tf3, Tryz.ze3, tf4, Tryz.ze4, tf5, Tryz.ze5, tf9, Tryz.ze9, tf21, Tryz.ze21, tf99, Tryz.ze99, tf117, Tryz.ze117, tf121, Tryz.ze121, tf135, Tryz.ze135, tf137, Tryz.ze137, tf139, Tryz.ze139, tf141, Tryz.ze141, tf142, Tryz.ze142, tf143, Tryz.ze143, tf144, Tryz.ze144, tf146, Tryz.ze146, pl84_3Ae9] | refine w_drawnF (id := 3) tb84_3Ae9 pl84_3Ae9 28 (by kernel_rfl) (by kernel_rfl) (by simp) ?_
      refine hK (i + 1) _ _ (by omega) (by omega) (.cut [_, _] hW (by simp [FadeTo]) (by first | rfl | (simp [hnx]; rfl) | simp [hnx]) (by simp [scs_cons, scs_nil, sc_ptr, sc_fsl, sc_gsl, sc_sl, sc_agg, sc_func, sc_int, sc_bool, sc_str, sc_undef, sc_nilptr, sc_nilsl, sc_yield, sc_tuple, sc_fptr, scs_bytes, scs_append, scs_bytes, hZs, hYs, hq4]) (by simp [scs_cons, scs_nil, sc_ptr, sc_fsl, sc_gsl, sc_sl, sc_agg, sc_func, sc_int, sc_bool, sc_str, sc_undef, sc_nilptr, sc_nilsl, sc_yield, sc_tuple, sc_fptr, scs_bytes, scs_append, scs_bytes, hZs, hYs, hq4]) (h3 := .inr (obsc2 hW (by omega) (by simp [mkLoop, scs_cons, scs_nil, sc_ptr, sc_fsl, sc_gsl, sc_sl, sc_agg, sc_func, sc_int, sc_bool, sc_str, sc_undef, sc_nilptr, sc_nilsl, sc_yield, sc_tuple, sc_fptr, scs_bytes, scs_append, scs_bytes, hZs, hYs, hq4]))))
  · have : i = n := by omega
    subst this
    have hge' : ¬ (i : Int) < (i : Int) := by omega
    have hes := encS_len hb (w := w) (n := i) (by omega) i (by omega)
    obtain ⟨e, he⟩ : ∃ e, e = encS w i b i := ⟨_, rfl⟩
    rw [← he] at hQ hes ⊢
    have k4 : List.take 16 (bytesPV e) = bytesPV e := List.take_of_length_le (by rw [bytesPV_len]; omega)
    have k3 : ∀ c : List PV, c.length = 16 → setL c 0 (bytesPV e) = bytesPV e := fun c hc => setL_all _ _ (by rw [hc, bytesPV_len, hes])
    repeat' first | simp -implicitDefEqProofs (maxSteps := 400000) (disch := first | with_reducible rfl | omega | (simp only [wkH] <;> omega) | decide) only [wkAll, wkL, popO, wantedP, if_true, if_false, reduceIte, ne_eq, Nat.reduceAdd, Nat.reduceSub, Nat.reduceMul, Nat.reduceLeDiff, Nat.reduceLT, ofCells, ofCell, reduceCtorEq, Int.reduceLE, Int.reduceLT, Int.reduceToNat, Int.reduceAdd, Int.reduceSub, Int.reduceMul, Int.reduceNeg, Int.reduceBEq, Int.reduceBNe, Int.reduceEq, eqCell, eqCells, binP, unP, convP, lenP, builtinP, sliceDataP, unsafeStringP, appendT, appendS, appendP, copyP, srcP, mmsP, mmP, indexOp, indexAddrOp, sliceOp, bndsP, bndP, capw, capCut, loadOp, storeOp, loadP, fieldOp, fieldAddrOp, arrayAtOp, buildP, buildSliceP, makeSliceP, placeF, fillP, setL, PK.agg, isZero, gt_iff_lt, Nat.reducePow, Nat.reduceGT, reps, seg, wkN, if_pos, if_neg, tf3, Tryz.ze3, tf4, Tryz.ze4, tf5, Tryz.ze5, tf9, Tryz.ze9, tf21, Tryz.ze21, tf99, Tryz.ze99, tf117, Tryz.ze117, tf121, Tryz.ze121, tf135, Tryz.ze135, tf137, Tryz.ze137, tf139, Tryz.ze139, tf141, Tryz.ze141, tf142, Tryz.ze142, tf143, Tryz.ze143, tf144, Tryz.ze144, tf146, Tryz.ze146, pl84_3Ae9, hge'] | refine w_drawnF (id := 3) tb84_3Ae9 pl84_3Ae9 28 (by kernel_rfl) (by kernel_rfl) (by simp) ?_
    refine hQ' (by first | exact .inr rfl | exact .inl rfl) trivial (by first | (simp -implicitDefEqProofs (maxSteps := 400000) (disch := first | with_reducible rfl | omega | (simp only [wkH] <;> omega) | decide) only [wkAll, wkL, popO, wantedP, if_true, if_false, reduceIte, ne_eq, Nat.reduceAdd, Nat.reduceSub, Nat.reduceMul, Nat.reduceLeDiff, Nat.reduceLT, ofCells, ofCell, reduceCtorEq, Int.reduceLE, Int.reduceLT, Int.reduceToNat, Int.reduceAdd, Int.reduceSub, Int.reduceMul, Int.reduceNeg, Int.reduceBEq, Int.reduceBNe, Int.reduceEq, eqCell, eqCells, loadOp, storeOp, loadP, setL, PK.agg, isZero, gt_iff_lt, Nat.reducePow, Nat.reduceGT, reps, seg, wkN, if_pos, if_neg, tf3, Tryz.ze3, tf4, Tryz.ze4, tf5, Tryz.ze5, tf9, Tryz.ze9, tf21, Tryz.ze21, tf99, Tryz.ze99, tf117, Tryz.ze117, tf121, Tryz.ze121, tf135, Tryz.ze135, tf137, Tryz.ze137, tf139, Tryz.ze139, tf141, Tryz.ze141, tf142, Tryz.ze142, tf143, Tryz.ze143, tf144, Tryz.ze144, tf146, Tryz.ze146, pl84_3Ae9, resP, resPs, resP1]; rfl) | rfl) (re_normal (by rw [h_shut0, h_ob]; exact up_same) rfl rfl ?_)
    repeat' first | simp -implicitDefEqProofs (maxSteps := 400000) (disch := first | with_reducible rfl | omega | (simp only [wkH] <;> omega) | decide) only [wkAll, wkL, popO, wantedP, if_true, if_false, reduceIte, ne_eq, Nat.reduceAdd, Nat.reduceSub, Nat.reduceMul, Nat.reduceLeDiff, Nat.reduceLT, ofCells, ofCell, reduceCtorEq, Int.reduceLE, Int.reduceLT, Int.reduceToNat, Int.reduceAdd, Int.reduceSub, Int.reduceMul, Int.reduceNeg, Int.reduceBEq, Int.reduceBNe, Int.reduceEq, eqCell, eqCells, binP, unP, convP, lenP, builtinP, sliceDataP, unsafeStringP, appendT, appendS, appendP, copyP, srcP, mmsP, mmP, indexOp, indexAddrOp, sliceOp, bndsP, bndP, capw, capCut, loadOp, storeOp, loadP, fieldOp, fieldAddrOp, arrayAtOp, buildP, buildSliceP, makeSliceP, placeF, fillP, setL, PK.agg, isZero, gt_iff_lt, Nat.reducePow, Nat.reduceGT, reps, seg, wkN, if_pos, if_neg, tf3, Tryz.ze3, tf4, Tryz.ze4, tf5, Tryz.ze5, tf9, Tryz.ze9, tf21, Tryz.ze21, tf99, Tryz.ze99, tf117, Tryz.ze117, tf121, Tryz.ze121, tf135, Tryz.ze135, tf137, Tryz.ze137, tf139, Tryz.ze139, tf141, Tryz.ze141, tf142, Tryz.ze142, tf143, Tryz.ze143, tf144, Tryz.ze144, tf146, Tryz.ze146, tf152, Tryz.ze152, tf154, Tryz.ze154, tf155, Tryz.ze155, up_none2 hl' hne, k3, k4, hes, hZl, bytesPV_cok]
    trace_state
    refine hQ (by first | exact .inr rfl | exact .inl rfl) (by first | exact trivial | exact marks1) (by first | (simp -implicitDefEqProofs (maxSteps := 400000) (disch := first | with_reducible rfl | omega | (simp only [wkH] <;> omega) | decide) only [wkAll, wkL, popO, wantedP, if_true, if_false, reduceIte, ne_eq, Nat.reduceAdd, Nat.reduceSub, Nat.reduceMul, Nat.reduceLeDiff, Nat.reduceLT, ofCells, ofCell, reduceCtorEq, Int.reduceLE, Int.reduceLT, Int.reduceToNat, Int.reduceAdd, Int.reduceSub, Int.reduceMul, Int.reduceNeg, Int.reduceBEq, Int.reduceBNe, Int.reduceEq, eqCell, eqCells, loadOp, storeOp, loadP, setL, PK.agg, isZero, gt_iff_lt, Nat.reducePow, Nat.reduceGT, reps, seg, wkN, if_pos, if_neg, tf3, Tryz.ze3, tf4, Tryz.ze4, tf5, Tryz.ze5, tf9, Tryz.ze9, tf21, Tryz.ze21, tf99, Tryz.ze99, tf117, Tryz.ze117, tf121, Tryz.ze121, tf135, Tryz.ze135, tf137, Tryz.ze137, tf139, Tryz.ze139, tf141, Tryz.ze141, tf142, Tryz.ze142, tf143, Tryz.ze143, tf144, Tryz.ze144, tf146, Tryz.ze146, tf152, Tryz.ze152, tf154, Tryz.ze154, tf155, Tryz.ze155, resP, resPs, resP1, k4]; rfl) | rfl) ⟨6, by repeat' first | exact frz_scalar rfl | apply frz_tuple | apply frz_agg | apply frz_fsl | apply frz_gsl (by omega) | exact frzs_nil | apply frzs_cons | exact frzs_scalars (bytesPV_scalar _)⟩ (by first | exact keepsH0 | exact keeps1 (by assumption)) (nw_eq ?_)
    rfl
end Pv

--nosplit
--keep2
namespace Pv
set_option maxRecDepth 20000
set_option maxHeartbeats 4000000
open Go Go.Proofs Go.RowKit
variable {w0 : World}

end Pv
