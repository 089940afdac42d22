/- Part of the proof: the layer of pure values, or walks through functions (PvNg15, PvEntry4, PvNg16). -/
import Derived.Test.YtjomgffpkdcanaaPvNg9
import Derived.Test.YtjomgffpkdcanaaPvNg11
import Derived.Test.YtjomgffpkdcanaaPvNg7
import Derived.Test.YtjomgffpkdcanaaPvNg5
import Derived.Test.YtjomgffpkdcanaaPvShaX
set_option linter.all false
--nosplit
--keep2
namespace Pv
set_option maxRecDepth 20000
set_option maxHeartbeats 4000000
open Go Go.Proofs Go.RowKit
variable {w0 : World}

def awL : List KR := [⟨true, 1, [0, 0]⟩, ⟨true, 4, [0, 15]⟩, ⟨true, 0, []⟩]
def awC : List UInt8 := [99, 111, 111, 107]
def awA : List KR := [⟨true, 1, [0, 0]⟩, ⟨true, 4, [0, 15]⟩, ⟨false, 5, awC⟩, ⟨true, 0, []⟩]
def awB : List KR := [⟨true, 2, [0, 0]⟩, ⟨true, 0, []⟩]
theorem aw19_a : ask0L [15] = (awL, 0) := by decide +kernel
theorem aw19_b : ansL [17, 15] [awC] [] 0 awL = (awA, 15) := by decide +kernel
theorem aw19_c : ansL [] [] [] 0 (⟨true, 99, []⟩ :: awL) = (awB, 0) := by decide +kernel
theorem awake19_ok : Fn (Cx w0) 10 [] (.bool true) := by
  have t1 := negoAsk0_ok (w0 := w0) [15] (by decide)
  rw [aw19_a] at t1
  have t2 := negoAnswer_ok (w0 := w0) [17, 15] [awC] [] 0 awL (by decide) (by decide) (by decide) (by decide) (by decide) (by decide)
  rw [aw19_b] at t2
  have t3 := negoAnswer_ok (w0 := w0) [] [] [] 0 (⟨true, 99, []⟩ :: awL) (by decide) (by decide) (by decide) (by decide) (by decide) (by decide)
  rw [aw19_c] at t3
  refine fn_H ([Go.ResultVar.tmp 0]) Try.func10 rfl rfl (by decide) fun ph hW Q hQ => ?_
  simp only [start, List.length_cons, List.length_nil, List.cons_append, List.nil_append, Nat.reduceAdd, Nat.reduceSub, List.replicate_succ, List.replicate_zero, Try.ntmps10]
  repeat' first | simp -implicitDefEqProofs (maxSteps := 400000) (disch := first | with_reducible rfl | omega | (simp only [wkH] <;> omega) | decide) only [wkAll, wkL, popO, wantedP, if_true, if_false, reduceIte, ne_eq, Nat.reduceAdd, Nat.reduceSub, Nat.reduceMul, Nat.reduceLeDiff, Nat.reduceLT, ofCells, ofCell, reduceCtorEq, Int.reduceLE, Int.reduceLT, Int.reduceToNat, Int.reduceAdd, Int.reduceSub, Int.reduceMul, Int.reduceNeg, Int.reduceBEq, Int.reduceBNe, Int.reduceEq, eqCell, eqCells, binP, unP, convP, lenP, builtinP, sliceDataP, unsafeStringP, appendT, appendS, appendP, copyP, srcP, mmsP, mmP, indexOp, indexAddrOp, sliceOp, bndsP, bndP, capw, capCut, loadOp, storeOp, loadP, fieldOp, fieldAddrOp, arrayAtOp, buildP, buildSliceP, makeSliceP, placeF, fillP, setL, PK.agg, isZero, gt_iff_lt, Nat.reducePow, Nat.reduceGT, reps, seg, wkN, if_pos, if_neg, tf2, Try.ze2, tf3, Try.ze3, tf4, Try.ze4, tf9, Try.ze9, tf22, Try.ze22, tf23, Try.ze23, tf24, Try.ze24, tf26, Try.ze26, tf28, Try.ze28, tf30, Try.ze30, tf32, Try.ze32, tf33, Try.ze33, tf35, Try.ze35, tf43, Try.ze43, tf45, Try.ze45, tf47, Try.ze47, tf69, Try.ze69, tf176, Try.ze176, tf178, Try.ze178]
  refine w_frz (p := ph.n) (cells := [.int .i64 15]) (args' := [.fsl 1 1 [.int .i64 15], .str [], .int .i64 0]) (by rw [h_get0]; rfl) ⟨.inr ⟨0, 1, 1, some 1, rfl, rfl, by simp⟩, .inl rfl, .inl rfl, trivial⟩ ?_
  repeat' first | simp -implicitDefEqProofs (maxSteps := 400000) (disch := first | with_reducible rfl | omega | (simp only [wkH] <;> omega) | decide) only [wkAll, wkL, popO, wantedP, if_true, if_false, reduceIte, ne_eq, Nat.reduceAdd, Nat.reduceSub, Nat.reduceMul, Nat.reduceLeDiff, Nat.reduceLT, ofCells, ofCell, reduceCtorEq, Int.reduceLE, Int.reduceLT, Int.reduceToNat, Int.reduceAdd, Int.reduceSub, Int.reduceMul, Int.reduceNeg, Int.reduceBEq, Int.reduceBNe, Int.reduceEq, eqCell, eqCells, binP, unP, convP, lenP, builtinP, sliceDataP, unsafeStringP, appendT, appendS, appendP, copyP, srcP, mmsP, mmP, indexOp, indexAddrOp, sliceOp, bndsP, bndP, capw, capCut, loadOp, storeOp, loadP, fieldOp, fieldAddrOp, arrayAtOp, buildP, buildSliceP, makeSliceP, placeF, fillP, setL, PK.agg, isZero, gt_iff_lt, Nat.reducePow, Nat.reduceGT, reps, seg, wkN, if_pos, if_neg, tf2, Try.ze2, tf3, Try.ze3, tf4, Try.ze4, tf9, Try.ze9, tf22, Try.ze22, tf23, Try.ze23, tf24, Try.ze24, tf26, Try.ze26, tf28, Try.ze28, tf30, Try.ze30, tf32, Try.ze32, tf33, Try.ze33, tf35, Try.ze35, tf43, Try.ze43, tf45, Try.ze45, tf47, Try.ze47, tf69, Try.ze69, tf176, Try.ze176, tf178, Try.ze178] | refine w_pure (t1) ?_
  refine w_frzC 1 [.int .i64 17, .int .i64 15] (args' := [.agg [.fsl 1 2 [.int .i64 17, .int .i64 15], .str [], .int .i64 0, .sl (ph.n + 2) 0 1 1 (some 1)], .fsl 3 awL.length (krsC awL)]) (l' := [none, none, some (.own [.str [99, 111, 111, 107]])]) rfl ⟨.inr (.inr ⟨_, _, rfl, rfl, .inr ⟨0, 1, 2, some 2, rfl, rfl, by simp⟩, .inl rfl, .inl rfl, .inl rfl, trivial⟩), .inl rfl, trivial⟩ FB.refl ?_
  refine w_frzC 2 [.str [99, 111, 111, 107]] (args' := [.agg [.fsl 1 2 [.int .i64 17, .int .i64 15], .str [], .int .i64 0, .fsl 1 1 [.str [99, 111, 111, 107]]], .fsl 3 awL.length (krsC awL)]) (l' := [none, none, none]) rfl ⟨.inr (.inr ⟨_, _, rfl, rfl, .inl rfl, .inl rfl, .inl rfl, .inr ⟨0, 1, 1, some 1, rfl, rfl, by simp⟩, trivial⟩), .inl rfl, trivial⟩ FB.refl ?_
  refine w_pure t2 ?_
  repeat' first | simp -implicitDefEqProofs (maxSteps := 400000) (disch := first | with_reducible rfl | omega | (simp only [wkH] <;> omega) | decide) only [wkAll, wkL, popO, wantedP, if_true, if_false, reduceIte, ne_eq, Nat.reduceAdd, Nat.reduceSub, Nat.reduceMul, Nat.reduceLeDiff, Nat.reduceLT, ofCells, ofCell, reduceCtorEq, Int.reduceLE, Int.reduceLT, Int.reduceToNat, Int.reduceAdd, Int.reduceSub, Int.reduceMul, Int.reduceNeg, Int.reduceBEq, Int.reduceBNe, Int.reduceEq, eqCell, eqCells, binP, unP, convP, lenP, builtinP, sliceDataP, unsafeStringP, appendT, appendS, appendP, copyP, srcP, mmsP, mmP, indexOp, indexAddrOp, sliceOp, bndsP, bndP, capw, capCut, loadOp, storeOp, loadP, fieldOp, fieldAddrOp, arrayAtOp, buildP, buildSliceP, makeSliceP, placeF, fillP, setL, PK.agg, isZero, gt_iff_lt, Nat.reducePow, Nat.reduceGT, reps, seg, wkN, if_pos, if_neg, tf2, Try.ze2, tf3, Try.ze3, tf4, Try.ze4, tf9, Try.ze9, tf22, Try.ze22, tf23, Try.ze23, tf24, Try.ze24, tf26, Try.ze26, tf28, Try.ze28, tf30, Try.ze30, tf32, Try.ze32, tf33, Try.ze33, tf35, Try.ze35, tf43, Try.ze43, tf45, Try.ze45, tf47, Try.ze47, tf69, Try.ze69, tf176, Try.ze176, tf178, Try.ze178]
  refine PCalls.args (args' := [.agg [.fsl 1 0 [], .str [], .int .i64 0, .fsl 1 0 []], .sl (ph.n + 4) 0 3 4 none]) (nws_cons (nw_agg (nws_cons nw_nil (nws_cons (nw_eq rfl) (nws_cons (nw_eq rfl) (nws_cons nw_nil nws_nil))))) (nws_cons (nw_eq rfl) nws_nil)) ?_
  refine w_frz (p := ph.n + 4) (cells := krsC (⟨true, 99, []⟩ :: awL)) (args' := [.agg [.fsl 1 0 [], .str [], .int .i64 0, .fsl 1 0 []], .fsl 3 4 (krsC (⟨true, 99, []⟩ :: awL))]) (by rw [h_get]; rfl) ⟨.inl rfl, .inr ⟨0, 3, 4, none, rfl, rfl, by decide⟩, trivial⟩ ?_
  refine w_pure t3 ?_
  have kz : keysL 0 [] 15 = ([], [], 14) := by decide +kernel
  have ez : tlL 0 [] [] [] 1 = ([], 14) := by decide +kernel
  repeat' first | simp -implicitDefEqProofs (maxSteps := 400000) (disch := first | with_reducible rfl | omega | (simp only [wkH] <;> omega) | decide) only [wkAll, wkL, popO, wantedP, if_true, if_false, reduceIte, ne_eq, Nat.reduceAdd, Nat.reduceSub, Nat.reduceMul, Nat.reduceLeDiff, Nat.reduceLT, ofCells, ofCell, reduceCtorEq, Int.reduceLE, Int.reduceLT, Int.reduceToNat, Int.reduceAdd, Int.reduceSub, Int.reduceMul, Int.reduceNeg, Int.reduceBEq, Int.reduceBNe, Int.reduceEq, eqCell, eqCells, binP, unP, convP, lenP, builtinP, sliceDataP, unsafeStringP, appendT, appendS, appendP, copyP, srcP, mmsP, mmP, indexOp, indexAddrOp, sliceOp, bndsP, bndP, capw, capCut, loadOp, storeOp, loadP, fieldOp, fieldAddrOp, arrayAtOp, buildP, buildSliceP, makeSliceP, placeF, fillP, setL, PK.agg, isZero, gt_iff_lt, Nat.reducePow, Nat.reduceGT, reps, seg, wkN, if_pos, if_neg, tf2, Try.ze2, tf3, Try.ze3, tf4, Try.ze4, tf9, Try.ze9, tf22, Try.ze22, tf23, Try.ze23, tf24, Try.ze24, tf26, Try.ze26, tf28, Try.ze28, tf30, Try.ze30, tf32, Try.ze32, tf33, Try.ze33, tf35, Try.ze35, tf43, Try.ze43, tf45, Try.ze45, tf47, Try.ze47, tf69, Try.ze69, tf176, Try.ze176, tf178, Try.ze178, kz, ez, awL, awA, awB, awC, krsC, krC, List.flatMap_cons, List.flatMap_nil] | refine w_pure (negoKeys_ok (w0 := w0) _ 0 15 [] [] [] [] _ rfl rfl rfl rfl (fun m => by simp [scs_cons, scs_nil, sc_str, sc_int, sc_bool, sc_nilsl, sc_agg])) ?_ | refine w_pure (refExport16_ok (w0 := w0) _ 0 [] [] [] [] [] [] _ 1 rfl rfl rfl rfl (by decide) (by decide)) ?_
  refine hQ (by first | exact .inr rfl | exact .inl rfl) (by first | exact trivial | exact marks1) (by first | (simp -implicitDefEqProofs (maxSteps := 400000) (disch := first | with_reducible rfl | omega | (simp only [wkH] <;> omega) | decide) only [wkAll, wkL, popO, wantedP, if_true, if_false, reduceIte, ne_eq, Nat.reduceAdd, Nat.reduceSub, Nat.reduceMul, Nat.reduceLeDiff, Nat.reduceLT, ofCells, ofCell, reduceCtorEq, Int.reduceLE, Int.reduceLT, Int.reduceToNat, Int.reduceAdd, Int.reduceSub, Int.reduceMul, Int.reduceNeg, Int.reduceBEq, Int.reduceBNe, Int.reduceEq, eqCell, eqCells, loadOp, storeOp, loadP, setL, PK.agg, isZero, gt_iff_lt, Nat.reducePow, Nat.reduceGT, reps, seg, wkN, if_pos, if_neg, tf2, Try.ze2, tf3, Try.ze3, tf4, Try.ze4, tf9, Try.ze9, tf22, Try.ze22, tf23, Try.ze23, tf24, Try.ze24, tf26, Try.ze26, tf28, Try.ze28, tf30, Try.ze30, tf32, Try.ze32, tf33, Try.ze33, tf35, Try.ze35, tf43, Try.ze43, tf45, Try.ze45, tf47, Try.ze47, tf69, Try.ze69, tf176, Try.ze176, tf178, Try.ze178, resP, resPs, resP1]; rfl) | rfl) ⟨6, by repeat' first | exact frz_scalar rfl | apply frz_tuple | apply frz_agg | apply frz_fsl | apply frz_gsl (by omega) | exact frzs_nil | apply frzs_cons⟩ (by first | exact keepsH0 | exact keeps1 (by assumption)) (nw_eq ?_)
  rfl
end Pv

/- Arguments with the bound of their reach upon every text in them. -/
namespace Pv
open Go Go.RowKit
inductive BdV : PV → Prop
  | int (k : IntKind) (n : Int) : BdV (.int k n)
  | bool (b : Bool) : BdV (.bool b)
  | str (l : List UInt8) (h : l.length < 2 ^ 47) : BdV (.str l)
  | fsl (e len : Nat) (cells : List PV) (h : ∀ c ∈ cells, BdV c) : BdV (.fsl e len cells)
theorem weightsAll_mem {H : Type} {P : Program} {e : TypeId} {l : List (DataW H × List MemPlace)} {x : DataW H × List MemPlace} {n : Nat} (hx : x ∈ l) (hn : n ∈ x.1.weights P e) : n ∈ DataW.weightsAll P e (l.map (·.1)) := by
  induction l with
  | nil => cases hx
  | cons y l ih =>
    rw [List.map_cons, DataW.weightsAll]
    rcases List.mem_cons.1 hx with rfl | h
    · exact List.mem_append_left _ hn
    · exact List.mem_append_right _ (ih h)
section
variable {H : Type} {enc : TypeId × Value → H} {P : Program} {w : World} {base : Nat} {spare : Nat → Bool} {held : Bool}

theorem trod_structB {fuel : Nat} {t : TypeId} {fs : Array Field} {cs : List Value} {x : DataW H × List MemPlace} (hu : P.underlying t = some (.struct fs)) (h : DataW.trod enc P w base spare held fuel t cs = some x) :
    ∃ m xs, fuel = m + 1 ∧ cs.length = P.cellsOf t ∧ (fs.toList.mapM fun f => DataW.trod enc P w base spare held m f.type ((cs.drop f.offset).take (P.cellsOf f.type))) = some xs ∧ x.1 = .agg (xs.map (·.1)) := by
  cases fuel with
  | zero => simp [DataW.trod] at h
  | succ m =>
    unfold DataW.trod at h
    rw [hu] at h
    split at h <;> simp_all
    obtain ⟨hl, xs, hp, hd⟩ := h
    exact ⟨xs, hp, by rw [← hd]⟩

theorem trod_arrB {fuel n : Nat} {t e : TypeId} {cs : List Value} {x : DataW H × List MemPlace} (hu : P.underlying t = some (.array n e)) (h : DataW.trod enc P w base spare held fuel t cs = some x) :
    ∃ (xs : List (DataW H × List MemPlace)) (m : Nat), fuel = m + 1 ∧ cs.length = P.cellsOf t ∧ xs.length = n ∧ (∀ (i : Nat), i < n → DataW.trod enc P w base spare held m e ((cs.drop (i * P.cellsOf e)).take (P.cellsOf e)) = xs[i]?) ∧ x.1 = .agg (xs.map (·.1)) := by
  cases fuel with
  | zero => simp [DataW.trod] at h
  | succ m =>
    unfold DataW.trod at h
    rw [hu] at h
    split at h <;> simp_all
    obtain ⟨hl, xs, hp, hd⟩ := h
    exact ⟨xs, by simpa using mapM_some_length hp, fun i hi => mapM_some_get hp i i (by simp [hi]), by rw [← hd]⟩

theorem trod_rvb : ∀ (d fuel : Nat) (t : TypeId) (cs : List Value) (x : DataW H × List MemPlace) (ks : List FK), DataW.trod enc P w base spare held fuel t cs = some x → shP P d t = some ks → (∀ n ∈ x.1.weights P t, n ≤ reachBytes) →
    ∃ ps, RVs (G0 w) ps cs ∧ OkL ks ps ∧ ∀ p ∈ ps, BdV p := by
  intro d
  induction d with
  | zero => intro fuel t cs x ks _ h; simp [shP] at h
  | succ d ih =>
    intro fuel t cs x ks hx hk hw
    unfold shP at hk
    split at hk
    · rename_i hu; cases hk
      cases fuel with
      | zero => simp [DataW.trod] at hx
      | succ fuel =>
        unfold DataW.trod at hx; rw [hu] at hx
        split at hx <;> simp_all
        exact ⟨_, .cons _ _ _ _ (.bool _) .nil, .cons _ _ _ _ (.bool _) .nil, by simpa using BdV.bool _⟩
    · rename_i k hu; cases hk
      cases fuel with
      | zero => simp [DataW.trod] at hx
      | succ fuel =>
        unfold DataW.trod at hx; rw [hu] at hx
        split at hx <;> simp_all
        obtain ⟨⟨h1, h2⟩, h3⟩ := hx
        subst h1
        exact ⟨_, .cons _ _ _ _ (.int _ _) .nil, .cons _ _ _ _ (.int _ _ h2) .nil, by simpa using BdV.int _ _⟩
    · rename_i hu; cases hk
      cases fuel with
      | zero => simp [DataW.trod] at hx
      | succ fuel =>
        obtain ⟨s, rfl, e2, -⟩ := DataW.trod_string hu hx
        have hlen : s.data.toList.length ≤ maxLen := by
          unfold DataW.trod at hx; rw [hu] at hx
          split at hx <;> simp_all
        have hb := hw s.data.toList.length (by rw [e2]; simp [DataW.weights])
        have := reachBytes_lt
        exact ⟨_, .cons _ _ _ _ (.str _ _ rfl) .nil, .cons _ _ _ _ (.str s.data.toList hlen) .nil, by simpa using BdV.str s.data.toList (by omega)⟩
    · rename_i e hu
      split at hk
      · rename_i row hrow
        split at hk
        · rename_i hc; cases hk
          rcases DataW.trod_slice hu hx with ⟨rfl, -⟩ | ⟨a, len, cap, elems, rest, n, -, rfl, hxe, -, hlc, hcm, hel, heach, -, -⟩
          · exact ⟨_, .cons _ _ _ _ (.fslnil _) .nil, .cons _ _ _ _ (.sl row 0 [] (by decide) (.nil _)) .nil, by simpa using BdV.fsl _ _ [] (by simp)⟩
          · have hsp : 0 < len → a.spot = none := by
              intro hl
              have h0 := heach 0 hl
              rw [List.getElem?_eq_getElem (by omega)] at h0
              obtain ⟨cs', hcs, -⟩ := Option.bind_eq_some_iff.1 h0
              have hl' := (World.cells?_some hcs).2.1
              have := (cells_f hcs 0 _ (List.getElem?_eq_getElem (by omega))).2
              simpa [Addr.add] using this
            have hwe : ∀ e' ∈ elems, ∀ n ∈ e'.1.weights P e, n ≤ reachBytes := by
              intro e' he' n hn
              refine hw n ?_
              rw [hxe]
              simp only [DataW.weights, hu]
              exact List.mem_cons_of_mem _ (List.mem_append_left _ (weightsAll_mem he' hn))
            have key : ∀ m, m ≤ len → ∃ (ps : List PV) (vs : List Value), RVs (G0 w) ps vs ∧ (∀ j v, vs[j]? = some v → (G0 w).f ⟨a.block, a.off + j, none⟩ = some v ∧ a.spot = none) ∧ vs.length = m * row.length ∧ ∃ rows : List (List PV), rows.length = m ∧ (∀ c ∈ rows, OkL row c) ∧ rows.flatten = ps ∧ ∀ p ∈ ps, BdV p := by
              intro m
              induction m with
              | zero => intro _; exact ⟨[], [], .nil, by simp, by simp, [], rfl, by simp, rfl, by simp⟩
              | succ m ihm =>
                intro hm
                obtain ⟨ps, vs, h1, h2, h3, rows, h4, h5, h6, h7⟩ := ihm (by omega)
                have hme := heach m (by omega)
                have : m < elems.length := by omega
                rw [List.getElem?_eq_getElem this] at hme
                obtain ⟨cs', hcs, ht⟩ := Option.bind_eq_some_iff.1 hme
                obtain ⟨qs, g1, g2, g3⟩ := ih _ _ _ _ _ ht hrow (hwe _ (List.getElem_mem _))
                have hf := cells_f hcs
                refine ⟨ps ++ qs, vs ++ cs', h1.append g1, ?_, ?_, rows ++ [qs], by simp [h4], ?_, by simp [h6], fun p hp => (List.mem_append.1 hp).elim (h7 p) (g3 p)⟩
                · intro j v hj
                  by_cases hlt : j < vs.length
                  · rw [List.getElem?_append_left hlt] at hj; exact h2 j v hj
                  · rw [List.getElem?_append_right (by omega)] at hj
                    have := hf _ _ hj
                    rw [add_none (hsp (by omega))] at this
                    refine ⟨?_, hsp (by omega)⟩
                    rw [← this.1]
                    have e1 : a.off + j = a.off + m * P.cellsOf e + (j - vs.length) := by rw [← hc.1]; omega
                    rw [e1]
                · have := (World.cells?_some hcs).2.1
                  simp [h3, this, ← hc.1, Nat.succ_mul]
                · intro c hcm'
                  rcases List.mem_append.1 hcm' with h | h
                  · exact h5 c h
                  · simp at h; subst h; exact g2
            obtain ⟨ps, vs, h1, h2, h3, rows, h4, h5, h6, h7⟩ := key len (Nat.le_refl _)
            have hR : OkR row len ps := by
              rw [← h6, ← h4]
              clear h4 h6 h1 h3 h7 heach key
              induction rows with
              | nil => exact .nil _
              | cons c rows ihr => exact .cons _ _ _ _ (h5 c (by simp)) (ihr fun c' h => h5 c' (List.mem_cons_of_mem _ h))
            refine ⟨_, .cons _ _ _ _ (.fsl row.length len ps vs a cap h1 hlc hR.length ?_ fun j v hj => (h2 j v hj).1) .nil, .cons _ _ _ _ (.sl row len ps (by omega) hR) .nil, by simpa using BdV.fsl _ _ ps h7⟩
            intro hl
            have : 0 < vs.length := by rw [h3]; exact Nat.mul_pos hl hc.2
            exact (h2 0 _ (List.getElem?_eq_getElem this)).2
        · cases hk
      · cases hk
    · rename_i fs hu
      split at hk
      · rename_i ks' hgo
        split at hk
        · rename_i hlen; cases hk
          obtain ⟨fuel, xs, -, hcl, hm, hxe⟩ := trod_structB hu hx
          have go : ∀ (fl : List Field) (off : Nat) (ks : List FK) (xs : List (DataW H × List MemPlace)), shGo P (shP P d) fl off = some ks → (fl.mapM fun f => DataW.trod enc P w base spare held fuel f.type ((cs.drop f.offset).take (P.cellsOf f.type))) = some xs → off + ks.length ≤ cs.length → (∀ n ∈ DataW.weightsEach P (fl.map (·.type)) (xs.map (·.1)), n ≤ reachBytes) →
              ∃ ps, RVs (G0 w) ps ((cs.drop off).take ks.length) ∧ OkL ks ps ∧ ∀ p ∈ ps, BdV p := by
            intro fl
            induction fl with
            | nil =>
              intro off ks xs hg _ _ _
              simp only [shGo, Option.some.injEq] at hg
              subst hg
              exact ⟨[], by simpa using RVs.nil, .nil, by simp⟩
            | cons f fl ihf =>
              intro off ks xs hg hmm hle hww
              unfold shGo at hg
              split at hg
              · rename_i hoff
                split at hg
                · rename_i k1 hk1
                  split at hg
                  · rename_i hk1l
                    simp only [Option.map_eq_some_iff] at hg
                    obtain ⟨k2, hk2, rfl⟩ := hg
                    rw [List.mapM_cons] at hmm
                    simp only [Option.bind_eq_bind, Option.bind_eq_some_iff, Option.pure_def, Option.some.injEq] at hmm
                    obtain ⟨y, hy, ys, hys, rfl⟩ := hmm
                    simp only [List.map_cons, DataW.weightsEach, List.mem_append] at hww
                    obtain ⟨p1, r1, o1, b1⟩ := ih _ _ _ _ _ hy hk1 (fun n hn => hww n (.inl hn))
                    simp only [List.length_append] at hle
                    obtain ⟨p2, r2, o2, b2⟩ := ihf _ _ _ hk2 hys (by omega) (fun n hn => hww n (.inr hn))
                    refine ⟨p1 ++ p2, ?_, o1.append o2, fun p hp => (List.mem_append.1 hp).elim (b1 p) (b2 p)⟩
                    rw [List.length_append, List.take_add, List.drop_drop]
                    rw [hoff, ← hk1l] at r1
                    exact r1.append r2
                  · cases hg
                · cases hg
              · cases hg
          obtain ⟨ps, r, o, b⟩ := go _ _ _ _ hgo hm (by omega) (fun n hn => hw n (by rw [hxe]; simp only [DataW.weights, hu]; exact hn))
          refine ⟨ps, ?_, o, b⟩
          rw [List.drop_zero, List.take_of_length_le (by omega)] at r
          exact r
        · cases hk
      · cases hk
    · rename_i n e hu
      split at hk
      · rename_i row hrow
        split at hk
        · rename_i hc; cases hk
          obtain ⟨xs, m, -, hcl, hxl, heach, hxe⟩ := trod_arrB hu hx
          have hwe : ∀ e' ∈ xs, ∀ n ∈ e'.1.weights P e, n ≤ reachBytes := fun e' he' n hn => hw n (by rw [hxe]; simp only [DataW.weights, hu]; exact weightsAll_mem he' hn)
          have key : ∀ i, i ≤ n → ∃ ps, RVs (G0 w) ps (cs.take (i * row.length)) ∧ OkL ((List.replicate i row).flatten) ps ∧ ∀ p ∈ ps, BdV p := by
            intro i
            induction i with
            | zero => intro _; exact ⟨[], by simpa using RVs.nil, .nil, by simp⟩
            | succ i ihi =>
              intro hi
              obtain ⟨ps, h1, h2, h3⟩ := ihi (by omega)
              have he := heach i (by omega)
              rw [List.getElem?_eq_getElem (by omega)] at he
              obtain ⟨qs, g1, g2, g3⟩ := ih _ _ _ _ _ he hrow (hwe _ (List.getElem_mem _))
              rw [← hc.1] at g1
              refine ⟨ps ++ qs, ?_, ?_, fun p hp => (List.mem_append.1 hp).elim (h3 p) (g3 p)⟩
              · rw [Nat.succ_mul, List.take_add]; exact h1.append g1
              · rw [List.replicate_succ', List.flatten_append]; simpa using h2.append g2
          obtain ⟨ps, h1, h2, h3⟩ := key n (Nat.le_refl _)
          refine ⟨ps, ?_, h2, h3⟩
          rw [List.take_of_length_le (by rw [hcl, ← hc.2]; exact Nat.le_refl _)] at h1
          exact h1
        · cases hk
      · cases hk
    · cases hk
end
section
variable {H : Type} {enc : TypeId × Value → H} {P : Program} {w : World} {spare : Nat → Bool} {held : Bool} {t : TypeId} {v : Value} {d : DataW H} {ps : List MemPlace} {base : Nat} {ks : List FK}
theorem weights_le {ts : List TypeId} {ds : List (DataW H)} (hsz : (DataW.weightsEach P ts ds).all (· ≤ reachBytes) = true) {j : Nat} (ht : ts[j]? = some t) (hd : ds[j]? = some d) : ∀ n ∈ d.weights P t, n ≤ reachBytes := fun n hn => by
  have := List.all_eq_true.1 hsz _ (DataW.weights_mem_each ht hd n hn)
  simpa using this
theorem open_stB {fs : Array Field} {ts : List TypeId} {ds : List (DataW H)} (hu : P.underlying t = some (.struct fs)) (hv : Value.okWide P w .any base t v) (h : DataW.Trod enc P w 0 spare held t v d ps) (hs : shP P 20 t = some ks) (hsz : (DataW.weightsEach P ts ds).all (· ≤ reachBytes) = true) {j : Nat} (ht : ts[j]? = some t) (hd : ds[j]? = some d) : ∃ cells, OkL ks cells ∧ (∀ p ∈ cells, BdV p) ∧ RV (G0 w) (.agg cells) v := by
  obtain ⟨fuel, hf⟩ := h
  obtain ⟨cells, hr, ho, hb⟩ := trod_rvb _ _ _ _ _ _ hf hs (weights_le hsz ht hd)
  obtain ⟨cs, rfl, -⟩ := Go.WideShapes.okWide_struct hu hv
  refine ⟨cells, ho, hb, ?_⟩
  have : cs = cs.toList.toArray := by simp
  rw [this]
  exact .agg _ _ hr
end
end Pv

--nosplit
--keep2
namespace Pv
set_option maxRecDepth 20000
set_option maxHeartbeats 4000000
open Go Go.Proofs Go.RowKit
variable {w0 : World}

mutual
theorem okC_sc {m : Nat} : ∀ {k : FK} {p : PV}, OkC k p → Sc m p
  | _, _, .int _ _ _ => trivial
  | _, _, .bool _ => trivial
  | _, _, .str _ _ => trivial
  | _, _, .sl _ _ _ _ hc => by rw [sc_fsl]; exact okR_sc hc
theorem okL_sc {m : Nat} : ∀ {ks : List FK} {ps : List PV}, OkL ks ps → Scs m ps
  | _, _, .nil => trivial
  | _, _, .cons _ _ _ _ h hs => ⟨okC_sc h, okL_sc hs⟩
theorem okR_sc {m : Nat} : ∀ {row : List FK} {n : Nat} {ps : List PV}, OkR row n ps → Scs m ps
  | _, _, _, .nil _ => trivial
  | _, _, _, .cons _ _ _ _ h hr => by rw [scs_append]; exact ⟨okL_sc h, okR_sc hr⟩
end
theorem okL_cok : ∀ {ks : List FK} {ps : List PV}, OkL ks ps → ps.all cellOk = true := by
  intro ks ps h
  induction ks generalizing ps with
  | nil => cases h; rfl
  | cons k ks ih =>
    cases h with
    | cons _ _ p ps h hs =>
      rw [List.all_cons, ih hs]
      cases h <;> rfl
theorem okL_at : ∀ {ks : List FK} {ps : List PV} (i : Nat) {k : FK}, OkL ks ps → ks[i]? = some k → ∃ p, ps.drop i = p :: ps.drop (i + 1) ∧ OkC k p := by
  intro ks ps i
  induction i generalizing ks ps with
  | zero =>
    intro k h hk
    cases h with
    | nil => simp at hk
    | cons k' ks p ps h hs => simp at hk; subst hk; exact ⟨p, rfl, h⟩
  | succ i ih =>
    intro k h hk
    cases h with
    | nil => simp at hk
    | cons k' ks p ps h hs => exact ih hs (by simpa using hk)
theorem keys_fit {st : Int} {xe : List UInt8} {a : Int} (h : (keysL st xe a).2.2 = 0) : ((keysL st xe a).1.length : Int) = kszL a ∧ (keysL st xe a).2.1.length = (keysL st xe a).1.length ∧ st = 3 := by
  unfold keysL at h ⊢
  by_cases h1 : kszL a = 0
  · rw [if_pos h1] at h; cases h
  · rw [if_neg h1] at h ⊢
    by_cases h2 : (tlL st xe lbNts (ctxL a 0) (kszL a)).2 = 0
    · rw [if_neg (by simpa using h2)]
      have hst : st = 3 := by
        unfold tlL at h2
        by_cases h3 : st = 3
        · exact h3
        · rw [if_neg h3] at h2; cases h2
      have hx : xe.length = 32 := by
        unfold tlL at h2
        rw [if_pos hst] at h2
        unfold expoL at h2
        by_cases h4 : xe.length = 32
        · exact h4
        · rw [if_neg h4] at h2; cases h2
      have hlz := label_zero xe lbNts (shaOf []) 32 (by decide) (by rw [of_len]; decide) (by decide)
      have hL : ∀ i, ((tlL st xe lbNts (ctxL a i) (kszL a)).1.length : Int) = kszL a := by
        intro i
        unfold tlL
        rw [if_pos hst]
        unfold expoL
        rw [if_pos hx, if_neg (by simpa using hlz)]
        rcases kszL_a h1 with rfl | rfl
        · exact congrArg Int.ofNat (label_len _ _ _ 32 (by decide) (by rw [of_len]; decide) (by decide))
        · exact congrArg Int.ofNat (label_len _ _ _ 64 (by decide) (by rw [of_len]; decide) (by decide))
      exact ⟨hL 0, by have := hL 0; have := hL 1; show (tlL _ _ _ _ _).1.length = (tlL _ _ _ _ _).1.length; omega, hst⟩
    · rw [if_pos h2] at h; exact absurd h h2
theorem NegoKeys_law (C : List PV) (st a : Int) (x0 x1 x2 xe : List UInt8) (r : List PV) (h0 : C[0]? = some (.int .i64 st)) (hd : C.drop 33 = .str x0 :: .str x1 :: .str x2 :: .str xe :: r) (hC : C.length = 44) (hok : C.all cellOk = true) (hsc : ∀ m, Scs m C) : Fn (Cx w0) 3 [.agg C, .int .i64 a] (.bool true) := by
  have t1 := negoKeys_ok (w0 := w0) C st a x0 x1 x2 xe r h0 hd hC hok hsc
  have t2 := refKeys_ok (w0 := w0) C st a x0 x1 x2 xe r h0 hd hC hok
  have t3 := negoKeySize_ok (w0 := w0) a
  have t4 := refKeySize_ok (w0 := w0) a
  have aw := awake19_ok (w0 := w0)
  have hdd : C.take 44 = C := List.take_of_length_le (by omega)
  have hkf := @keys_fit st xe a
  generalize keysL st xe a = K at *
  obtain ⟨k1, k2, e⟩ := K
  by_cases he : e = 0
  · have he' : (e != 0) = false := by rw [he]; rfl
    obtain ⟨f1, f2, f3⟩ := hkf he
    have q1 : ((k1.length : Int) == kszL a) = true := by rw [beq_iff_eq]; exact f1
    have q2 : ((k2.length : Int) == (k1.length : Int)) = true := by rw [beq_iff_eq]; exact congrArg Int.ofNat f2
    have q3 : (st == 3) = true := by rw [beq_iff_eq]; exact f3
    refine fn_H ([Go.ResultVar.tmp 4]) Try.func3 rfl rfl (by decide) fun ph hW Q hQ => ?_
    simp only [start, List.length_cons, List.length_nil, List.cons_append, List.nil_append, Nat.reduceAdd, Nat.reduceSub, List.replicate_succ, List.replicate_zero, Try.ntmps3]
    repeat' first | simp -implicitDefEqProofs (maxSteps := 400000) (disch := first | with_reducible rfl | omega | (simp only [wkH] <;> omega) | decide) only [wkAll, wkL, popO, wantedP, if_true, if_false, reduceIte, ne_eq, Nat.reduceAdd, Nat.reduceSub, Nat.reduceMul, Nat.reduceLeDiff, Nat.reduceLT, ofCells, ofCell, reduceCtorEq, Int.reduceLE, Int.reduceLT, Int.reduceToNat, Int.reduceAdd, Int.reduceSub, Int.reduceMul, Int.reduceNeg, Int.reduceBEq, Int.reduceBNe, Int.reduceEq, eqCell, eqCells, binP, unP, convP, lenP, builtinP, sliceDataP, unsafeStringP, appendT, appendS, appendP, copyP, srcP, mmsP, mmP, indexOp, indexAddrOp, sliceOp, bndsP, bndP, capw, capCut, loadOp, storeOp, loadP, fieldOp, fieldAddrOp, arrayAtOp, buildP, buildSliceP, makeSliceP, placeF, fillP, setL, PK.agg, isZero, gt_iff_lt, Nat.reducePow, Nat.reduceGT, reps, seg, wkN, if_pos, if_neg, tf2, Try.ze2, tf3, Try.ze3, tf4, Try.ze4, tf9, Try.ze9, tf22, Try.ze22, tf23, Try.ze23, tf24, Try.ze24, tf26, Try.ze26, tf28, Try.ze28, tf30, Try.ze30, tf32, Try.ze32, tf33, Try.ze33, tf35, Try.ze35, tf176, Try.ze176, tf178, Try.ze178, hC, hok, hdd, h0, he', q1, q2, q3, bne_self_eq_false, beq_self_eq_true] | refine w_pure (t1) ?_ | refine w_pure (t2) ?_ | refine w_pure (t3) ?_ | refine w_pure (t4) ?_ | refine w_pure (aw) ?_
    refine hQ (by first | exact .inr rfl | exact .inl rfl) (by first | exact trivial | exact marks1) (by first | (simp -implicitDefEqProofs (maxSteps := 400000) (disch := first | with_reducible rfl | omega | (simp only [wkH] <;> omega) | decide) only [wkAll, wkL, popO, wantedP, if_true, if_false, reduceIte, ne_eq, Nat.reduceAdd, Nat.reduceSub, Nat.reduceMul, Nat.reduceLeDiff, Nat.reduceLT, ofCells, ofCell, reduceCtorEq, Int.reduceLE, Int.reduceLT, Int.reduceToNat, Int.reduceAdd, Int.reduceSub, Int.reduceMul, Int.reduceNeg, Int.reduceBEq, Int.reduceBNe, Int.reduceEq, eqCell, eqCells, loadOp, storeOp, loadP, setL, PK.agg, isZero, gt_iff_lt, Nat.reducePow, Nat.reduceGT, reps, seg, wkN, if_pos, if_neg, tf2, Try.ze2, tf3, Try.ze3, tf4, Try.ze4, tf9, Try.ze9, tf22, Try.ze22, tf23, Try.ze23, tf24, Try.ze24, tf26, Try.ze26, tf28, Try.ze28, tf30, Try.ze30, tf32, Try.ze32, tf33, Try.ze33, tf35, Try.ze35, tf176, Try.ze176, tf178, Try.ze178, resP, resPs, resP1]; rfl) | rfl) ⟨6, by repeat' first | exact frz_scalar rfl | apply frz_tuple | apply frz_agg | apply frz_fsl | apply frz_gsl (by omega) | exact frzs_nil | apply frzs_cons⟩ (by first | exact keepsH0 | exact keeps1 (by assumption)) (nw_eq ?_)
    rfl
  · have he' : (e != 0) = true := by rw [bne_iff_ne]; exact he
    refine fn_H ([Go.ResultVar.tmp 4]) Try.func3 rfl rfl (by decide) fun ph hW Q hQ => ?_
    simp only [start, List.length_cons, List.length_nil, List.cons_append, List.nil_append, Nat.reduceAdd, Nat.reduceSub, List.replicate_succ, List.replicate_zero, Try.ntmps3]
    repeat' first | simp -implicitDefEqProofs (maxSteps := 400000) (disch := first | with_reducible rfl | omega | (simp only [wkH] <;> omega) | decide) only [wkAll, wkL, popO, wantedP, if_true, if_false, reduceIte, ne_eq, Nat.reduceAdd, Nat.reduceSub, Nat.reduceMul, Nat.reduceLeDiff, Nat.reduceLT, ofCells, ofCell, reduceCtorEq, Int.reduceLE, Int.reduceLT, Int.reduceToNat, Int.reduceAdd, Int.reduceSub, Int.reduceMul, Int.reduceNeg, Int.reduceBEq, Int.reduceBNe, Int.reduceEq, eqCell, eqCells, binP, unP, convP, lenP, builtinP, sliceDataP, unsafeStringP, appendT, appendS, appendP, copyP, srcP, mmsP, mmP, indexOp, indexAddrOp, sliceOp, bndsP, bndP, capw, capCut, loadOp, storeOp, loadP, fieldOp, fieldAddrOp, arrayAtOp, buildP, buildSliceP, makeSliceP, placeF, fillP, setL, PK.agg, isZero, gt_iff_lt, Nat.reducePow, Nat.reduceGT, reps, seg, wkN, if_pos, if_neg, tf2, Try.ze2, tf3, Try.ze3, tf4, Try.ze4, tf9, Try.ze9, tf22, Try.ze22, tf23, Try.ze23, tf24, Try.ze24, tf26, Try.ze26, tf28, Try.ze28, tf30, Try.ze30, tf32, Try.ze32, tf33, Try.ze33, tf35, Try.ze35, tf176, Try.ze176, tf178, Try.ze178, hC, hok, hdd, h0, he', bne_self_eq_false, beq_self_eq_true] | refine w_pure (t1) ?_ | refine w_pure (t2) ?_ | refine w_pure (t3) ?_ | refine w_pure (t4) ?_ | refine w_pure (aw) ?_
    refine hQ (by first | exact .inr rfl | exact .inl rfl) (by first | exact trivial | exact marks1) (by first | (simp -implicitDefEqProofs (maxSteps := 400000) (disch := first | with_reducible rfl | omega | (simp only [wkH] <;> omega) | decide) only [wkAll, wkL, popO, wantedP, if_true, if_false, reduceIte, ne_eq, Nat.reduceAdd, Nat.reduceSub, Nat.reduceMul, Nat.reduceLeDiff, Nat.reduceLT, ofCells, ofCell, reduceCtorEq, Int.reduceLE, Int.reduceLT, Int.reduceToNat, Int.reduceAdd, Int.reduceSub, Int.reduceMul, Int.reduceNeg, Int.reduceBEq, Int.reduceBNe, Int.reduceEq, eqCell, eqCells, loadOp, storeOp, loadP, setL, PK.agg, isZero, gt_iff_lt, Nat.reducePow, Nat.reduceGT, reps, seg, wkN, if_pos, if_neg, tf2, Try.ze2, tf3, Try.ze3, tf4, Try.ze4, tf9, Try.ze9, tf22, Try.ze22, tf23, Try.ze23, tf24, Try.ze24, tf26, Try.ze26, tf28, Try.ze28, tf30, Try.ze30, tf32, Try.ze32, tf33, Try.ze33, tf35, Try.ze35, tf176, Try.ze176, tf178, Try.ze178, resP, resPs, resP1]; rfl) | rfl) ⟨6, by repeat' first | exact frz_scalar rfl | apply frz_tuple | apply frz_agg | apply frz_fsl | apply frz_gsl (by omega) | exact frzs_nil | apply frzs_cons⟩ (by first | exact keepsH0 | exact keeps1 (by assumption)) (nw_eq ?_)
    rfl
theorem NegoKeys_ok (W : World) {ks : List FK} (c0 : List PV) (o0 : OkL ks c0) (hl : ks.length = 44) (a : Int) (k0 : ks[0]? = some (.int .i64)) (k33 : ks[33]? = some .str) (k34 : ks[34]? = some .str) (k35 : ks[35]? = some .str) (k36 : ks[36]? = some .str) : Fn (Cx W) 3 [.agg c0, .int .i64 a] (.bool true) := by
  obtain ⟨p0, d0, c0k⟩ := okL_at 0 o0 k0
  obtain ⟨p1, d1, c1⟩ := okL_at 33 o0 k33
  obtain ⟨p2, d2, c2⟩ := okL_at 34 o0 k34
  obtain ⟨p3, d3, c3⟩ := okL_at 35 o0 k35
  obtain ⟨p4, d4, c4⟩ := okL_at 36 o0 k36
  cases c0k with | int _ st _ =>
  cases c1 with | str x0 _ =>
  cases c2 with | str x1 _ =>
  cases c3 with | str x2 _ =>
  cases c4 with | str xe _ =>
  refine NegoKeys_law c0 st a x0 x1 x2 xe (c0.drop 37) ?_ (by rw [d1, d2, d3, d4]) (by rw [o0.length, hl]) (okL_cok o0) (fun m => okL_sc o0)
  have := congrArg List.head? d0
  rw [List.drop_zero, List.head?_eq_getElem?] at this
  exact this
end Pv
