/- Part of the proof: the layer of pure values, or walks through functions (PvGc3). -/
import Derived.Test.YtbocckencbkdeaaGreatPvGc2
import Derived.Test.YtbocckencbkdeaaGreatPvEntry
set_option linter.all false
--nosplit
--keep2
namespace Pv
set_option maxRecDepth 20000
set_option maxHeartbeats 4000000
open Go Go.Proofs Go.RowKit
def tb85_11Gc3 : Tab := [[], [], [], [], [2, 3], [2, 3, 4], [], [], [6, 7], [6, 7, 8], [2, 3, 4, 5, 6, 7, 8, 9], [0, 1, 2, 3, 4, 5, 6, 7, 8, 9, 10], [0, 1, 2, 3, 4, 5, 6, 7, 8, 9, 10, 11]]
def pl85_11Gc3 : Plan := [(0, true, []), (1, true, []), (2, true, []), (3, true, []), (4, true, []), (5, true, []), (6, true, []), (7, true, []), (8, true, []), (9, true, []), (10, true, []), (11, true, []), (12, false, [])]
def tb85_18Gc3 : Tab := [[], [], [], [], [2, 3], [2, 3, 4], [], [], [7], [6, 7, 8], [6, 7, 8, 9], [6, 7, 8, 9, 10], [2, 3, 4, 5, 6, 7, 8, 9, 10, 11], [0, 1, 2, 3, 4, 5, 6, 7, 8, 9, 10, 11, 12], [0, 1, 2, 3, 4, 5, 6, 7, 8, 9, 10, 11, 12, 13]]
def pl85_18Gc3 : Plan := [(0, true, []), (1, true, []), (2, true, []), (3, true, []), (4, true, []), (5, true, []), (6, true, []), (7, true, []), (8, true, []), (9, true, []), (10, true, []), (11, true, []), (12, true, []), (13, true, []), (14, false, [])]
variable {w0 : World}

theorem xor_u8_225 (a : UInt8) : bitsP .xor .u8 a.toNat 225 = ((a ^^^ 225).toNat : Int) := xor_u8 a 225
theorem shl_u8_7 (x : UInt8) : shlP .u8 (x.toNat : Int) 7 = ((x <<< 7).toNat : Int) := shl_u8 x 7 (by decide)
theorem mid_at (m l : List UInt8) {i k : Nat} {x : UInt8} (h : i < k) (hx : m[i]? = some x) : (midB m l k)[i]? = some x := by
  have := (List.getElem?_eq_some_iff.1 hx).1
  rw [midB, List.getElem?_append_left (by rw [List.length_take]; omega), List.getElem?_take, if_pos h, hx]
theorem mid_down (m l : List UInt8) {k : Nat} {u : UInt8} (hm : k < m.length) (hl : k < l.length) (hu : l[k]? = some u) : (midB m l (k + 1)).set k u = midB m l k := by
  obtain ⟨h1, h2⟩ := List.getElem?_eq_some_iff.1 hu
  have hk : (m.take k).length = k := by rw [List.length_take]; omega
  rw [midB, midB, List.take_add_one, List.getElem?_eq_getElem hm, List.append_assoc, List.set_append_right _ _ (by omega), hk, Nat.sub_self, List.drop_eq_getElem_cons hl, h2]; rfl
theorem elT_zero : elT El.zero = List.replicate 16 0 := by decide +kernel
theorem refTimes9_ok (ph : PH) (p q : Nat) (cp cq : Option Nat) (a b : List UInt8) (ha : a.length = 16) (hb : b.length = 16) (h : ph.get p = some (bytesPV a)) (hq : ph.get q = some (bytesPV b)) :
    EffA (Cx w0) 85 [.sl p 0 1 16 cp, .sl q 0 1 16 cq] ph (.sl ph.n 0 1 16 (some 16)) [some (.own (bytesPV (gt a b))), some (.own (bytesPV (elT (El.pw (elB b) 128))))] := by
  intro Kf hKf
  have hp := PH.get_lt h
  have hqn := PH.get_lt hq
  rw [show ph = H ph [] ph.ob ph.ty from (h_start ph).symm]
  refine w_inl ([Go.ResultVar.tmp 4]) Tryz.func85 rfl rfl (by decide) fun _ hI => ?_
  simp only [start, List.length_cons, List.length_nil, List.cons_append, List.nil_append, Nat.reduceAdd, Nat.reduceSub, List.replicate_succ, List.replicate_zero, Tryz.ntmps85]
  have hat : a = elT (elB a) := (elT_elB ha).symm
  have hgt : gt a b = elT (El.sm (elB a) (elB b) 128) := rfl
  rw [hgt] at hKf
  have kb4 : List.take 16 (bytesPV b) = bytesPV b := List.take_of_length_le (by rw [bytesPV_len]; omega)
  have kb3 : ∀ c : List PV, c.length = 16 → setL c 0 (bytesPV b) = bytesPV b := fun c hc => setL_all _ _ (by rw [hc, bytesPV_len, hb])
  repeat' first
  | simp -implicitDefEqProofs (maxSteps := 400000) (disch := first | with_reducible rfl | omega | (simp only [h_n, PH.n_push, PH.n_put, List.length_cons, List.length_nil] <;> omega) | decide) only [wkAll, wkL, popO, wantedP, if_true, if_false, reduceIte, ne_eq, Nat.reduceAdd, Nat.reduceSub, Nat.reduceMul, Nat.reduceLeDiff, Nat.reduceLT, ofCells, ofCell, reduceCtorEq, Int.reduceLE, Int.reduceLT, Int.reduceToNat, Int.reduceAdd, Int.reduceSub, Int.reduceMul, Int.reduceNeg, Int.reduceBEq, Int.reduceBNe, Int.reduceEq, eqCell, eqCells, binP, unP, convP, lenP, builtinP, sliceDataP, unsafeStringP, appendT, appendS, appendP, copyP, srcP, mmsP, mmP, indexOp, indexAddrOp, sliceOp, bndsP, bndP, capw, capCut, loadOp, storeOp, loadP, fieldOp, fieldAddrOp, arrayAtOp, buildP, buildSliceP, makeSliceP, placeF, fillP, setL, PK.agg, isZero, gt_iff_lt, Nat.reducePow, Nat.reduceGT, reps, seg, wkN, if_pos, if_neg, tf3, Tryz.ze3, tf5, Tryz.ze5, tf30, Tryz.ze30, pl85_11Gc3, pl85_18Gc3, h_getlt hp, h_getlt hqn, h, hq, kb3, kb4, hb, bytesPV_cok, Nat.min_self]
  | refine w_drawnF (id := 11) tb85_11Gc3 pl85_11Gc3 47 (by kernel_rfl) (by kernel_rfl) (by simp) ?_
  | refine w_drawnF (id := 18) tb85_18Gc3 pl85_18Gc3 79 (by kernel_rfl) (by kernel_rfl) (by simp) ?_
  obtain ⟨A, hA⟩ : ∃ A, A = elB a := ⟨_, rfl⟩
  obtain ⟨B, hB⟩ : ∃ B, B = elB b := ⟨_, rfl⟩
  rw [← hA] at hat
  rw [← hA, ← hB] at hKf
  have hb0 : b = elT (El.pw B 0) := by rw [hB]; exact (elT_elB hb).symm
  have hz0 : bytesPV (elT (El.sm A B 0)) = [.int .u8 0, .int .u8 0, .int .u8 0, .int .u8 0, .int .u8 0, .int .u8 0, .int .u8 0, .int .u8 0, .int .u8 0, .int .u8 0, .int .u8 0, .int .u8 0, .int .u8 0, .int .u8 0, .int .u8 0, .int .u8 0] := by rw [show El.sm A B 0 = El.zero from rfl, elT_zero]; rfl
  refine w_loopH (α := Nat) ph ph.ob ph.ty (fun i => [.sl p 0 1 16 cp, .undef, .undef, .undef, .undef, .sl ph.n 0 1 16 (some 16), .sl (ph.n + 1) 0 1 16 (some 16), .int .i64 i, .undef, .undef, .undef, .undef, .undef, .undef, .undef, .undef, .undef, .undef, .undef, .undef, .undef, .undef, .undef, .undef, .undef, .undef, .undef, .undef, .undef, .undef, .undef, .undef, .undef, .undef, .undef, .undef, .undef, .undef, .undef, .undef, .undef, .undef, .undef, .undef, .undef, .undef, .undef, .undef, .undef, .undef, .undef, .undef, .undef, .undef, .undef, .undef, .undef, .undef, .undef, .undef, .undef, .undef, .undef, .undef, .undef, .undef, .undef, .undef, .undef, .undef, .undef, .undef, .undef, .undef, .undef, .undef, .undef, .undef, .undef, .undef, .undef, .undef, .undef, .undef, .undef, .undef, .undef, .undef]) (fun i => [some (.own (bytesPV (elT (El.sm A B i)))), some (.own (bytesPV (elT (El.pw B i))))]) (fun i => i ≤ 128) (fun i => 128 - i) 0 (by simp) (fun _ _ => by simp [h_n]) (.eq (by simp [FadeTo]) (by rw [← hb0, hz0])) ?_
  intro i hi K hK
  rcases Nat.lt_or_ge i 128 with hlt | hge
  · have hlt' : (i : Int) < 128 := by omega
    have d1 : Int.tdiv (i : Int) 8 = ((i / 8 : Nat) : Int) := tdivN i 8 (by decide)
    have d2 : Int.tmod (i : Int) 8 = ((i % 8 : Nat) : Int) := tmodN i 8 (by decide)
    have d4 : (7 : Int) - ((i % 8 : Nat) : Int) = ((7 - i % 8 : Nat) : Int) := by omega
    have d5 : ((i / 8 : Nat) : Int) < 16 := by omega
    have d6 : (0 : Int) ≤ ((7 - i % 8 : Nat) : Int) := by omega
    have hc : a[i / 8]? = some (txB A (i / 8)) := by rw [hat]; exact elT_at A (by omega)
    have s1 := shr_u8 (txB A (i / 8)) (7 - i % 8) (by omega)
    have hbit := bit_byte A hlt
    have e1 := eq1_u8 ((txB A (i / 8) >>> UInt8.ofNat (7 - i % 8)) &&& 1)
    have hK1 := fun tm ph' => hK (i + 1) tm ph' (by omega) (by omega)
    have hpw : El.pw B (i + 1) = El.T (El.pw B i) := rfl
    rw [hpw] at hK1
    clear hK hpw
    obtain ⟨eV, heV⟩ : ∃ eV, eV = El.pw B i := ⟨_, rfl⟩
    obtain ⟨eZ, heZ⟩ : ∃ eZ, eZ = El.sm A B i := ⟨_, rfl⟩
    have hlb := low15 eV
    obtain ⟨V, hV⟩ : ∃ V, V = elT eV := ⟨_, rfl⟩
    obtain ⟨Z, hZ⟩ : ∃ Z, Z = elT eZ := ⟨_, rfl⟩
    have hVl : V.length = 16 := by rw [hV]; exact elT_len _
    have hZl : Z.length = 16 := by rw [hZ]; exact elT_len _
    have hv15 : V[15]? = some (txB eV 15) := by rw [hV]; exact elT_at _ (by decide)
    generalize hlB : txB eV 15 = lowB at *
    generalize txB A (i / 8) = c at *
    rw [← heV, ← hV, ← heZ, ← hZ]
    rw [← heV] at hK1
    by_cases hbi : El.bit A i = 1
    · have hs := sm_pos (f := B) hbi
      rw [← heV, ← heZ] at hs
      rw [hs, elT_xor, ← hZ, ← hV] at hK1
      rw [decide_eq_true (hbit.2 hbi)] at e1
      repeat' first
      | simp -implicitDefEqProofs (maxSteps := 400000) (disch := first | with_reducible rfl | omega | (simp only [h_n, PH.n_push, PH.n_put, List.length_cons, List.length_nil] <;> omega) | decide) only [wkAll, wkL, popO, wantedP, if_true, if_false, reduceIte, ne_eq, Nat.reduceAdd, Nat.reduceSub, Nat.reduceMul, Nat.reduceLeDiff, Nat.reduceLT, ofCells, ofCell, reduceCtorEq, Int.reduceLE, Int.reduceLT, Int.reduceToNat, Int.reduceAdd, Int.reduceSub, Int.reduceMul, Int.reduceNeg, Int.reduceBEq, Int.reduceBNe, Int.reduceEq, eqCell, eqCells, binP, unP, convP, lenP, builtinP, sliceDataP, unsafeStringP, appendT, appendS, appendP, copyP, srcP, mmsP, mmP, indexOp, indexAddrOp, sliceOp, bndsP, bndP, capw, capCut, loadOp, storeOp, loadP, fieldOp, fieldAddrOp, arrayAtOp, buildP, buildSliceP, makeSliceP, placeF, fillP, setL, PK.agg, isZero, gt_iff_lt, Nat.reducePow, Nat.reduceGT, reps, seg, wkN, if_pos, if_neg, tf3, Tryz.ze3, tf5, Tryz.ze5, tf30, Tryz.ze30, pl85_11Gc3, pl85_18Gc3, hlt', d1, d2, d4, d5, d6, hc, ha, h_getlt hp, h, s1, and_u8_1, e1]
      | refine w_drawnF (id := 11) tb85_11Gc3 pl85_11Gc3 47 (by kernel_rfl) (by kernel_rfl) (by simp) ?_
      | refine w_drawnF (id := 18) tb85_18Gc3 pl85_18Gc3 79 (by kernel_rfl) (by kernel_rfl) (by simp) ?_
      refine w_loopH (α := Nat) ph ph.ob ph.ty (fun k => [.sl p 0 1 16 cp, .undef, .undef, .undef, .undef, .sl ph.n 0 1 16 (some 16), .sl (ph.n + 1) 0 1 16 (some 16), .int .i64 i, .int .i64 k, .undef, .undef, .undef, .undef, .undef, .undef, .undef, .undef, .undef, .undef, .undef, .undef, .undef, .undef, .undef, .undef, .undef, .undef, .undef, .undef, .undef, .undef, .undef, .undef, .undef, .undef, .undef, .undef, .undef, .undef, .undef, .undef, .undef, .undef, .undef, .undef, .undef, .undef, .undef, .undef, .undef, .undef, .undef, .undef, .undef, .undef, .undef, .undef, .undef, .undef, .undef, .undef, .undef, .undef, .undef, .undef, .undef, .undef, .undef, .undef, .undef, .undef, .undef, .undef, .undef, .undef, .undef, .undef, .undef, .undef, .undef, .undef, .undef, .undef, .undef, .undef, .undef, .undef, .undef]) (fun k => [some (.own (bytesPV (midB (xorB Z V) Z k))), some (.own (bytesPV V))]) (fun k => k ≤ 16) (fun k => 16 - k) 0 (by simp) (fun _ _ => by simp [h_n]) (.eq (by simp [FadeTo]) (by rw [midB_0])) ?_
      intro k hk K2 hK2
      have hxl : (xorB Z V).length = Z.length := by rw [xorB_len]; omega
      have hml := midB_len hxl k
      rcases Nat.lt_or_ge k 16 with hk1 | hk1
      · have hk' : (k : Int) < 16 := by omega
        obtain ⟨x, hx⟩ := get_someW (show k < Z.length by omega)
        obtain ⟨y, hy⟩ := get_someW (show k < V.length by omega)
        have hm : (xorB Z V)[k]? = some (x ^^^ y) := by rw [xorB, List.getElem?_zipWith, hx, hy]
        have hma := midB_at hxl (i := k) (by omega)
        rw [hx] at hma
        have hms := midB_set (m := xorB Z V) (l := Z) (by omega) hm
        repeat' first
        | simp -implicitDefEqProofs (maxSteps := 400000) (disch := first | with_reducible rfl | omega | (simp only [h_n, PH.n_push, PH.n_put, List.length_cons, List.length_nil] <;> omega) | decide) only [wkAll, wkL, popO, wantedP, if_true, if_false, reduceIte, ne_eq, Nat.reduceAdd, Nat.reduceSub, Nat.reduceMul, Nat.reduceLeDiff, Nat.reduceLT, ofCells, ofCell, reduceCtorEq, Int.reduceLE, Int.reduceLT, Int.reduceToNat, Int.reduceAdd, Int.reduceSub, Int.reduceMul, Int.reduceNeg, Int.reduceBEq, Int.reduceBNe, Int.reduceEq, eqCell, eqCells, binP, unP, convP, lenP, builtinP, sliceDataP, unsafeStringP, appendT, appendS, appendP, copyP, srcP, mmsP, mmP, indexOp, indexAddrOp, sliceOp, bndsP, bndP, capw, capCut, loadOp, storeOp, loadP, fieldOp, fieldAddrOp, arrayAtOp, buildP, buildSliceP, makeSliceP, placeF, fillP, setL, PK.agg, isZero, gt_iff_lt, Nat.reducePow, Nat.reduceGT, reps, seg, wkN, if_pos, if_neg, tf3, Tryz.ze3, tf5, Tryz.ze5, tf30, Tryz.ze30, pl85_11Gc3, pl85_18Gc3, hk', hml, hVl, hZl, hma, hy, xor_u8, bytesPV_set, hms]
        | refine w_drawnF (id := 11) tb85_11Gc3 pl85_11Gc3 47 (by kernel_rfl) (by kernel_rfl) (by simp) ?_
        | refine w_drawnF (id := 18) tb85_18Gc3 pl85_18Gc3 79 (by kernel_rfl) (by kernel_rfl) (by simp) ?_
        exact hK2 (k + 1) _ _ (by omega) (by omega) (.eq (by simp [FadeTo]) rfl)
      · have hk' : ¬ (k : Int) < 16 := by omega
        have : k = 16 := by omega
        subst this
        rw [midB_all (by omega) (by omega)]
        repeat' first
        | simp -implicitDefEqProofs (maxSteps := 400000) (disch := first | with_reducible rfl | omega | (simp only [h_n, PH.n_push, PH.n_put, List.length_cons, List.length_nil] <;> omega) | decide) only [wkAll, wkL, popO, wantedP, if_true, if_false, reduceIte, ne_eq, Nat.reduceAdd, Nat.reduceSub, Nat.reduceMul, Nat.reduceLeDiff, Nat.reduceLT, ofCells, ofCell, reduceCtorEq, Int.reduceLE, Int.reduceLT, Int.reduceToNat, Int.reduceAdd, Int.reduceSub, Int.reduceMul, Int.reduceNeg, Int.reduceBEq, Int.reduceBNe, Int.reduceEq, eqCell, eqCells, binP, unP, convP, lenP, builtinP, sliceDataP, unsafeStringP, appendT, appendS, appendP, copyP, srcP, mmsP, mmP, indexOp, indexAddrOp, sliceOp, bndsP, bndP, capw, capCut, loadOp, storeOp, loadP, fieldOp, fieldAddrOp, arrayAtOp, buildP, buildSliceP, makeSliceP, placeF, fillP, setL, PK.agg, isZero, gt_iff_lt, Nat.reducePow, Nat.reduceGT, reps, seg, wkN, if_pos, if_neg, tf3, Tryz.ze3, tf5, Tryz.ze5, tf30, Tryz.ze30, pl85_11Gc3, pl85_18Gc3, hk']
        | refine w_drawnF (id := 11) tb85_11Gc3 pl85_11Gc3 47 (by kernel_rfl) (by kernel_rfl) (by simp) ?_
        | refine w_drawnF (id := 18) tb85_18Gc3 pl85_18Gc3 79 (by kernel_rfl) (by kernel_rfl) (by simp) ?_
        repeat' first
        | simp -implicitDefEqProofs (maxSteps := 400000) (disch := first | with_reducible rfl | omega | (simp only [h_n, PH.n_push, PH.n_put, List.length_cons, List.length_nil] <;> omega) | decide) only [wkAll, wkL, popO, wantedP, if_true, if_false, reduceIte, ne_eq, Nat.reduceAdd, Nat.reduceSub, Nat.reduceMul, Nat.reduceLeDiff, Nat.reduceLT, ofCells, ofCell, reduceCtorEq, Int.reduceLE, Int.reduceLT, Int.reduceToNat, Int.reduceAdd, Int.reduceSub, Int.reduceMul, Int.reduceNeg, Int.reduceBEq, Int.reduceBNe, Int.reduceEq, eqCell, eqCells, binP, unP, convP, lenP, builtinP, sliceDataP, unsafeStringP, appendT, appendS, appendP, copyP, srcP, mmsP, mmP, indexOp, indexAddrOp, sliceOp, bndsP, bndP, capw, capCut, loadOp, storeOp, loadP, fieldOp, fieldAddrOp, arrayAtOp, buildP, buildSliceP, makeSliceP, placeF, fillP, setL, PK.agg, isZero, gt_iff_lt, Nat.reducePow, Nat.reduceGT, reps, seg, wkN, if_pos, if_neg, tf3, Tryz.ze3, tf5, Tryz.ze5, tf30, Tryz.ze30, pl85_11Gc3, pl85_18Gc3, and_u8_1, hv15, hVl]
        | refine w_drawnF (id := 11) tb85_11Gc3 pl85_11Gc3 47 (by kernel_rfl) (by kernel_rfl) (by simp) ?_
        | refine w_drawnF (id := 18) tb85_18Gc3 pl85_18Gc3 79 (by kernel_rfl) (by kernel_rfl) (by simp) ?_
        refine w_loopH (α := Nat) ph ph.ob ph.ty (fun j => [.sl p 0 1 16 cp, .undef, .undef, .undef, .undef, .sl ph.n 0 1 16 (some 16), .sl (ph.n + 1) 0 1 16 (some 16), .int .i64 i, .undef, .int .u8 (lowB &&& 1).toNat, .int .i64 ((j : Int) - 1), .undef, .undef, .undef, .undef, .undef, .undef, .undef, .undef, .undef, .undef, .undef, .undef, .undef, .undef, .undef, .undef, .undef, .undef, .undef, .undef, .undef, .undef, .undef, .undef, .undef, .undef, .undef, .undef, .undef, .undef, .undef, .undef, .undef, .undef, .undef, .undef, .undef, .undef, .undef, .undef, .undef, .undef, .undef, .undef, .undef, .undef, .undef, .undef, .undef, .undef, .undef, .undef, .undef, .undef, .undef, .undef, .undef, .undef, .undef, .undef, .undef, .undef, .undef, .undef, .undef, .undef, .undef, .undef, .undef, .undef, .undef, .undef, .undef, .undef, .undef, .undef, .undef]) (fun j => [some (.own (bytesPV (xorB Z V))), some (.own (bytesPV (midB V (shR V) j)))]) (fun j => j ≤ 16) (fun j => j) 16 (by simp) (fun _ _ => by simp [h_n]) (.eq (by simp [FadeTo]) (by rw [midB_all (by omega) (by rw [shR_len]; omega)])) ?_
        intro j hj K3 hK3
        rcases Nat.eq_zero_or_pos j with hj0 | hj0
        · subst hj0
          have g0 : ¬ (0 : Int) ≤ ((0 : Nat) : Int) - 1 := by omega
          rw [midB_0]
          have hsT := shR_T eV
          rw [← hV] at hsT
          obtain ⟨u0, hu0⟩ := get_someW (show 0 < (shR V).length by rw [shR_len]; omega)
          have hUl := shR_len V
          by_cases hlow : eV.lo &&& 1 = 1
          · have e2 : (((lowB &&& 1).toNat : Int) == 1) = true := by rw [eq1_u8, decide_eq_true (hlb.2 hlow)]
            rw [if_pos hlow, xr0, List.getD_eq_getElem?_getD, hu0] at hsT
            rw [hsT] at hK1
            generalize shR V = U at *
            repeat' first
            | simp -implicitDefEqProofs (maxSteps := 400000) (disch := first | with_reducible rfl | omega | (simp only [h_n, PH.n_push, PH.n_put, List.length_cons, List.length_nil] <;> omega) | decide) only [wkAll, wkL, popO, wantedP, if_true, if_false, reduceIte, ne_eq, Nat.reduceAdd, Nat.reduceSub, Nat.reduceMul, Nat.reduceLeDiff, Nat.reduceLT, ofCells, ofCell, reduceCtorEq, Int.reduceLE, Int.reduceLT, Int.reduceToNat, Int.reduceAdd, Int.reduceSub, Int.reduceMul, Int.reduceNeg, Int.reduceBEq, Int.reduceBNe, Int.reduceEq, eqCell, eqCells, binP, unP, convP, lenP, builtinP, sliceDataP, unsafeStringP, appendT, appendS, appendP, copyP, srcP, mmsP, mmP, indexOp, indexAddrOp, sliceOp, bndsP, bndP, capw, capCut, loadOp, storeOp, loadP, fieldOp, fieldAddrOp, arrayAtOp, buildP, buildSliceP, makeSliceP, placeF, fillP, setL, PK.agg, isZero, gt_iff_lt, Nat.reducePow, Nat.reduceGT, reps, seg, wkN, if_pos, if_neg, tf3, Tryz.ze3, tf5, Tryz.ze5, tf30, Tryz.ze30, pl85_11Gc3, pl85_18Gc3, ge_iff_le, g0, e2, hUl, hu0, xor_u8_225, bytesPV_set]
            | refine w_drawnF (id := 11) tb85_11Gc3 pl85_11Gc3 47 (by kernel_rfl) (by kernel_rfl) (by simp) ?_
            | refine w_drawnF (id := 18) tb85_18Gc3 pl85_18Gc3 79 (by kernel_rfl) (by kernel_rfl) (by simp) ?_
            exact hK1 _ _ (.eq (by simp [FadeTo]) rfl)
          · have e2 : (((lowB &&& 1).toNat : Int) == 1) = false := by rw [eq1_u8, decide_eq_false (fun h => hlow (hlb.1 h))]
            rw [if_neg hlow] at hsT
            rw [hsT] at hK1
            generalize shR V = U at *
            repeat' first
            | simp -implicitDefEqProofs (maxSteps := 400000) (disch := first | with_reducible rfl | omega | (simp only [h_n, PH.n_push, PH.n_put, List.length_cons, List.length_nil] <;> omega) | decide) only [wkAll, wkL, popO, wantedP, if_true, if_false, reduceIte, ne_eq, Nat.reduceAdd, Nat.reduceSub, Nat.reduceMul, Nat.reduceLeDiff, Nat.reduceLT, ofCells, ofCell, reduceCtorEq, Int.reduceLE, Int.reduceLT, Int.reduceToNat, Int.reduceAdd, Int.reduceSub, Int.reduceMul, Int.reduceNeg, Int.reduceBEq, Int.reduceBNe, Int.reduceEq, eqCell, eqCells, binP, unP, convP, lenP, builtinP, sliceDataP, unsafeStringP, appendT, appendS, appendP, copyP, srcP, mmsP, mmP, indexOp, indexAddrOp, sliceOp, bndsP, bndP, capw, capCut, loadOp, storeOp, loadP, fieldOp, fieldAddrOp, arrayAtOp, buildP, buildSliceP, makeSliceP, placeF, fillP, setL, PK.agg, isZero, gt_iff_lt, Nat.reducePow, Nat.reduceGT, reps, seg, wkN, if_pos, if_neg, tf3, Tryz.ze3, tf5, Tryz.ze5, tf30, Tryz.ze30, pl85_11Gc3, pl85_18Gc3, ge_iff_le, g0, e2]
            | refine w_drawnF (id := 11) tb85_11Gc3 pl85_11Gc3 47 (by kernel_rfl) (by kernel_rfl) (by simp) ?_
            | refine w_drawnF (id := 18) tb85_18Gc3 pl85_18Gc3 79 (by kernel_rfl) (by kernel_rfl) (by simp) ?_
            exact hK1 _ _ (.eq (by simp [FadeTo]) rfl)
        · obtain ⟨k, rfl⟩ : ∃ k, j = k + 1 := ⟨j - 1, by omega⟩
          have g1 : ((k + 1 : Nat) : Int) - 1 = (k : Int) := by omega
          have g0 : (0 : Int) ≤ (k : Int) := by omega
          have g2 : (k : Int) < 16 := by omega
          obtain ⟨x, hx⟩ := get_someW (show k < V.length by omega)
          have hmx := mid_at V (shR V) (show k < k + 1 by omega) hx
          have hml : (midB V (shR V) (k + 1)).length = 16 := by rw [midB_len (by rw [hVl, shR_len]), shR_len]
          by_cases hk0 : k = 0
          · subst hk0
            have hu : (shR V)[0]? = some (x >>> 1) := by rw [shR_at _ (by omega), sb, if_pos rfl, List.getD_eq_getElem?_getD, hx]; rfl
            have hms := mid_down V (shR V) (by omega) (by rw [shR_len]; omega) hu
            generalize midB V (shR V) (0 + 1) = M at *
            repeat' first
            | simp -implicitDefEqProofs (maxSteps := 400000) (disch := first | with_reducible rfl | omega | (simp only [h_n, PH.n_push, PH.n_put, List.length_cons, List.length_nil] <;> omega) | decide) only [wkAll, wkL, popO, wantedP, if_true, if_false, reduceIte, ne_eq, Nat.reduceAdd, Nat.reduceSub, Nat.reduceMul, Nat.reduceLeDiff, Nat.reduceLT, ofCells, ofCell, reduceCtorEq, Int.reduceLE, Int.reduceLT, Int.reduceToNat, Int.reduceAdd, Int.reduceSub, Int.reduceMul, Int.reduceNeg, Int.reduceBEq, Int.reduceBNe, Int.reduceEq, eqCell, eqCells, binP, unP, convP, lenP, builtinP, sliceDataP, unsafeStringP, appendT, appendS, appendP, copyP, srcP, mmsP, mmP, indexOp, indexAddrOp, sliceOp, bndsP, bndP, capw, capCut, loadOp, storeOp, loadP, fieldOp, fieldAddrOp, arrayAtOp, buildP, buildSliceP, makeSliceP, placeF, fillP, setL, PK.agg, isZero, gt_iff_lt, Nat.reducePow, Nat.reduceGT, reps, seg, wkN, if_pos, if_neg, tf3, Tryz.ze3, tf5, Tryz.ze5, tf30, Tryz.ze30, pl85_11Gc3, pl85_18Gc3, ge_iff_le, gt_iff_lt, g1, g0, g2, hmx, hml, shr_u8_1, bytesPV_set, hms]
            | refine w_drawnF (id := 11) tb85_11Gc3 pl85_11Gc3 47 (by kernel_rfl) (by kernel_rfl) (by simp) ?_
            | refine w_drawnF (id := 18) tb85_18Gc3 pl85_18Gc3 79 (by kernel_rfl) (by kernel_rfl) (by simp) ?_
            refine hK3 0 _ _ (by omega) (by omega) (.eq (by simp [FadeTo]) rfl)
          · obtain ⟨y, hy⟩ := get_someW (show k - 1 < V.length by omega)
            have hmy := mid_at V (shR V) (show k - 1 < k + 1 by omega) hy
            have hu : (shR V)[k]? = some ((x >>> 1) ||| (y <<< 7)) := by rw [shR_at _ (by omega), sb, if_neg hk0, List.getD_eq_getElem?_getD, List.getD_eq_getElem?_getD, hx, hy]; rfl
            have hms := mid_down V (shR V) (by omega) (by rw [shR_len]; omega) hu
            have g3 : (k : Int) - 1 = ((k - 1 : Nat) : Int) := by omega
            have g4 : (0 : Int) < (k : Int) := by omega
            have g5 : ((k - 1 : Nat) : Int) < 16 := by omega
            generalize midB V (shR V) (k + 1) = M at *
            have c1 : (M.set k (x >>> 1))[k]? = some (x >>> 1) := List.getElem?_set_self (by omega)
            have c2 : (M.set k (x >>> 1))[k - 1]? = some y := by rw [List.getElem?_set_ne (by omega)]; exact hmy
            have c3 : (M.set k (x >>> 1)).length = 16 := by rw [List.length_set, hml]
            have c4 : (M.set k (x >>> 1)).set k ((x >>> 1) ||| (y <<< 7)) = midB V (shR V) k := by rw [List.set_set, hms]
            generalize hM2 : M.set k (x >>> 1) = M2 at *
            repeat' first
            | simp -implicitDefEqProofs (maxSteps := 400000) (disch := first | with_reducible rfl | omega | (simp only [h_n, PH.n_push, PH.n_put, List.length_cons, List.length_nil] <;> omega) | decide) only [wkAll, wkL, popO, wantedP, if_true, if_false, reduceIte, ne_eq, Nat.reduceAdd, Nat.reduceSub, Nat.reduceMul, Nat.reduceLeDiff, Nat.reduceLT, ofCells, ofCell, reduceCtorEq, Int.reduceLE, Int.reduceLT, Int.reduceToNat, Int.reduceAdd, Int.reduceSub, Int.reduceMul, Int.reduceNeg, Int.reduceBEq, Int.reduceBNe, Int.reduceEq, eqCell, eqCells, binP, unP, convP, lenP, builtinP, sliceDataP, unsafeStringP, appendT, appendS, appendP, copyP, srcP, mmsP, mmP, indexOp, indexAddrOp, sliceOp, bndsP, bndP, capw, capCut, loadOp, storeOp, loadP, fieldOp, fieldAddrOp, arrayAtOp, buildP, buildSliceP, makeSliceP, placeF, fillP, setL, PK.agg, isZero, gt_iff_lt, Nat.reducePow, Nat.reduceGT, reps, seg, wkN, if_pos, if_neg, tf3, Tryz.ze3, tf5, Tryz.ze5, tf30, Tryz.ze30, pl85_11Gc3, pl85_18Gc3, ge_iff_le, gt_iff_lt, g1, g0, g2, g3, g4, g5, hmx, hml, c1, c2, c3, hM2, shr_u8_1, shl_u8_7, or_u8, bytesPV_set, c4]
            | refine w_drawnF (id := 11) tb85_11Gc3 pl85_11Gc3 47 (by kernel_rfl) (by kernel_rfl) (by simp) ?_
            | refine w_drawnF (id := 18) tb85_18Gc3 pl85_18Gc3 79 (by kernel_rfl) (by kernel_rfl) (by simp) ?_
            refine hK3 k _ _ (by omega) (by omega) (.eq (by simp [FadeTo]; omega) rfl)
    · have hs := sm_neg (f := B) hbi
      rw [← heZ] at hs
      rw [hs, ← hZ] at hK1
      rw [decide_eq_false (fun h => hbi (hbit.1 h))] at e1
      repeat' first
      | simp -implicitDefEqProofs (maxSteps := 400000) (disch := first | with_reducible rfl | omega | (simp only [h_n, PH.n_push, PH.n_put, List.length_cons, List.length_nil] <;> omega) | decide) only [wkAll, wkL, popO, wantedP, if_true, if_false, reduceIte, ne_eq, Nat.reduceAdd, Nat.reduceSub, Nat.reduceMul, Nat.reduceLeDiff, Nat.reduceLT, ofCells, ofCell, reduceCtorEq, Int.reduceLE, Int.reduceLT, Int.reduceToNat, Int.reduceAdd, Int.reduceSub, Int.reduceMul, Int.reduceNeg, Int.reduceBEq, Int.reduceBNe, Int.reduceEq, eqCell, eqCells, binP, unP, convP, lenP, builtinP, sliceDataP, unsafeStringP, appendT, appendS, appendP, copyP, srcP, mmsP, mmP, indexOp, indexAddrOp, sliceOp, bndsP, bndP, capw, capCut, loadOp, storeOp, loadP, fieldOp, fieldAddrOp, arrayAtOp, buildP, buildSliceP, makeSliceP, placeF, fillP, setL, PK.agg, isZero, gt_iff_lt, Nat.reducePow, Nat.reduceGT, reps, seg, wkN, if_pos, if_neg, tf3, Tryz.ze3, tf5, Tryz.ze5, tf30, Tryz.ze30, pl85_11Gc3, pl85_18Gc3, hlt', d1, d2, d4, d5, d6, hc, ha, h_getlt hp, h, s1, and_u8_1, e1, hv15, hVl]
      | refine w_drawnF (id := 11) tb85_11Gc3 pl85_11Gc3 47 (by kernel_rfl) (by kernel_rfl) (by simp) ?_
      | refine w_drawnF (id := 18) tb85_18Gc3 pl85_18Gc3 79 (by kernel_rfl) (by kernel_rfl) (by simp) ?_
      refine w_loopH (α := Nat) ph ph.ob ph.ty (fun j => [.sl p 0 1 16 cp, .undef, .undef, .undef, .undef, .sl ph.n 0 1 16 (some 16), .sl (ph.n + 1) 0 1 16 (some 16), .int .i64 i, .undef, .int .u8 (lowB &&& 1).toNat, .int .i64 ((j : Int) - 1), .undef, .undef, .undef, .undef, .undef, .undef, .undef, .undef, .undef, .undef, .undef, .undef, .undef, .undef, .undef, .undef, .undef, .undef, .undef, .undef, .undef, .undef, .undef, .undef, .undef, .undef, .undef, .undef, .undef, .undef, .undef, .undef, .undef, .undef, .undef, .undef, .undef, .undef, .undef, .undef, .undef, .undef, .undef, .undef, .undef, .undef, .undef, .undef, .undef, .undef, .undef, .undef, .undef, .undef, .undef, .undef, .undef, .undef, .undef, .undef, .undef, .undef, .undef, .undef, .undef, .undef, .undef, .undef, .undef, .undef, .undef, .undef, .undef, .undef, .undef, .undef, .undef]) (fun j => [some (.own (bytesPV Z)), some (.own (bytesPV (midB V (shR V) j)))]) (fun j => j ≤ 16) (fun j => j) 16 (by simp) (fun _ _ => by simp [h_n]) (.eq (by simp [FadeTo]) (by rw [midB_all (by omega) (by rw [shR_len]; omega)])) ?_
      intro j hj K3 hK3
      rcases Nat.eq_zero_or_pos j with hj0 | hj0
      · subst hj0
        have g0 : ¬ (0 : Int) ≤ ((0 : Nat) : Int) - 1 := by omega
        rw [midB_0]
        have hsT := shR_T eV
        rw [← hV] at hsT
        obtain ⟨u0, hu0⟩ := get_someW (show 0 < (shR V).length by rw [shR_len]; omega)
        have hUl := shR_len V
        by_cases hlow : eV.lo &&& 1 = 1
        · have e2 : (((lowB &&& 1).toNat : Int) == 1) = true := by rw [eq1_u8, decide_eq_true (hlb.2 hlow)]
          rw [if_pos hlow, xr0, List.getD_eq_getElem?_getD, hu0] at hsT
          rw [hsT] at hK1
          generalize shR V = U at *
          repeat' first
          | simp -implicitDefEqProofs (maxSteps := 400000) (disch := first | with_reducible rfl | omega | (simp only [h_n, PH.n_push, PH.n_put, List.length_cons, List.length_nil] <;> omega) | decide) only [wkAll, wkL, popO, wantedP, if_true, if_false, reduceIte, ne_eq, Nat.reduceAdd, Nat.reduceSub, Nat.reduceMul, Nat.reduceLeDiff, Nat.reduceLT, ofCells, ofCell, reduceCtorEq, Int.reduceLE, Int.reduceLT, Int.reduceToNat, Int.reduceAdd, Int.reduceSub, Int.reduceMul, Int.reduceNeg, Int.reduceBEq, Int.reduceBNe, Int.reduceEq, eqCell, eqCells, binP, unP, convP, lenP, builtinP, sliceDataP, unsafeStringP, appendT, appendS, appendP, copyP, srcP, mmsP, mmP, indexOp, indexAddrOp, sliceOp, bndsP, bndP, capw, capCut, loadOp, storeOp, loadP, fieldOp, fieldAddrOp, arrayAtOp, buildP, buildSliceP, makeSliceP, placeF, fillP, setL, PK.agg, isZero, gt_iff_lt, Nat.reducePow, Nat.reduceGT, reps, seg, wkN, if_pos, if_neg, tf3, Tryz.ze3, tf5, Tryz.ze5, tf30, Tryz.ze30, pl85_11Gc3, pl85_18Gc3, ge_iff_le, g0, e2, hUl, hu0, xor_u8_225, bytesPV_set]
          | refine w_drawnF (id := 11) tb85_11Gc3 pl85_11Gc3 47 (by kernel_rfl) (by kernel_rfl) (by simp) ?_
          | refine w_drawnF (id := 18) tb85_18Gc3 pl85_18Gc3 79 (by kernel_rfl) (by kernel_rfl) (by simp) ?_
          exact hK1 _ _ (.eq (by simp [FadeTo]) rfl)
        · have e2 : (((lowB &&& 1).toNat : Int) == 1) = false := by rw [eq1_u8, decide_eq_false (fun h => hlow (hlb.1 h))]
          rw [if_neg hlow] at hsT
          rw [hsT] at hK1
          generalize shR V = U at *
          repeat' first
          | simp -implicitDefEqProofs (maxSteps := 400000) (disch := first | with_reducible rfl | omega | (simp only [h_n, PH.n_push, PH.n_put, List.length_cons, List.length_nil] <;> omega) | decide) only [wkAll, wkL, popO, wantedP, if_true, if_false, reduceIte, ne_eq, Nat.reduceAdd, Nat.reduceSub, Nat.reduceMul, Nat.reduceLeDiff, Nat.reduceLT, ofCells, ofCell, reduceCtorEq, Int.reduceLE, Int.reduceLT, Int.reduceToNat, Int.reduceAdd, Int.reduceSub, Int.reduceMul, Int.reduceNeg, Int.reduceBEq, Int.reduceBNe, Int.reduceEq, eqCell, eqCells, binP, unP, convP, lenP, builtinP, sliceDataP, unsafeStringP, appendT, appendS, appendP, copyP, srcP, mmsP, mmP, indexOp, indexAddrOp, sliceOp, bndsP, bndP, capw, capCut, loadOp, storeOp, loadP, fieldOp, fieldAddrOp, arrayAtOp, buildP, buildSliceP, makeSliceP, placeF, fillP, setL, PK.agg, isZero, gt_iff_lt, Nat.reducePow, Nat.reduceGT, reps, seg, wkN, if_pos, if_neg, tf3, Tryz.ze3, tf5, Tryz.ze5, tf30, Tryz.ze30, pl85_11Gc3, pl85_18Gc3, ge_iff_le, g0, e2]
          | refine w_drawnF (id := 11) tb85_11Gc3 pl85_11Gc3 47 (by kernel_rfl) (by kernel_rfl) (by simp) ?_
          | refine w_drawnF (id := 18) tb85_18Gc3 pl85_18Gc3 79 (by kernel_rfl) (by kernel_rfl) (by simp) ?_
          exact hK1 _ _ (.eq (by simp [FadeTo]) rfl)
      · obtain ⟨k, rfl⟩ : ∃ k, j = k + 1 := ⟨j - 1, by omega⟩
        have g1 : ((k + 1 : Nat) : Int) - 1 = (k : Int) := by omega
        have g0 : (0 : Int) ≤ (k : Int) := by omega
        have g2 : (k : Int) < 16 := by omega
        obtain ⟨x, hx⟩ := get_someW (show k < V.length by omega)
        have hmx := mid_at V (shR V) (show k < k + 1 by omega) hx
        have hml : (midB V (shR V) (k + 1)).length = 16 := by rw [midB_len (by rw [hVl, shR_len]), shR_len]
        by_cases hk0 : k = 0
        · subst hk0
          have hu : (shR V)[0]? = some (x >>> 1) := by rw [shR_at _ (by omega), sb, if_pos rfl, List.getD_eq_getElem?_getD, hx]; rfl
          have hms := mid_down V (shR V) (by omega) (by rw [shR_len]; omega) hu
          generalize midB V (shR V) (0 + 1) = M at *
          repeat' first
          | simp -implicitDefEqProofs (maxSteps := 400000) (disch := first | with_reducible rfl | omega | (simp only [h_n, PH.n_push, PH.n_put, List.length_cons, List.length_nil] <;> omega) | decide) only [wkAll, wkL, popO, wantedP, if_true, if_false, reduceIte, ne_eq, Nat.reduceAdd, Nat.reduceSub, Nat.reduceMul, Nat.reduceLeDiff, Nat.reduceLT, ofCells, ofCell, reduceCtorEq, Int.reduceLE, Int.reduceLT, Int.reduceToNat, Int.reduceAdd, Int.reduceSub, Int.reduceMul, Int.reduceNeg, Int.reduceBEq, Int.reduceBNe, Int.reduceEq, eqCell, eqCells, binP, unP, convP, lenP, builtinP, sliceDataP, unsafeStringP, appendT, appendS, appendP, copyP, srcP, mmsP, mmP, indexOp, indexAddrOp, sliceOp, bndsP, bndP, capw, capCut, loadOp, storeOp, loadP, fieldOp, fieldAddrOp, arrayAtOp, buildP, buildSliceP, makeSliceP, placeF, fillP, setL, PK.agg, isZero, gt_iff_lt, Nat.reducePow, Nat.reduceGT, reps, seg, wkN, if_pos, if_neg, tf3, Tryz.ze3, tf5, Tryz.ze5, tf30, Tryz.ze30, pl85_11Gc3, pl85_18Gc3, ge_iff_le, gt_iff_lt, g1, g0, g2, hmx, hml, shr_u8_1, bytesPV_set, hms]
          | refine w_drawnF (id := 11) tb85_11Gc3 pl85_11Gc3 47 (by kernel_rfl) (by kernel_rfl) (by simp) ?_
          | refine w_drawnF (id := 18) tb85_18Gc3 pl85_18Gc3 79 (by kernel_rfl) (by kernel_rfl) (by simp) ?_
          refine hK3 0 _ _ (by omega) (by omega) (.eq (by simp [FadeTo]) rfl)
        · obtain ⟨y, hy⟩ := get_someW (show k - 1 < V.length by omega)
          have hmy := mid_at V (shR V) (show k - 1 < k + 1 by omega) hy
          have hu : (shR V)[k]? = some ((x >>> 1) ||| (y <<< 7)) := by rw [shR_at _ (by omega), sb, if_neg hk0, List.getD_eq_getElem?_getD, List.getD_eq_getElem?_getD, hx, hy]; rfl
          have hms := mid_down V (shR V) (by omega) (by rw [shR_len]; omega) hu
          have g3 : (k : Int) - 1 = ((k - 1 : Nat) : Int) := by omega
          have g4 : (0 : Int) < (k : Int) := by omega
          have g5 : ((k - 1 : Nat) : Int) < 16 := by omega
          generalize midB V (shR V) (k + 1) = M at *
          have c1 : (M.set k (x >>> 1))[k]? = some (x >>> 1) := List.getElem?_set_self (by omega)
          have c2 : (M.set k (x >>> 1))[k - 1]? = some y := by rw [List.getElem?_set_ne (by omega)]; exact hmy
          have c3 : (M.set k (x >>> 1)).length = 16 := by rw [List.length_set, hml]
          have c4 : (M.set k (x >>> 1)).set k ((x >>> 1) ||| (y <<< 7)) = midB V (shR V) k := by rw [List.set_set, hms]
          generalize hM2 : M.set k (x >>> 1) = M2 at *
          repeat' first
          | simp -implicitDefEqProofs (maxSteps := 400000) (disch := first | with_reducible rfl | omega | (simp only [h_n, PH.n_push, PH.n_put, List.length_cons, List.length_nil] <;> omega) | decide) only [wkAll, wkL, popO, wantedP, if_true, if_false, reduceIte, ne_eq, Nat.reduceAdd, Nat.reduceSub, Nat.reduceMul, Nat.reduceLeDiff, Nat.reduceLT, ofCells, ofCell, reduceCtorEq, Int.reduceLE, Int.reduceLT, Int.reduceToNat, Int.reduceAdd, Int.reduceSub, Int.reduceMul, Int.reduceNeg, Int.reduceBEq, Int.reduceBNe, Int.reduceEq, eqCell, eqCells, binP, unP, convP, lenP, builtinP, sliceDataP, unsafeStringP, appendT, appendS, appendP, copyP, srcP, mmsP, mmP, indexOp, indexAddrOp, sliceOp, bndsP, bndP, capw, capCut, loadOp, storeOp, loadP, fieldOp, fieldAddrOp, arrayAtOp, buildP, buildSliceP, makeSliceP, placeF, fillP, setL, PK.agg, isZero, gt_iff_lt, Nat.reducePow, Nat.reduceGT, reps, seg, wkN, if_pos, if_neg, tf3, Tryz.ze3, tf5, Tryz.ze5, tf30, Tryz.ze30, pl85_11Gc3, pl85_18Gc3, ge_iff_le, gt_iff_lt, g1, g0, g2, g3, g4, g5, hmx, hml, c1, c2, c3, hM2, shr_u8_1, shl_u8_7, or_u8, bytesPV_set, c4]
          | refine w_drawnF (id := 11) tb85_11Gc3 pl85_11Gc3 47 (by kernel_rfl) (by kernel_rfl) (by simp) ?_
          | refine w_drawnF (id := 18) tb85_18Gc3 pl85_18Gc3 79 (by kernel_rfl) (by kernel_rfl) (by simp) ?_
          refine hK3 k _ _ (by omega) (by omega) (.eq (by simp [FadeTo]; omega) rfl)
  · have hge' : ¬ (i : Int) < 128 := by omega
    have : i = 128 := by omega
    subst this
    rw [← hB] at *
    repeat' first
    | simp -implicitDefEqProofs (maxSteps := 400000) (disch := first | with_reducible rfl | omega | (simp only [h_n, PH.n_push, PH.n_put, List.length_cons, List.length_nil] <;> omega) | decide) only [wkAll, wkL, popO, wantedP, if_true, if_false, reduceIte, ne_eq, Nat.reduceAdd, Nat.reduceSub, Nat.reduceMul, Nat.reduceLeDiff, Nat.reduceLT, ofCells, ofCell, reduceCtorEq, Int.reduceLE, Int.reduceLT, Int.reduceToNat, Int.reduceAdd, Int.reduceSub, Int.reduceMul, Int.reduceNeg, Int.reduceBEq, Int.reduceBNe, Int.reduceEq, eqCell, eqCells, binP, unP, convP, lenP, builtinP, sliceDataP, unsafeStringP, appendT, appendS, appendP, copyP, srcP, mmsP, mmP, indexOp, indexAddrOp, sliceOp, bndsP, bndP, capw, capCut, loadOp, storeOp, loadP, fieldOp, fieldAddrOp, arrayAtOp, buildP, buildSliceP, makeSliceP, placeF, fillP, setL, PK.agg, isZero, gt_iff_lt, Nat.reducePow, Nat.reduceGT, reps, seg, wkN, if_pos, if_neg, tf3, Tryz.ze3, tf5, Tryz.ze5, tf30, Tryz.ze30, pl85_11Gc3, pl85_18Gc3, hge']
    | refine w_drawnF (id := 11) tb85_11Gc3 pl85_11Gc3 47 (by kernel_rfl) (by kernel_rfl) (by simp) ?_
    | refine w_drawnF (id := 18) tb85_18Gc3 pl85_18Gc3 79 (by kernel_rfl) (by kernel_rfl) (by simp) ?_
    refine hI (by first | exact .inr rfl | exact .inl rfl) trivial (by first | (simp -implicitDefEqProofs (maxSteps := 400000) (disch := first | with_reducible rfl | omega | (simp only [h_n, PH.n_push, PH.n_put, List.length_cons, List.length_nil] <;> omega) | decide) only [wkAll, wkL, popO, wantedP, if_true, if_false, reduceIte, ne_eq, Nat.reduceAdd, Nat.reduceSub, Nat.reduceMul, Nat.reduceLeDiff, Nat.reduceLT, ofCells, ofCell, reduceCtorEq, Int.reduceLE, Int.reduceLT, Int.reduceToNat, Int.reduceAdd, Int.reduceSub, Int.reduceMul, Int.reduceNeg, Int.reduceBEq, Int.reduceBNe, Int.reduceEq, eqCell, eqCells, binP, unP, convP, lenP, builtinP, sliceDataP, unsafeStringP, appendT, appendS, appendP, copyP, srcP, mmsP, mmP, indexOp, indexAddrOp, sliceOp, bndsP, bndP, capw, capCut, loadOp, storeOp, loadP, fieldOp, fieldAddrOp, arrayAtOp, buildP, buildSliceP, makeSliceP, placeF, fillP, setL, PK.agg, isZero, gt_iff_lt, Nat.reducePow, Nat.reduceGT, reps, seg, wkN, if_pos, if_neg, tf3, Tryz.ze3, tf5, Tryz.ze5, tf30, Tryz.ze30, pl85_11Gc3, pl85_18Gc3, resP, resPs, resP1]; rfl) | rfl) ?_
    exact hKf
end Pv
