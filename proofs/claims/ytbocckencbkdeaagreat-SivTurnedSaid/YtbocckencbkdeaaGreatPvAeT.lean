/- Part of the proof: the layer of pure values, or walks through functions (PvAeT, PvAe5, PvShelf, PvGrowB, PvAe6). -/
import Derived.Test.YtbocckencbkdeaaGreatPvDrawF
import Derived.Test.YtbocckencbkdeaaGreatPvAe1
import Derived.Test.YtbocckencbkdeaaGreatPvAe2
import Derived.Test.YtbocckencbkdeaaGreatPvNum
import Derived.Shelf.Spec.SlicesGrow
set_option linter.all false
namespace Pv
open Go
set_option maxRecDepth 100000

/-! ### A cipher's tables, in plain Lean -/
def ks : List UInt8 := [1, 2, 3, 9, 11, 13, 14]
/-- A column of the tables of products: k of them. -/
def byI (T : List UInt8) (i : Nat) : Nat → List UInt8
  | 0 => T
  | k + 1 => (byI T i k).set (512 + (ks.getD k 0).toNat * 256 + i) (gm (UInt8.ofNat i) (ks.getD k 0))
/-- The tables (what bytes become, and back, and products), i places of them. -/
def tabI : Nat → List UInt8
  | 0 => List.replicate 4608 0
  | i + 1 => byI (((tabI i).set i (sbox (UInt8.ofNat i))).set (256 + (sbox (UInt8.ofNat i)).toNat) (UInt8.ofNat i)) i 7
theorem byI_len (T : List UInt8) (i : Nat) : ∀ k, (byI T i k).length = T.length
  | 0 => rfl
  | k + 1 => by rw [byI, List.length_set, byI_len T i k]
theorem tabI_len : ∀ i, (tabI i).length = 4608
  | 0 => List.length_replicate
  | i + 1 => by rw [tabI, byI_len, List.length_set, List.length_set, tabI_len i]
theorem byI_low (T : List UInt8) (i : Nat) : ∀ k (j : Nat), j < 512 → (byI T i k)[j]? = T[j]?
  | 0, _, _ => rfl
  | k + 1, j, h => by rw [byI, List.getElem?_set_ne (by omega), byI_low T i k j h]
theorem byI_old (T : List UInt8) (i : Nat) (hi : i < 256) (x : UInt8) (v : Nat) (hv : v < 256) (hne : v ≠ i) : ∀ k, (byI T i k)[512 + x.toNat * 256 + v]? = T[512 + x.toNat * 256 + v]?
  | 0 => rfl
  | k + 1 => by rw [byI, List.getElem?_set_ne (by omega), byI_old T i hi x v hv hne k]
theorem ks_16 : ∀ k : Fin 7, (ks.getD k.val 0).toNat < 16 := by decide
theorem byI_new (T : List UInt8) (i : Nat) (hi : i < 256) (hT : T.length = 4608) : ∀ k, k ≤ 7 → ∀ j, j < k → (byI T i k)[512 + (ks.getD j 0).toNat * 256 + i]? = some (gm (UInt8.ofNat i) (ks.getD j 0))
  | 0, _, _, h => by omega
  | k + 1, hk, j, h => by
    have hj := ks_16 ⟨j, by omega⟩
    have hk' := ks_16 ⟨k, by omega⟩
    simp only at hj hk'
    rw [byI]
    by_cases he : (ks.getD k 0).toNat = (ks.getD j 0).toNat
    · rw [he, List.getElem?_set_self (by rw [byI_len, hT]; omega), UInt8.toNat_inj.1 he]
    · rw [List.getElem?_set_ne (by omega)]
      rcases Nat.lt_or_ge j k with h1 | h1
      · exact byI_new T i hi hT k (by omega) j h1
      · have : j = k := by omega
        subst this; exact absurd rfl he
theorem tabI_at : ∀ i, i ≤ 256 → (∀ v, v < i → (tabI i)[v]? = some (sbox (UInt8.ofNat v))) ∧ (∀ v, v < 256 → (tabI i)[256 + v]? = (backI i)[v]?) ∧ (∀ j, j < 7 → ∀ v, v < i → (tabI i)[512 + (ks.getD j 0).toNat * 256 + v]? = some (gm (UInt8.ofNat v) (ks.getD j 0)))
  | 0, _ => ⟨fun v h => by omega, fun v h => by rw [tabI, backI, List.getElem?_replicate, List.getElem?_replicate, if_pos (by omega), if_pos h], fun j _ v h => by omega⟩
  | i + 1, h => by
    obtain ⟨h1, h2, h3⟩ := tabI_at i (by omega)
    have hs := (sbox (UInt8.ofNat i)).toNat_lt
    have hl := tabI_len i
    refine ⟨fun v hv => ?_, fun v hv => ?_, fun j hj v hv => ?_⟩
    · rw [tabI, byI_low _ _ _ _ (by omega), List.getElem?_set_ne (by omega)]
      by_cases he : v = i
      · subst he; rw [List.getElem?_set_self (by omega)]
      · rw [List.getElem?_set_ne (by omega), h1 v (by omega)]
    · rw [tabI, byI_low _ _ _ _ (by omega), backI]
      by_cases he : v = (sbox (UInt8.ofNat i)).toNat
      · subst he; rw [List.getElem?_set_self (by rw [List.length_set]; omega), List.getElem?_set_self (by rw [backI_len]; omega)]
      · rw [List.getElem?_set_ne (by omega), List.getElem?_set_ne (by omega), List.getElem?_set_ne (by omega), h2 v hv]
    · have hk := ks_16 ⟨j, hj⟩
      simp only at hk
      by_cases he : v = i
      · subst he
        rw [tabI]
        exact byI_new _ v (by omega) (by rw [List.length_set, List.length_set, hl]) 7 (Nat.le_refl _) j hj
      · rw [tabI, byI_old _ _ (by omega) _ _ (by omega) he, List.getElem?_set_ne (by omega), List.getElem?_set_ne (by omega), h3 j hj v (by omega)]
def tabL : List UInt8 := tabI 256
theorem tabL_len : tabL.length = 4608 := tabI_len 256
theorem tab_sub (v : UInt8) : tabL[v.toNat]? = some (sbox v) := by
  have := (tabI_at 256 (Nat.le_refl _)).1 v.toNat v.toNat_lt
  rwa [UInt8.ofNat_toNat] at this
theorem tab_by (x v : UInt8) (h : x ∈ ks) : tabL[512 + x.toNat * 256 + v.toNat]? = some (gm v x) := by
  obtain ⟨j, hj, rfl⟩ := List.getElem_of_mem h
  have := (tabI_at 256 (Nat.le_refl _)).2.2 j hj v.toNat v.toNat_lt
  rwa [List.getD_eq_getElem?_getD, List.getElem?_eq_getElem hj, Option.getD_some, UInt8.ofNat_toNat] at this
theorem tabI0 : tabI 0 = List.replicate 4608 0 := rfl
theorem tabI_next (i : Nat) : tabI (i + 1) = byI (((tabI i).set i (sbox (UInt8.ofNat i))).set (256 + (sbox (UInt8.ofNat i)).toNat) (UInt8.ofNat i)) i 7 := rfl
theorem byI_next (T : List UInt8) (i k : Nat) : byI T i (k + 1) = (byI T i k).set (512 + (ks.getD k 0).toNat * 256 + i) (gm (UInt8.ofNat i) (ks.getD k 0)) := rfl
theorem byI_0 (T : List UInt8) (i : Nat) : byI T i 0 = T := rfl
theorem tabL_eq : tabL = tabI 256 := rfl
attribute [irreducible] tabL tabI byI

/-! ### A cipher's cells -/
/-- key; done, the lock's state and its other word; the tables; the round keys. -/
def cC (key : List UInt8) (d s : Int) (T : List UInt8) (r : PV) : List PV := .str key :: .int .u32 d :: .int .i32 s :: .int .u32 0 :: (bytesPV T ++ [r])
section
variable {key : List UInt8} {d s : Int} {T : List UInt8} {r : PV}
theorem cC_len : (cC key d s T r).length = T.length + 5 := by simp [cC, bytesPV]
theorem cC_get {j : Nat} (h : j < T.length) : (cC key d s T r)[4 + j]? = (T[j]?).map fun b => .int .u8 (b.toNat : Int) := by
  rw [cC, show 4 + j = j + 1 + 1 + 1 + 1 by omega]; simp only [List.getElem?_cons_succ]
  rw [List.getElem?_append_left (by rw [bytesPV_len]; exact h), bytesPV_get]
theorem cC_set {j : Nat} {x : UInt8} (h : j < T.length) : (cC key d s T r).set (4 + j) (.int .u8 (x.toNat : Int)) = cC key d s (T.set j x) r := by
  rw [cC, show 4 + j = j + 1 + 1 + 1 + 1 by omega]; simp only [List.set_cons_succ]
  rw [List.set_append_left _ _ (by rw [bytesPV_len]; exact h), show (bytesPV T).set j (.int .u8 (x.toNat : Int)) = bytesPV (T.set j x) by simp [bytesPV, List.map_set]]; rfl
theorem cC_r (h : T.length = 4608) : (cC key d s T r)[4612]? = some r := by
  rw [cC, show 4612 = 4608 + 1 + 1 + 1 + 1 by omega]; simp only [List.getElem?_cons_succ]
  rw [List.getElem?_append_right (by rw [bytesPV_len, h]; omega), bytesPV_len, h]; rfl
theorem cC_setr {r' : PV} (h : T.length = 4608) : (cC key d s T r).set 4612 r' = cC key d s T r' := by
  rw [cC, show 4612 = 4608 + 1 + 1 + 1 + 1 by omega]; simp only [List.set_cons_succ]
  rw [List.set_append_right _ _ (by rw [bytesPV_len, h]; omega), bytesPV_len, h]; rfl
theorem cC_0 : (cC key d s T r)[0]? = some (.str key) := rfl
theorem cC_1 : (cC key d s T r)[1]? = some (.int .u32 d) := rfl
theorem cC_2 : (cC key d s T r)[2]? = some (.int .i32 s) := rfl
theorem cC_scs {n : Nat} (h : Sc n r) : Scs n (cC key d s T r) := by
  have e : Scs n (bytesPV T ++ [r]) = (Scs n (bytesPV T) ∧ Scs n [r]) := scs_append
  refine ⟨trivial, trivial, trivial, trivial, ?_⟩
  rw [e]; exact ⟨scs_scalars (bytesPV_scalar T), h, trivial⟩
theorem cC_cok (h : cellOk r = true) : (cC key d s T r).all cellOk = true := by
  rw [cC]; simp [cellOk, bytesPV, h] ; cases r <;> simp_all [cellOk]
end
theorem nil_cC {n sz : Nat} (key : List UInt8) (d s : Int) (T : List UInt8) : NilL n sz (cC key d s T .nilsl) (cC key d s T (.gsl n sz 0 [])) := by
  have : ∀ l : List PV, NilL n sz (l ++ [.nilsl]) (l ++ [.gsl n sz 0 []]) := by
    intro l
    induction l with
    | nil => exact ⟨.inr (.inr ⟨rfl, rfl⟩), trivial⟩
    | cons v l ih => exact ⟨.inl rfl, ih⟩
  exact this (.str key :: .int .u32 d :: .int .i32 s :: .int .u32 0 :: bytesPV T)
theorem rvs_last {G : Ghost} {a b : PV} (hab : ∀ v, RV G a v → RV G b v) : ∀ (l : List PV) (vals : List Value), RVs G (l ++ [a]) vals → RVs G (l ++ [b]) vals
  | [], vals, h => by
    cases h with
    | cons _ v _ vs h1 h2 => exact .cons _ _ _ _ (hab _ h1) h2
  | p :: l, vals, h => by
    cases h with
    | cons _ v _ vs h1 h2 => exact .cons _ _ _ _ h1 (rvs_last hab l vs h2)
theorem cC_tell {G : Ghost} (key : List UInt8) (d s : Int) (T : List UInt8) {p e n : Nat} {c : List PV} (vals : List Value) (h : RVs G (cC key d s T (.gsl p e n c)) vals) : RVs G (cC key d s T (.fsl e n c)) vals :=
  rvs_last (fun _ hv => hv.deg) (.str key :: .int .u32 d :: .int .i32 s :: .int .u32 0 :: bytesPV T) vals h
theorem cC_zero (key : List UInt8) : [PV.str key, .int .u32 0, .int .i32 0, .int .u32 0] ++ List.replicate 4608 (.int .u8 0) ++ [.nilsl] = cC key 0 0 (tabI 0) .nilsl := by
  rw [cC, tabI0, bytesPV, List.map_replicate]; rfl
end Pv

--nosplit
--keep2
namespace Pv
set_option maxRecDepth 20000
set_option maxHeartbeats 4000000
open Go Go.Proofs Go.RowKit
def tb101_4Ae5 : Tab := [[], [], [], [], [], [], [5], [0], [0, 7], [0, 1, 4, 7, 8], [0, 1, 4, 7, 8, 9], [2], [2, 11], [0, 1, 2, 3, 4, 5, 6, 7, 8, 9, 10, 11, 12], [0, 1, 2, 3, 4, 5, 6, 7, 8, 9, 10, 11, 12, 13]]
def pl101_4Ae5 : Plan := [(0, true, []), (1, true, []), (2, true, []), (3, true, []), (4, true, []), (5, true, []), (6, true, []), (7, true, []), (8, true, []), (9, true, []), (11, true, []), (12, true, []), (10, false, [2, 3, 5, 6, 11, 12]), (13, true, []), (14, false, [])]
def tb101_8Ae5 : Tab := [[], [], [], [], [3], [], [3, 4, 5], [0], [0, 7], [0, 1, 7, 8], [0, 1, 2, 3, 4, 5, 6, 7, 8, 9], [0, 1, 2, 3, 4, 5, 6, 7, 8, 9, 10]]
def pl101_8Ae5 : Plan := [(0, true, []), (1, true, []), (2, true, []), (3, true, []), (4, true, []), (5, true, []), (7, true, []), (8, true, []), (9, true, []), (6, false, [0, 1, 2, 7, 8, 9]), (10, true, []), (11, false, [])]
variable {w0 : World}

theorem tables8_ok (ph : PH) (q : Nat) (key : List UInt8) (d s : Int) (r : PV) (hr : r = .nilsl) (h : ph.get q = some (cC key d s (tabI 0) r)) :
    Eff (Cx w0) 101 [.ptr q 0] ph (.tuple []) (ph.put q (cC key d s tabL r)) := by
  have hq := PH.get_lt h
  have hsc : ∀ n : Nat, Sc n r := fun n => by rw [hr]; trivial
  refine eff_of ([]) Tryz.func101 rfl rfl (by decide) (PH.n_put ..) (fun hW => hW.put hq (cC_scs (hsc _))) fun hW Q hQ => ?_
  simp only [start, List.length_cons, List.length_nil, List.cons_append, List.nil_append, Nat.reduceAdd, Nat.reduceSub, List.replicate_succ, List.replicate_zero, Tryz.ntmps101]
  repeat' first | simp -implicitDefEqProofs (maxSteps := 400000) (disch := first | with_reducible rfl | omega | (simp only [wkH] <;> omega) | decide) only [wkAll, wkL, popO, wantedP, if_true, if_false, reduceIte, ne_eq, Nat.reduceAdd, Nat.reduceSub, Nat.reduceMul, Nat.reduceLeDiff, Nat.reduceLT, ofCells, ofCell, reduceCtorEq, Int.reduceLE, Int.reduceLT, Int.reduceToNat, Int.reduceAdd, Int.reduceSub, Int.reduceMul, Int.reduceNeg, Int.reduceBEq, Int.reduceBNe, Int.reduceEq, eqCell, eqCells, binP, unP, convP, lenP, builtinP, sliceDataP, unsafeStringP, appendT, appendS, appendP, copyP, srcP, mmsP, mmP, indexOp, indexAddrOp, sliceOp, bndsP, bndP, capw, capCut, loadOp, storeOp, loadP, fieldOp, fieldAddrOp, arrayAtOp, buildP, buildSliceP, makeSliceP, placeF, fillP, setL, PK.agg, isZero, gt_iff_lt, Nat.reducePow, Nat.reduceGT, reps, seg, wkN, if_pos, if_neg, tf3, Tryz.ze3, tf5, Tryz.ze5, tf9, Tryz.ze9, tf21, Tryz.ze21, tf30, Tryz.ze30, tf86, Tryz.ze86, tf116, Tryz.ze116, tf118, Tryz.ze118, tf120, Tryz.ze120, tf122, Tryz.ze122, tf124, Tryz.ze124, tf125, Tryz.ze125, tf126, Tryz.ze126, tf127, Tryz.ze127, tf129, Tryz.ze129, pl101_4Ae5, pl101_8Ae5] | refine w_drawnF (id := 4) tb101_4Ae5 pl101_4Ae5 25 (by kernel_rfl) (by kernel_rfl) (by simp) ?_ | refine w_drawnF (id := 8) tb101_8Ae5 pl101_8Ae5 42 (by kernel_rfl) (by kernel_rfl) (by simp) ?_
  refine w_loopB (α := Nat) ph.n ph.ob ph.ty (fun i => ph.put q (cC key d s (tabI i) r)) (fun i => [.ptr q 0, .undef, .undef, .undef, .undef, .undef, .int .i64 i, .undef, .undef, .undef, .undef, .undef, .undef, .undef, .undef, .undef, .undef, .undef, .undef, .undef, .undef, .undef, .undef, .undef, .undef, .undef, .undef, .undef, .undef, .undef, .undef, .undef, .undef, .undef, .undef, .undef, .undef, .undef, .undef, .undef, .undef, .undef, .undef, .undef]) (fun i => []) (fun i => i ≤ 256) (fun i => 256 - i) 0 (by simp) (fun _ _ => PH.n_put ..) (fun _ _ => by simp) (.eq (by simp [FadeTo]) (by rw [put_self h])) ?_
  intro i hi B hB hn K hK
  have e2 : B.get q = some (cC key d s (tabI i) r) := by rw [hB]; exact get_putS _ hq
  have hqB : q < B.n := by rw [hn]; exact hq
  have hl2 := tabI_len i
  rcases Nat.lt_or_ge i 256 with hlt | hge
  · have hlt' : (i : Int) < 256 := by omega
    obtain ⟨bi, hbi⟩ : ∃ bi, bi = UInt8.ofNat i := ⟨_, rfl⟩
    have hbn : bi.toNat = i := by rw [hbi, UInt8.toNat_ofNat']; omega
    have w1 : IntKind.wrap .u8 (i : Int) = (bi.toNat : Int) := by rw [wrap_u8n, hbi]
    have t1 := sub8_ok (w0 := w0) bi
    obtain ⟨sb, hsb⟩ : ∃ sb, sb = sbox bi := ⟨_, rfl⟩
    rw [← hsb] at t1
    have hsb2 : (sb.toNat : Int) < 256 := by have := sb.toNat_lt; omega
    obtain ⟨T, hT⟩ : ∃ T, T = tabI i := ⟨_, rfl⟩
    obtain ⟨T2, hT2⟩ : ∃ T2, T2 = (T.set i sb).set (256 + sb.toNat) bi := ⟨_, rfl⟩
    have hTn : tabI (i + 1) = byI T2 i 7 := by rw [tabI_next, hT2, hT, hsb, hbi]
    rw [← hT] at hl2 e2 hB
    have hl3 : T2.length = 4608 := by rw [hT2, List.length_set, List.length_set, hl2]
    have s1 : (cC key d s T r).set (4 + i) (.int .u8 (sb.toNat : Int)) = cC key d s (T.set i sb) r := cC_set (by omega)
    have s2 : (cC key d s (T.set i sb) r).set (260 + sb.toNat) (.int .u8 (bi.toNat : Int)) = cC key d s T2 r := by
      rw [show 260 + sb.toNat = 4 + (256 + sb.toNat) by omega, cC_set (by rw [List.length_set]; omega), hT2]
    have cl : ∀ T : List UInt8, T.length = 4608 → (cC key d s T r).length = 4613 := fun T h => by rw [cC_len, h]
    have cl1 := cl T hl2
    have cl2 := cl (T.set i sb) (by rw [List.length_set]; exact hl2)
    have cl3 := cl T2 hl3
    rw [← hn]
    repeat' first | simp -implicitDefEqProofs (maxSteps := 400000) (disch := first | with_reducible rfl | omega | (simp only [wkH] <;> omega) | decide) only [wkAll, wkL, popO, wantedP, if_true, if_false, reduceIte, ne_eq, Nat.reduceAdd, Nat.reduceSub, Nat.reduceMul, Nat.reduceLeDiff, Nat.reduceLT, ofCells, ofCell, reduceCtorEq, Int.reduceLE, Int.reduceLT, Int.reduceToNat, Int.reduceAdd, Int.reduceSub, Int.reduceMul, Int.reduceNeg, Int.reduceBEq, Int.reduceBNe, Int.reduceEq, eqCell, eqCells, binP, unP, convP, lenP, builtinP, sliceDataP, unsafeStringP, appendT, appendS, appendP, copyP, srcP, mmsP, mmP, indexOp, indexAddrOp, sliceOp, bndsP, bndP, capw, capCut, loadOp, storeOp, loadP, fieldOp, fieldAddrOp, arrayAtOp, buildP, buildSliceP, makeSliceP, placeF, fillP, setL, PK.agg, isZero, gt_iff_lt, Nat.reducePow, Nat.reduceGT, reps, seg, wkN, if_pos, if_neg, tf3, Tryz.ze3, tf5, Tryz.ze5, tf9, Tryz.ze9, tf21, Tryz.ze21, tf30, Tryz.ze30, tf86, Tryz.ze86, tf116, Tryz.ze116, tf118, Tryz.ze118, tf120, Tryz.ze120, tf122, Tryz.ze122, tf124, Tryz.ze124, tf125, Tryz.ze125, tf126, Tryz.ze126, tf127, Tryz.ze127, tf129, Tryz.ze129, pl101_4Ae5, pl101_8Ae5, hlt', w1, h_getlt hqB, h_putlt hqB, e2, cl1, cl2, cl3, hsb2, s1, s2, wkP, hp_getS hqB, hp_putS hqB] | refine w_pure (t1) ?_ | refine w_drawnF (id := 4) tb101_4Ae5 pl101_4Ae5 25 (by kernel_rfl) (by kernel_rfl) (by simp) ?_ | refine w_drawnF (id := 8) tb101_8Ae5 pl101_8Ae5 42 (by kernel_rfl) (by kernel_rfl) (by simp) ?_
    rw [hn]
    have hW' : WF (ph.put q (cC key d s (tabI (i + 1)) r)) := hW.put hq (cC_scs (hsc _))
    have hb0 := byI_0 T2 i
    refine w_loopB (α := Nat) ph.n ph.ob ph.ty (fun k => ph.put q (cC key d s (byI T2 i k) r)) (fun k => [.ptr q 0, .undef, .int .i64 i, .undef, .undef, .undef, .int .i64 i, .undef, .undef, .undef, .undef, .undef, .undef, .undef, .undef, .undef, .undef, .undef, .undef, .undef, .undef, .undef, .undef, .undef, .undef, .sl ph.n 0 1 7 (some 7), .int .i64 7, .int .i64 k, .undef, .undef, .undef, .undef, .undef, .undef, .undef, .undef, .undef, .undef, .undef, .undef, .undef, .undef, .undef, .undef]) (fun k => [some (.own (bytesPV ks))]) (fun k => k ≤ 7) (fun k => 7 - k) 0 (by simp) (fun _ _ => PH.n_put ..) (fun _ _ => by simp) (.eq (by simp [FadeTo, hn]) (by rw [hB, put_putS, hb0]; rfl)) ?_
    intro k hk B2 hB2 hn2 K2 hK2
    have hqB2 : q < B2.n := by rw [hn2]; exact hq
    have e4 : B2.get q = some (cC key d s (byI T2 i k) r) := by rw [hB2]; exact get_putS _ hq
    have hl4 : (byI T2 i k).length = 4608 := by rw [byI_len, hl3]
    have hnk : byI T2 i (k + 1) = (byI T2 i k).set (512 + (ks.getD k 0).toNat * 256 + i) (gm bi (ks.getD k 0)) := by rw [hbi]; exact byI_next T2 i k
    rcases Nat.lt_or_ge k 7 with hlt7 | hge7
    · have hk' : (k : Int) < 7 := by omega
      obtain ⟨x, hx⟩ := get_someW (show k < ks.length from hlt7)
      have hgx : ks.getD k 0 = x := by rw [List.getD_eq_getElem?_getD, hx]; rfl
      have hx16 := ks_16 ⟨k, hlt7⟩
      simp only at hx16
      rw [hgx] at hx16 hnk
      have hx' : (x.toNat : Int) < 16 := by omega
      have t2 := times8_ok (w0 := w0) bi x
      have hkl : ks.length = 7 := rfl
      obtain ⟨U, hU⟩ : ∃ U, U = byI T2 i k := ⟨_, rfl⟩
      rw [← hU] at e4 hl4 hnk hB2
      obtain ⟨g, hg⟩ : ∃ g, g = gm bi x := ⟨_, rfl⟩
      rw [← hg] at t2 hnk
      have s3 : (cC key d s U r).set (516 + x.toNat * 256 + i) (.int .u8 (g.toNat : Int)) = cC key d s (byI T2 i (k + 1)) r := by
        rw [show 516 + x.toNat * 256 + i = 4 + (512 + x.toNat * 256 + i) by omega, cC_set (by omega), hnk]
      have cl4 := cl U hl4
      rw [← hn2]
      repeat' first | simp -implicitDefEqProofs (maxSteps := 400000) (disch := first | with_reducible rfl | omega | (simp only [wkH] <;> omega) | decide) only [wkAll, wkL, popO, wantedP, if_true, if_false, reduceIte, ne_eq, Nat.reduceAdd, Nat.reduceSub, Nat.reduceMul, Nat.reduceLeDiff, Nat.reduceLT, ofCells, ofCell, reduceCtorEq, Int.reduceLE, Int.reduceLT, Int.reduceToNat, Int.reduceAdd, Int.reduceSub, Int.reduceMul, Int.reduceNeg, Int.reduceBEq, Int.reduceBNe, Int.reduceEq, eqCell, eqCells, binP, unP, convP, lenP, builtinP, sliceDataP, unsafeStringP, appendT, appendS, appendP, copyP, srcP, mmsP, mmP, indexOp, indexAddrOp, sliceOp, bndsP, bndP, capw, capCut, loadOp, storeOp, loadP, fieldOp, fieldAddrOp, arrayAtOp, buildP, buildSliceP, makeSliceP, placeF, fillP, setL, PK.agg, isZero, gt_iff_lt, Nat.reducePow, Nat.reduceGT, reps, seg, wkN, if_pos, if_neg, tf3, Tryz.ze3, tf5, Tryz.ze5, tf9, Tryz.ze9, tf21, Tryz.ze21, tf30, Tryz.ze30, tf86, Tryz.ze86, tf116, Tryz.ze116, tf118, Tryz.ze118, tf120, Tryz.ze120, tf122, Tryz.ze122, tf124, Tryz.ze124, tf125, Tryz.ze125, tf126, Tryz.ze126, tf127, Tryz.ze127, tf129, Tryz.ze129, pl101_4Ae5, pl101_8Ae5, hk', w1, h_getlt hqB2, h_putlt hqB2, e4, cl4, hkl, hx, hx', s3, hlt'] | refine w_pure (t2) ?_ | refine w_drawnF (id := 4) tb101_4Ae5 pl101_4Ae5 25 (by kernel_rfl) (by kernel_rfl) (by simp) ?_ | refine w_drawnF (id := 8) tb101_8Ae5 pl101_8Ae5 42 (by kernel_rfl) (by kernel_rfl) (by simp) ?_
      refine hK2 (k + 1) _ _ (by omega) (by omega) (.eq (by simp [FadeTo, hn2]) (by rw [hB2, put_putS]))
    · have hk' : ¬ (k : Int) < 7 := by omega
      have : k = 7 := by omega
      subst this
      rw [← hTn] at hB2
      repeat' first | simp -implicitDefEqProofs (maxSteps := 400000) (disch := first | with_reducible rfl | omega | (simp only [wkH] <;> omega) | decide) only [wkAll, wkL, popO, wantedP, if_true, if_false, reduceIte, ne_eq, Nat.reduceAdd, Nat.reduceSub, Nat.reduceMul, Nat.reduceLeDiff, Nat.reduceLT, ofCells, ofCell, reduceCtorEq, Int.reduceLE, Int.reduceLT, Int.reduceToNat, Int.reduceAdd, Int.reduceSub, Int.reduceMul, Int.reduceNeg, Int.reduceBEq, Int.reduceBNe, Int.reduceEq, eqCell, eqCells, binP, unP, convP, lenP, builtinP, sliceDataP, unsafeStringP, appendT, appendS, appendP, copyP, srcP, mmsP, mmP, indexOp, indexAddrOp, sliceOp, bndsP, bndP, capw, capCut, loadOp, storeOp, loadP, fieldOp, fieldAddrOp, arrayAtOp, buildP, buildSliceP, makeSliceP, placeF, fillP, setL, PK.agg, isZero, gt_iff_lt, Nat.reducePow, Nat.reduceGT, reps, seg, wkN, if_pos, if_neg, tf3, Tryz.ze3, tf5, Tryz.ze5, tf9, Tryz.ze9, tf21, Tryz.ze21, tf30, Tryz.ze30, tf86, Tryz.ze86, tf116, Tryz.ze116, tf118, Tryz.ze118, tf120, Tryz.ze120, tf122, Tryz.ze122, tf124, Tryz.ze124, tf125, Tryz.ze125, tf126, Tryz.ze126, tf127, Tryz.ze127, tf129, Tryz.ze129, pl101_4Ae5, pl101_8Ae5, hk'] | refine w_drawnF (id := 4) tb101_4Ae5 pl101_4Ae5 25 (by kernel_rfl) (by kernel_rfl) (by simp) ?_ | refine w_drawnF (id := 8) tb101_8Ae5 pl101_8Ae5 42 (by kernel_rfl) (by kernel_rfl) (by simp) ?_
      subst hB2
      refine hK (i + 1) _ _ (by omega) (by omega) (.cut [_] hW' (by simp [FadeTo]) rfl (by simp [scs_cons, scs_nil, sc_ptr, sc_undef, sc_int, hq]) (by simp))
  · have hge' : ¬ (i : Int) < 256 := by omega
    have : i = 256 := by omega
    subst this
    rw [← tabL_eq] at *
    rw [← hn]
    repeat' first | simp -implicitDefEqProofs (maxSteps := 400000) (disch := first | with_reducible rfl | omega | (simp only [wkH] <;> omega) | decide) only [wkAll, wkL, popO, wantedP, if_true, if_false, reduceIte, ne_eq, Nat.reduceAdd, Nat.reduceSub, Nat.reduceMul, Nat.reduceLeDiff, Nat.reduceLT, ofCells, ofCell, reduceCtorEq, Int.reduceLE, Int.reduceLT, Int.reduceToNat, Int.reduceAdd, Int.reduceSub, Int.reduceMul, Int.reduceNeg, Int.reduceBEq, Int.reduceBNe, Int.reduceEq, eqCell, eqCells, binP, unP, convP, lenP, builtinP, sliceDataP, unsafeStringP, appendT, appendS, appendP, copyP, srcP, mmsP, mmP, indexOp, indexAddrOp, sliceOp, bndsP, bndP, capw, capCut, loadOp, storeOp, loadP, fieldOp, fieldAddrOp, arrayAtOp, buildP, buildSliceP, makeSliceP, placeF, fillP, setL, PK.agg, isZero, gt_iff_lt, Nat.reducePow, Nat.reduceGT, reps, seg, wkN, if_pos, if_neg, tf3, Tryz.ze3, tf5, Tryz.ze5, tf9, Tryz.ze9, tf21, Tryz.ze21, tf30, Tryz.ze30, tf86, Tryz.ze86, tf116, Tryz.ze116, tf118, Tryz.ze118, tf120, Tryz.ze120, tf122, Tryz.ze122, tf124, Tryz.ze124, tf125, Tryz.ze125, tf126, Tryz.ze126, tf127, Tryz.ze127, tf129, Tryz.ze129, pl101_4Ae5, pl101_8Ae5, hge'] | refine w_drawnF (id := 4) tb101_4Ae5 pl101_4Ae5 25 (by kernel_rfl) (by kernel_rfl) (by simp) ?_ | refine w_drawnF (id := 8) tb101_8Ae5 pl101_8Ae5 42 (by kernel_rfl) (by kernel_rfl) (by simp) ?_
    subst hB
    refine hQ (by first | exact .inr rfl | exact .inl rfl) (by first | exact trivial | exact marks1) (by first | (simp -implicitDefEqProofs (maxSteps := 400000) (disch := first | with_reducible rfl | omega | (simp only [wkH] <;> omega) | decide) only [wkAll, wkL, popO, wantedP, if_true, if_false, reduceIte, ne_eq, Nat.reduceAdd, Nat.reduceSub, Nat.reduceMul, Nat.reduceLeDiff, Nat.reduceLT, ofCells, ofCell, reduceCtorEq, Int.reduceLE, Int.reduceLT, Int.reduceToNat, Int.reduceAdd, Int.reduceSub, Int.reduceMul, Int.reduceNeg, Int.reduceBEq, Int.reduceBNe, Int.reduceEq, eqCell, eqCells, loadOp, storeOp, loadP, setL, PK.agg, isZero, gt_iff_lt, Nat.reducePow, Nat.reduceGT, reps, seg, wkN, if_pos, if_neg, tf3, Tryz.ze3, tf5, Tryz.ze5, tf9, Tryz.ze9, tf21, Tryz.ze21, tf30, Tryz.ze30, tf86, Tryz.ze86, tf116, Tryz.ze116, tf118, Tryz.ze118, tf120, Tryz.ze120, tf122, Tryz.ze122, tf124, Tryz.ze124, tf125, Tryz.ze125, tf126, Tryz.ze126, tf127, Tryz.ze127, tf129, Tryz.ze129, pl101_4Ae5, pl101_8Ae5, resP, resPs, resP1]; rfl) | rfl) ⟨6, by repeat' first | exact frz_scalar rfl | apply frz_tuple | apply frz_agg | apply frz_fsl | apply frz_gsl (by omega) | exact frzs_nil | apply frzs_cons⟩ (by first | exact keepsH0 | exact keeps1 (by assumption)) (nw_eq ?_)
    rfl
end Pv

namespace Pv
open Go Go.RowKit
variable {X : Ctx} {G : Ghost} {ph : PH} {w w' : World}

/-! ### Contracts of the kit's shelf, told as functions of their arguments -/
theorem hb_below (h : Below w.heap.size w w') {k : Nat} {o : Obj} (hk : w.heap[k]? = some o) : w'.heap[k]? = some o := by
  have : k < w.heap.size := by
    rcases Nat.lt_or_ge k w.heap.size with h1 | h1
    · exact h1
    · rw [Array.getElem?_eq_none h1] at hk; cases hk
  rw [h.block k this]; exact hk
theorem cell_below (h : Below w.heap.size w w') {a : Addr} {v : Value} (hc : w.cell? a = some v) : w'.cell? a = some v := by
  have : w'.heap[a.block]? = w.heap[a.block]? := by
    rcases Nat.lt_or_ge a.block w.heap.size with h1 | h1
    · exact h.block _ h1
    · exfalso
      unfold World.cell? at hc
      rw [Array.getElem?_eq_none h1] at hc
      cases hc
  unfold World.cell? at hc ⊢
  rw [this]; exact hc
theorem Rel.below_w (h : Rel X G ph w) (hb : Below w.heap.size w w') : Rel X G ph w' := by
  have hX : X.B ≤ w.heap.size := h.below.size
  refine ⟨h.len, h.below.trans (hb.mono hX), ?_, h.disj, ?_, h.fdisj, ?_, ?_, ?_⟩
  · intro p cells hp
    obtain ⟨L, vals, cs, e, fz, hL, o⟩ := h.own p cells hp
    exact ⟨L, vals, cs, e, fz, hL, ⟨o.rv, o.lt, o.ge, hb_below hb o.hb, o.sz, o.fr, o.at_, o.one⟩⟩
  · intro a v ha
    exact ⟨(h.fz a v ha).1, cell_below hb (h.fz a v ha).2⟩
  · intro r o hr
    obtain ⟨h1, h2⟩ := h.ob r o hr
    refine ⟨h1, ?_⟩
    cases o with
    | loop l =>
      obtain ⟨rt, k1, k2⟩ := h2
      exact ⟨rt, k1, hb_below hb k2⟩
    | defd => exact hb_below hb h2
  · intro p e hp
    obtain ⟨L, cs, fz, k1, k2, k3⟩ := h.ty p e hp
    exact ⟨L, cs, fz, k1, k2, hb_below hb k3⟩
  · refine ⟨?_, h.grow.disj, h.grow.new⟩
    intro p sz top e hg
    obtain ⟨x, o⟩ := h.grow.own p sz top e hg
    refine ⟨x, o.loc, o.max, o.nil, ?_⟩
    intro a rcap hx
    have r := o.row a rcap hx
    obtain ⟨cs, fz, k1, k2⟩ := r.hb
    exact ⟨r.sp, r.ge, r.le, r.off, ⟨cs, fz, hb_below hb k1, k2⟩, r.ff, r.own⟩

theorem fn_of_calls {f : FuncId} {fn : Func} {args : List PV} {v : PV} (hf : X.P.funcs[f]? = some fn) (hb : fn.body.isSome = true) (hnm : (fn.name == "runtime.NumGoroutine") = false)
    (h : ∀ (G : Ghost) (w : World) (rargs : List Value), RVs G args rargs → Calls X.P f rargs.toArray w fun e w' => (∃ u, e = .returned u ∧ RV G v u) ∧ Below w.heap.size w w') : Fn X f args v := by
  intro ph G w rargs hr ha
  refine .inr ⟨w, run_enter (P := X.P) (w := w) (args := rargs.toArray) hf hb hnm, (h G w rargs ha).mono ?_⟩
  rintro e w' ⟨⟨u, rfl, hu⟩, hbl⟩
  exact ⟨G, v, ph, (LeN.refl _ _), hr.below_w hbl, hu, Nat.le_refl _, rfl, rfl⟩
end Pv

namespace Go.Proofs
open Go.Shelf Go.RowKit
def Tryz.growB_ren : Go.Shelf.Ren := ⟨fun | 4 => 121 | n => n, fun | 22 => 30 | 25 => 5 | 3 => 3 | 4 => 4 | 9 => 9 | 20 => 20 | 0 => 0 | n => n, fun | n => n⟩
theorem Tryz.growB : Lays8.n4 Tryz.prog Tryz.growB_ren where
  mixed := by kernel_rfl
  f4 := ⟨Tryz.f121.name, by kernel_rfl, Tryz.func121.trans (congrArg some (by kernel_rfl))⟩
  t0 := Tryz.underlying0
  a0 := Tryz.isAgg0
  z0 := Tryz.sizeOf0
  v0 := Tryz.zeroValue0
  t3 := Tryz.underlying3
  a3 := Tryz.isAgg3
  z3 := Tryz.sizeOf3
  v3 := Tryz.zeroValue3
  t4 := Tryz.underlying4
  a4 := Tryz.isAgg4
  z4 := Tryz.sizeOf4
  v4 := Tryz.zeroValue4
  t9 := Tryz.underlying9
  a9 := Tryz.isAgg9
  z9 := Tryz.sizeOf9
  v9 := Tryz.zeroValue9
  t20 := Tryz.underlying20
  a20 := Tryz.isAgg20
  z20 := Tryz.sizeOf20
  v20 := Tryz.zeroValue20
  t22 := Tryz.underlying30
  a22 := Tryz.isAgg30
  z22 := Tryz.sizeOf30
  v22 := Tryz.zeroValue30
end Go.Proofs
namespace Pv
open Go Go.Proofs Go.RowKit
variable {w0 : World}
theorem zeroCells_size (z : Value) (k : Nat) : (Builtin.zeroCells #[z] k).size = k := by
  induction k with
  | zero => simp [Builtin.zeroCells]
  | succ k ih => simp [Builtin.zeroCells]
/-- slices.Grow of nil: an empty row, of which nothing is told but that it is one's own. -/
theorem growB_ok (n : Nat) (h1 : 1 ≤ n) (h2 : n ≤ 2 ^ 40) (ph : PH) : Eff (Cx w0) 121 [.nilsl, .int .i64 n] ph (.sl ph.n 0 1 0 none) (ph.push []) := by
  intro G w rargs hr ha
  cases ha with
  | cons _ a _ aas ha1 ha2 =>
  cases ha2 with
  | cons _ b _ bs hb1 hb2 =>
  cases hb2
  cases ha1
  cases hb1
  refine .inr ⟨w, run_enter (P := Tryz.prog) Tryz.func121 rfl (by kernel_rfl), ?_⟩
  obtain ⟨i0, hi0, hz0, hs0, hb0⟩ : ∃ i0, Tryz.prog.info? 5 = some i0 ∧ i0.zero = some (.int .u8 0) ∧ i0.size = 1 ∧ i0.bytes = 1 := ⟨Tryz.t5, by kernel_rfl, rfl, rfl, rfl⟩
  refine (Any8.slices_Grow_grow Tryz.growB i0 (.int .u8 0) hi0 hz0 (by omega) none 0 0 n [] w (Nat.le_refl _) (by omega) (by rw [hb0]; omega) (by omega) (by simp) (fun _ => rfl) (fun a h => by cases h)).mono ?_
  rintro e w' ⟨rfl, rfl⟩
  rw [show Tryz.growB_ren.t 25 = 5 from rfl]
  have hge := grownCap_ge w (0 + n) 0 5
  generalize hcap : grownCap w (0 + n) 0 5 = cap at hge ⊢
  generalize hcs : (([] : List Value).toArray ++ Builtin.zeroCells (Value.int .u8 0).cells (0 + n - 0) ++ Builtin.zeroCells (Value.int .u8 0).cells (cap - (0 + n)) : Array Value) = cs
  have hsz : cs.size = cap := by
    rw [← hcs, Array.size_append, Array.size_append]
    show 0 + (Builtin.zeroCells #[_] _).size + (Builtin.zeroCells #[_] _).size = cap
    rw [zeroCells_size, zeroCells_size]; omega
  have hd := hr.drew
  obtain ⟨w2, G', _, hw2, hle, hrel, hl⟩ := gives_new (h := hd) (cells := []) (vals := []) (extra := cs.toList) (cs := cs) (e := 5) .nil (by simp) (by simp)
  refine ⟨G', .sl ph.n 0 1 0 none, ph.push [], hle.n _, ?_, ?_, by simp, rfl, rfl⟩
  · rw [hw2] at hrel; exact hrel
  · exact .sl _ _ _ _ _ ⟨w.heap.size, 0, cs.size⟩ _ _ hl (Nat.zero_le _) (by show 0 + cap * 1 ≤ cs.size; omega) (by simp) (fun _ => rfl)
end Pv

--nosplit
--keep2
namespace Pv
set_option maxRecDepth 20000
set_option maxHeartbeats 4000000
open Go Go.Proofs Go.RowKit
variable {w0 : World}

/-- The first i texts, one behind the other. -/
def firstL (L : List (List UInt8)) (i : Nat) : List UInt8 := (L.take i).flatten
theorem firstL_next {L : List (List UInt8)} {i : Nat} {s : List UInt8} (h : L[i]? = some s) : firstL L (i + 1) = firstL L i ++ s := by rw [firstL, List.take_add_one, h, List.flatten_append]; simp [firstL]
theorem firstL_all (L : List (List UInt8)) : firstL L L.length = L.flatten := by rw [firstL, List.take_length]
theorem firstL_le (L : List (List UInt8)) (i : Nat) : (firstL L i).length ≤ L.flatten.length := by
  have : L.flatten = firstL L i ++ (L.drop i).flatten := by rw [firstL, ← List.flatten_append, List.take_append_drop]
  rw [this, List.length_append]; omega
/-- Rows of bytes, as cells. -/
def rowsC (L : List (List UInt8)) : List PV := L.map fun s => .fsl 1 s.length (bytesPV s)
theorem rowsC_len (L : List (List UInt8)) : (rowsC L).length = L.length := by simp [rowsC]
theorem rowsC_at {L : List (List UInt8)} {i : Nat} {s : List UInt8} (h : L[i]? = some s) : (rowsC L)[i]? = some (.fsl 1 s.length (bytesPV s)) := by simp [rowsC, h]

theorem concat8_ok (L : List (List UInt8)) (h1 : 1 ≤ L.flatten.length) (h2 : L.flatten.length ≤ 2 ^ 40) (hL : L.length < 2 ^ 40) : Fn (Cx w0) 112 [.fsl 1 L.length (rowsC L)] (.fsl 1 L.flatten.length (bytesPV L.flatten)) := by
  refine fn_H ([Go.ResultVar.tmp 2]) Tryz.func112 rfl rfl (by decide) fun ph hW Q hQ => ?_
  simp only [start, List.length_cons, List.length_nil, List.cons_append, List.nil_append, Nat.reduceAdd, Nat.reduceSub, List.replicate_succ, List.replicate_zero, Tryz.ntmps112]
  repeat' first | simp -implicitDefEqProofs (maxSteps := 400000) (disch := first | with_reducible rfl | omega | (simp only [wkH] <;> omega) | decide) only [wkAll, wkL, popO, wantedP, if_true, if_false, reduceIte, ne_eq, Nat.reduceAdd, Nat.reduceSub, Nat.reduceMul, Nat.reduceLeDiff, Nat.reduceLT, ofCells, ofCell, reduceCtorEq, Int.reduceLE, Int.reduceLT, Int.reduceToNat, Int.reduceAdd, Int.reduceSub, Int.reduceMul, Int.reduceNeg, Int.reduceBEq, Int.reduceBNe, Int.reduceEq, eqCell, eqCells, binP, unP, convP, lenP, builtinP, sliceDataP, unsafeStringP, appendT, appendS, appendP, copyP, srcP, mmsP, mmP, indexOp, indexAddrOp, sliceOp, bndsP, bndP, capw, capCut, loadOp, storeOp, loadP, fieldOp, fieldAddrOp, arrayAtOp, buildP, buildSliceP, makeSliceP, placeF, fillP, setL, PK.agg, isZero, gt_iff_lt, Nat.reducePow, Nat.reduceGT, reps, seg, wkN, if_pos, if_neg, tf3, Tryz.ze3, tf5, Tryz.ze5, tf30, Tryz.ze30, tf166, Tryz.ze166]
  refine w_loopH (α := Nat) ph ph.ob ph.ty (fun i => [.fsl 1 L.length (rowsC L), .undef, .undef, .int .i64 ((firstL L i).length : Nat), .undef, .undef, .undef, .undef, .undef, .fsl 1 L.length (rowsC L), .int .i64 L.length, .int .i64 i, .undef, .undef, .undef, .undef, .undef, .undef, .undef, .undef, .undef, .undef, .undef, .undef, .undef, .undef, .undef, .undef, .undef, .undef, .undef, .undef, .undef, .undef, .undef, .undef]) (fun i => []) (fun i => i ≤ L.length) (fun i => L.length - i) 0 (by simp) (fun _ _ => by simp) (.eq (by simp [FadeTo, firstL]) rfl) ?_
  intro i hi K hK
  have hle := firstL_le L i
  rcases Nat.lt_or_ge i L.length with hlt | hge
  · have hlt' : (i : Int) < (L.length : Int) := by omega
    obtain ⟨s, hs⟩ := get_someW hlt
    have hc := rowsC_at hs
    have hcd : ((rowsC L).drop i)[0]? = some (.fsl 1 s.length (bytesPV s)) := by rw [List.getElem?_drop]; exact hc
    have hn := firstL_next hs
    have hle2 := firstL_le L (i + 1)
    have hln : (firstL L (i + 1)).length = (firstL L i).length + s.length := by rw [hn, List.length_append]
    have e1 : ((firstL L i).length : Int) + (s.length : Int) = ((firstL L (i + 1)).length : Int) := by omega
    have e2 : ¬ ((firstL L (i + 1)).length : Int) < 0 := by omega
    repeat' first | simp -implicitDefEqProofs (maxSteps := 400000) (disch := first | with_reducible rfl | omega | (simp only [wkH] <;> omega) | decide) only [wkAll, wkL, popO, wantedP, if_true, if_false, reduceIte, ne_eq, Nat.reduceAdd, Nat.reduceSub, Nat.reduceMul, Nat.reduceLeDiff, Nat.reduceLT, ofCells, ofCell, reduceCtorEq, Int.reduceLE, Int.reduceLT, Int.reduceToNat, Int.reduceAdd, Int.reduceSub, Int.reduceMul, Int.reduceNeg, Int.reduceBEq, Int.reduceBNe, Int.reduceEq, eqCell, eqCells, binP, unP, convP, lenP, builtinP, sliceDataP, unsafeStringP, appendT, appendS, appendP, copyP, srcP, mmsP, mmP, indexOp, indexAddrOp, sliceOp, bndsP, bndP, capw, capCut, loadOp, storeOp, loadP, fieldOp, fieldAddrOp, arrayAtOp, buildP, buildSliceP, makeSliceP, placeF, fillP, setL, PK.agg, isZero, gt_iff_lt, Nat.reducePow, Nat.reduceGT, reps, seg, wkN, if_pos, if_neg, tf3, Tryz.ze3, tf5, Tryz.ze5, tf30, Tryz.ze30, tf166, Tryz.ze166, hlt', rowsC_len, hc, hcd, e1, e2]
    refine hK (i + 1) _ _ (by omega) (by omega) (.eq (by simp [FadeTo]) rfl)
  · have hge' : ¬ (i : Int) < (L.length : Int) := by omega
    have : i = L.length := by omega
    subst this
    rw [firstL_all] at *
    clear hK
    repeat' first | simp -implicitDefEqProofs (maxSteps := 400000) (disch := first | with_reducible rfl | omega | (simp only [wkH] <;> omega) | decide) only [wkAll, wkL, popO, wantedP, if_true, if_false, reduceIte, ne_eq, Nat.reduceAdd, Nat.reduceSub, Nat.reduceMul, Nat.reduceLeDiff, Nat.reduceLT, ofCells, ofCell, reduceCtorEq, Int.reduceLE, Int.reduceLT, Int.reduceToNat, Int.reduceAdd, Int.reduceSub, Int.reduceMul, Int.reduceNeg, Int.reduceBEq, Int.reduceBNe, Int.reduceEq, eqCell, eqCells, binP, unP, convP, lenP, builtinP, sliceDataP, unsafeStringP, appendT, appendS, appendP, copyP, srcP, mmsP, mmP, indexOp, indexAddrOp, sliceOp, bndsP, bndP, capw, capCut, loadOp, storeOp, loadP, fieldOp, fieldAddrOp, arrayAtOp, buildP, buildSliceP, makeSliceP, placeF, fillP, setL, PK.agg, isZero, gt_iff_lt, Nat.reducePow, Nat.reduceGT, reps, seg, wkN, if_pos, if_neg, tf3, Tryz.ze3, tf5, Tryz.ze5, tf30, Tryz.ze30, tf166, Tryz.ze166, hge'] | refine w_eff (growB_ok L.flatten.length h1 h2 _) ?_
    refine w_loopH (α := Nat) ph ph.ob ph.ty (fun i => [.fsl 1 L.length (rowsC L), .undef, .undef, .undef, .undef, .undef, .sl (ph.n + i) 0 1 (firstL L i).length none, .undef, .undef, .undef, .undef, .undef, .undef, .undef, .undef, .undef, .undef, .undef, .undef, .undef, .undef, .undef, .undef, .undef, .undef, .fsl 1 L.length (rowsC L), .int .i64 L.length, .int .i64 i, .undef, .undef, .undef, .undef, .undef, .undef, .undef, .undef]) (fun i => List.replicate i none ++ [some (Blk.own (bytesPV (firstL L i)))]) (fun i => i ≤ L.length) (fun i => L.length - i) 0 (by simp) (fun _ _ => by simp) (.eq (by simp [FadeTo, firstL]) (by simp [firstL, bytesPV])) ?_
    intro i hi K hK
    have hle := firstL_le L i
    rcases Nat.lt_or_ge i L.length with hlt | hge
    · have hlt' : (i : Int) < (L.length : Int) := by omega
      obtain ⟨s, hs⟩ := get_someW hlt
      have hc := rowsC_at hs
      have hcd : ((rowsC L).drop i)[0]? = some (.fsl 1 s.length (bytesPV s)) := by rw [List.getElem?_drop]; exact hc
      have hn := firstL_next hs
      have hle2 := firstL_le L (i + 1)
      have hln : (firstL L (i + 1)).length = (firstL L i).length + s.length := by rw [hn, List.length_append]
      have g1 : (List.replicate i (none : Option Blk) ++ [some (Blk.own (bytesPV (firstL L i)))])[i]? = some (some (.own (bytesPV (firstL L i)))) := by rw [List.getElem?_append_right (by simp)]; simp
      have g2 : (List.replicate i (none : Option Blk) ++ [some (Blk.own (bytesPV (firstL L i)))]).set i (none : Option Blk) = List.replicate (i + 1) none := by
        rw [List.set_append_right _ _ (by simp), List.length_replicate, Nat.sub_self, List.replicate_succ']; rfl
      have g3 : (List.replicate i (none : Option Blk) ++ [some (Blk.own (bytesPV (firstL L i)))]).length = i + 1 := by simp
      repeat' first | simp -implicitDefEqProofs (maxSteps := 400000) (disch := first | with_reducible rfl | omega | (simp only [wkH] <;> omega) | decide) only [wkAll, wkL, popO, wantedP, if_true, if_false, reduceIte, ne_eq, Nat.reduceAdd, Nat.reduceSub, Nat.reduceMul, Nat.reduceLeDiff, Nat.reduceLT, ofCells, ofCell, reduceCtorEq, Int.reduceLE, Int.reduceLT, Int.reduceToNat, Int.reduceAdd, Int.reduceSub, Int.reduceMul, Int.reduceNeg, Int.reduceBEq, Int.reduceBNe, Int.reduceEq, eqCell, eqCells, binP, unP, convP, lenP, builtinP, sliceDataP, unsafeStringP, appendT, appendS, appendP, copyP, srcP, mmsP, mmP, indexOp, indexAddrOp, sliceOp, bndsP, bndP, capw, capCut, loadOp, storeOp, loadP, fieldOp, fieldAddrOp, arrayAtOp, buildP, buildSliceP, makeSliceP, placeF, fillP, setL, PK.agg, isZero, gt_iff_lt, Nat.reducePow, Nat.reduceGT, reps, seg, wkN, if_pos, if_neg, tf3, Tryz.ze3, tf5, Tryz.ze5, tf30, Tryz.ze30, tf166, Tryz.ze166, hlt', rowsC_len, hc, hcd, g1, g2, g3, bytesPV_cok, hln]
      refine hK (i + 1) _ _ (by omega) (by omega) (.eq (by simp [FadeTo, hln, Nat.add_assoc]) (by rw [hn, bytesPV_append, List.replicate_succ]; rfl))
    · have hge' : ¬ (i : Int) < (L.length : Int) := by omega
      have : i = L.length := by omega
      subst this
      rw [firstL_all] at *
      repeat' first | simp -implicitDefEqProofs (maxSteps := 400000) (disch := first | with_reducible rfl | omega | (simp only [wkH] <;> omega) | decide) only [wkAll, wkL, popO, wantedP, if_true, if_false, reduceIte, ne_eq, Nat.reduceAdd, Nat.reduceSub, Nat.reduceMul, Nat.reduceLeDiff, Nat.reduceLT, ofCells, ofCell, reduceCtorEq, Int.reduceLE, Int.reduceLT, Int.reduceToNat, Int.reduceAdd, Int.reduceSub, Int.reduceMul, Int.reduceNeg, Int.reduceBEq, Int.reduceBNe, Int.reduceEq, eqCell, eqCells, binP, unP, convP, lenP, builtinP, sliceDataP, unsafeStringP, appendT, appendS, appendP, copyP, srcP, mmsP, mmP, indexOp, indexAddrOp, sliceOp, bndsP, bndP, capw, capCut, loadOp, storeOp, loadP, fieldOp, fieldAddrOp, arrayAtOp, buildP, buildSliceP, makeSliceP, placeF, fillP, setL, PK.agg, isZero, gt_iff_lt, Nat.reducePow, Nat.reduceGT, reps, seg, wkN, if_pos, if_neg, tf3, Tryz.ze3, tf5, Tryz.ze5, tf30, Tryz.ze30, tf166, Tryz.ze166, hge']
      have hg : ((H ph (List.replicate L.length none ++ [some (Blk.own (bytesPV L.flatten))]) ph.ob ph.ty).shut []).get (ph.n + L.length) = some (bytesPV L.flatten) := by
        rw [h_shut0, h_get, List.getElem?_append_right (by simp)]; simp [blk_own]
      have hsg : seg (bytesPV L.flatten) 0 (L.flatten.length * 1) = bytesPV L.flatten := by
        simp only [seg, List.drop_zero, Nat.mul_one]; exact List.take_of_length_le (by rw [bytesPV_len]; exact Nat.le_refl _)
      have hfz : ∀ q m d, frzs q m (d + 1) (seg (bytesPV L.flatten) 0 (L.flatten.length * 1)) = some (bytesPV L.flatten) := fun q m d => by rw [hsg]; exact frzs_scalars (bytesPV_scalar _)
      refine hQ (by first | exact .inr rfl | exact .inl rfl) (by first | exact trivial | exact marks1) (by first | (simp -implicitDefEqProofs (maxSteps := 400000) (disch := first | with_reducible rfl | omega | (simp only [wkH] <;> omega) | decide) only [wkAll, wkL, popO, wantedP, if_true, if_false, reduceIte, ne_eq, Nat.reduceAdd, Nat.reduceSub, Nat.reduceMul, Nat.reduceLeDiff, Nat.reduceLT, ofCells, ofCell, reduceCtorEq, Int.reduceLE, Int.reduceLT, Int.reduceToNat, Int.reduceAdd, Int.reduceSub, Int.reduceMul, Int.reduceNeg, Int.reduceBEq, Int.reduceBNe, Int.reduceEq, eqCell, eqCells, loadOp, storeOp, loadP, setL, PK.agg, isZero, gt_iff_lt, Nat.reducePow, Nat.reduceGT, reps, seg, wkN, if_pos, if_neg, tf3, Tryz.ze3, tf5, Tryz.ze5, tf30, Tryz.ze30, tf166, Tryz.ze166, resP, resPs, resP1]; rfl) | rfl) ⟨6, by repeat' first | exact frz_scalar rfl | apply frz_tuple | apply frz_agg | apply frz_fsl | apply frz_gsl (by omega) | exact frzs_nil | apply frzs_cons | exact frz_sl (by omega) hg (by rw [bytesPV_len]; omega) (hfz _ _ _)⟩ (by first | exact keepsH0 | exact keeps1 (by assumption)) (nw_eq ?_)
      rfl
end Pv
