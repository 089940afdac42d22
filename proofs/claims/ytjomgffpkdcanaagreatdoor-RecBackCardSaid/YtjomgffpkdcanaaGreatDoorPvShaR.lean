/- Part of the proof: the layer of pure values, or walks through functions (PvShaR, PvGc2). -/
import Derived.Test.YtjomgffpkdcanaaGreatDoorPvDrawP
import Derived.Test.YtjomgffpkdcanaaGreatDoorPvRb2
import Derived.Shelf.Strings.Repeat
import Derived.Test.YtjomgffpkdcanaaGreatDoorPvGcE
set_option linter.all false
namespace Go.Proofs
open Go.Shelf Go.RowKit
def Tryz.laysRepeat_ren : Go.Shelf.Ren := ⟨fun | 105 => 16 | 212 => 24 | 99 => 25 | 165 => 26 | 166 => 27 | 170 => 28 | 169 => 29 | 263 => 42 | 264 => 43 | 206 => 44 | 240 => 45 | 241 => 46 | 276 => 56 | 277 => 57 | n => n, fun | 9 => 9 | 3 => 3 | 4 => 4 | 20 => 20 | 0 => 0 | 46 => 64 | 109 => 67 | 5 => 5 | 72 => 72 | 76 => 76 | 51 => 99 | 146 => 100 | 53 => 22 | 148 => 102 | 70 => 70 | 37 => 49 | 75 => 75 | 127 => 104 | 164 => 114 | 80 => 79 | n => n, fun | n => n⟩
theorem Tryz.laysRepeat : Lays.n105 Tryz.prog Tryz.laysRepeat_ren where
  mixed := by kernel_rfl
  f99 := Tryz.func25.trans (congrArg some (by kernel_rfl))
  f105 := Tryz.func16.trans (congrArg some (by kernel_rfl))
  f165 := Tryz.func26.trans (congrArg some (by kernel_rfl))
  f166 := Tryz.func27.trans (congrArg some (by kernel_rfl))
  f169 := Tryz.func29.trans (congrArg some (by kernel_rfl))
  f170 := Tryz.func28.trans (congrArg some (by kernel_rfl))
  f206 := Tryz.func44.trans (congrArg some (by kernel_rfl))
  f212 := Tryz.func24.trans (congrArg some (by kernel_rfl))
  f240 := Tryz.func45.trans (congrArg some (by kernel_rfl))
  f241 := Tryz.func46.trans (congrArg some (by kernel_rfl))
  f263 := Tryz.func42.trans (congrArg some (by kernel_rfl))
  f264 := Tryz.func43.trans (congrArg some (by kernel_rfl))
  f276 := Tryz.func56.trans (congrArg some (by kernel_rfl))
  f277 := Tryz.func57.trans (congrArg some (by kernel_rfl))
  t0 := Tryz.underlying0
  a0 := Tryz.isAgg0
  z0 := Tryz.sizeOf0
  v0 := Tryz.zeroValue0
  t3 := Tryz.underlying3
  a3 := Tryz.isAgg3
  z3 := Tryz.sizeOf3
  v3 := Tryz.zeroValue3
  t4 := Tryz.underlying4
  a4 := Tryz.isAgg4
  z4 := Tryz.sizeOf4
  v4 := Tryz.zeroValue4
  t5 := Tryz.underlying5
  a5 := Tryz.isAgg5
  z5 := Tryz.sizeOf5
  v5 := Tryz.zeroValue5
  t9 := Tryz.underlying9
  a9 := Tryz.isAgg9
  z9 := Tryz.sizeOf9
  v9 := Tryz.zeroValue9
  t20 := Tryz.underlying20
  a20 := Tryz.isAgg20
  z20 := Tryz.sizeOf20
  v20 := Tryz.zeroValue20
  t37 := Tryz.underlying49
  a37 := Tryz.isAgg49
  z37 := Tryz.sizeOf49
  v37 := Tryz.zeroValue49
  t46 := Tryz.underlying64
  a46 := Tryz.isAgg64
  z46 := Tryz.sizeOf64
  v46 := Tryz.zeroValue64
  t51 := Tryz.underlying99
  a51 := Tryz.isAgg99
  z51 := Tryz.sizeOf99
  v51 := Tryz.zeroValue99
  t53 := Tryz.underlying22
  a53 := Tryz.isAgg22
  z53 := Tryz.sizeOf22
  v53 := Tryz.zeroValue22
  t70 := Tryz.underlying70
  a70 := Tryz.isAgg70
  z70 := Tryz.sizeOf70
  v70 := Tryz.zeroValue70
  t72 := Tryz.underlying72
  a72 := Tryz.isAgg72
  z72 := Tryz.sizeOf72
  v72 := Tryz.zeroValue72
  t75 := Tryz.underlying75
  a75 := Tryz.isAgg75
  z75 := Tryz.sizeOf75
  v75 := Tryz.zeroValue75
  t76 := Tryz.underlying76
  a76 := Tryz.isAgg76
  z76 := Tryz.sizeOf76
  v76 := Tryz.zeroValue76
  t109 := Tryz.underlying67
  a109 := Tryz.isAgg67
  z109 := Tryz.sizeOf67
  v109 := Tryz.zeroValue67
  t127 := Tryz.underlying104
  a127 := Tryz.isAgg104
  z127 := Tryz.sizeOf104
  v127 := Tryz.zeroValue104
  t146 := Tryz.underlying100
  a146 := Tryz.isAgg100
  z146 := Tryz.sizeOf100
  v146 := Tryz.zeroValue100
  t148 := Tryz.underlying102
  a148 := Tryz.isAgg102
  z148 := Tryz.sizeOf102
  v148 := Tryz.zeroValue102
  t164 := Tryz.underlying114
  a164 := Tryz.isAgg114
  z164 := Tryz.sizeOf114
  v164 := Tryz.zeroValue114
theorem Tryz.extraRepeat : Builder.Extra Tryz.prog Tryz.laysRepeat_ren where
  sizeBuilder := by kernel_rfl
  liesBuilder := by kernel_rfl
  t5 := Tryz.laysRepeat.t5
  a5 := Tryz.laysRepeat.a5
  z5 := Tryz.laysRepeat.z5
  v5 := Tryz.laysRepeat.v5
  infoByte := by kernel_rfl
  cellsByte := by kernel_rfl
  sizeByte := by kernel_rfl
  neB5 := by decide
end Go.Proofs
namespace Pv
open Go Go.Proofs Go.RowKit
variable {w0 : World}
theorem repeatL_byte (b : UInt8) : ∀ n, Lib.repeatL [b] n = List.replicate n b
  | 0 => rfl
  | n + 1 => by rw [Lib.repeatL, repeatL_byte b n]; rfl
/-- strings.Repeat of one byte. -/
theorem repeat_ok (b : UInt8) (n : Nat) (hn : n ≤ 2 ^ 40) : Fn (Cx w0) 16 [.str [b], .int .i64 n] (.str (List.replicate n b)) := by
  refine fn_of_calls Tryz.func16 (by kernel_rfl) (by kernel_rfl) ?_
  intro G w rargs hr
  cases hr with
  | cons _ v1 _ _ h1 h2 =>
    cases h2 with
    | cons _ v2 _ _ h3 h4 =>
      cases h4
      cases h1 with
      | str _ t ht =>
        cases h3
        have hsz : t.size = 1 := by
          show t.data.size = 1
          rw [← Array.length_toList, ht]; rfl
        refine (Any.strings_Repeat Tryz.laysRepeat Tryz.extraRepeat t n w (by omega) (by rw [hsz]; omega)).mono fun e w' ⟨he, hw⟩ => ⟨⟨_, he, ?_⟩, hw⟩
        refine .str _ _ ?_
        rw [ht, repeatL_byte]
end Pv

--nosplit
--keep2
namespace Pv
set_option maxRecDepth 20000
set_option maxHeartbeats 4000000
open Go Go.Proofs Go.RowKit
def tb74_2Gc2 : Tab := [[], [], [0, 1], [], [3], [3, 4], [0, 1, 2, 3, 4, 5], [0, 1, 2, 3, 4, 5, 6]]
def pl74_2Gc2 : Plan := [(0, true, []), (1, true, []), (2, true, []), (3, true, []), (4, true, []), (5, false, [0, 1, 2]), (6, true, []), (7, false, [])]
variable {w0 : World}

theorem ne16_t {n : Nat} (h : n ≠ 16) : ((n : Int) != 16) = true := by rw [bne_iff_ne]; omega
theorem ne16_f {n : Nat} (h : n = 16) : ((n : Int) != 16) = false := by rw [bne_eq_false_iff_eq]; omega
theorem len8_64 (n : Nat) (h : n < 2 ^ 50) : IntKind.wrap .u64 (8 * (n : Int)) = ((8 * UInt64.ofNat n).toNat : Int) := by
  rw [show (8 : Int) * (n : Int) = ((8 * n : Nat) : Int) by omega, wrap_u64n, UInt64.toNat_mul, UInt64.toNat_ofNat', Nat.mul_mod_mod]; rfl
/-- The hash behind j of the two texts. -/
def xHs (key : El) (T : Nat → List UInt8) : Nat → El
  | 0 => El.zero
  | j + 1 => hsh key (xHs key T j) (fil (T j)) (nb (T j).length)
theorem hsh_blk {key x : El} {t B : List UInt8} {i : Nat} (h : ((fil t).drop (16 * i)).take 16 = B) : hsh key x (fil t) (i + 1) = hstep key (hsh key x (fil t) i) (elB B) := by rw [hsh, h]
theorem gcmHash_ok (g ad s : List UInt8) (had : ad.length < 2 ^ 50) (hs : s.length < 2 ^ 50) : Fn (Cx w0) 50 [.str g, .str ad, .str s] (.tuple [.str (ghashR g ad s).1, .int .i64 (ghashR g ad s).2]) := by
  by_cases hh : g.length = 16
  · have qa := ne16_f hh
    rw [show ghashR g ad s = (elT (ghs (elB g) ad s), 0) from if_pos hh]
    have t1 := elementOf_ok (w0 := w0) g hh
    generalize elB g = key at *
    obtain ⟨T, hT⟩ : ∃ T : Nat → List UInt8, T = fun j => if j = 0 then ad else s := ⟨_, rfl⟩
    obtain ⟨Cs, hCs⟩ : ∃ Cs, Cs = [PV.str ad, PV.str s] := ⟨_, rfl⟩
    have hCl : Cs.length = 2 := by rw [hCs]; rfl
    have hcT : ∀ j, j < 2 → Cs[j]? = some (.str (T j)) := by
      intro j hj
      match j, hj with
      | 0, _ => rw [hCs, hT]; rfl
      | 1, _ => rw [hCs, hT]; rfl
    have hTl : ∀ j, (T j).length < 2 ^ 50 := by intro j; rw [hT]; simp only; split <;> assumption
    have hg : ghs key ad s = hstep key (xHs key T 2) (lenE ad.length s.length) := by rw [hT]; rfl
    rw [hg]
    have hel : ∀ e : El, (elC e).length = 2 := elC_len
    have hek : ∀ e : El, (elC e).all cellOk = true := elC_ok
    have hCsc : ∀ n, Scs n Cs := fun n => by rw [hCs]; simp [scs_cons, scs_nil, sc_str]
    have hset : ∀ (c : List PV) (e : El), c.length = 2 → setL c 0 (elC e) = elC e := fun c e h => setL_all _ _ h
    have hse : ∀ (a e : El), setL (elC a) 0 (elC e) = elC e := fun a e => setL_all _ _ rfl
    have htk : ∀ (e : El), List.take 2 (elC e) = elC e := fun e => rfl
    refine fn_H ([Go.ResultVar.tmp 6, Go.ResultVar.tmp 7]) Tryz.func50 rfl rfl (by decide) fun ph hW Q hQ => ?_
    simp only [start, List.length_cons, List.length_nil, List.cons_append, List.nil_append, Nat.reduceAdd, Nat.reduceSub, List.replicate_succ, List.replicate_zero, Tryz.ntmps50]
    repeat' first | simp -implicitDefEqProofs (maxSteps := 400000) (disch := first | with_reducible rfl | omega | (simp only [wkH] <;> omega) | decide) only [wkAll, wkL, popO, wantedP, if_true, if_false, reduceIte, ne_eq, Nat.reduceAdd, Nat.reduceSub, Nat.reduceMul, Nat.reduceLeDiff, Nat.reduceLT, ofCells, ofCell, reduceCtorEq, Int.reduceLE, Int.reduceLT, Int.reduceToNat, Int.reduceAdd, Int.reduceSub, Int.reduceMul, Int.reduceNeg, Int.reduceBEq, Int.reduceBNe, Int.reduceEq, eqCell, eqCells, binP, unP, convP, lenP, builtinP, sliceDataP, unsafeStringP, appendT, appendS, appendP, copyP, srcP, mmsP, mmP, indexOp, indexAddrOp, sliceOp, bndsP, bndP, capw, capCut, loadOp, storeOp, loadP, fieldOp, fieldAddrOp, arrayAtOp, buildP, buildSliceP, makeSliceP, placeF, fillP, setL, PK.agg, isZero, gt_iff_lt, Nat.reducePow, Nat.reduceGT, reps, seg, wkN, if_pos, if_neg, tf3, Tryz.ze3, tf9, Tryz.ze9, tf22, Tryz.ze22, tf124, Tryz.ze124, tf127, Tryz.ze127, tf128, Tryz.ze128, qa, hel, hek, hset, hse, htk] | refine w_pure (t1) ?_
    rw [← hCs]
    refine w_loopM (α := Nat × List Nat) ph ph.ty (fun a => obD ph.ob a.2) (fun a => a.2) (fun a => [.undef, .str ad, .str s, .undef, .undef, .undef, .undef, .undef, .undef, .ptr (ph.n + 1) 0, .ptr (ph.n + 2) 0, .undef, .undef, .undef, .undef, .undef, .undef, .undef, .undef, .undef, .undef, .undef, .undef, .sl (ph.n + 3) 0 1 2 (some 2), .int .i64 2, .int .i64 a.1, .undef, .undef, .undef, .undef, .undef, .undef, .undef, .undef, .undef, .undef, .undef, .undef, .undef, .undef, .undef, .undef, .undef, .undef, .undef, .undef, .undef, .undef, .undef]) (fun a => [some (.own (elC key)), some (.own (elC (xHs key T a.1))), some (.own [.func 61 [] [.ptr (ph.n + 1) 0, .ptr ph.n 0]]), some (.own Cs)]) (fun a => a.1 ≤ 2 ∧ FreshD ph.ob a.2) (fun a => 2 - a.1) (0, []) ⟨by simp, trivial⟩ rfl (fun _ _ => by simp) (.eq (by simp [FadeTo]) (by simp [obD, xHs]; rfl)) ?_
    rintro ⟨j, rs⟩ ⟨hj, hfr⟩ K hK
    simp only at hj hfr ⊢
    rcases Nat.lt_or_ge j 2 with hlt | hge
    · have hlt' : (j : Int) < 2 := by omega
      have hc := hcT j hlt
      have htl := hTl j
      have hx1 : xHs key T (j + 1) = hsh key (xHs key T j) (fil (T j)) (nb (T j).length) := rfl
      obtain ⟨x, hx⟩ : ∃ x, x = xHs key T j := ⟨_, rfl⟩
      obtain ⟨t, ht⟩ : ∃ t, t = T j := ⟨_, rfl⟩
      rw [← hx, ← ht] at hx1
      rw [← ht] at hc htl
      rw [← hx]
      repeat' first | simp -implicitDefEqProofs (maxSteps := 400000) (disch := first | with_reducible rfl | omega | (simp only [wkH] <;> omega) | decide) only [wkAll, wkL, popO, wantedP, if_true, if_false, reduceIte, ne_eq, Nat.reduceAdd, Nat.reduceSub, Nat.reduceMul, Nat.reduceLeDiff, Nat.reduceLT, ofCells, ofCell, reduceCtorEq, Int.reduceLE, Int.reduceLT, Int.reduceToNat, Int.reduceAdd, Int.reduceSub, Int.reduceMul, Int.reduceNeg, Int.reduceBEq, Int.reduceBNe, Int.reduceEq, eqCell, eqCells, binP, unP, convP, lenP, builtinP, sliceDataP, unsafeStringP, appendT, appendS, appendP, copyP, srcP, mmsP, mmP, indexOp, indexAddrOp, sliceOp, bndsP, bndP, capw, capCut, loadOp, storeOp, loadP, fieldOp, fieldAddrOp, arrayAtOp, buildP, buildSliceP, makeSliceP, placeF, fillP, setL, PK.agg, isZero, gt_iff_lt, Nat.reducePow, Nat.reduceGT, reps, seg, wkN, if_pos, if_neg, tf3, Tryz.ze3, tf9, Tryz.ze9, tf22, Tryz.ze22, tf124, Tryz.ze124, tf127, Tryz.ze127, tf128, Tryz.ze128, hlt', hc, hCl]
      refine w_inl ([Go.ResultVar.tmp 2]) Tryz.func63 rfl rfl (by decide) fun _ hI => ?_
      simp only [start, List.length_cons, List.length_nil, List.cons_append, List.nil_append, Nat.reduceAdd, Nat.reduceSub, List.replicate_succ, List.replicate_zero, Tryz.ntmps63]
      repeat' first | simp -implicitDefEqProofs (maxSteps := 400000) (disch := first | with_reducible rfl | omega | (simp only [wkH] <;> omega) | decide) only [wkAll, wkL, popO, wantedP, if_true, if_false, reduceIte, ne_eq, Nat.reduceAdd, Nat.reduceSub, Nat.reduceMul, Nat.reduceLeDiff, Nat.reduceLT, ofCells, ofCell, reduceCtorEq, Int.reduceLE, Int.reduceLT, Int.reduceToNat, Int.reduceAdd, Int.reduceSub, Int.reduceMul, Int.reduceNeg, Int.reduceBEq, Int.reduceBNe, Int.reduceEq, eqCell, eqCells, binP, unP, convP, lenP, builtinP, sliceDataP, unsafeStringP, appendT, appendS, appendP, copyP, srcP, mmsP, mmP, indexOp, indexAddrOp, sliceOp, bndsP, bndP, capw, capCut, loadOp, storeOp, loadP, fieldOp, fieldAddrOp, arrayAtOp, buildP, buildSliceP, makeSliceP, placeF, fillP, setL, PK.agg, isZero, gt_iff_lt, Nat.reducePow, Nat.reduceGT, reps, seg, wkN, if_pos, if_neg, tf9, Tryz.ze9]
      refine hI (by first | exact .inr rfl | exact .inl rfl) trivial (by first | (simp -implicitDefEqProofs (maxSteps := 400000) (disch := first | with_reducible rfl | omega | (simp only [wkH] <;> omega) | decide) only [wkAll, wkL, popO, wantedP, if_true, if_false, reduceIte, ne_eq, Nat.reduceAdd, Nat.reduceSub, Nat.reduceMul, Nat.reduceLeDiff, Nat.reduceLT, ofCells, ofCell, reduceCtorEq, Int.reduceLE, Int.reduceLT, Int.reduceToNat, Int.reduceAdd, Int.reduceSub, Int.reduceMul, Int.reduceNeg, Int.reduceBEq, Int.reduceBNe, Int.reduceEq, eqCell, eqCells, loadOp, storeOp, loadP, setL, PK.agg, isZero, gt_iff_lt, Nat.reducePow, Nat.reduceGT, reps, seg, wkN, if_pos, if_neg, tf9, Tryz.ze9, resP, resPs, resP1]; rfl) | rfl) ?_
      repeat' first | simp -implicitDefEqProofs (maxSteps := 400000) (disch := first | with_reducible rfl | omega | (simp only [wkH] <;> omega) | decide) only [wkAll, wkL, popO, wantedP, if_true, if_false, reduceIte, ne_eq, Nat.reduceAdd, Nat.reduceSub, Nat.reduceMul, Nat.reduceLeDiff, Nat.reduceLT, ofCells, ofCell, reduceCtorEq, Int.reduceLE, Int.reduceLT, Int.reduceToNat, Int.reduceAdd, Int.reduceSub, Int.reduceMul, Int.reduceNeg, Int.reduceBEq, Int.reduceBNe, Int.reduceEq, eqCell, eqCells, binP, unP, convP, lenP, builtinP, sliceDataP, unsafeStringP, appendT, appendS, appendP, copyP, srcP, mmsP, mmP, indexOp, indexAddrOp, sliceOp, bndsP, bndP, capw, capCut, loadOp, storeOp, loadP, fieldOp, fieldAddrOp, arrayAtOp, buildP, buildSliceP, makeSliceP, placeF, fillP, setL, PK.agg, isZero, gt_iff_lt, Nat.reducePow, Nat.reduceGT, reps, seg, wkN, if_pos, if_neg, tf3, Tryz.ze3, tf9, Tryz.ze9, tf22, Tryz.ze22, tf124, Tryz.ze124, tf127, Tryz.ze127, tf128, Tryz.ze128]
      refine w_range ([]) rfl Tryz.func74 rfl rfl (by decide) ?_
      intro r l fnid hr hl hne Q' hQ'
      simp only [start, List.length_cons, List.length_nil, List.cons_append, List.nil_append, Nat.reduceAdd, Nat.reduceSub, List.replicate_succ, List.replicate_zero, Tryz.ntmps74]
      have hl' : obD ph.ob rs l = none := hl
      have hr' : obD ph.ob rs r = none := hr
      repeat' first | simp -implicitDefEqProofs (maxSteps := 400000) (disch := first | with_reducible rfl | omega | (simp only [wkH] <;> omega) | decide) only [wkAll, wkL, popO, wantedP, if_true, if_false, reduceIte, ne_eq, Nat.reduceAdd, Nat.reduceSub, Nat.reduceMul, Nat.reduceLeDiff, Nat.reduceLT, ofCells, ofCell, reduceCtorEq, Int.reduceLE, Int.reduceLT, Int.reduceToNat, Int.reduceAdd, Int.reduceSub, Int.reduceMul, Int.reduceNeg, Int.reduceBEq, Int.reduceBNe, Int.reduceEq, eqCell, eqCells, binP, unP, convP, lenP, builtinP, sliceDataP, unsafeStringP, appendT, appendS, appendP, copyP, srcP, mmsP, mmP, indexOp, indexAddrOp, sliceOp, bndsP, bndP, capw, capCut, loadOp, storeOp, loadP, fieldOp, fieldAddrOp, arrayAtOp, buildP, buildSliceP, makeSliceP, placeF, fillP, setL, PK.agg, isZero, gt_iff_lt, Nat.reducePow, Nat.reduceGT, reps, seg, wkN, if_pos, if_neg, tf3, Tryz.ze3, tf4, Tryz.ze4, tf9, Tryz.ze9, tf22, Tryz.ze22, tf124, Tryz.ze124, pl74_2Gc2] | refine w_drawnF (id := 2) tb74_2Gc2 pl74_2Gc2 17 (by kernel_rfl) (by kernel_rfl) (by simp) ?_
      refine w_loopH (α := Nat) ph _ ph.ty (fun i => [.yield l, .ptr (ph.n + 4) 0, .undef, .undef, .undef, .undef, .undef, .undef, .undef, .undef, .undef, .undef, .undef, .undef, .undef, .undef, .undef, .undef, .undef, .undef, .undef, .undef, .undef, .undef, .undef]) (fun i => [some (.own (elC key)), some (.own (elC (hsh key x (fil t) i))), some (.own [.func 61 [] [.ptr (ph.n + 1) 0, .ptr ph.n 0]]), some (.own Cs), some (.own [.str (t.drop (16 * i))])]) (fun i => i ≤ nb t.length) (fun i => nb t.length - i) 0 (by simp) (fun _ _ => by simp) (.eq (by simp [FadeTo]) (by simp [hsh]; rfl)) ?_
      intro i hi K2 hK2
      rcases Nat.lt_or_ge i (nb t.length) with hin | hin
      · have hin' : 16 * i < t.length := by rw [nb] at hin; omega
        have hdl : (t.drop (16 * i)).length = t.length - 16 * i := List.length_drop
        have hB := fil_at t i hin
        obtain ⟨d, hd⟩ : ∃ d, d = t.drop (16 * i) := ⟨_, rfl⟩
        rw [← hdl] at hB
        rw [← hd] at hdl hB ⊢
        obtain ⟨m, hm⟩ : ∃ m, m = min d.length 16 := ⟨_, rfl⟩
        have htm : d.take 16 = d.take m := by
          rw [hm]
          rcases Nat.le_total d.length 16 with h | h
          · rw [Nat.min_eq_left h, List.take_of_length_le h, List.take_length]
          · rw [Nat.min_eq_right h]
        rw [htm, ← hm] at hB
        obtain ⟨B, hBB⟩ : ∃ B, B = d.take m ++ List.replicate (16 - m) 0 := ⟨_, rfl⟩
        have hBl : B.length = 16 := by rw [hBB]; simp; omega
        rw [← hBB] at hB
        have hnx := hsh_blk (key := key) (x := x) hB
        have q : (d == []) = false := by
          rw [beq_eq_false_iff_ne]; rintro rfl; simp at hdl; omega
        have m1 : (if (16 : Int) < (d.length : Int) then (16 : Int) else (d.length : Int)) = (m : Int) := by split <;> omega
        have m2 : (16 : Int) - (m : Int) = ((16 - m : Nat) : Int) := by omega
        have m3 : ((m : Nat) : Int) ≤ (d.length : Int) := by omega
        have rp := repeat_ok (w0 := w0) 0 (16 - m) (by omega)
        have eo := elementOf_ok (w0 := w0) B hBl
        have te := timesE_ok (w0 := w0) (El.xor (hsh key x (fil t) i) (elB B)) key
        have hdd : (t.drop (16 * (i + 1))) = d.drop m := by
          rw [hd, List.drop_drop]
          rcases Nat.le_total d.length 16 with h | h
          · rw [List.drop_eq_nil_of_le (by omega), List.drop_eq_nil_of_le (by omega)]
          · congr 1; omega
        have e0 : ∀ e : El, (elC e)[0]? = some (.int .u64 (e.hi.toNat : Int)) := fun _ => rfl
        have e1 : ∀ e : El, (elC e)[1]? = some (.int .u64 (e.lo.toNat : Int)) := fun _ => rfl
        generalize hX : hsh key x (fil t) i = X at *
        generalize elB B = b at *
        have hcat : ((List.take m d).length + (List.replicate (16 - m) (0 : UInt8)).length ≤ 9223372036854775807) = True := by
          rw [eq_iff_iff, iff_true, List.length_take, List.length_replicate]; omega
        have hdd2 : (d.drop m).take (d.length - m) = d.drop m := List.take_of_length_le (by rw [List.length_drop]; exact Nat.le_refl _)
        repeat' first | simp -implicitDefEqProofs (maxSteps := 400000) (disch := first | with_reducible rfl | omega | (simp only [wkH] <;> omega) | decide) only [wkAll, wkL, popO, wantedP, if_true, if_false, reduceIte, ne_eq, Nat.reduceAdd, Nat.reduceSub, Nat.reduceMul, Nat.reduceLeDiff, Nat.reduceLT, ofCells, ofCell, reduceCtorEq, Int.reduceLE, Int.reduceLT, Int.reduceToNat, Int.reduceAdd, Int.reduceSub, Int.reduceMul, Int.reduceNeg, Int.reduceBEq, Int.reduceBNe, Int.reduceEq, eqCell, eqCells, binP, unP, convP, lenP, builtinP, sliceDataP, unsafeStringP, appendT, appendS, appendP, copyP, srcP, mmsP, mmP, indexOp, indexAddrOp, sliceOp, bndsP, bndP, capw, capCut, loadOp, storeOp, loadP, fieldOp, fieldAddrOp, arrayAtOp, buildP, buildSliceP, makeSliceP, placeF, fillP, setL, PK.agg, isZero, gt_iff_lt, Nat.reducePow, Nat.reduceGT, reps, seg, wkN, if_pos, if_neg, tf3, Tryz.ze3, tf4, Tryz.ze4, tf9, Tryz.ze9, tf22, Tryz.ze22, tf124, Tryz.ze124, pl74_2Gc2, q, m1, m2, m3, hcat, hdd2, ← hBB] | refine w_pure (rp) ?_ | refine w_pure (eo) ?_ | refine w_drawnF (id := 2) tb74_2Gc2 pl74_2Gc2 17 (by kernel_rfl) (by kernel_rfl) (by simp) ?_
        refine w_round (by rw [h_ob]; exact up_same) rfl rfl ?_
        simp only [mkLoop, setPs, List.set_cons_zero, List.set_cons_succ, List.toList_toArray]
        repeat' first | simp -implicitDefEqProofs (maxSteps := 400000) (disch := first | with_reducible rfl | omega | (simp only [wkH] <;> omega) | decide) only [wkAll, wkL, popO, wantedP, if_true, if_false, reduceIte, ne_eq, Nat.reduceAdd, Nat.reduceSub, Nat.reduceMul, Nat.reduceLeDiff, Nat.reduceLT, ofCells, ofCell, reduceCtorEq, Int.reduceLE, Int.reduceLT, Int.reduceToNat, Int.reduceAdd, Int.reduceSub, Int.reduceMul, Int.reduceNeg, Int.reduceBEq, Int.reduceBNe, Int.reduceEq, eqCell, eqCells, binP, unP, convP, lenP, builtinP, sliceDataP, unsafeStringP, appendT, appendS, appendP, copyP, srcP, mmsP, mmP, indexOp, indexAddrOp, sliceOp, bndsP, bndP, capw, capCut, loadOp, storeOp, loadP, fieldOp, fieldAddrOp, arrayAtOp, buildP, buildSliceP, makeSliceP, placeF, fillP, setL, PK.agg, isZero, gt_iff_lt, Nat.reducePow, Nat.reduceGT, reps, seg, wkN, if_pos, if_neg, tf3, Tryz.ze3, tf9, Tryz.ze9, tf22, Tryz.ze22, tf124, Tryz.ze124, tf127, Tryz.ze127, tf128, Tryz.ze128, hel, hek, hset, hse, htk]
        first | refine ⟨_, rfl, rfl, ?_⟩ | refine ⟨_, by rw [h_ob]; exact up_same, rfl, ?_⟩
        repeat' first | simp -implicitDefEqProofs (maxSteps := 400000) (disch := first | with_reducible rfl | omega | (simp only [wkH] <;> omega) | decide) only [wkAll, wkL, popO, wantedP, if_true, if_false, reduceIte, ne_eq, Nat.reduceAdd, Nat.reduceSub, Nat.reduceMul, Nat.reduceLeDiff, Nat.reduceLT, ofCells, ofCell, reduceCtorEq, Int.reduceLE, Int.reduceLT, Int.reduceToNat, Int.reduceAdd, Int.reduceSub, Int.reduceMul, Int.reduceNeg, Int.reduceBEq, Int.reduceBNe, Int.reduceEq, eqCell, eqCells, binP, unP, convP, lenP, builtinP, sliceDataP, unsafeStringP, appendT, appendS, appendP, copyP, srcP, mmsP, mmP, indexOp, indexAddrOp, sliceOp, bndsP, bndP, capw, capCut, loadOp, storeOp, loadP, fieldOp, fieldAddrOp, arrayAtOp, buildP, buildSliceP, makeSliceP, placeF, fillP, setL, PK.agg, isZero, gt_iff_lt, Nat.reducePow, Nat.reduceGT, reps, seg, wkN, if_pos, if_neg, tf3, Tryz.ze3, tf9, Tryz.ze9, tf22, Tryz.ze22, tf124, Tryz.ze124, tf127, Tryz.ze127, tf128, Tryz.ze128, hel, hek, hset, hse, htk]
        refine w_inl ([]) Tryz.func61 rfl rfl (by decide) fun _ hI => ?_
        simp only [start, List.length_cons, List.length_nil, List.cons_append, List.nil_append, Nat.reduceAdd, Nat.reduceSub, List.replicate_succ, List.replicate_zero, Tryz.ntmps61]
        repeat' first | simp -implicitDefEqProofs (maxSteps := 400000) (disch := first | with_reducible rfl | omega | (simp only [wkH] <;> omega) | decide) only [wkAll, wkL, popO, wantedP, if_true, if_false, reduceIte, ne_eq, Nat.reduceAdd, Nat.reduceSub, Nat.reduceMul, Nat.reduceLeDiff, Nat.reduceLT, ofCells, ofCell, reduceCtorEq, Int.reduceLE, Int.reduceLT, Int.reduceToNat, Int.reduceAdd, Int.reduceSub, Int.reduceMul, Int.reduceNeg, Int.reduceBEq, Int.reduceBNe, Int.reduceEq, eqCell, eqCells, binP, unP, convP, lenP, builtinP, sliceDataP, unsafeStringP, appendT, appendS, appendP, copyP, srcP, mmsP, mmP, indexOp, indexAddrOp, sliceOp, bndsP, bndP, capw, capCut, loadOp, storeOp, loadP, fieldOp, fieldAddrOp, arrayAtOp, buildP, buildSliceP, makeSliceP, placeF, fillP, setL, PK.agg, isZero, gt_iff_lt, Nat.reducePow, Nat.reduceGT, reps, seg, wkN, if_pos, if_neg, tf22, Tryz.ze22, tf124, Tryz.ze124, hel, hek, hset, hse, htk, e0, e1, xor64] | refine w_pure (te) ?_
        refine hI (by first | exact .inr rfl | exact .inl rfl) trivial (by first | (simp -implicitDefEqProofs (maxSteps := 400000) (disch := first | with_reducible rfl | omega | (simp only [wkH] <;> omega) | decide) only [wkAll, wkL, popO, wantedP, if_true, if_false, reduceIte, ne_eq, Nat.reduceAdd, Nat.reduceSub, Nat.reduceMul, Nat.reduceLeDiff, Nat.reduceLT, ofCells, ofCell, reduceCtorEq, Int.reduceLE, Int.reduceLT, Int.reduceToNat, Int.reduceAdd, Int.reduceSub, Int.reduceMul, Int.reduceNeg, Int.reduceBEq, Int.reduceBNe, Int.reduceEq, eqCell, eqCells, loadOp, storeOp, loadP, setL, PK.agg, isZero, gt_iff_lt, Nat.reducePow, Nat.reduceGT, reps, seg, wkN, if_pos, if_neg, tf22, Tryz.ze22, tf124, Tryz.ze124, resP, resPs, resP1]; rfl) | rfl) ?_
        repeat' first | simp -implicitDefEqProofs (maxSteps := 400000) (disch := first | with_reducible rfl | omega | (simp only [wkH] <;> omega) | decide) only [wkAll, wkL, popO, wantedP, if_true, if_false, reduceIte, ne_eq, Nat.reduceAdd, Nat.reduceSub, Nat.reduceMul, Nat.reduceLeDiff, Nat.reduceLT, ofCells, ofCell, reduceCtorEq, Int.reduceLE, Int.reduceLT, Int.reduceToNat, Int.reduceAdd, Int.reduceSub, Int.reduceMul, Int.reduceNeg, Int.reduceBEq, Int.reduceBNe, Int.reduceEq, eqCell, eqCells, binP, unP, convP, lenP, builtinP, sliceDataP, unsafeStringP, appendT, appendS, appendP, copyP, srcP, mmsP, mmP, indexOp, indexAddrOp, sliceOp, bndsP, bndP, capw, capCut, loadOp, storeOp, loadP, fieldOp, fieldAddrOp, arrayAtOp, buildP, buildSliceP, makeSliceP, placeF, fillP, setL, PK.agg, isZero, gt_iff_lt, Nat.reducePow, Nat.reduceGT, reps, seg, wkN, if_pos, if_neg, tf3, Tryz.ze3, tf9, Tryz.ze9, tf22, Tryz.ze22, tf124, Tryz.ze124, tf127, Tryz.ze127, tf128, Tryz.ze128]
        refine ⟨_, by rw [h_ob]; exact up_same, ?_⟩
        repeat' first | simp -implicitDefEqProofs (maxSteps := 400000) (disch := first | with_reducible rfl | omega | (simp only [wkH] <;> omega) | decide) only [wkAll, wkL, popO, wantedP, if_true, if_false, reduceIte, ne_eq, Nat.reduceAdd, Nat.reduceSub, Nat.reduceMul, Nat.reduceLeDiff, Nat.reduceLT, ofCells, ofCell, reduceCtorEq, Int.reduceLE, Int.reduceLT, Int.reduceToNat, Int.reduceAdd, Int.reduceSub, Int.reduceMul, Int.reduceNeg, Int.reduceBEq, Int.reduceBNe, Int.reduceEq, eqCell, eqCells, binP, unP, convP, lenP, builtinP, sliceDataP, unsafeStringP, appendT, appendS, appendP, copyP, srcP, mmsP, mmP, indexOp, indexAddrOp, sliceOp, bndsP, bndP, capw, capCut, loadOp, storeOp, loadP, fieldOp, fieldAddrOp, arrayAtOp, buildP, buildSliceP, makeSliceP, placeF, fillP, setL, PK.agg, isZero, gt_iff_lt, Nat.reducePow, Nat.reduceGT, reps, seg, wkN, if_pos, if_neg, tf3, Tryz.ze3, tf4, Tryz.ze4, tf9, Tryz.ze9, tf22, Tryz.ze22, tf124, Tryz.ze124, pl74_2Gc2] | refine w_drawnF (id := 2) tb74_2Gc2 pl74_2Gc2 17 (by kernel_rfl) (by kernel_rfl) (by simp) ?_
        refine hK2 (i + 1) _ _ (by omega) (by omega) (.cut [_, _] hW (by simp [FadeTo]) (by rw [hnx, hdd]; rfl) (by simp [scs_cons, scs_nil, sc_ptr, sc_fsl, sc_gsl, sc_sl, sc_agg, sc_func, sc_int, sc_bool, sc_str, sc_undef, sc_nilptr, sc_nilsl, sc_yield, sc_tuple, sc_fptr, scs_bytes, scs_append]) (by simp [scs_cons, scs_nil, sc_ptr, sc_fsl, sc_gsl, sc_sl, sc_agg, sc_func, sc_int, sc_bool, sc_str, sc_undef, sc_nilptr, sc_nilsl, sc_yield, sc_tuple, sc_fptr, scs_bytes, scs_append, scs_el, hCsc]) (h3 := .inr (obsc_up (obsc_up (obscD hW (by omega) rs) trivial) (by show Scs _ _; simp [mkLoop, scs_cons, scs_nil, sc_ptr, sc_fsl, sc_gsl, sc_sl, sc_agg, sc_func, sc_int, sc_bool, sc_str, sc_undef, sc_nilptr, sc_nilsl, sc_yield, sc_tuple, sc_fptr, scs_bytes, scs_append]))))
      · have hie : i = nb t.length := by omega
        subst hie
        have hdn : t.drop (16 * nb t.length) = [] := List.drop_eq_nil_of_le (by rw [nb]; omega)
        rw [hdn, ← hx1]
        repeat' first | simp -implicitDefEqProofs (maxSteps := 400000) (disch := first | with_reducible rfl | omega | (simp only [wkH] <;> omega) | decide) only [wkAll, wkL, popO, wantedP, if_true, if_false, reduceIte, ne_eq, Nat.reduceAdd, Nat.reduceSub, Nat.reduceMul, Nat.reduceLeDiff, Nat.reduceLT, ofCells, ofCell, reduceCtorEq, Int.reduceLE, Int.reduceLT, Int.reduceToNat, Int.reduceAdd, Int.reduceSub, Int.reduceMul, Int.reduceNeg, Int.reduceBEq, Int.reduceBNe, Int.reduceEq, eqCell, eqCells, binP, unP, convP, lenP, builtinP, sliceDataP, unsafeStringP, appendT, appendS, appendP, copyP, srcP, mmsP, mmP, indexOp, indexAddrOp, sliceOp, bndsP, bndP, capw, capCut, loadOp, storeOp, loadP, fieldOp, fieldAddrOp, arrayAtOp, buildP, buildSliceP, makeSliceP, placeF, fillP, setL, PK.agg, isZero, gt_iff_lt, Nat.reducePow, Nat.reduceGT, reps, seg, wkN, if_pos, if_neg, tf3, Tryz.ze3, tf4, Tryz.ze4, tf9, Tryz.ze9, tf22, Tryz.ze22, tf124, Tryz.ze124, pl74_2Gc2] | refine w_drawnF (id := 2) tb74_2Gc2 pl74_2Gc2 17 (by kernel_rfl) (by kernel_rfl) (by simp) ?_
        refine hQ' (by first | exact .inr rfl | exact .inl rfl) trivial (by first | (simp -implicitDefEqProofs (maxSteps := 400000) (disch := first | with_reducible rfl | omega | (simp only [wkH] <;> omega) | decide) only [wkAll, wkL, popO, wantedP, if_true, if_false, reduceIte, ne_eq, Nat.reduceAdd, Nat.reduceSub, Nat.reduceMul, Nat.reduceLeDiff, Nat.reduceLT, ofCells, ofCell, reduceCtorEq, Int.reduceLE, Int.reduceLT, Int.reduceToNat, Int.reduceAdd, Int.reduceSub, Int.reduceMul, Int.reduceNeg, Int.reduceBEq, Int.reduceBNe, Int.reduceEq, eqCell, eqCells, loadOp, storeOp, loadP, setL, PK.agg, isZero, gt_iff_lt, Nat.reducePow, Nat.reduceGT, reps, seg, wkN, if_pos, if_neg, tf3, Tryz.ze3, tf4, Tryz.ze4, tf9, Tryz.ze9, tf22, Tryz.ze22, tf124, Tryz.ze124, pl74_2Gc2, resP, resPs, resP1]; rfl) | rfl) (re_normal (by rw [h_shut0, h_ob]; exact up_same) rfl rfl ?_)
        repeat' first | simp -implicitDefEqProofs (maxSteps := 400000) (disch := first | with_reducible rfl | omega | (simp only [wkH] <;> omega) | decide) only [wkAll, wkL, popO, wantedP, if_true, if_false, reduceIte, ne_eq, Nat.reduceAdd, Nat.reduceSub, Nat.reduceMul, Nat.reduceLeDiff, Nat.reduceLT, ofCells, ofCell, reduceCtorEq, Int.reduceLE, Int.reduceLT, Int.reduceToNat, Int.reduceAdd, Int.reduceSub, Int.reduceMul, Int.reduceNeg, Int.reduceBEq, Int.reduceBNe, Int.reduceEq, eqCell, eqCells, binP, unP, convP, lenP, builtinP, sliceDataP, unsafeStringP, appendT, appendS, appendP, copyP, srcP, mmsP, mmP, indexOp, indexAddrOp, sliceOp, bndsP, bndP, capw, capCut, loadOp, storeOp, loadP, fieldOp, fieldAddrOp, arrayAtOp, buildP, buildSliceP, makeSliceP, placeF, fillP, setL, PK.agg, isZero, gt_iff_lt, Nat.reducePow, Nat.reduceGT, reps, seg, wkN, if_pos, if_neg, tf3, Tryz.ze3, tf9, Tryz.ze9, tf22, Tryz.ze22, tf124, Tryz.ze124, tf127, Tryz.ze127, tf128, Tryz.ze128, up_none2 hl' hne]
        refine hK (j + 1, r :: rs) _ _ ⟨by show j + 1 ≤ 2; omega, hr', hfr⟩ (by show 2 - (j + 1) < 2 - j; omega) (.cut [_] hW (by simp [FadeTo]) rfl (by simp [scs_cons, scs_nil, sc_ptr, sc_fsl, sc_gsl, sc_sl, sc_agg, sc_func, sc_int, sc_bool, sc_str, sc_undef, sc_nilptr, sc_nilsl, sc_yield, sc_tuple, sc_fptr, scs_bytes, scs_append]) (by simp [scs_cons, scs_nil, sc_ptr, sc_fsl, sc_gsl, sc_sl, sc_agg, sc_func, sc_int, sc_bool, sc_str, sc_undef, sc_nilptr, sc_nilsl, sc_yield, sc_tuple, sc_fptr, scs_bytes, scs_append, scs_el, hCsc]) (h3 := .inr (obscD hW (by omega) (r :: rs))))
    · 
      have hje : j = 2 := by omega
      subst hje
      have hge' : ¬ ((2 : Nat) : Int) < 2 := by omega
      have c1 : IntKind.wrap .u64 (8 * (ad.length : Int)) = ((8 * UInt64.ofNat ad.length).toNat : Int) := len8_64 _ had
      have c2 : IntKind.wrap .u64 (8 * (s.length : Int)) = ((8 * UInt64.ofNat s.length).toNat : Int) := len8_64 _ hs
      have c3 : IntKind.wrap .u64 (ad.length : Int) = ad.length := IntWalk.u64_in _ (by omega)
      have c4 : IntKind.wrap .u64 (s.length : Int) = s.length := IntWalk.u64_in _ (by omega)
      have e0 : ∀ e : El, (elC e)[0]? = some (.int .u64 (e.hi.toNat : Int)) := fun _ => rfl
      have e1 : ∀ e : El, (elC e)[1]? = some (.int .u64 (e.lo.toNat : Int)) := fun _ => rfl
      have te := timesE_ok (w0 := w0) (El.xor (xHs key T 2) (lenE ad.length s.length)) key
      have tx := text_ok (w0 := w0) (El.mul (El.xor (xHs key T 2) (lenE ad.length s.length)) key)
      have hst : hstep key (xHs key T 2) (lenE ad.length s.length) = El.mul (El.xor (xHs key T 2) (lenE ad.length s.length)) key := rfl
      rw [hst] at hQ
      generalize hX : xHs key T 2 = X at *
      repeat' first | simp -implicitDefEqProofs (maxSteps := 400000) (disch := first | with_reducible rfl | omega | (simp only [wkH] <;> omega) | decide) only [wkAll, wkL, popO, wantedP, if_true, if_false, reduceIte, ne_eq, Nat.reduceAdd, Nat.reduceSub, Nat.reduceMul, Nat.reduceLeDiff, Nat.reduceLT, ofCells, ofCell, reduceCtorEq, Int.reduceLE, Int.reduceLT, Int.reduceToNat, Int.reduceAdd, Int.reduceSub, Int.reduceMul, Int.reduceNeg, Int.reduceBEq, Int.reduceBNe, Int.reduceEq, eqCell, eqCells, binP, unP, convP, lenP, builtinP, sliceDataP, unsafeStringP, appendT, appendS, appendP, copyP, srcP, mmsP, mmP, indexOp, indexAddrOp, sliceOp, bndsP, bndP, capw, capCut, loadOp, storeOp, loadP, fieldOp, fieldAddrOp, arrayAtOp, buildP, buildSliceP, makeSliceP, placeF, fillP, setL, PK.agg, isZero, gt_iff_lt, Nat.reducePow, Nat.reduceGT, reps, seg, wkN, if_pos, if_neg, tf3, Tryz.ze3, tf9, Tryz.ze9, tf22, Tryz.ze22, tf124, Tryz.ze124, tf127, Tryz.ze127, tf128, Tryz.ze128, hge', c1, c2, c3, c4]
      refine w_inl ([]) Tryz.func61 rfl rfl (by decide) fun _ hI => ?_
      simp only [start, List.length_cons, List.length_nil, List.cons_append, List.nil_append, Nat.reduceAdd, Nat.reduceSub, List.replicate_succ, List.replicate_zero, Tryz.ntmps61]
      repeat' first | simp -implicitDefEqProofs (maxSteps := 400000) (disch := first | with_reducible rfl | omega | (simp only [wkH] <;> omega) | decide) only [wkAll, wkL, popO, wantedP, if_true, if_false, reduceIte, ne_eq, Nat.reduceAdd, Nat.reduceSub, Nat.reduceMul, Nat.reduceLeDiff, Nat.reduceLT, ofCells, ofCell, reduceCtorEq, Int.reduceLE, Int.reduceLT, Int.reduceToNat, Int.reduceAdd, Int.reduceSub, Int.reduceMul, Int.reduceNeg, Int.reduceBEq, Int.reduceBNe, Int.reduceEq, eqCell, eqCells, binP, unP, convP, lenP, builtinP, sliceDataP, unsafeStringP, appendT, appendS, appendP, copyP, srcP, mmsP, mmP, indexOp, indexAddrOp, sliceOp, bndsP, bndP, capw, capCut, loadOp, storeOp, loadP, fieldOp, fieldAddrOp, arrayAtOp, buildP, buildSliceP, makeSliceP, placeF, fillP, setL, PK.agg, isZero, gt_iff_lt, Nat.reducePow, Nat.reduceGT, reps, seg, wkN, if_pos, if_neg, tf22, Tryz.ze22, tf124, Tryz.ze124, hel, hek, hset, hse, htk, e0, e1, xor64] | refine w_pure (te) ?_
      refine hI (by first | exact .inr rfl | exact .inl rfl) trivial (by first | (simp -implicitDefEqProofs (maxSteps := 400000) (disch := first | with_reducible rfl | omega | (simp only [wkH] <;> omega) | decide) only [wkAll, wkL, popO, wantedP, if_true, if_false, reduceIte, ne_eq, Nat.reduceAdd, Nat.reduceSub, Nat.reduceMul, Nat.reduceLeDiff, Nat.reduceLT, ofCells, ofCell, reduceCtorEq, Int.reduceLE, Int.reduceLT, Int.reduceToNat, Int.reduceAdd, Int.reduceSub, Int.reduceMul, Int.reduceNeg, Int.reduceBEq, Int.reduceBNe, Int.reduceEq, eqCell, eqCells, loadOp, storeOp, loadP, setL, PK.agg, isZero, gt_iff_lt, Nat.reducePow, Nat.reduceGT, reps, seg, wkN, if_pos, if_neg, tf22, Tryz.ze22, tf124, Tryz.ze124, resP, resPs, resP1]; rfl) | rfl) ?_
      repeat' first | simp -implicitDefEqProofs (maxSteps := 400000) (disch := first | with_reducible rfl | omega | (simp only [wkH] <;> omega) | decide) only [wkAll, wkL, popO, wantedP, if_true, if_false, reduceIte, ne_eq, Nat.reduceAdd, Nat.reduceSub, Nat.reduceMul, Nat.reduceLeDiff, Nat.reduceLT, ofCells, ofCell, reduceCtorEq, Int.reduceLE, Int.reduceLT, Int.reduceToNat, Int.reduceAdd, Int.reduceSub, Int.reduceMul, Int.reduceNeg, Int.reduceBEq, Int.reduceBNe, Int.reduceEq, eqCell, eqCells, binP, unP, convP, lenP, builtinP, sliceDataP, unsafeStringP, appendT, appendS, appendP, copyP, srcP, mmsP, mmP, indexOp, indexAddrOp, sliceOp, bndsP, bndP, capw, capCut, loadOp, storeOp, loadP, fieldOp, fieldAddrOp, arrayAtOp, buildP, buildSliceP, makeSliceP, placeF, fillP, setL, PK.agg, isZero, gt_iff_lt, Nat.reducePow, Nat.reduceGT, reps, seg, wkN, if_pos, if_neg, tf3, Tryz.ze3, tf9, Tryz.ze9, tf22, Tryz.ze22, tf124, Tryz.ze124, tf127, Tryz.ze127, tf128, Tryz.ze128, hset, hse, hel, hek, htk] | refine w_pure (tx) ?_
      refine hQ (.inr rfl) (marksD hfr) (by rw [shutD hfr]; first | (simp -implicitDefEqProofs (maxSteps := 400000) (disch := first | with_reducible rfl | omega | (simp only [wkH] <;> omega) | decide) only [wkAll, wkL, popO, wantedP, if_true, if_false, reduceIte, ne_eq, Nat.reduceAdd, Nat.reduceSub, Nat.reduceMul, Nat.reduceLeDiff, Nat.reduceLT, ofCells, ofCell, reduceCtorEq, Int.reduceLE, Int.reduceLT, Int.reduceToNat, Int.reduceAdd, Int.reduceSub, Int.reduceMul, Int.reduceNeg, Int.reduceBEq, Int.reduceBNe, Int.reduceEq, eqCell, eqCells, binP, unP, convP, lenP, builtinP, sliceDataP, unsafeStringP, appendT, appendS, appendP, copyP, srcP, mmsP, mmP, indexOp, indexAddrOp, sliceOp, bndsP, bndP, capw, capCut, loadOp, storeOp, loadP, fieldOp, fieldAddrOp, arrayAtOp, buildP, buildSliceP, makeSliceP, placeF, fillP, setL, PK.agg, isZero, gt_iff_lt, Nat.reducePow, Nat.reduceGT, reps, seg, wkN, if_pos, if_neg, tf3, Tryz.ze3, tf9, Tryz.ze9, tf22, Tryz.ze22, tf124, Tryz.ze124, tf127, Tryz.ze127, tf128, Tryz.ze128, resP, resPs, resP1]; rfl) | rfl) ⟨6, by repeat' first | exact frz_scalar rfl | apply frz_tuple | exact frzs_nil | apply frzs_cons⟩ (by rw [shutD hfr]; exact keepsH0) (nw_eq ?_)
      rfl
  · 
    have qa := ne16_t hh
    rw [show ghashR g ad s = ([], 10) from if_neg hh]
    refine fn_H ([Go.ResultVar.tmp 6, Go.ResultVar.tmp 7]) Tryz.func50 rfl rfl (by decide) fun ph hW Q hQ => ?_
    simp only [start, List.length_cons, List.length_nil, List.cons_append, List.nil_append, Nat.reduceAdd, Nat.reduceSub, List.replicate_succ, List.replicate_zero, Tryz.ntmps50]
    repeat' first | simp -implicitDefEqProofs (maxSteps := 400000) (disch := first | with_reducible rfl | omega | (simp only [wkH] <;> omega) | decide) only [wkAll, wkL, popO, wantedP, if_true, if_false, reduceIte, ne_eq, Nat.reduceAdd, Nat.reduceSub, Nat.reduceMul, Nat.reduceLeDiff, Nat.reduceLT, ofCells, ofCell, reduceCtorEq, Int.reduceLE, Int.reduceLT, Int.reduceToNat, Int.reduceAdd, Int.reduceSub, Int.reduceMul, Int.reduceNeg, Int.reduceBEq, Int.reduceBNe, Int.reduceEq, eqCell, eqCells, binP, unP, convP, lenP, builtinP, sliceDataP, unsafeStringP, appendT, appendS, appendP, copyP, srcP, mmsP, mmP, indexOp, indexAddrOp, sliceOp, bndsP, bndP, capw, capCut, loadOp, storeOp, loadP, fieldOp, fieldAddrOp, arrayAtOp, buildP, buildSliceP, makeSliceP, placeF, fillP, setL, PK.agg, isZero, gt_iff_lt, Nat.reducePow, Nat.reduceGT, reps, seg, wkN, if_pos, if_neg, tf3, Tryz.ze3, tf9, Tryz.ze9, tf22, Tryz.ze22, tf124, Tryz.ze124, tf127, Tryz.ze127, tf128, Tryz.ze128, qa]
    refine hQ (by first | exact .inr rfl | exact .inl rfl) (by first | exact trivial | exact marks1) (by first | (simp -implicitDefEqProofs (maxSteps := 400000) (disch := first | with_reducible rfl | omega | (simp only [wkH] <;> omega) | decide) only [wkAll, wkL, popO, wantedP, if_true, if_false, reduceIte, ne_eq, Nat.reduceAdd, Nat.reduceSub, Nat.reduceMul, Nat.reduceLeDiff, Nat.reduceLT, ofCells, ofCell, reduceCtorEq, Int.reduceLE, Int.reduceLT, Int.reduceToNat, Int.reduceAdd, Int.reduceSub, Int.reduceMul, Int.reduceNeg, Int.reduceBEq, Int.reduceBNe, Int.reduceEq, eqCell, eqCells, loadOp, storeOp, loadP, setL, PK.agg, isZero, gt_iff_lt, Nat.reducePow, Nat.reduceGT, reps, seg, wkN, if_pos, if_neg, tf3, Tryz.ze3, tf9, Tryz.ze9, tf22, Tryz.ze22, tf124, Tryz.ze124, tf127, Tryz.ze127, tf128, Tryz.ze128, resP, resPs, resP1]; rfl) | rfl) ⟨6, by repeat' first | exact frz_scalar rfl | apply frz_tuple | apply frz_agg | apply frz_fsl | apply frz_gsl (by omega) | exact frzs_nil | apply frzs_cons⟩ (by first | exact keepsH0 | exact keeps1 (by assumption)) (nw_eq ?_)
    rfl
end Pv
