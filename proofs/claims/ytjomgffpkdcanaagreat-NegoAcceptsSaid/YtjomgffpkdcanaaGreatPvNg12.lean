/- Part of the proof: the layer of pure values, or walks through functions (PvNg12, PvNg13, PvH3, PvH7). -/
import Derived.Test.YtjomgffpkdcanaaGreatPvNg9
import Derived.Test.YtjomgffpkdcanaaGreatPvSha6
set_option linter.all false
--nosplit
--keep2
namespace Pv
set_option maxRecDepth 20000
set_option maxHeartbeats 4000000
open Go Go.Proofs Go.RowKit
variable {w0 : World}

/-- Is it a server's name? -/
def hostL (s : List UInt8) : Bool := !decide (s = []) && decide (s.length ≤ 64) && s.all okB
theorem negoHost_ok (s : List UInt8) : Fn (Cx w0) 21 [.str s] (.bool (hostL s)) := by
  have ti := idxH_ok (w0 := w0) s
  have tl := idxH_lt s
  by_cases h1 : s = []
  · have c1 := strEqT h1
    rw [show hostL s = false by rw [hostL, decide_eq_true h1]; rfl]
    refine fn_H ([Go.ResultVar.tmp 2]) Tryz.func21 rfl rfl (by decide) fun ph hW Q hQ => ?_
    simp only [start, List.length_cons, List.length_nil, List.cons_append, List.nil_append, Nat.reduceAdd, Nat.reduceSub, List.replicate_succ, List.replicate_zero, Tryz.ntmps21]
    repeat' first | simp -implicitDefEqProofs (maxSteps := 400000) (disch := first | with_reducible rfl | omega | (simp only [wkH] <;> omega) | decide) only [wkAll, wkL, popO, wantedP, binP, if_neg, c1]
    refine hQ (by first | exact .inr rfl | exact .inl rfl) (by first | exact trivial | exact marks1) (by first | (simp -implicitDefEqProofs (maxSteps := 400000) (disch := first | with_reducible rfl | omega | (simp only [wkH] <;> omega) | decide) only [wkL, resP, resPs, resP1]; rfl) | rfl) ⟨6, by repeat' first | exact frz_scalar rfl | apply frz_tuple | apply frz_agg | apply frz_fsl | apply frz_gsl (by omega) | exact frzs_nil | apply frzs_cons⟩ (by first | exact keepsH0 | exact keeps1 (by assumption)) (nw_eq ?_)
    rfl
  · have c1 := strEqF h1
    by_cases h2 : s.length ≤ 64
    · have c2 : (s.length : Int) ≤ 64 := by omega
      rw [show hostL s = s.all okB by rw [hostL, decide_eq_false h1, decide_eq_true h2]; rfl]
      rw [← tl]
      refine fn_H ([Go.ResultVar.tmp 2]) Tryz.func21 rfl rfl (by decide) fun ph hW Q hQ => ?_
      simp only [start, List.length_cons, List.length_nil, List.cons_append, List.nil_append, Nat.reduceAdd, Nat.reduceSub, List.replicate_succ, List.replicate_zero, Tryz.ntmps21]
      repeat' first | simp -implicitDefEqProofs (maxSteps := 400000) (disch := first | with_reducible rfl | omega | (simp only [wkH] <;> omega) | decide) only [wkAll, wkL, popO, wantedP, binP, lenP, builtinP, if_pos, tf9, c1, c2] | refine w_pure (ti) ?_
      refine hQ (by first | exact .inr rfl | exact .inl rfl) (by first | exact trivial | exact marks1) (by first | (simp -implicitDefEqProofs (maxSteps := 400000) (disch := first | with_reducible rfl | omega | (simp only [wkH] <;> omega) | decide) only [wkL, resP, resPs, resP1]; rfl) | rfl) ⟨6, by repeat' first | exact frz_scalar rfl | apply frz_tuple | apply frz_agg | apply frz_fsl | apply frz_gsl (by omega) | exact frzs_nil | apply frzs_cons⟩ (by first | exact keepsH0 | exact keeps1 (by assumption)) (nw_eq ?_)
      rfl
    · have c2 : ¬ (s.length : Int) ≤ 64 := by omega
      rw [show hostL s = false by rw [hostL, decide_eq_false h2]; simp]
      refine fn_H ([Go.ResultVar.tmp 2]) Tryz.func21 rfl rfl (by decide) fun ph hW Q hQ => ?_
      simp only [start, List.length_cons, List.length_nil, List.cons_append, List.nil_append, Nat.reduceAdd, Nat.reduceSub, List.replicate_succ, List.replicate_zero, Tryz.ntmps21]
      repeat' first | simp -implicitDefEqProofs (maxSteps := 400000) (disch := first | with_reducible rfl | omega | (simp only [wkH] <;> omega) | decide) only [wkAll, wkL, popO, wantedP, binP, lenP, builtinP, if_pos, if_neg, tf9, c1, c2]
      refine hQ (by first | exact .inr rfl | exact .inl rfl) (by first | exact trivial | exact marks1) (by first | (simp -implicitDefEqProofs (maxSteps := 400000) (disch := first | with_reducible rfl | omega | (simp only [wkH] <;> omega) | decide) only [wkL, resP, resPs, resP1]; rfl) | rfl) ⟨6, by repeat' first | exact frz_scalar rfl | apply frz_tuple | apply frz_agg | apply frz_fsl | apply frz_gsl (by omega) | exact frzs_nil | apply frzs_cons⟩ (by first | exact keepsH0 | exact keeps1 (by assumption)) (nw_eq ?_)
      rfl
/-- A server and a port, if they are told. -/
def portL (l : List KR) (h : List UInt8) : List UInt8 × Int × Int := match findL l 7 with
  | [] => (h, 0, 0)
  | _ :: _ => (h, (singL l 7).1, if (singL l 7).2 && portB (singL l 7).1 then 0 else 13)
def whereL (l : List KR) : List UInt8 × Int × Int :=
  if 1 < (findL l 6).length ∨ 1 < (findL l 7).length then ([], 0, 24)
  else match findL l 6 with
    | [] => portL l []
    | r :: _ => if hostL r.b = false then (r.b, 0, 20) else portL l r.b
theorem negoWhere_ok (ph : PH) (p : Nat) (a : Int) (cs : PV) (l : List KR) (hp : ph.get p = some [.int .i64 a, cs, .str [], .int .i64 0]) (hcs : Scs ph.n [cs]) (hck : cellOk cs = true) (hl : l.length < 2 ^ 40) (hb : ∀ r ∈ l, r.b.length < 2 ^ 50) :
    Eff (Cx w0) 46 [.ptr p 0, .fsl 3 l.length (krsC l)] ph (.int .i64 (whereL l).2.2) (ph.put p [.int .i64 a, cs, .str (whereL l).1, .int .i64 (whereL l).2.1]) := by
  have hpl := PH.get_lt hp
  have t6 := keFind_ok (w0 := w0) l 6 hl
  have t7 := keFind_ok (w0 := w0) l 7 hl
  have ts := negoSingle_ok (w0 := w0) l 7 hl hb
  have hsc : ∀ (x : List UInt8) (n : Int), Scs ph.n [PV.int .i64 a, cs, .str x, .int .i64 n] := fun x n => ⟨trivial, hcs.1, trivial, trivial, trivial⟩
  have hpl2 : ∀ C, p < (ph.put p C).n := fun C => by rw [PH.n_put]; exact hpl
  have g2 : ∀ C l ob ty, (H (ph.put p C) l ob ty).get p = some C := fun C l ob ty => by rw [h_getlt (hpl2 C), PH.get_put hpl, if_pos rfl]
  have u2 : ∀ C D l ob ty, (H (ph.put p C) l ob ty).put p D = H (ph.put p D) l ob ty := fun C D l ob ty => by rw [h_putlt (hpl2 C), put_put]
  by_cases c1 : 1 < (findL l 6).length ∨ 1 < (findL l 7).length
  · rw [show whereL l = ([], 0, 24) by rw [whereL, if_pos c1]]
    have hps : ph.put p [.int .i64 a, cs, .str [], .int .i64 0] = ph := put_self hp
    rw [hps]
    by_cases c2 : 1 < (findL l 6).length
    · have c2' : (1 : Int) < ((findL l 6).length : Int) := by omega
      refine eff_of ([Go.ResultVar.tmp 4]) Tryz.func46 rfl rfl (by decide) rfl (fun h => h) fun hW Q hQ => ?_
      simp only [start, List.length_cons, List.length_nil, List.cons_append, List.nil_append, Nat.reduceAdd, Nat.reduceSub, List.replicate_succ, List.replicate_zero, Tryz.ntmps46]
      repeat' first | simp -implicitDefEqProofs (maxSteps := 400000) (disch := first | with_reducible rfl | omega | (simp only [wkH] <;> omega) | decide) only [wkAll, wkL, popO, wantedP, binP, lenP, builtinP, gt_iff_lt, if_pos, tf26, c2', gt_iff_lt] | refine w_pure (t6) ?_ | refine w_pure (t7) ?_
      refine hQ (by first | exact .inr rfl | exact .inl rfl) (by first | exact trivial | exact marks1) (by first | (simp -implicitDefEqProofs (maxSteps := 400000) (disch := first | with_reducible rfl | omega | (simp only [wkH] <;> omega) | decide) only [wkL, resP, resPs, resP1]; rfl) | rfl) ⟨6, by repeat' first | exact frz_scalar rfl | apply frz_tuple | apply frz_agg | apply frz_fsl | apply frz_gsl (by omega) | exact frzs_nil | apply frzs_cons⟩ (by first | exact keepsH0 | exact keeps1 (by assumption)) (nw_eq ?_)
      rfl
    · have c2' : ¬ (1 : Int) < ((findL l 6).length : Int) := by omega
      have c3' : (1 : Int) < ((findL l 7).length : Int) := by omega
      refine eff_of ([Go.ResultVar.tmp 4]) Tryz.func46 rfl rfl (by decide) rfl (fun h => h) fun hW Q hQ => ?_
      simp only [start, List.length_cons, List.length_nil, List.cons_append, List.nil_append, Nat.reduceAdd, Nat.reduceSub, List.replicate_succ, List.replicate_zero, Tryz.ntmps46]
      repeat' first | simp -implicitDefEqProofs (maxSteps := 400000) (disch := first | with_reducible rfl | omega | (simp only [wkH] <;> omega) | decide) only [wkAll, wkL, popO, wantedP, binP, lenP, builtinP, gt_iff_lt, if_pos, if_neg, tf26, c2', c3', gt_iff_lt] | refine w_pure (t6) ?_ | refine w_pure (t7) ?_
      refine hQ (by first | exact .inr rfl | exact .inl rfl) (by first | exact trivial | exact marks1) (by first | (simp -implicitDefEqProofs (maxSteps := 400000) (disch := first | with_reducible rfl | omega | (simp only [wkH] <;> omega) | decide) only [wkL, resP, resPs, resP1]; rfl) | rfl) ⟨6, by repeat' first | exact frz_scalar rfl | apply frz_tuple | apply frz_agg | apply frz_fsl | apply frz_gsl (by omega) | exact frzs_nil | apply frzs_cons⟩ (by first | exact keepsH0 | exact keeps1 (by assumption)) (nw_eq ?_)
      rfl
  · have c3 : ¬ (1 : Int) < ((findL l 7).length : Int) := by omega
    have hpp : ∀ h : List UInt8, portL l h = (h, 0, 0) ∧ findL l 7 = [] ∨ portL l h = (h, (singL l 7).1, if (singL l 7).2 && portB (singL l 7).1 then 0 else 13) ∧ ∃ r, findL l 7 = [r] := by
      intro h
      unfold portL
      rcases hx : findL l 7 with _ | ⟨r, _ | ⟨r2, t⟩⟩
      · exact .inl ⟨rfl, rfl⟩
      · exact .inr ⟨rfl, r, rfl⟩
      · rw [hx] at c3; simp at c3; omega
    have tp := negoPort_ok (w0 := w0) (singL l 7).1
    rcases hx : findL l 6 with _ | ⟨r, _ | ⟨r2, t⟩⟩
    · rw [show whereL l = portL l [] by rw [whereL, if_neg c1, hx]]
      rw [hx] at t6
      rcases hpp [] with ⟨h1, h2⟩ | ⟨h1, r, h2⟩
      · rw [h1]
        rw [h2] at t7
        have hps : ph.put p [.int .i64 a, cs, .str [], .int .i64 0] = ph := put_self hp
        rw [hps]
        refine eff_of ([Go.ResultVar.tmp 4]) Tryz.func46 rfl rfl (by decide) rfl (fun h => h) fun hW Q hQ => ?_
        simp only [start, List.length_cons, List.length_nil, List.cons_append, List.nil_append, Nat.reduceAdd, Nat.reduceSub, List.replicate_succ, List.replicate_zero, Tryz.ntmps46]
        repeat' first | simp -implicitDefEqProofs (maxSteps := 400000) (disch := first | with_reducible rfl | omega | (simp only [wkH] <;> omega) | decide) only [wkAll, wkL, popO, wantedP, Int.reduceLT, Int.reduceBEq, binP, lenP, builtinP, gt_iff_lt, wkN, if_pos, if_neg, tf26] | refine w_pure (t6) ?_ | refine w_pure (t7) ?_
        refine hQ (by first | exact .inr rfl | exact .inl rfl) (by first | exact trivial | exact marks1) (by first | (simp -implicitDefEqProofs (maxSteps := 400000) (disch := first | with_reducible rfl | omega | (simp only [wkH] <;> omega) | decide) only [wkL, resP, resPs, resP1]; rfl) | rfl) ⟨6, by repeat' first | exact frz_scalar rfl | apply frz_tuple | apply frz_agg | apply frz_fsl | apply frz_gsl (by omega) | exact frzs_nil | apply frzs_cons⟩ (by first | exact keepsH0 | exact keeps1 (by assumption)) (nw_eq ?_)
        rfl
      · rw [h1]
        rw [h2] at t7
        generalize singL l 7 = n at *
        refine eff_of ([Go.ResultVar.tmp 4]) Tryz.func46 rfl rfl (by decide) (PH.n_put ..) (fun hW => hW.put hpl (hsc _ _)) fun hW Q hQ => ?_
        simp only [start, List.length_cons, List.length_nil, List.cons_append, List.nil_append, Nat.reduceAdd, Nat.reduceSub, List.replicate_succ, List.replicate_zero, Tryz.ntmps46]
        cases hn : n.2 with
        | false =>
          rw [hn] at ts hQ
          repeat' first | simp -implicitDefEqProofs (maxSteps := 400000) (disch := first | with_reducible rfl | omega | (simp only [wkH] <;> omega) | decide) only [wkAll, wkL, popO, wantedP, Nat.reduceAdd, Nat.reduceLeDiff, Int.reduceLT, Int.reduceBEq, binP, unP, lenP, builtinP, storeOp, fieldAddrOp, setL, gt_iff_lt, wkN, if_pos, if_neg, tf3, tf26, tf38, tf86, h_getlt hpl, hp, h_putlt hpl] | refine w_pure (t6) ?_ | refine w_pure (t7) ?_ | refine w_pure (ts) ?_
          refine hQ (by first | exact .inr rfl | exact .inl rfl) (by first | exact trivial | exact marks1) (by first | (simp -implicitDefEqProofs (maxSteps := 400000) (disch := first | with_reducible rfl | omega | (simp only [wkH] <;> omega) | decide) only [wkL, resP, resPs, resP1]; rfl) | rfl) ⟨6, by repeat' first | exact frz_scalar rfl | apply frz_tuple | apply frz_agg | apply frz_fsl | apply frz_gsl (by omega) | exact frzs_nil | apply frzs_cons⟩ (by first | exact keepsH0 | exact keeps1 (by assumption)) (nw_eq ?_)
          rfl
        | true =>
          rw [hn] at ts hQ
          cases hq : portB n.1 with
          | false =>
            rw [hq] at tp hQ
            repeat' first | simp -implicitDefEqProofs (maxSteps := 400000) (disch := first | with_reducible rfl | omega | (simp only [wkH] <;> omega) | decide) only [wkAll, wkL, popO, wantedP, Nat.reduceAdd, Nat.reduceLeDiff, Int.reduceLT, Int.reduceBEq, binP, unP, lenP, builtinP, storeOp, fieldAddrOp, setL, gt_iff_lt, wkN, if_pos, if_neg, tf3, tf26, tf38, tf86, h_getlt hpl, hp, h_putlt hpl] | refine w_pure (t6) ?_ | refine w_pure (t7) ?_ | refine w_pure (ts) ?_ | refine w_pure (tp) ?_
            refine hQ (by first | exact .inr rfl | exact .inl rfl) (by first | exact trivial | exact marks1) (by first | (simp -implicitDefEqProofs (maxSteps := 400000) (disch := first | with_reducible rfl | omega | (simp only [wkH] <;> omega) | decide) only [wkL, resP, resPs, resP1]; rfl) | rfl) ⟨6, by repeat' first | exact frz_scalar rfl | apply frz_tuple | apply frz_agg | apply frz_fsl | apply frz_gsl (by omega) | exact frzs_nil | apply frzs_cons⟩ (by first | exact keepsH0 | exact keeps1 (by assumption)) (nw_eq ?_)
            rfl
          | true =>
            rw [hq] at tp hQ
            repeat' first | simp -implicitDefEqProofs (maxSteps := 400000) (disch := first | with_reducible rfl | omega | (simp only [wkH] <;> omega) | decide) only [wkAll, wkL, popO, wantedP, Nat.reduceAdd, Nat.reduceLeDiff, Int.reduceLT, Int.reduceBEq, binP, unP, lenP, builtinP, storeOp, fieldAddrOp, setL, gt_iff_lt, wkN, if_pos, if_neg, tf3, tf26, tf38, tf86, h_getlt hpl, hp, h_putlt hpl] | refine w_pure (t6) ?_ | refine w_pure (t7) ?_ | refine w_pure (ts) ?_ | refine w_pure (tp) ?_
            refine hQ (by first | exact .inr rfl | exact .inl rfl) (by first | exact trivial | exact marks1) (by first | (simp -implicitDefEqProofs (maxSteps := 400000) (disch := first | with_reducible rfl | omega | (simp only [wkH] <;> omega) | decide) only [wkL, resP, resPs, resP1]; rfl) | rfl) ⟨6, by repeat' first | exact frz_scalar rfl | apply frz_tuple | apply frz_agg | apply frz_fsl | apply frz_gsl (by omega) | exact frzs_nil | apply frzs_cons⟩ (by first | exact keepsH0 | exact keeps1 (by assumption)) (nw_eq ?_)
            rfl
    · rw [hx] at t6
      have th := negoHost_ok (w0 := w0) r.b
      cases hh : hostL r.b with
      | false =>
        rw [show whereL l = (r.b, 0, 20) by rw [whereL, if_neg c1, hx]; simp only []; rw [if_pos hh]]
        rw [hh] at th
        refine eff_of ([Go.ResultVar.tmp 4]) Tryz.func46 rfl rfl (by decide) (PH.n_put ..) (fun hW => hW.put hpl (hsc _ _)) fun hW Q hQ => ?_
        simp only [start, List.length_cons, List.length_nil, List.cons_append, List.nil_append, Nat.reduceAdd, Nat.reduceSub, List.replicate_succ, List.replicate_zero, Tryz.ntmps46]
        repeat' first | simp -implicitDefEqProofs (maxSteps := 400000) (disch := first | with_reducible rfl | omega | (simp only [wkH] <;> omega) | decide) only [wkAll, wkL, popO, wantedP, Nat.reduceAdd, Nat.reduceLeDiff, Int.reduceLE, Int.reduceLT, Int.reduceToNat, binP, unP, lenP, builtinP, indexAddrOp, loadOp, storeOp, loadP, fieldAddrOp, setL, PK.agg, gt_iff_lt, seg, wkN, if_pos, if_neg, tf9, tf26, tf38, tf46, tf86, c3, gt_iff_lt, krsC, krC, List.flatMap_cons, h_getlt hpl, hp, h_putlt hpl, g2] | refine w_pure (t6) ?_ | refine w_pure (t7) ?_ | refine w_pure (th) ?_
        refine hQ (by first | exact .inr rfl | exact .inl rfl) (by first | exact trivial | exact marks1) (by first | (simp -implicitDefEqProofs (maxSteps := 400000) (disch := first | with_reducible rfl | omega | (simp only [wkH] <;> omega) | decide) only [wkL, resP, resPs, resP1]; rfl) | rfl) ⟨6, by repeat' first | exact frz_scalar rfl | apply frz_tuple | apply frz_agg | apply frz_fsl | apply frz_gsl (by omega) | exact frzs_nil | apply frzs_cons⟩ (by first | exact keepsH0 | exact keeps1 (by assumption)) (nw_eq ?_)
        rfl
      | true =>
        rw [show whereL l = portL l r.b by rw [whereL, if_neg c1, hx]; simp only []; rw [if_neg (by simp [hh])]]
        rw [hh] at th
        rcases hpp r.b with ⟨h1, h2⟩ | ⟨h1, r2, h2⟩
        · rw [h1]
          rw [h2] at t7
          refine eff_of ([Go.ResultVar.tmp 4]) Tryz.func46 rfl rfl (by decide) (PH.n_put ..) (fun hW => hW.put hpl (hsc _ _)) fun hW Q hQ => ?_
          simp only [start, List.length_cons, List.length_nil, List.cons_append, List.nil_append, Nat.reduceAdd, Nat.reduceSub, List.replicate_succ, List.replicate_zero, Tryz.ntmps46]
          repeat' first | simp -implicitDefEqProofs (maxSteps := 400000) (disch := first | with_reducible rfl | omega | (simp only [wkH] <;> omega) | decide) only [wkAll, wkL, popO, wantedP, Nat.reduceAdd, Nat.reduceLeDiff, Int.reduceLE, Int.reduceLT, Int.reduceToNat, Int.reduceBEq, binP, unP, lenP, builtinP, indexAddrOp, loadOp, storeOp, loadP, fieldAddrOp, setL, PK.agg, gt_iff_lt, seg, wkN, if_pos, if_neg, tf9, tf26, tf38, tf46, tf86, gt_iff_lt, krsC, krC, List.flatMap_cons, h_getlt hpl, hp, h_putlt hpl, g2] | refine w_pure (t6) ?_ | refine w_pure (t7) ?_ | refine w_pure (th) ?_
          refine hQ (by first | exact .inr rfl | exact .inl rfl) (by first | exact trivial | exact marks1) (by first | (simp -implicitDefEqProofs (maxSteps := 400000) (disch := first | with_reducible rfl | omega | (simp only [wkH] <;> omega) | decide) only [wkL, resP, resPs, resP1]; rfl) | rfl) ⟨6, by repeat' first | exact frz_scalar rfl | apply frz_tuple | apply frz_agg | apply frz_fsl | apply frz_gsl (by omega) | exact frzs_nil | apply frzs_cons⟩ (by first | exact keepsH0 | exact keeps1 (by assumption)) (nw_eq ?_)
          rfl
        · rw [h1]
          rw [h2] at t7
          generalize singL l 7 = n at *
          refine eff_of ([Go.ResultVar.tmp 4]) Tryz.func46 rfl rfl (by decide) (PH.n_put ..) (fun hW => hW.put hpl (hsc _ _)) fun hW Q hQ => ?_
          simp only [start, List.length_cons, List.length_nil, List.cons_append, List.nil_append, Nat.reduceAdd, Nat.reduceSub, List.replicate_succ, List.replicate_zero, Tryz.ntmps46]
          cases hn : n.2 with
          | false =>
            rw [hn] at ts hQ
            repeat' first | simp -implicitDefEqProofs (maxSteps := 400000) (disch := first | with_reducible rfl | omega | (simp only [wkH] <;> omega) | decide) only [wkAll, wkL, popO, wantedP, Nat.reduceAdd, Nat.reduceLeDiff, Int.reduceLE, Int.reduceLT, Int.reduceToNat, binP, unP, lenP, builtinP, indexAddrOp, loadOp, storeOp, loadP, fieldAddrOp, setL, PK.agg, gt_iff_lt, seg, wkN, if_pos, if_neg, tf3, tf9, tf26, tf38, tf46, tf86, gt_iff_lt, krsC, krC, List.flatMap_cons, h_getlt hpl, hp, h_putlt hpl, g2, u2] | refine w_pure (t6) ?_ | refine w_pure (t7) ?_ | refine w_pure (ts) ?_ | refine w_pure (th) ?_
            refine hQ (by first | exact .inr rfl | exact .inl rfl) (by first | exact trivial | exact marks1) (by first | (simp -implicitDefEqProofs (maxSteps := 400000) (disch := first | with_reducible rfl | omega | (simp only [wkH] <;> omega) | decide) only [wkL, resP, resPs, resP1]; rfl) | rfl) ⟨6, by repeat' first | exact frz_scalar rfl | apply frz_tuple | apply frz_agg | apply frz_fsl | apply frz_gsl (by omega) | exact frzs_nil | apply frzs_cons⟩ (by first | exact keepsH0 | exact keeps1 (by assumption)) (nw_eq ?_)
            rfl
          | true =>
            rw [hn] at ts hQ
            cases hq : portB n.1 with
            | false =>
              rw [hq] at tp hQ
              repeat' first | simp -implicitDefEqProofs (maxSteps := 400000) (disch := first | with_reducible rfl | omega | (simp only [wkH] <;> omega) | decide) only [wkAll, wkL, popO, wantedP, Nat.reduceAdd, Nat.reduceLeDiff, Int.reduceLE, Int.reduceLT, Int.reduceToNat, binP, unP, lenP, builtinP, indexAddrOp, loadOp, storeOp, loadP, fieldAddrOp, setL, PK.agg, gt_iff_lt, seg, wkN, if_pos, if_neg, tf3, tf9, tf26, tf38, tf46, tf86, gt_iff_lt, krsC, krC, List.flatMap_cons, h_getlt hpl, hp, h_putlt hpl, g2, u2] | refine w_pure (t6) ?_ | refine w_pure (t7) ?_ | refine w_pure (ts) ?_ | refine w_pure (tp) ?_ | refine w_pure (th) ?_
              refine hQ (by first | exact .inr rfl | exact .inl rfl) (by first | exact trivial | exact marks1) (by first | (simp -implicitDefEqProofs (maxSteps := 400000) (disch := first | with_reducible rfl | omega | (simp only [wkH] <;> omega) | decide) only [wkL, resP, resPs, resP1]; rfl) | rfl) ⟨6, by repeat' first | exact frz_scalar rfl | apply frz_tuple | apply frz_agg | apply frz_fsl | apply frz_gsl (by omega) | exact frzs_nil | apply frzs_cons⟩ (by first | exact keepsH0 | exact keeps1 (by assumption)) (nw_eq ?_)
              rfl
            | true =>
              rw [hq] at tp hQ
              repeat' first | simp -implicitDefEqProofs (maxSteps := 400000) (disch := first | with_reducible rfl | omega | (simp only [wkH] <;> omega) | decide) only [wkAll, wkL, popO, wantedP, Nat.reduceAdd, Nat.reduceLeDiff, Int.reduceLE, Int.reduceLT, Int.reduceToNat, binP, unP, lenP, builtinP, indexAddrOp, loadOp, storeOp, loadP, fieldAddrOp, setL, PK.agg, gt_iff_lt, seg, wkN, if_pos, if_neg, tf3, tf9, tf26, tf38, tf46, tf86, gt_iff_lt, krsC, krC, List.flatMap_cons, h_getlt hpl, hp, h_putlt hpl, g2, u2] | refine w_pure (t6) ?_ | refine w_pure (t7) ?_ | refine w_pure (ts) ?_ | refine w_pure (tp) ?_ | refine w_pure (th) ?_
              refine hQ (by first | exact .inr rfl | exact .inl rfl) (by first | exact trivial | exact marks1) (by first | (simp -implicitDefEqProofs (maxSteps := 400000) (disch := first | with_reducible rfl | omega | (simp only [wkH] <;> omega) | decide) only [wkL, resP, resPs, resP1]; rfl) | rfl) ⟨6, by repeat' first | exact frz_scalar rfl | apply frz_tuple | apply frz_agg | apply frz_fsl | apply frz_gsl (by omega) | exact frzs_nil | apply frzs_cons⟩ (by first | exact keepsH0 | exact keeps1 (by assumption)) (nw_eq ?_)
              rfl
    · rw [hx] at c1; exact absurd (.inl (by simp)) c1
end Pv

--nosplit
--keep2
namespace Pv
set_option maxRecDepth 20000
set_option maxHeartbeats 4000000
open Go Go.Proofs Go.RowKit
variable {w0 : World}

theorem jar1_ok (s : List UInt8) (hs : s.length < 2 ^ 50) : Fn (Cx w0) 66 [.str s] (.bool (!cookB s)) := by
  have tc := negoCookie_ok (w0 := w0) s hs
  refine fn_H ([Go.ResultVar.tmp 2]) Tryz.func66 rfl rfl (by decide) fun ph hW Q hQ => ?_
  simp only [start, List.length_cons, List.length_nil, List.cons_append, List.nil_append, Nat.reduceAdd, Nat.reduceSub, List.replicate_succ, List.replicate_zero, Tryz.ntmps66]
  repeat' first | simp -implicitDefEqProofs (maxSteps := 400000) (disch := first | with_reducible rfl | omega | (simp only [wkH] <;> omega) | decide) only [wkAll, wkL, popO, wantedP, unP] | refine w_pure (tc) ?_
  refine hQ (by first | exact .inr rfl | exact .inl rfl) (by first | exact trivial | exact marks1) (by first | (simp -implicitDefEqProofs (maxSteps := 400000) (disch := first | with_reducible rfl | omega | (simp only [wkH] <;> omega) | decide) only [wkL, resP, resPs, resP1]; rfl) | rfl) ⟨6, by repeat' first | exact frz_scalar rfl | apply frz_tuple | apply frz_agg | apply frz_fsl | apply frz_gsl (by omega) | exact frzs_nil | apply frzs_cons⟩ (by first | exact keepsH0 | exact keeps1 (by assumption)) (nw_eq ?_)
  rfl
theorem indexCk_ok (l : List (List UInt8)) (hl : l.length < 2 ^ 40) (hb : ∀ s ∈ l, s.length < 2 ^ 50) :
    Fn (Cx w0) 75 [.fsl 1 l.length (l.map PV.str), .func 66 [] []] (.int .i64 (idxL (fun s => !cookB s) l)) := by
  refine fn_H ([Go.ResultVar.tmp 4]) Tryz.func75 rfl rfl (by decide) fun ph hW Q hQ => ?_
  simp only [start, List.length_cons, List.length_nil, List.cons_append, List.nil_append, Nat.reduceAdd, Nat.reduceSub, List.replicate_succ, List.replicate_zero, Tryz.ntmps75]
  repeat' first | simp -implicitDefEqProofs (maxSteps := 400000) (disch := first | with_reducible rfl | omega | (simp only [wkH] <;> omega) | decide) only [wkAll, wkL, popO, wantedP, Int.reduceNeg, lenP, builtinP, tf23]
  refine w_loopH (α := Nat) ph ph.ob ph.ty (fun i => [.fsl 1 l.length (l.map PV.str), .func 66 [] [], .undef, .undef, .undef, .undef, .fsl 1 l.length (l.map PV.str), .int .i64 l.length, .int .i64 i, .undef, .undef, .undef, .undef, .undef, .undef, .undef, .undef, .undef, .undef]) (fun i => []) (fun i => i ≤ l.length ∧ (l.take i).any (fun s => !cookB s) = false) (fun i => l.length - i) 0 (by simp) (fun _ _ => by simp) (.eq (by simp [FadeTo]) rfl) ?_
  rintro i ⟨hi, hno⟩ K hK
  rcases Nat.lt_or_ge i l.length with h | h
  · obtain ⟨r, hr⟩ := get_some h
    have hc : (l.map PV.str)[i]? = some (.str r) := by rw [List.getElem?_map, hr]; rfl
    have hlt : (i : Int) < l.length := by omega
    have hp := jar1_ok (w0 := w0) r (hb r (List.mem_of_getElem? hr))
    cases hpr : (!cookB r) with
    | false =>
      rw [hpr] at hp
      repeat' first | simp -implicitDefEqProofs (maxSteps := 400000) (disch := first | with_reducible rfl | omega | (simp only [wkH] <;> omega) | decide) only [wkAll, wkL, popO, wantedP, Int.reduceNeg, binP, indexAddrOp, loadOp, loadP, PK.agg, seg, wkN, if_pos, if_neg, tf9, tf23, List.getElem?_drop, hc, hlt] | refine w_pure (hp) ?_
      exact hK (i + 1) _ _ ⟨by omega, by rw [take_snoc hr]; simp only [List.any_append, hno, List.any_cons, List.any_nil, hpr, Bool.or_false]⟩ (by omega) (.eq (by simp [FadeTo]) rfl)
    | true =>
      rw [hpr] at hp
      repeat' first | simp -implicitDefEqProofs (maxSteps := 400000) (disch := first | with_reducible rfl | omega | (simp only [wkH] <;> omega) | decide) only [wkAll, wkL, popO, wantedP, Int.reduceNeg, binP, indexAddrOp, loadOp, loadP, PK.agg, seg, if_pos, if_neg, tf9, tf23, List.getElem?_drop, hc, hlt] | refine w_pure (hp) ?_
      refine hQ (by first | exact .inr rfl | exact .inl rfl) (by first | exact trivial | exact marks1) (by first | (simp -implicitDefEqProofs (maxSteps := 400000) (disch := first | with_reducible rfl | omega | (simp only [wkH] <;> omega) | decide) only [wkL, resP, resPs, resP1]; rfl) | rfl) ⟨6, by repeat' first | exact frz_scalar rfl | apply frz_tuple | apply frz_agg | apply frz_fsl | apply frz_gsl (by omega) | exact frzs_nil | apply frzs_cons⟩ (by first | exact keepsH0 | exact keeps1 (by assumption)) (nw_eq ?_)
      rw [idxL_found hno hr hpr]
  · have hge : ¬ (i : Int) < l.length := by omega
    repeat' first | simp -implicitDefEqProofs (maxSteps := 400000) (disch := first | with_reducible rfl | omega | (simp only [wkH] <;> omega) | decide) only [wkAll, wkL, popO, wantedP, Int.reduceNeg, binP, if_pos, hge]
    refine hQ (by first | exact .inr rfl | exact .inl rfl) (by first | exact trivial | exact marks1) (by first | (simp -implicitDefEqProofs (maxSteps := 400000) (disch := first | with_reducible rfl | omega | (simp only [wkH] <;> omega) | decide) only [wkL, Int.reduceNeg, resP, resPs, resP1]; rfl) | rfl) ⟨6, by repeat' first | exact frz_scalar rfl | apply frz_tuple | apply frz_agg | apply frz_fsl | apply frz_gsl (by omega) | exact frzs_nil | apply frzs_cons⟩ (by first | exact keepsH0 | exact keeps1 (by assumption)) (nw_eq ?_)
    rw [List.take_of_length_le h] at hno
    rw [idxL_none hno]
theorem containsCk_ok (l : List (List UInt8)) (hl : l.length < 2 ^ 40) (hb : ∀ s ∈ l, s.length < 2 ^ 50) :
    Fn (Cx w0) 65 [.fsl 1 l.length (l.map PV.str), .func 66 [] []] (.bool (l.any (fun s => !cookB s))) := by
  have ti := indexCk_ok (w0 := w0) l hl hb
  rw [← idxL_ge]
  refine fn_H ([Go.ResultVar.tmp 4]) Tryz.func65 rfl rfl (by decide) fun ph hW Q hQ => ?_
  simp only [start, List.length_cons, List.length_nil, List.cons_append, List.nil_append, Nat.reduceAdd, Nat.reduceSub, List.replicate_succ, List.replicate_zero, Tryz.ntmps65]
  repeat' first | simp -implicitDefEqProofs (maxSteps := 400000) (disch := first | with_reducible rfl | omega | (simp only [wkH] <;> omega) | decide) only [wkAll, wkL, popO, wantedP, binP, if_pos, ge_iff_le] | refine w_pure (ti) ?_
  refine hQ (by first | exact .inr rfl | exact .inl rfl) (by first | exact trivial | exact marks1) (by first | (simp -implicitDefEqProofs (maxSteps := 400000) (disch := first | with_reducible rfl | omega | (simp only [wkH] <;> omega) | decide) only [wkL, resP, resPs, resP1]; rfl) | rfl) ⟨6, by repeat' first | exact frz_scalar rfl | apply frz_tuple | apply frz_agg | apply frz_fsl | apply frz_gsl (by omega) | exact frzs_nil | apply frzs_cons⟩ (by first | exact keepsH0 | exact keeps1 (by assumption)) (nw_eq ?_)
  rfl
end Pv

namespace Pv
open Go Go.RowKit
variable {X : Ctx} {G : Ghost} {ph : PH} {w : World} {ρ : Option Nat} {n0 : Nat} {Q : Exit → PSt → PH → Prop}

/-! ### A row of one's own that is only read from now on: blocks that hold it tell its cells -/
/-- Arguments, those within a struct too. -/
def FA2 (p : Nat) (cells : List PV) : List PV → List PV → Prop
  | [], [] => True
  | a :: az, b :: bs => (b = a ∨ (∃ off esz len cap, a = .sl p off esz len cap ∧ b = .fsl esz len (seg cells off (len * esz)) ∧ off + len * esz ≤ cells.length) ∨ ∃ c c', a = .agg c ∧ b = .agg c' ∧ FA p cells c c') ∧ FA2 p cells az bs
  | _, _ => False
def FB (p : Nat) (cells : List PV) : List (Option Blk) → List (Option Blk) → Prop
  | [], [] => True
  | x :: xs, y :: ys => (y = x ∨ ∃ c c', x = some (.own c) ∧ y = some (.own c') ∧ FA p cells c c') ∧ FB p cells xs ys
  | _, _ => False
theorem FA2.rvs (h : Rel X G ph w) {p : Nat} {cells : List PV} {L : Loc} (hp : ph.get p = some cells) (hL : G.l[p]? = some L) : ∀ {az bs : List PV} {rs : List Value}, FA2 p cells az bs → RVs G az rs → RVs (G.frzB w L.b) bs rs
  | [], [], _, _, hr => by cases hr; exact .nil
  | a :: az, b :: bs, _, hf, hr => by
    obtain ⟨h1, h2⟩ := hf
    cases hr with
    | cons _ r _ rs ha hs =>
      refine .cons _ _ _ _ ?_ (FA2.rvs h hp hL h2 hs)
      rcases h1 with rfl | ⟨off, esz, len, cap, rfl, rfl, hle⟩ | ⟨c, c', rfl, rfl, h3⟩
      · exact ha.mono (le_frzB _ _ _)
      · exact rv_frz h hp hL ha hle
      · cases ha with
        | agg _ vals hv => exact .agg _ _ (h3.rvs h hp hL hv)
  | [], _ :: _, _, hf, _ => hf.elim
  | _ :: _, [], _, hf, _ => hf.elim
theorem FB.at {p : Nat} {cells : List PV} : ∀ {l l' : List (Option Blk)}, FB p cells l l' → l'.length = l.length ∧ ∀ k : Nat, (l'[k]? = l[k]?) ∨ ∃ c c', l[k]? = some (some (.own c)) ∧ l'[k]? = some (some (.own c')) ∧ FA p cells c c'
  | [], [], _ => ⟨rfl, fun _ => .inl rfl⟩
  | x :: xs, y :: ys, h => by
    obtain ⟨h1, h2⟩ := h
    obtain ⟨h3, h4⟩ := h2.at
    refine ⟨by simp [h3], fun k => ?_⟩
    cases k with
    | zero =>
      rcases h1 with rfl | ⟨c, c', rfl, rfl, h⟩
      · exact .inl rfl
      · exact .inr ⟨c, c', rfl, rfl, h⟩
    | succ k => simpa using h4 k
  | [], _ :: _, h => h.elim
  | _ :: _, [], h => h.elim

theorem Rel.frzC {b : PH} {l l' : List (Option Blk)} {ob : Nat → Option PObj} {ty : Nat → Option TypeId} {k : Nat} {cells : List PV} {L : Loc} (hr : Rel X G (H b l ob ty) w) (hk : l[k]? = some (some (.own cells))) (hL : G.l[b.n + k]? = some L) (h2 : FB (b.n + k) cells (l.set k none) l') :
    Rel X (G.frzB w L.b) (H b l' ob ty) w := by
  have hpk : (H b l ob ty).get (b.n + k) = some cells := by rw [h_get, hk]; rfl
  have hp := hr.frzB hpk hL
  rw [show (H b l ob ty).kill (b.n + k) = H b (l.set k none) ob ty from h_kill] at hp
  obtain ⟨h3, h4⟩ := h2.at
  have hgen : ∀ (p : Nat) (hp : ¬ p < b.n), ∃ k, p = b.n + k := fun p hp => ⟨p - b.n, by omega⟩
  have hget : ∀ p c', (H b l' ob ty).get p = some c' → ∃ c, (H b (l.set k none) ob ty).get p = some c := by
    intro p c' hc
    by_cases hpb : p < b.n
    · exact ⟨c', by rw [h_getlt hpb] at hc ⊢; exact hc⟩
    · obtain ⟨j, rfl⟩ := hgen p hpb
      rcases h4 j with h5 | ⟨c, d, h5, h6, h7⟩
      · exact ⟨c', by rw [h_get] at hc ⊢; rw [← h5]; exact hc⟩
      · exact ⟨c, by rw [h_get, h5]; rfl⟩
  refine ⟨by rw [hp.len]; simp [H, h3], hp.below, ?_, ?_, hp.fz, ?_, hp.ob, hp.ty, ?_⟩
  · intro p c' hc
    by_cases hpb : p < b.n
    · have hc2 : (H b (l.set k none) ob ty).get p = some c' := by rw [h_getlt hpb] at hc ⊢; exact hc
      exact hp.own p c' hc2
    · obtain ⟨j, rfl⟩ := hgen p hpb
      rcases h4 j with h5 | ⟨c, d, h5, h6, h7⟩
      · have hc2 : (H b (l.set k none) ob ty).get (b.n + j) = some c' := by rw [h_get] at hc ⊢; rw [← h5]; exact hc
        exact hp.own _ c' hc2
      · rw [h_get, h6] at hc
        cases hc
        have hjk : j ≠ k := by
          rintro rfl
          have hlt : j < l.length := (List.getElem?_eq_some_iff.1 hk).1
          rw [List.getElem?_set, if_pos rfl, if_pos hlt] at h5
          cases h5
        have hc0 : (H b l ob ty).get (b.n + j) = some c := by
          rw [h_get]; rw [List.getElem?_set, if_neg (Ne.symm hjk)] at h5; rw [h5]; rfl
        obtain ⟨M, vals, cs, e', fz, hM, o⟩ := hr.own _ c hc0
        exact ⟨M, vals, cs, e', fz, hM, ⟨h7.rvs hr hpk hL o.rv, o.lt, o.ge, o.hb, o.sz, o.fr, o.at_, o.one⟩⟩
  · intro p q c d L M hpq hp' hq hL hM
    obtain ⟨c0, hc0⟩ := hget p c hp'
    obtain ⟨d0, hd0⟩ := hget q d hq
    exact hp.disj p q _ _ L M hpq hc0 hd0 hL hM
  · intro a v p c L hv hp' hL
    obtain ⟨c0, hc0⟩ := hget p c hp'
    exact hp.fdisj a v p _ L hv hc0 hL
  · refine hp.grow.step rfl (Nat.le_refl _) (fun p r hr => ?_) (fun _ _ => rfl) (fun _ _ h => .inl h) fun q c L hc hL => by
      obtain ⟨c0, hc0⟩ := hget q c hc
      exact .inl ⟨c0, hc0, hL⟩
    by_cases hpb : p < b.n
    · rw [h_grolt hpb] at hr ⊢; exact hr
    · obtain ⟨j, rfl⟩ := hgen p hpb
      rw [h_gro] at hr ⊢
      rcases h4 j with h5 | ⟨c, d, h5, h6, h7⟩
      · rw [← h5]; exact hr
      · rw [h6] at hr; cases hr

/-- A call: block k is only read from now on. -/
theorem w_frzC {f : FuncId} {args args' : List PV} {K : PV → PH → Prop} {b : PH} {l l' : List (Option Blk)} {ob : Nat → Option PObj} {ty : Nat → Option TypeId} (k : Nat) (cells : List PV) (hk : l[k]? = some (some (.own cells))) (ha : FA2 (b.n + k) cells args args') (hb : FB (b.n + k) cells (l.set k none) l')
    (h : PCalls X f args' (H b l' ob ty) K) : PCalls X f args (H b l ob ty) K := by
  intro G w rargs hr hv
  have hpk : (H b l ob ty).get (b.n + k) = some cells := by rw [h_get, hk]; rfl
  obtain ⟨L, hL⟩ : ∃ L, G.l[b.n + k]? = some L := ⟨_, List.getElem?_eq_getElem (by rw [hr.lenN]; exact PH.get_lt hpk)⟩
  have hr' := hr.frzC hk hL hb
  have hv' := ha.rvs hr hpk hL hv
  have hn : (H b l' ob ty).n = (H b l ob ty).n := by rw [h_n, h_n, hb.at.1, List.length_set]
  have key : ∀ v w', CPost X (H b l' ob ty).n (G.frzB w L.b) K v w' → CPost X (H b l ob ty).n G K v w' := by
    rintro v w' ⟨G2, pv, ph', h1, h2, h3, h4, h5⟩
    rw [hn] at h1 h4
    exact ⟨G2, pv, ph', ((le_frzB G w L.b).n _).trans h1, h2, h3, h4, h5⟩
  rcases h _ w rargs hr' hv' with ⟨v, w', e, hc⟩ | ⟨w', e, hc⟩
  · exact .inl ⟨v, w', e, key _ _ hc⟩
  · refine .inr ⟨w', e, Calls.mono hc ?_⟩
    intro e w he
    cases e with
    | returned v => exact key _ _ he
    | _ => exact he

theorem FB.refl {p : Nat} {cells : List PV} : ∀ {l : List (Option Blk)}, FB p cells l l
  | [] => trivial
  | _ :: _ => ⟨.inl rfl, FB.refl⟩
theorem FB.set {p : Nat} {cells c c' : List PV} : ∀ {l : List (Option Blk)} {j : Nat}, l[j]? = some (some (.own c)) → FA p cells c c' → FB p cells l (l.set j (some (.own c')))
  | [], _, h, _ => by simp at h
  | x :: xs, 0, h, hf => by simp at h; subst h; exact ⟨.inr ⟨c, c', rfl, rfl, hf⟩, FB.refl⟩
  | x :: xs, j + 1, h, hf => by simp only [List.getElem?_cons_succ] at h; exact ⟨.inl rfl, FB.set h hf⟩

end Pv

namespace Pv
open Go Go.RowKit
/-! ### Answers that lie on the heap -/
/-- A call that answers v and leaves blocks behind. -/
def EffA (X : Ctx) (f : FuncId) (args : List PV) (ph : PH) (v : PV) (bl : List (Option Blk)) : Prop := ∀ K : PV → PH → Prop, K v (H ph bl ph.ob ph.ty) → PCalls X f args ph K
theorem h_app {b : PH} {l m : List (Option Blk)} {ob ob' : Nat → Option PObj} {ty ty' : Nat → Option TypeId} : H (H b l ob ty) m ob' ty' = H b (l ++ m) ob' ty' := by simp [H]
theorem w_effA {X : Ctx} {f : FuncId} {args : List PV} {b : PH} {l bl : List (Option Blk)} {ob : Nat → Option PObj} {ty : Nat → Option TypeId} {v : PV} {K : PV → PH → Prop} (h : EffA X f args (H b l ob ty) v bl) (k : K v (H b (l ++ bl) ob ty)) : PCalls X f args (H b l ob ty) K :=
  h K (by rw [h_app]; exact k)
/-- **A loop** whose base grows. -/
theorem w_loopJ {X : Ctx} {ph : PH} {ρ : Option Nat} {n0 : Nat} {Q : Exit → PSt → PH → Prop} {α : Type} {c : Code} {tm : List PV} {ms : List Nat} (ob : Nat → Option PObj) (ty : Nat → Option TypeId) (b : α → PH) (st : PH → α → List PV) (hl : α → List (Option Blk)) (Inv : α → Prop) (μ : α → Nat) (a0 : α) (h0 : Inv a0) (hn : ∀ a, Inv a → n0 ≤ (b a).n + (hl a).length)
    (hi : HTo (b a0) (hl a0) ob ty (st (b a0) a0) tm ph)
    (round : ∀ a, Inv a → ∀ B, B = b a → ∀ K : PSt → PH → Prop, (∀ a' tm ph', Inv a' → μ a' < μ a → HTo (b a') (hl a') ob ty (st (b a') a') tm ph' → K ⟨tm, ms⟩ ph') → vc X ρ n0 c (PExit.seq K Q) ⟨st B a, ms⟩ (H B (hl a) ob ty)) : vc X ρ n0 (.loop c) Q ⟨tm, ms⟩ ph := by
  show PWp X ρ n0 (.loop c) Q ⟨tm, ms⟩ ph
  refine PWp.weak (s' := ⟨st (b a0) a0, ms⟩) (ph' := H (b a0) (hl a0) ob ty) (hi.weak (hn _ h0)) rfl ?_
  refine pwp_loopN (I := fun j s' ph' => ∃ a, Inv a ∧ μ a = j ∧ HTo (b a) (hl a) ob ty (st (b a) a) s'.tm ph' ∧ s'.ms = ms) (μ a0) ⟨a0, h0, rfl, .same (by
    clear hi round
    generalize st (b a0) a0 = s
    induction s with
    | nil => trivial
    | cons p ps ih => exact ⟨.inr rfl, ih⟩), rfl⟩ ?_
  rintro j s' ph' ⟨a, hI, rfl, hT, hm⟩
  refine PWp.weak (s' := ⟨st (b a) a, ms⟩) (ph' := H (b a) (hl a) ob ty) (hT.weak (hn a hI)) hm.symm ?_
  refine vc_ok _ _ _ _ (round a hI _ rfl _ ?_)
  intro a' tm' ph' h1 h2 h3
  exact ⟨μ a', h2, a', h1, rfl, h3, rfl⟩

/-- **A loop**, some rounds in a row. -/
def unr (X : Ctx) (ρ : Option Nat) (n0 : Nat) (c : Code) (Q : Exit → PSt → PH → Prop) : Nat → PSt → PH → Prop
  | 0 => fun _ _ => False
  | n + 1 => fun s ph => vc X ρ n0 c (PExit.seq (unr X ρ n0 c Q n) Q) s ph
theorem unr_succ {X : Ctx} {ρ : Option Nat} {n0 : Nat} {c : Code} {Q : Exit → PSt → PH → Prop} {n : Nat} {s : PSt} {ph : PH} : unr X ρ n0 c Q (n + 1) s ph = vc X ρ n0 c (PExit.seq (unr X ρ n0 c Q n) Q) s ph := rfl
theorem w_unr {X : Ctx} {ph : PH} {ρ : Option Nat} {n0 : Nat} {Q : Exit → PSt → PH → Prop} {c : Code} {s : PSt} (n : Nat) (h : unr X ρ n0 c Q n s ph) : vc X ρ n0 (.loop c) Q s ph := by
  show PWp X ρ n0 (.loop c) Q s ph
  refine pwp_loopN (I := fun j s' ph' => unr X ρ n0 c Q j s' ph') n h ?_
  intro j s' ph' hI
  cases j with
  | zero => exact hI.elim
  | succ j =>
    refine PWp.mono (vc_ok _ _ _ _ hI) ?_
    intro e s2 ph2 h2
    cases e with
    | normal => exact ⟨j, Nat.lt_succ_self j, h2⟩
    | exit id => exact h2
    | goto l => exact h2
    | ret => exact h2
    | panic ch => exact h2
    | outgrown => exact h2
end Pv
