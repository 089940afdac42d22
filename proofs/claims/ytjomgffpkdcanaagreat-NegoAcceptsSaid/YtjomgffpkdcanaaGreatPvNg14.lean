/- Part of the proof: the layer of pure values, or walks through functions (PvNg14). -/
import Derived.Test.YtjomgffpkdcanaaGreatPvNg12
set_option linter.all false
--nosplit
--keep2
namespace Pv
set_option maxRecDepth 20000
set_option maxHeartbeats 4000000
open Go Go.Proofs Go.RowKit
def tb12_4Ng14 : Tab := [[], [0], [0, 1], [0, 1, 2], [0, 1, 2, 3], [], [0, 1, 2, 3, 4, 5], [0, 1, 2, 3, 4, 5, 6], [0, 1, 2, 3, 4, 5, 6, 7], [], [0, 1, 2, 3, 4, 5, 6, 7, 8, 9], [0, 1, 2, 3, 4, 5, 6, 7, 8, 9, 10], [0, 1, 2, 3, 4, 5, 6, 7, 8, 9, 10, 11], [0, 1, 2, 3, 4, 5, 6, 7, 8, 9, 10, 11, 12], [0, 1, 2, 3, 4, 5, 6, 7, 8, 9, 10, 11, 12, 13], [0, 1, 2, 3, 4, 5, 6, 7, 8, 9, 10, 11, 12, 13, 14], [0, 1, 2, 3, 4, 5, 6, 7, 8, 9, 10, 11, 12, 13, 14, 15], [0, 1, 2, 3, 4, 5, 6, 7, 8, 9, 10, 11, 12, 13, 14, 15, 16], [], [], [0, 1, 2, 3, 4, 5, 6, 7, 8, 9, 10, 11, 12, 13, 14, 15, 16, 17, 18, 19], [0, 1, 2, 3, 4, 5, 6, 7, 8, 9, 10, 11, 12, 13, 14, 15, 16, 17, 18, 19, 20], [0, 1, 2, 3, 4, 5, 6, 7, 8, 9, 10, 11, 12, 13, 14, 15, 16, 17, 18, 19, 20, 21], [0, 1, 2, 3, 4, 5, 6, 7, 8, 9, 10, 11, 12, 13, 14, 15, 16, 17, 18, 19, 20, 21, 22], [0, 1, 2, 3, 4, 5, 6, 7, 8, 9, 10, 11, 12, 13, 14, 15, 16, 17, 18, 19, 20, 21, 22, 23], [0, 1, 2, 3, 4, 5, 6, 7, 8, 9, 10, 11, 12, 13, 14, 15, 16, 17, 18, 19, 20, 21, 22, 23, 24], [0, 1, 2, 3, 4, 5, 6, 7, 8, 9, 10, 11, 12, 13, 14, 15, 16, 17, 18, 19, 20, 21, 22, 23, 24, 25], [], [], [0, 1, 2, 3, 4, 5, 6, 7, 8, 9, 10, 11, 12, 13, 14, 15, 16, 17, 18, 19, 20, 21, 22, 23, 24, 25, 26, 27, 28], [0, 1, 2, 3, 4, 5, 6, 7, 8, 9, 10, 11, 12, 13, 14, 15, 16, 17, 18, 19, 20, 21, 22, 23, 24, 25, 26, 27, 28, 29], [0, 1, 2, 3, 4, 5, 6, 7, 8, 9, 10, 11, 12, 13, 14, 15, 16, 17, 18, 19, 20, 21, 22, 23, 24, 25, 26, 27, 28, 29, 30]]
def pl12_4Ng14 : Plan := [(0, true, []), (5, true, []), (9, true, []), (18, true, []), (19, true, []), (27, true, []), (28, true, []), (1, false, [5, 9, 18, 19, 27, 28]), (2, true, []), (3, true, []), (4, false, [5, 9, 18, 19, 27, 28]), (6, false, [9, 18, 19, 27, 28]), (7, true, []), (8, false, [9, 18, 19, 27, 28]), (10, true, []), (11, true, []), (12, true, []), (13, true, []), (14, true, []), (15, true, []), (16, true, []), (17, false, [18, 19, 27, 28]), (20, false, [27, 28]), (21, true, []), (22, true, []), (23, false, [27, 28]), (24, true, []), (25, true, []), (26, false, [27, 28]), (29, false, []), (30, false, []), (31, false, [])]
def tb44_4Ng14 : Tab := [[], [], [1], [1, 2], [1, 2, 3], [1, 2, 3, 4], [], [6], [6, 7], [1, 2, 3, 4, 5, 6, 7, 8], [0, 1, 2, 3, 4, 5, 6, 7, 8, 9], [0, 1, 2, 3, 4, 5, 6, 7, 8, 9, 10], [0, 1, 2, 3, 4, 5, 6, 7, 8, 9, 10, 11], [0, 1, 2, 3, 4, 5, 6, 7, 8, 9, 10, 11, 12]]
def pl44_4Ng14 : Plan := [(0, true, []), (1, true, []), (2, true, []), (3, true, []), (4, true, []), (5, true, []), (6, true, []), (7, true, []), (8, false, [0, 1, 2, 3, 4, 5]), (9, false, [0]), (10, true, []), (11, true, []), (12, true, []), (13, false, [])]
def tb44_6Ng14 : Tab := [[], [0], [0, 1], [0, 1, 2], [0, 1, 2, 3], [0, 1, 2, 3, 4], [0, 1, 2, 3, 4, 5], [0, 1, 2, 3, 4, 5, 6], [], [8], [8, 9], [8, 9, 10], [8, 9, 10, 11], [8, 9, 10, 11, 12], [8, 9, 10, 11, 12, 13], [0, 1, 2, 3, 4, 5, 6, 7, 8, 9, 10, 11, 12, 13, 14], [], [16], [16, 17], [16, 17, 18], [16, 17, 18, 19], [0, 1, 2, 3, 4, 5, 6, 7, 8, 9, 10, 11, 12, 13, 14, 15, 16, 17, 18, 19, 20], [0, 1, 2, 3, 4, 5, 6, 7, 8, 9, 10, 11, 12, 13, 14, 15, 16, 17, 18, 19, 20, 21], [0, 1, 2, 3, 4, 5, 6, 7, 8, 9, 10, 11, 12, 13, 14, 15, 16, 17, 18, 19, 20, 21, 22], [0, 1, 2, 3, 4, 5, 6, 7, 8, 9, 10, 11, 12, 13, 14, 15, 16, 17, 18, 19, 20, 21, 22, 23], [0, 1, 2, 3, 4, 5, 6, 7, 8, 9, 10, 11, 12, 13, 14, 15, 16, 17, 18, 19, 20, 21, 22, 23, 24], [0, 1, 2, 3, 4, 5, 6, 7, 8, 9, 10, 11, 12, 13, 14, 15, 16, 17, 18, 19, 20, 21, 22, 23, 24, 25]]
def pl44_6Ng14 : Plan := [(0, true, []), (1, true, []), (2, true, []), (3, true, []), (4, true, []), (5, true, []), (6, true, []), (8, true, []), (9, true, []), (10, true, []), (11, true, []), (12, true, []), (13, true, []), (14, true, []), (16, true, []), (17, true, []), (18, true, []), (19, true, []), (20, true, []), (7, false, [8, 9, 10, 11, 12, 13, 14, 16, 17, 18, 19, 20]), (15, false, [16, 17, 18, 19, 20]), (21, false, []), (22, true, []), (23, false, []), (24, false, []), (25, false, []), (26, false, [])]
variable {w0 : World}

/-- The first error of checks, of which the first ones are told: one of these fails. -/
theorem firstFail_ok (ph : PH) (p n : Nat) (cp : Option Nat) (es : List (Int × Bool)) (cells : List PV) (hn : n < 2 ^ 40) (hp : ph.get p = some cells) (hl : cells.length = n) (hle : es.length ≤ n) (hne : firE es ≠ 0)
    (hc : ∀ (i : Nat) (x : Int × Bool), es[i]? = some x → ∃ a b, cells[i]? = some (.func 56 [] [.ptr a 0, .ptr b 0]) ∧ ph.get a = some [.bool x.2] ∧ ph.get b = some [.int .i64 x.1]) :
    Eff (Cx w0) 19 [.sl p 0 1 n cp] ph (.int .i64 (firE es)) ph := by
  have hpl := PH.get_lt hp
  refine eff_of ([Go.ResultVar.tmp 2]) Tryz.func19 rfl rfl (by decide) rfl (fun h => h) fun hW Q hQ => ?_
  simp only [start, List.length_cons, List.length_nil, List.cons_append, List.nil_append, Nat.reduceAdd, Nat.reduceSub, List.replicate_succ, List.replicate_zero, Tryz.ntmps19]
  repeat' first | simp -implicitDefEqProofs (maxSteps := 400000) (disch := first | with_reducible rfl | omega | (simp only [wkH] <;> omega) | decide) only [wkAll, wkL, popO, wantedP, lenP, builtinP, tf102]
  refine w_loopH (α := Nat) ph ph.ob ph.ty (fun i => [.undef, .undef, .undef, .undef, .undef, .undef, .sl p 0 1 n cp, .int .i64 n, .int .i64 i, .undef, .undef, .undef, .undef, .undef, .undef, .undef, .undef, .undef]) (fun i => []) (fun i => i ≤ es.length ∧ firE (es.drop i) = firE es) (fun i => es.length - i) 0 ⟨by omega, by simp⟩ (fun _ _ => by simp) (.eq (by simp [FadeTo]) rfl) ?_
  rintro i ⟨hi, hf⟩ K hK
  rcases Nat.lt_or_ge i es.length with hlt | hge
  · have hlt' : (i : Int) < (n : Int) := by omega
    obtain ⟨x, hx⟩ := get_some hlt
    obtain ⟨a, b, c1, c2, c3⟩ := hc i x hx
    have hd := firE_drop hx
    have ha := PH.get_lt c2
    have hb := PH.get_lt c3
    repeat' first | simp -implicitDefEqProofs (maxSteps := 400000) (disch := first | with_reducible rfl | omega | (simp only [wkH] <;> omega) | decide) only [wkAll, wkL, popO, wantedP, binP, indexAddrOp, loadOp, loadP, PK.agg, seg, if_pos, if_neg, tf66, tf102, hlt', h_getlt hpl, hp, c1]
    refine w_eff (soV_ok _ a b x.2 x.1 (by rw [h_getlt ha]; exact c2) (by rw [h_getlt hb]; exact c3)) ?_
    rw [show (if x.2 = true then (0 : Int) else x.1) = soE x from rfl]
    by_cases h0 : soE x = 0
    · rw [if_pos h0, hf] at hd
      have h0' : (soE x != 0) = false := by rw [h0]; rfl
      repeat' first | simp -implicitDefEqProofs (maxSteps := 400000) (disch := first | with_reducible rfl | omega | (simp only [wkH] <;> omega) | decide) only [wkAll, wkL, popO, wantedP, binP, wkN, if_pos, h0']
      exact hK (i + 1) _ _ ⟨by omega, hd.symm⟩ (by show es.length - (i + 1) < es.length - i; omega) (.eq (by simp [FadeTo]) rfl)
    · rw [if_neg h0, hf] at hd
      rw [hd] at hQ
      have h0' : (soE x != 0) = true := by rw [bne_iff_ne]; exact h0
      repeat' first | simp -implicitDefEqProofs (maxSteps := 400000) (disch := first | with_reducible rfl | omega | (simp only [wkH] <;> omega) | decide) only [wkAll, wkL, popO, wantedP, binP, if_pos, h0']
      refine hQ (by first | exact .inr rfl | exact .inl rfl) (by first | exact trivial | exact marks1) (by first | (simp -implicitDefEqProofs (maxSteps := 400000) (disch := first | with_reducible rfl | omega | (simp only [wkH] <;> omega) | decide) only [wkL, resP, resPs, resP1]; rfl) | rfl) ⟨6, by repeat' first | exact frz_scalar rfl | apply frz_tuple | apply frz_agg | apply frz_fsl | apply frz_gsl (by omega) | exact frzs_nil | apply frzs_cons⟩ (by first | exact keepsH0 | exact keeps1 (by assumption)) (nw_eq ?_)
      rfl
  · rw [List.drop_eq_nil_of_le hge] at hf
    exact absurd hf.symm hne
theorem soT_ok (ph : PH) (p q : Nat) (e : Int) (h1 : ph.get p = some [.bool true]) (h2 : ph.get q = some [.int .i64 e]) : Eff (Cx w0) 56 [.ptr p 0, .ptr q 0] ph (.int .i64 0) ph := soV_ok ph p q true e h1 h2
theorem so_ok (ph : PH) (e : Int) (b : Bool) : EffA (Cx w0) 20 [.int .i64 e, .bool b] ph (.func 56 [] [.ptr (ph.n + 1) 0, .ptr ph.n 0]) [some (.own [.int .i64 e]), some (.own [.bool b])] := by
  intro K hK
  rw [show ph = H ph [] ph.ob ph.ty from (h_start ph).symm]
  refine w_inl ([Go.ResultVar.tmp 4]) Tryz.func20 rfl rfl (by decide) fun _ hI => ?_
  simp only [start, List.length_cons, List.length_nil, List.cons_append, List.nil_append, Nat.reduceAdd, Nat.reduceSub, List.replicate_succ, List.replicate_zero, Tryz.ntmps20]
  repeat' first | simp -implicitDefEqProofs (maxSteps := 400000) (disch := first | with_reducible rfl | omega | (simp only [wkH] <;> omega) | decide) only [wkAll, wkL, popO, wantedP, if_pos]
  refine hI (by first | exact .inr rfl | exact .inl rfl) trivial (by first | (simp -implicitDefEqProofs (maxSteps := 400000) (disch := first | with_reducible rfl | omega | (simp only [wkH] <;> omega) | decide) only [wkL, resP, resPs, resP1]; rfl) | rfl) ?_
  exact hK
def acE (A : List Int) (l : List KR) : List (Int × Bool) := [(14, ((findL l 2).length : Int) == 0), (23, decide (idxL unkR l < 0)), (10, (singL l 1).2 && ((singL l 1).1 == 0) && (singL l 4).2), (13, A.any (fun y => (singL l 4).1 == y) && decide (0 < kszL (singL l 4).1))]
def acJ (c : List (List UInt8)) : List (Int × Bool) := [(19, decide (0 < (c.length : Int))), (18, decide ((c.length : Int) ≤ 8)), (12, !(c.any fun s => !cookB s))]
/-- What a client gets of an answer. -/
def acceptL (A : List Int) (l : List KR) : DL × Int :=
  if firE (acE A l) ≠ 0 then (⟨0, [], [], 0⟩, firE (acE A l))
  else if firE (acJ ((findL l 5).map (·.b))) ≠ 0 then (⟨0, [], [], 0⟩, firE (acJ ((findL l 5).map (·.b))))
  else if (whereL l).2.2 ≠ 0 then (⟨0, [], [], 0⟩, (whereL l).2.2)
  else (⟨(singL l 4).1, (findL l 5).map (·.b), (whereL l).1, (whereL l).2.1⟩, 0)
theorem negoAccept_ok (A : List Int) (l : List KR) (hA : A.length < 2 ^ 40) (hl : l.length < 2 ^ 40) (hb : ∀ r ∈ l, r.b.length < 2 ^ 50) : Fn (Cx w0) 12 [.fsl 1 A.length (intsC A), .fsl 3 l.length (krsC l)] (.tuple [.agg (dlC (acceptL A l).1), .int .i64 (acceptL A l).2]) := by
  have s1 := negoSingle_ok (w0 := w0) l 1 hl hb
  have s4 := negoSingle_ok (w0 := w0) l 4 hl hb
  have t2 := keFind_ok (w0 := w0) l 2 hl
  have tu := keUnknown_ok (w0 := w0) l hl
  have tc := contains_ok (w0 := w0) A (singL l 4).1 hA
  have tk := negoKeySize_ok (w0 := w0) (singL l 4).1
  obtain ⟨b0, hb0⟩ : ∃ b, b = (((findL l 2).length : Int) == 0) := ⟨_, rfl⟩
  obtain ⟨b1, hb1⟩ : ∃ b, b = decide (idxL unkR l < 0) := ⟨_, rfl⟩
  obtain ⟨b4, hb4⟩ : ∃ b, b = decide (0 < kszL (singL l 4).1) := ⟨_, rfl⟩
  obtain ⟨b5, hb5⟩ : ∃ b, b = ((singL l 1).1 == 0) := ⟨_, rfl⟩
  have hE : ∀ x y, x = ((singL l 1).2 && b5 && (singL l 4).2) → y = (A.any (fun y => (singL l 4).1 == y) && b4) → acE A l = [(14, b0), (23, b1), (10, x), (13, y)] := by rintro x y rfl rfl; rw [acE, ← hb0, ← hb1, ← hb4, ← hb5]
  by_cases hf : firE (acE A l) = 0
  · have hz := hf
    rw [hE _ _ rfl rfl] at hz
    have z0 : b0 = true := by cases b0 with | true => rfl | false => simp [firE] at hz
    rw [z0] at hb0 hz
    have z1 : b1 = true := by cases b1 with | true => rfl | false => simp [firE] at hz
    rw [z1] at hb1 hz
    have z2 : ((singL l 1).2 && b5 && (singL l 4).2) = true := by
      generalize ((singL l 1).2 && b5 && (singL l 4).2) = x at hz
      cases x with | true => rfl | false => simp [firE] at hz
    rw [z2] at hz
    have z3 : (A.any (fun y => (singL l 4).1 == y) && b4) = true := by
      generalize (A.any (fun y => (singL l 4).1 == y) && b4) = x at hz
      cases x with | true => rfl | false => simp [firE] at hz
    simp only [Bool.and_eq_true] at z2 z3
    obtain ⟨⟨y1, y2⟩, y3⟩ := z2
    obtain ⟨y4, y5⟩ := z3
    rw [y1] at s1
    rw [y2] at hb5
    rw [y3] at s4
    rw [y4] at tc
    rw [y5] at hb4
    clear hz hE
    have t5 := keFind_ok (w0 := w0) l 5 hl
    obtain ⟨Cb, hCb⟩ : ∃ C, C = (findL l 5).map (·.b) := ⟨_, rfl⟩
    have hFl : (findL l 5).length ≤ l.length := List.length_filter_le _ _
    have hCl : Cb.length = (findL l 5).length := by rw [hCb, List.length_map]
    have hacc : firE (acE A l) = 0 → acceptL A l = if firE (acJ Cb) ≠ 0 then (⟨0, [], [], 0⟩, firE (acJ Cb)) else if (whereL l).2.2 ≠ 0 then (⟨0, [], [], 0⟩, (whereL l).2.2) else (⟨(singL l 4).1, Cb, (whereL l).1, (whereL l).2.1⟩, 0) := fun h => by rw [acceptL, if_neg (by simpa using h), ← hCb]
    rw [hacc hf]
    clear hacc
    have hsS : ∀ (n i : Nat) (l : List (List UInt8)), Scs n (List.take i (List.map PV.str l)) = True := fun n i l => eq_true (scs_scalars (by rw [List.all_eq_true]; intro x hx; obtain ⟨y, -, rfl⟩ := List.mem_map.1 (List.mem_of_mem_take hx); rfl))
    have hsV : ∀ {l : List (List UInt8)}, (List.map PV.str l).all scalarV = true := by intro l; rw [List.all_eq_true]; intro x hx; obtain ⟨y, -, rfl⟩ := List.mem_map.1 hx; rfl
    have hsM : ∀ (n : Nat) (l : List (List UInt8)), Scs n (List.map PV.str l) = True := fun n l => eq_true (scs_scalars hsV)
    have hbF : ∀ r ∈ findL l 5, r.b.length < 2 ^ 50 := fun r hr => hb r (List.mem_filter.1 hr).1
    generalize findL l 5 = F at *
    refine fn_H ([Go.ResultVar.cell 4 38, Go.ResultVar.tmp 5]) Tryz.func12 rfl rfl (by decide) fun ph hW Q hQ => ?_
    simp only [start, List.length_cons, List.length_nil, List.cons_append, List.nil_append, Nat.reduceAdd, Nat.reduceSub, List.replicate_succ, List.replicate_zero, Tryz.ntmps12]
    repeat' first | simp -implicitDefEqProofs (maxSteps := 400000) (disch := first | with_reducible rfl | omega | (simp only [wkH] <;> omega) | decide) only [wkAll, wkL, popO, wantedP, ne_eq, Nat.reduceAdd, Nat.reduceLeDiff, Nat.reduceLT, binP, lenP, builtinP, loadOp, storeOp, loadP, buildP, buildSliceP, placeF, fillP, setL, PK.agg, gt_iff_lt, Nat.reducePow, reps, seg, if_pos, if_neg, tf26, tf38, Tryz.ze38, tf66, Tryz.ze66, tf84, Tryz.ze84, tf86, Tryz.ze86, tf102, pl12_4Ng14, ← hb0, ← hb1, ← hb4, ← hb5, gt_iff_lt] | refine w_pure (s1) ?_ | refine w_pure (s4) ?_ | refine w_pure (t2) ?_ | refine w_pure (tu) ?_ | refine w_pure (tc) ?_ | refine w_pure (tk) ?_ | refine w_effA (so_ok _ _ _) ?_ | refine w_drawnF (id := 4) tb12_4Ng14 pl12_4Ng14 57 (by kernel_rfl) (by kernel_rfl) (by simp) ?_
    refine w_inl ([Go.ResultVar.tmp 2]) Tryz.func19 rfl rfl (by decide) fun _ hI => ?_
    simp only [start, List.length_cons, List.length_nil, List.cons_append, List.nil_append, Nat.reduceAdd, Nat.reduceSub, List.replicate_succ, List.replicate_zero, Tryz.ntmps19]
    have hIf := @hI
    repeat' first | simp -implicitDefEqProofs (maxSteps := 400000) (disch := first | with_reducible rfl | omega | (simp only [wkH] <;> omega) | decide) only [wkAll, wkL, popO, wantedP, Nat.reduceAdd, lenP, builtinP, wkN, tf102]
    refine w_unr 7 ?_
    repeat' first | simp -implicitDefEqProofs (maxSteps := 400000) (disch := first | with_reducible rfl | omega | (simp only [wkH] <;> omega) | decide) only [wkAll, wkL, popO, wantedP, Nat.reduceAdd, Nat.reduceLeDiff, Int.reduceLE, Int.reduceLT, Int.reduceToNat, Int.reduceAdd, binP, indexAddrOp, loadOp, loadP, PK.agg, seg, wkN, if_pos, if_neg, tf66, tf102, unr_succ] | refine w_eff (soT_ok _ (ph.n + 5) (ph.n + 4) _ (by rw [h_get]; rfl) (by rw [h_get]; rfl)) ?_ | refine w_eff (soT_ok _ (ph.n + 7) (ph.n + 6) _ (by rw [h_get]; rfl) (by rw [h_get]; rfl)) ?_ | refine w_eff (soT_ok _ (ph.n + 9) (ph.n + 8) _ (by rw [h_get]; rfl) (by rw [h_get]; rfl)) ?_ | refine w_eff (soT_ok _ (ph.n + 11) (ph.n + 10) _ (by rw [h_get]; rfl) (by rw [h_get]; rfl)) ?_
    refine w_inl ([Go.ResultVar.tmp 2]) Tryz.func43 rfl rfl (by decide) fun _ hI => ?_
    simp only [start, List.length_cons, List.length_nil, List.cons_append, List.nil_append, Nat.reduceAdd, Nat.reduceSub, List.replicate_succ, List.replicate_zero, Tryz.ntmps43]
    have hIa := @hI
    repeat' first | simp -implicitDefEqProofs (maxSteps := 400000) (disch := first | with_reducible rfl | omega | (simp only [wkH] <;> omega) | decide) only [wkAll, wkL, popO, wantedP, Nat.reduceAdd, Nat.reduceLeDiff, loadOp, loadP, PK.agg, seg, if_pos, if_neg, tf26, tf84]
    refine w_inl ([Go.ResultVar.tmp 4]) Tryz.func44 rfl rfl (by decide) fun _ hI => ?_
    simp only [start, List.length_cons, List.length_nil, List.cons_append, List.nil_append, Nat.reduceAdd, Nat.reduceSub, List.replicate_succ, List.replicate_zero, Tryz.ntmps44]
    repeat' first | simp -implicitDefEqProofs (maxSteps := 400000) (disch := first | with_reducible rfl | omega | (simp only [wkH] <;> omega) | decide) only [wkAll, wkL, popO, wantedP, Nat.reduceAdd, lenP, builtinP, tf26] | refine w_pure (t5) ?_ | refine w_drawnF (id := 4) tb44_4Ng14 pl44_4Ng14 27 (by kernel_rfl) (by kernel_rfl) (by simp) ?_ | refine w_drawnF (id := 6) tb44_6Ng14 pl44_6Ng14 54 (by kernel_rfl) (by kernel_rfl) (by simp) ?_
    refine w_growL0 1 9 [some (.own [.fsl 3 l.length (krsC l)]), some (.own [.int .i64 0, .nilsl, .str [], .int .i64 0]), some (.own [.int .i64 (singL l 4).1, .gsl (ph.n + 13) 1 0 [], .str [], .int .i64 0]), some (.own [.ptr (ph.n + 2) 0]), some (.own [.int .i64 14]), some (.own [.bool true]), some (.own [.int .i64 23]), some (.own [.bool true]), some (.own [.int .i64 10]), some (.own [.bool true]), some (.own [.int .i64 13]), some (.own [.bool true]), some (.own [.func 56 [] [.ptr (ph.n + 4 + 1) 0, .ptr (ph.n + 4) 0], .func 56 [] [.ptr (ph.n + 6 + 1) 0, .ptr (ph.n + 6) 0], .func 56 [] [.ptr (ph.n + 8 + 1) 0, .ptr (ph.n + 8) 0], .func 56 [] [.ptr (ph.n + 10 + 1) 0, .ptr (ph.n + 10) 0], .func 43 [] [.ptr (ph.n + 3) 0, .ptr ph.n 0], .func 45 [] [.ptr (ph.n + 3) 0, .ptr ph.n 0]])] (by simp) (by simp [NilB, NilL]) ?_
    refine w_loopH (α := Nat) ph ph.ob _ (fun i => [.ptr (ph.n + 2) 0, .undef, .undef, .undef, .undef, .undef, .undef, .undef, .fsl 3 F.length (krsC F), .int .i64 F.length, .int .i64 i, .undef, .undef, .undef, .undef, .undef, .undef, .undef, .undef, .undef, .undef, .undef, .undef, .undef, .undef, .undef, .undef, .undef, .undef, .undef, .undef, .undef, .undef, .undef, .undef, .undef, .undef, .undef, .undef, .undef, .undef, .undef, .undef, .undef, .undef, .undef, .undef, .undef, .undef, .undef, .undef, .undef, .undef, .undef]) (fun i => [some (.own [.fsl 3 l.length (krsC l)]), some (.own [.int .i64 0, .nilsl, .str [], .int .i64 0]), some (.own [.int .i64 (singL l 4).1, .gsl (ph.n + 13) 1 i ((Cb.take i).map PV.str), .str [], .int .i64 0]), some (.own [.ptr (ph.n + 2) 0]), some (.own [.int .i64 14]), some (.own [.bool true]), some (.own [.int .i64 23]), some (.own [.bool true]), some (.own [.int .i64 10]), some (.own [.bool true]), some (.own [.int .i64 13]), some (.own [.bool true]), some (.own [.func 56 [] [.ptr (ph.n + 4 + 1) 0, .ptr (ph.n + 4) 0], .func 56 [] [.ptr (ph.n + 6 + 1) 0, .ptr (ph.n + 6) 0], .func 56 [] [.ptr (ph.n + 8 + 1) 0, .ptr (ph.n + 8) 0], .func 56 [] [.ptr (ph.n + 10 + 1) 0, .ptr (ph.n + 10) 0], .func 43 [] [.ptr (ph.n + 3) 0, .ptr ph.n 0], .func 45 [] [.ptr (ph.n + 3) 0, .ptr ph.n 0]]), some (.grow 1 i 9)]) (fun i => i ≤ F.length) (fun i => F.length - i) 0 (by simp) (fun _ _ => by simp []) (.eq (by simp [FadeTo]) rfl) ?_
    intro i hi K hK
    rcases Nat.lt_or_ge i F.length with hlt | hge
    · obtain ⟨r, hr⟩ := get_some hlt
      have hd := krsC_drop F i r hr
      have hlt' : (i : Int) < (F.length : Int) := by omega
      have hcr : Cb[i]? = some r.b := by rw [hCb, List.getElem?_map, hr]; rfl
      have hct := take_snoc hcr
      have hmx : ((i + 1) * 16 ≤ 140737488355328) = True := by simp; omega
      repeat' first | simp -implicitDefEqProofs (maxSteps := 400000) (disch := first | with_reducible rfl | omega | (simp only [wkH] <;> omega) | decide) only [wkAll, wkL, popO, wantedP, ne_eq, Nat.reduceAdd, Nat.reduceLeDiff, Nat.reduceLT, reduceCtorEq, binP, builtinP, srcP, indexAddrOp, loadOp, storeOp, loadP, fieldAddrOp, buildSliceP, fillP, setL, PK.agg, gt_iff_lt, Nat.reducePow, reps, seg, wkN, if_pos, if_neg, tf9, Tryz.ze9, tf23, tf26, tf38, tf46, Tryz.ze46, tf86, pl44_4Ng14, hd, hlt', hmx, app_g] | refine w_drawnF (id := 4) tb44_4Ng14 pl44_4Ng14 27 (by kernel_rfl) (by kernel_rfl) (by simp) ?_ | refine w_drawnF (id := 6) tb44_6Ng14 pl44_6Ng14 54 (by kernel_rfl) (by kernel_rfl) (by simp) ?_
      refine hK (i + 1) _ _ (by omega) (by omega) (.cut [_, _] hW (by simp [FadeTo]) (by first | rfl | (simp [hct, List.map_append, List.map_cons, List.map_nil]; rfl) | simp [hct, List.map_append, List.map_cons, List.map_nil]) (by simp [scs_cons, scs_nil, sc_ptr, sc_fsl, sc_int, sc_undef, scs_krs]) (by simp [scs_cons, scs_nil, sc_ptr, sc_fsl, sc_gsl, sc_func, sc_int, sc_bool, sc_str, sc_nilsl, scs_krs, hsS]))
    · have hge' : ¬ (i : Int) < (F.length : Int) := by omega
      have hi2 : i = F.length := by omega
      rw [List.take_of_length_le (by omega)]
      have hiC : i = Cb.length := by omega
      clear hK
      rw [hiC] at hge' ⊢
      obtain ⟨c0, hc0⟩ : ∃ b, b = decide (0 < (Cb.length : Int)) := ⟨_, rfl⟩
      obtain ⟨c1, hc1⟩ : ∃ b, b = decide ((Cb.length : Int) ≤ 8) := ⟨_, rfl⟩
      obtain ⟨c2, hc2⟩ : ∃ b, b = Cb.any fun s => !cookB s := ⟨_, rfl⟩
      have tck := containsCk_ok (w0 := w0) Cb (by omega) (by rw [hCb]; intro s hs; obtain ⟨r, hr, rfl⟩ := List.mem_map.1 hs; exact hbF r hr)
      rw [← hc2] at tck
      have hJ : acJ Cb = [(19, c0), (18, c1), (12, !c2)] := by rw [acJ, ← hc0, ← hc1, ← hc2]
      repeat' first | simp -implicitDefEqProofs (maxSteps := 400000) (disch := first | with_reducible rfl | omega | (simp only [wkH] <;> omega) | decide) only [wkAll, wkL, popO, wantedP, ne_eq, Nat.reduceAdd, Nat.reduceLeDiff, Nat.reduceLT, binP, unP, lenP, builtinP, loadOp, loadP, fieldAddrOp, buildSliceP, fillP, setL, PK.agg, gt_iff_lt, Nat.reducePow, reps, seg, if_pos, if_neg, tf23, tf38, tf66, Tryz.ze66, tf86, tf102, pl44_6Ng14, hge', ← hc0, ← hc1, gt_iff_lt] | refine w_pureN (tck) (by repeat' first | exact nws_nil | apply nws_cons | exact nw_gsl | exact nw_eq rfl) ?_ | refine w_effA (so_ok _ _ _) ?_ | refine w_drawnF (id := 4) tb44_4Ng14 pl44_4Ng14 27 (by kernel_rfl) (by kernel_rfl) (by simp) ?_ | refine w_drawnF (id := 6) tb44_6Ng14 pl44_6Ng14 54 (by kernel_rfl) (by kernel_rfl) (by simp) ?_
      refine w_eff (firstSo_ok _ (ph.n + 20) _ [(19, c0), (18, c1), (12, !c2)] _ (by show 3 < 2 ^ 40; decide) (by rw [h_get]; rfl) rfl (by
        intro i x hx
        match i, hx with
        | 0, hx => cases hx; exact ⟨ph.n + 15, ph.n + 14, rfl, by rw [h_get]; rfl, by rw [h_get]; rfl⟩
        | 1, hx => cases hx; exact ⟨ph.n + 17, ph.n + 16, rfl, by rw [h_get]; rfl, by rw [h_get]; rfl⟩
        | 2, hx => cases hx; exact ⟨ph.n + 19, ph.n + 18, rfl, by rw [h_get]; rfl, by rw [h_get]; rfl⟩
        | i + 3, hx => simp at hx)) ?_
      rw [← hJ]
      repeat' first | simp -implicitDefEqProofs (maxSteps := 400000) (disch := first | with_reducible rfl | omega | (simp only [wkH] <;> omega) | decide) only [wkAll, wkL, popO, wantedP] | refine w_drawnF (id := 4) tb44_4Ng14 pl44_4Ng14 27 (by kernel_rfl) (by kernel_rfl) (by simp) ?_ | refine w_drawnF (id := 6) tb44_6Ng14 pl44_6Ng14 54 (by kernel_rfl) (by kernel_rfl) (by simp) ?_
      refine hI (by first | exact .inr rfl | exact .inl rfl) trivial (by first | (simp -implicitDefEqProofs (maxSteps := 400000) (disch := first | with_reducible rfl | omega | (simp only [wkH] <;> omega) | decide) only [wkL, resP, resPs, resP1]; rfl) | rfl) ?_
      repeat' first | simp -implicitDefEqProofs (maxSteps := 400000) (disch := first | with_reducible rfl | omega | (simp only [wkH] <;> omega) | decide) only [wkAll, wkL, popO, wantedP]
      have hI := @hIa
      refine hI (by first | exact .inr rfl | exact .inl rfl) trivial (by first | (simp -implicitDefEqProofs (maxSteps := 400000) (disch := first | with_reducible rfl | omega | (simp only [wkH] <;> omega) | decide) only [wkL, resP, resPs, resP1]; rfl) | rfl) ?_
      by_cases hj : firE (acJ Cb) = 0
      · have hj' : (firE (acJ Cb) != 0) = false := by rw [hj]; rfl
        rw [if_neg (by simpa using hj)] at hQ
        repeat' first | simp -implicitDefEqProofs (maxSteps := 400000) (disch := first | with_reducible rfl | omega | (simp only [wkH] <;> omega) | decide) only [wkAll, wkL, popO, wantedP, Nat.reduceAdd, Nat.reduceLeDiff, Int.reduceLE, Int.reduceLT, Int.reduceToNat, Int.reduceAdd, binP, indexAddrOp, loadOp, loadP, PK.agg, seg, wkN, if_pos, if_neg, tf66, tf102, hj', unr_succ]
        refine w_inl ([Go.ResultVar.tmp 2]) Tryz.func45 rfl rfl (by decide) fun _ hI => ?_
        simp only [start, List.length_cons, List.length_nil, List.cons_append, List.nil_append, Nat.reduceAdd, Nat.reduceSub, List.replicate_succ, List.replicate_zero, Tryz.ntmps45]
        repeat' first | simp -implicitDefEqProofs (maxSteps := 400000) (disch := first | with_reducible rfl | omega | (simp only [wkH] <;> omega) | decide) only [wkAll, wkL, popO, wantedP, Nat.reduceAdd, Nat.reduceLeDiff, loadOp, loadP, PK.agg, seg, if_pos, if_neg, tf26, tf84]
        refine w_eff (negoWhere_ok _ (ph.n + 2) _ _ l (by rw [h_get]; rfl) (by simp [scs_cons, scs_nil, sc_gsl, h_n, hsM]) rfl hl hb) ?_
        repeat' first | simp -implicitDefEqProofs (maxSteps := 400000) (disch := first | with_reducible rfl | omega | (simp only [wkH] <;> omega) | decide) only [wkAll, wkL, popO, wantedP]
        refine hI (by first | exact .inr rfl | exact .inl rfl) trivial (by first | (simp -implicitDefEqProofs (maxSteps := 400000) (disch := first | with_reducible rfl | omega | (simp only [wkH] <;> omega) | decide) only [wkL, resP, resPs, resP1]; rfl) | rfl) ?_
        by_cases hw : (whereL l).2.2 = 0
        · have hw' : ((whereL l).2.2 != 0) = false := by rw [hw]; rfl
          rw [if_neg (by simpa using hw)] at hQ
          repeat' first | simp -implicitDefEqProofs (maxSteps := 400000) (disch := first | with_reducible rfl | omega | (simp only [wkH] <;> omega) | decide) only [wkAll, wkL, popO, wantedP, Int.reduceLT, Int.reduceAdd, binP, wkN, if_pos, hw', unr_succ]
          have hI := @hIf
          refine hI (by first | exact .inr rfl | exact .inl rfl) trivial (by first | (simp -implicitDefEqProofs (maxSteps := 400000) (disch := first | with_reducible rfl | omega | (simp only [wkH] <;> omega) | decide) only [wkL, resP, resPs, resP1]; rfl) | rfl) ?_
          repeat' first | simp -implicitDefEqProofs (maxSteps := 400000) (disch := first | with_reducible rfl | omega | (simp only [wkH] <;> omega) | decide) only [wkAll, wkL, popO, wantedP, Nat.reduceAdd, Nat.reduceLeDiff, binP, loadOp, storeOp, loadP, fieldAddrOp, setL, PK.agg, seg, if_pos, if_neg, tf38, tf84, tf86] | refine w_drawnF (id := 4) tb12_4Ng14 pl12_4Ng14 57 (by kernel_rfl) (by kernel_rfl) (by simp) ?_
          refine hQ (by first | exact .inr rfl | exact .inl rfl) (by first | exact trivial | exact marks1) (by first | (simp -implicitDefEqProofs (maxSteps := 400000) (disch := first | with_reducible rfl | omega | (simp only [wkH] <;> omega) | decide) only [wkAll, wkL, Nat.reduceAdd, Nat.reduceLeDiff, loadOp, loadP, PK.agg, seg, if_pos, tf38, resP, resPs, resP1]; rfl) | rfl) ⟨6, by repeat' first | exact frz_scalar rfl | apply frz_tuple | apply frz_agg | apply frz_fsl | apply frz_gsl (by omega) | exact frzs_nil | apply frzs_cons | exact frzs_scalars (hsV)⟩ (by first | exact keepsH0 | exact keeps1 (by assumption)) (nw_eq ?_)
          rfl
        · have hw' : ((whereL l).2.2 != 0) = true := by rw [bne_iff_ne]; exact hw
          rw [if_pos (by simpa using hw)] at hQ
          repeat' first | simp -implicitDefEqProofs (maxSteps := 400000) (disch := first | with_reducible rfl | omega | (simp only [wkH] <;> omega) | decide) only [wkAll, wkL, popO, wantedP, binP, if_pos, hw'] | refine w_drawnF (id := 4) tb12_4Ng14 pl12_4Ng14 57 (by kernel_rfl) (by kernel_rfl) (by simp) ?_
          have hI := @hIf
          refine hI (by first | exact .inr rfl | exact .inl rfl) trivial (by first | (simp -implicitDefEqProofs (maxSteps := 400000) (disch := first | with_reducible rfl | omega | (simp only [wkH] <;> omega) | decide) only [wkL, resP, resPs, resP1]; rfl) | rfl) ?_
          repeat' first | simp -implicitDefEqProofs (maxSteps := 400000) (disch := first | with_reducible rfl | omega | (simp only [wkH] <;> omega) | decide) only [wkAll, wkL, popO, wantedP, Nat.reduceAdd, Nat.reduceLeDiff, binP, storeOp, buildP, placeF, fillP, setL, if_pos, tf38, Tryz.ze38, hw'] | refine w_drawnF (id := 4) tb12_4Ng14 pl12_4Ng14 57 (by kernel_rfl) (by kernel_rfl) (by simp) ?_
          refine hQ (by first | exact .inr rfl | exact .inl rfl) (by first | exact trivial | exact marks1) (by first | (simp -implicitDefEqProofs (maxSteps := 400000) (disch := first | with_reducible rfl | omega | (simp only [wkH] <;> omega) | decide) only [wkAll, wkL, Nat.reduceAdd, Nat.reduceLeDiff, loadOp, loadP, PK.agg, seg, if_pos, tf38, resP, resPs, resP1]; rfl) | rfl) ⟨6, by repeat' first | exact frz_scalar rfl | apply frz_tuple | apply frz_agg | apply frz_fsl | apply frz_gsl (by omega) | exact frzs_nil | apply frzs_cons⟩ (by first | exact keepsH0 | exact keeps1 (by assumption)) ?_
          repeat' first | exact nw_nil | exact nw_zsl | apply nw_tuple | apply nw_agg | exact nws_nil | apply nws_cons | exact nw_eq rfl | apply nw_eq
      · have hj' : (firE (acJ Cb) != 0) = true := by rw [bne_iff_ne]; exact hj
        rw [if_pos (by simpa using hj)] at hQ
        repeat' first | simp -implicitDefEqProofs (maxSteps := 400000) (disch := first | with_reducible rfl | omega | (simp only [wkH] <;> omega) | decide) only [wkAll, wkL, popO, wantedP, binP, if_pos, hj'] | refine w_drawnF (id := 4) tb12_4Ng14 pl12_4Ng14 57 (by kernel_rfl) (by kernel_rfl) (by simp) ?_
        have hI := @hIf
        refine hI (by first | exact .inr rfl | exact .inl rfl) trivial (by first | (simp -implicitDefEqProofs (maxSteps := 400000) (disch := first | with_reducible rfl | omega | (simp only [wkH] <;> omega) | decide) only [wkL, resP, resPs, resP1]; rfl) | rfl) ?_
        repeat' first | simp -implicitDefEqProofs (maxSteps := 400000) (disch := first | with_reducible rfl | omega | (simp only [wkH] <;> omega) | decide) only [wkAll, wkL, popO, wantedP, Nat.reduceAdd, Nat.reduceLeDiff, binP, storeOp, buildP, placeF, fillP, setL, if_pos, tf38, Tryz.ze38, hj'] | refine w_drawnF (id := 4) tb12_4Ng14 pl12_4Ng14 57 (by kernel_rfl) (by kernel_rfl) (by simp) ?_
        refine hQ (by first | exact .inr rfl | exact .inl rfl) (by first | exact trivial | exact marks1) (by first | (simp -implicitDefEqProofs (maxSteps := 400000) (disch := first | with_reducible rfl | omega | (simp only [wkH] <;> omega) | decide) only [wkAll, wkL, Nat.reduceAdd, Nat.reduceLeDiff, loadOp, loadP, PK.agg, seg, if_pos, tf38, resP, resPs, resP1]; rfl) | rfl) ⟨6, by repeat' first | exact frz_scalar rfl | apply frz_tuple | apply frz_agg | apply frz_fsl | apply frz_gsl (by omega) | exact frzs_nil | apply frzs_cons⟩ (by first | exact keepsH0 | exact keeps1 (by assumption)) ?_
        repeat' first | exact nw_nil | exact nw_zsl | apply nw_tuple | apply nw_agg | exact nws_nil | apply nws_cons | exact nw_eq rfl | apply nw_eq
  · rw [show acceptL A l = (⟨0, [], [], 0⟩, firE (acE A l)) by rw [acceptL, if_pos hf]]
    have hcc : ∀ (X Y : Bool) {a0 a1 a2 a3 : Blk} {ph : PH} (H1 : PH) (c : List PV), H1 = H ph [some a0, some a1, some a2, some a3, some (.own [.int .i64 14]), some (.own [.bool b0]), some (.own [.int .i64 23]), some (.own [.bool b1]), some (.own [.int .i64 10]), some (.own [.bool X]), some (.own [.int .i64 13]), some (.own [.bool Y]), some (.own c)] ph.ob ph.ty → c = [.func 56 [] [.ptr (ph.n + 4 + 1) 0, .ptr (ph.n + 4) 0], .func 56 [] [.ptr (ph.n + 6 + 1) 0, .ptr (ph.n + 6) 0], .func 56 [] [.ptr (ph.n + 8 + 1) 0, .ptr (ph.n + 8) 0], .func 56 [] [.ptr (ph.n + 10 + 1) 0, .ptr (ph.n + 10) 0], .func 43 [] [.ptr (ph.n + 3) 0, .ptr ph.n 0], .func 45 [] [.ptr (ph.n + 3) 0, .ptr ph.n 0]] → ∀ (i : Nat) (x : Int × Bool), [((14 : Int), b0), (23, b1), (10, X), (13, Y)][i]? = some x → ∃ a b, c[i]? = some (.func 56 [] [.ptr a 0, .ptr b 0]) ∧ H1.get a = some [.bool x.2] ∧ H1.get b = some [.int .i64 x.1] := by
      rintro X Y a0 a1 a2 a3 ph H1 c rfl rfl i x hx
      match i, hx with
      | 0, hx => cases hx; exact ⟨ph.n + 5, ph.n + 4, rfl, by rw [h_get]; rfl, by rw [h_get]; rfl⟩
      | 1, hx => cases hx; exact ⟨ph.n + 7, ph.n + 6, rfl, by rw [h_get]; rfl, by rw [h_get]; rfl⟩
      | 2, hx => cases hx; exact ⟨ph.n + 9, ph.n + 8, rfl, by rw [h_get]; rfl, by rw [h_get]; rfl⟩
      | 3, hx => cases hx; exact ⟨ph.n + 11, ph.n + 10, rfl, by rw [h_get]; rfl, by rw [h_get]; rfl⟩
      | i + 4, hx => simp at hx
    have hor : ((singL l 1).2 = false ∨ ((singL l 1).2 = true ∧ b5 = false) ∨ ((singL l 1).2 = true ∧ b5 = true)) := by
      cases (singL l 1).2 <;> cases b5 <;> simp
    rcases hor with h1 | ⟨h1, h5⟩ | ⟨h1, h5⟩
    all_goals
      have hne : (firE (acE A l) != 0) = true := by rw [bne_iff_ne]; exact hf
    all_goals
      cases h6 : A.any (fun y => (singL l 4).1 == y)
    all_goals
      rw [h1] at s1
      rw [h6] at tc
      first | rw [h5] at hb5 | skip
      refine fn_H ([Go.ResultVar.cell 4 38, Go.ResultVar.tmp 5]) Tryz.func12 rfl rfl (by decide) fun ph hW Q hQ => ?_
      simp only [start, List.length_cons, List.length_nil, List.cons_append, List.nil_append, Nat.reduceAdd, Nat.reduceSub, List.replicate_succ, List.replicate_zero, Tryz.ntmps12]
      repeat' first | simp -implicitDefEqProofs (maxSteps := 400000) (disch := first | with_reducible rfl | omega | (simp only [wkH] <;> omega) | decide) only [wkAll, wkL, popO, wantedP, ne_eq, Nat.reduceAdd, Nat.reduceLeDiff, Nat.reduceLT, binP, lenP, builtinP, loadOp, storeOp, loadP, buildP, buildSliceP, placeF, fillP, setL, PK.agg, gt_iff_lt, Nat.reducePow, reps, seg, if_pos, if_neg, tf26, tf38, Tryz.ze38, tf66, Tryz.ze66, tf84, Tryz.ze84, tf86, Tryz.ze86, tf102, pl12_4Ng14, ← hb0, ← hb1, ← hb4, ← hb5, gt_iff_lt] | refine w_pure (s1) ?_ | refine w_pure (s4) ?_ | refine w_pure (t2) ?_ | refine w_pure (tu) ?_ | refine w_pure (tc) ?_ | refine w_pure (tk) ?_ | refine w_effA (so_ok _ _ _) ?_ | refine w_drawnF (id := 4) tb12_4Ng14 pl12_4Ng14 57 (by kernel_rfl) (by kernel_rfl) (by simp) ?_
      refine w_eff (firstFail_ok _ (ph.n + 12) 6 _ [(14, b0), (23, b1), (10, _), (13, _)] _ (by decide) (by rw [h_get]; rfl) rfl (by show 4 ≤ 6; decide) ?_ (hcc _ _ _ _ rfl rfl)) ?_
      · rw [← hE _ _ (by first | (rw [h1]; rfl) | (rw [h1, h5]; rfl)) (by rw [h6]; rfl)]; exact hf
      rw [← hE _ _ (by first | (rw [h1]; rfl) | (rw [h1, h5]; rfl)) (by rw [h6]; rfl)]
      repeat' first | simp -implicitDefEqProofs (maxSteps := 400000) (disch := first | with_reducible rfl | omega | (simp only [wkH] <;> omega) | decide) only [wkAll, wkL, popO, wantedP, Nat.reduceAdd, Nat.reduceLeDiff, binP, storeOp, buildP, placeF, fillP, setL, if_pos, tf38, Tryz.ze38, hne] | refine w_drawnF (id := 4) tb12_4Ng14 pl12_4Ng14 57 (by kernel_rfl) (by kernel_rfl) (by simp) ?_
      refine hQ (by first | exact .inr rfl | exact .inl rfl) (by first | exact trivial | exact marks1) (by first | (simp -implicitDefEqProofs (maxSteps := 400000) (disch := first | with_reducible rfl | omega | (simp only [wkH] <;> omega) | decide) only [wkAll, wkL, Nat.reduceAdd, Nat.reduceLeDiff, loadOp, loadP, PK.agg, seg, if_pos, tf38, resP, resPs, resP1]; rfl) | rfl) ⟨6, by repeat' first | exact frz_scalar rfl | apply frz_tuple | apply frz_agg | apply frz_fsl | apply frz_gsl (by omega) | exact frzs_nil | apply frzs_cons⟩ (by first | exact keepsH0 | exact keeps1 (by assumption)) ?_
      repeat' first | exact nw_nil | exact nw_zsl | apply nw_tuple | apply nw_agg | exact nws_nil | apply nws_cons | exact nw_eq rfl | apply nw_eq
end Pv
