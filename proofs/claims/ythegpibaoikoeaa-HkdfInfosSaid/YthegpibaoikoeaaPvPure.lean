/- Part of the proof: the layer of pure values, or a walk through a function (PvPure). -/
import Derived.Test.YthegpibaoikoeaaPvFun
set_option linter.all false
namespace Pv
open Go Go.RowKit
variable {X : Ctx} {G : Ghost} {ph : PH} {w : World} {ρ : Option Nat} {n0 : Nat} {Q : Exit → PSt → PH → Prop}

/-- All that was there before is as it was. -/
structure Keeps (base ph : PH) : Prop where
  n : base.n ≤ ph.n
  bl : ∀ p, p < base.n → ph.get p = base.get p
  ob : ∀ r o, base.ob r = some o → ph.ob r = some o
  ty : ∀ p, p < base.n → ph.ty p = base.ty p
  gr : ∀ p, p < base.n → ph.gro p = base.gro p

theorem Keeps.refl (ph : PH) : Keeps ph ph := ⟨Nat.le_refl _, fun _ _ => rfl, fun _ _ h => h, fun _ _ => rfl, fun _ _ => rfl⟩
theorem Keeps.trans {a b c : PH} (h : Keeps a b) (k : Keeps b c) : Keeps a c :=
  ⟨Nat.le_trans h.n k.n, fun p hp => (k.bl p (Nat.lt_of_lt_of_le hp h.n)).trans (h.bl p hp), fun r o e => k.ob r o (h.ob r o e), fun p hp => (k.ty p (Nat.lt_of_lt_of_le hp h.n)).trans (h.ty p hp), fun p hp => (k.gr p (Nat.lt_of_lt_of_le hp h.n)).trans (h.gr p hp)⟩
theorem Keeps.push {a b : PH} (h : Keeps a b) (c : List PV) : Keeps a (b.push c) :=
  ⟨by have := h.n; simp; omega, fun p hp => by rw [PH.get_push, if_neg (by have := h.n; omega)]; exact h.bl p hp, h.ob, h.ty, fun p hp => by rw [PH.gro_push]; exact h.gr p hp⟩
theorem Keeps.put {a b : PH} (h : Keeps a b) {p : Nat} (hp : a.n ≤ p) (hl : p < b.n) (c : List PV) : Keeps a (b.put p c) :=
  ⟨by have := h.n; simp; omega, fun q hq => by rw [PH.get_put hl, if_neg (by omega)]; exact h.bl q hq, h.ob, h.ty, fun q hq => by rw [PH.gro_put, if_neg (by omega)]; exact h.gr q hq⟩
theorem Keeps.kill {a b : PH} (h : Keeps a b) {p : Nat} (hp : a.n ≤ p) : Keeps a (b.kill p) :=
  ⟨by have := h.n; simp; omega, fun q hq => by rw [PH.get_kill, if_neg (by omega)]; exact h.bl q hq, h.ob, h.ty, fun q hq => by rw [PH.gro_kill, if_neg (by omega)]; exact h.gr q hq⟩
theorem Keeps.tell {a b : PH} (h : Keeps a b) {p : Nat} (hp : a.n ≤ p) (e : TypeId) : Keeps a (b.setTy p e) :=
  ⟨h.n, h.bl, h.ob, fun q hq => by simp only [PH.setTy]; rw [if_neg (by omega)]; exact h.ty q hq, h.gr⟩

theorem Keeps.cut_eq {base ph : PH} (h : Keeps base ph) (hb : ∀ p e, base.ty p = some e → p < base.n) : ph.cut base.n base.ob = base := by
  unfold PH.cut
  have : ph.bl.take base.n = base.bl := by
    have hn : base.bl.length ≤ ph.bl.length := h.n
    apply List.ext_getElem?
    intro i
    rw [List.getElem?_take]
    split
    · rename_i hi
      have hi' : i < base.bl.length := hi
      have h1 := h.bl i hi
      have h2 := h.gr i hi
      simp only [PH.get, PH.gro, List.getElem?_eq_getElem hi', List.getElem?_eq_getElem (show i < ph.bl.length by omega), Option.join_some] at h1 h2
      rw [List.getElem?_eq_getElem hi', List.getElem?_eq_getElem (show i < ph.bl.length by omega)]
      congr 1
      revert h1 h2
      cases ph.bl[i] with
      | none => cases base.bl[i] with
        | none => intros; rfl
        | some b => cases b <;> simp [Blk.cells, Blk.gro]
      | some a => cases base.bl[i] with
        | none => cases a <;> simp [Blk.cells, Blk.gro]
        | some b => cases a <;> cases b <;> simp [Blk.cells, Blk.gro]
    · rename_i hi
      have hi' : base.bl.length ≤ i := Nat.le_of_not_lt hi
      rw [List.getElem?_eq_none hi']
  have ht : (fun p => if p < base.n then ph.ty p else none) = base.ty := by
    funext p
    split
    · rename_i hp; exact h.ty p hp
    · rename_i hp
      cases e : base.ty p with
      | none => rfl
      | some t => exact absurd (hb p t e) hp
  rw [this, ht]

/-- What stands there names nothing that isn't there. -/
def Shut (base : PH) : Prop := (∀ p c, base.get p = some c → Scs base.n c) ∧ (∀ r o, base.ob r = some o → ObSc base.n o)

theorem Rel.shuts (h : Rel X G ph w) : Shut ph := by
  refine ⟨fun p c hp => ?_, fun r o ho => ?_⟩
  · obtain ⟨L, vals, cs, e, fz, hL, o⟩ := h.own p c hp
    have := o.rv.scs; rw [h.lenN] at this; exact this
  · obtain ⟨_, h2⟩ := h.ob r o ho
    cases o with
    | loop l => obtain ⟨rt, q, _⟩ := h2; have := q.scs; rw [h.lenN] at this; exact this
    | defd => trivial

/-- What a body is to end in, where the heap is to be as it was. -/
def FPure (X : Ctx) (rs : List ResultVar) (base : PH) (R : PV → Prop) : Exit → PSt → PH → Prop := fun e s ph =>
  (e = .normal ∨ e = .ret) ∧ Marks ph s.ms ∧ ∃ v, resP X.P rs s (ph.shut s.ms) = some v ∧ ∃ v' d, frz (ph.shut s.ms) base.n d v = some v' ∧ Keeps base (ph.shut s.ms) ∧ R v'

theorem pcalls_pure {f : FuncId} {fn : Func} {c : Code} {args : List PV} {R : PV → Prop} (hf : X.P.funcs[f]? = some fn) (hb : fn.body = some c) (hnm : (fn.name == "runtime.NumGoroutine") = false)
    (h : PWp X none ph.n c (FPure X fn.results.toList ph R) (start fn args) ph) : PCalls X f args ph fun v ph' => ph' = ph ∧ R v := by
  intro G w rargs hr hargs
  have hsh := hr.shuts
  refine pcalls_of hf hb hnm ?_ G w rargs hr hargs
  refine h.mono ?_
  rintro e s ph' ⟨h1, h2, v, h3, v', d, h4, h5, h6⟩
  refine ⟨h1, h2, v, h3, v', ph, ?_, Nat.le_refl _, rfl, h6⟩
  have hcl : Closed (ph'.shut s.ms) ph.n ph.ob := ⟨fun p c hp hc => hsh.1 p c (by rw [← h5.bl p hp]; exact hc), fun r o ho => ⟨h5.ob r o ho, hsh.2 r o ho⟩⟩
  have := Weak.freeze (X := X) (n0 := ph.n) (vs := [v]) (vs' := [v']) (d := d) (Nat.le_refl _) hcl (by unfold frzs; rw [h4]; unfold frzs; rfl)
  rw [h5.cut_eq fun p e he => hr.ty_lt he] at this
  exact this

/-- A function of its arguments alone. -/
def Fn (X : Ctx) (f : FuncId) (args : List PV) (v : PV) : Prop := ∀ ph, PCalls X f args ph fun v' ph' => ph' = ph ∧ v' = v

theorem w_pure {f : FuncId} {args : List PV} {v : PV} {K : PV → PH → Prop} (h : Fn X f args v) (k : K v ph) : PCalls X f args ph K :=
  (h ph).mono (by rintro v' ph' ⟨rfl, rfl⟩; exact k)

theorem fn_of {f : FuncId} {fn : Func} {c : Code} {args : List PV} {v : PV} (hf : X.P.funcs[f]? = some fn) (hb : fn.body = some c) (hnm : (fn.name == "runtime.NumGoroutine") = false)
    (h : ∀ ph, vc X none ph.n c (FPure X fn.results.toList ph (· = v)) (start fn args) ph) : Fn X f args v := fun ph => pcalls_pure hf hb hnm (vc_ok _ _ _ _ (h ph))

/-- The end, where nothing was laid. -/
theorem fpure_same {rs : List ResultVar} {R : PV → Prop} {e : Exit} {tm : List PV} {v v' : PV} (he : e = .normal ∨ e = .ret) (hv : resP X.P rs ⟨tm, []⟩ ph = some v) (hf : ∃ d, frz ph ph.n d v = some v') (hR : R v') : FPure X rs ph R e ⟨tm, []⟩ ph :=
  ⟨he, trivial, v, hv, v', hf.choose, hf.choose_spec, .refl _, hR⟩

theorem fpure_keeps {rs : List ResultVar} {R : PV → Prop} {e : Exit} {tm : List PV} {v v' : PV} {base : PH} (he : e = .normal ∨ e = .ret) (hv : resP X.P rs ⟨tm, []⟩ ph = some v) (hf : ∃ d, frz ph base.n d v = some v') (hk : Keeps base ph) (hR : R v') : FPure X rs base R e ⟨tm, []⟩ ph :=
  ⟨he, trivial, v, hv, v', hf.choose, hf.choose_spec, hk, hR⟩

/-! ### Values without blocks stay what they are -/
mutual
def flatV : PV → Bool
  | .ptr _ _ => false
  | .sl _ _ _ _ _ => false
  | .fptr cells => flatVs cells
  | .fsl _ _ cells => flatVs cells
  | .gsl _ _ _ _ => false
  | .gptr _ _ _ _ => false
  | .func _ a b => flatVs a && flatVs b
  | .agg cells => flatVs cells
  | .tuple cells => flatVs cells
  | _ => true
def flatVs : List PV → Bool
  | [] => true
  | p :: ps => flatV p && flatVs ps
end

def depthV : Nat := 6

theorem frz_scalar {ph : PH} {n d : Nat} {p : PV} (h : (match p with | .undef | .bool _ | .int _ _ | .str _ | .nilptr | .nilsl | .zsl | .nilfunc | .nilif | .yield _ => true | _ => false) = true) : frz ph n (d + 1) p = some p := by
  unfold frz
  cases p <;> simp_all

/-- Cells without blocks. -/
def scalarV : PV → Bool
  | .undef | .bool _ | .int _ _ | .str _ | .nilptr | .nilsl | .zsl | .nilfunc | .nilif | .yield _ => true
  | _ => false

theorem frzs_scalars {ph : PH} {n d : Nat} : ∀ {ps : List PV}, ps.all scalarV = true → frzs ph n (d + 1) ps = some ps
  | [], _ => by unfold frzs; rfl
  | p :: ps, h => by
    simp only [List.all_cons, Bool.and_eq_true] at h
    unfold frzs
    rw [frz_scalar (by have := h.1; unfold scalarV at this; exact this), frzs_scalars h.2]

theorem frz_agg {ph : PH} {n d : Nat} {ps qs : List PV} (h : frzs ph n d ps = some qs) : frz ph n (d + 1) (.agg ps) = some (.agg qs) := by unfold frz; simp only [h, Option.map_some]
theorem frz_tuple {ph : PH} {n d : Nat} {ps qs : List PV} (h : frzs ph n d ps = some qs) : frz ph n (d + 1) (.tuple ps) = some (.tuple qs) := by unfold frz; simp only [h, Option.map_some]
theorem frz_fsl {ph : PH} {n d e l : Nat} {ps qs : List PV} (h : frzs ph n d ps = some qs) : frz ph n (d + 1) (.fsl e l ps) = some (.fsl e l qs) := by unfold frz; simp only [h, Option.map_some]
theorem frz_sl {ph : PH} {n d p off e l : Nat} {cap : Option Nat} {cells qs : List PV} (hn : n ≤ p) (hp : ph.get p = some cells) (hl : off + l * e ≤ cells.length) (h : frzs ph n d (seg cells off (l * e)) = some qs) : frz ph n (d + 1) (.sl p off e l cap) = some (.fsl e l qs) := by
  unfold frz
  simp only [if_neg (show ¬ p < n by omega), hp, if_pos hl, h, Option.map_some]
theorem frzs_nil {ph : PH} {n d : Nat} : frzs ph n d [] = some [] := by unfold frzs; rfl
theorem frzs_cons {ph : PH} {n d : Nat} {p q : PV} {ps qs : List PV} (h : frz ph n d p = some q) (hs : frzs ph n d ps = some qs) : frzs ph n d (p :: ps) = some (q :: qs) := by unfold frzs; rw [h, hs]

/-- (This only lays the equations that the walk uses.) -/
theorem warm (n : Nat) (h : n = n + 0) : n + 0 = n := by
  simp only [w_seq, w_cond, w_region, w_nil, w_cons, w_noguard, w_true, w_false, w_op, popO, w_some, w_next, w_put, w_put0, w_tmp, w_int, w_bool, w_string, w_nilsl, w_nilptr, w_nilfunc, w_nilif, w_agg, w_fn, w_call, w_func, w_yield, w_skip, w_label, w_exit, w_goto, w_ret, w_block, w_scope, w_ctrue, w_cfalse, w_snormal, w_sret, w_sexit, w_bnormal, w_bret, w_bsame, w_bother, w_cnormal, w_cret, w_cexit, wantedP, List.set_cons_zero, List.set_cons_succ, List.getD_cons_zero, List.getD_cons_succ, List.getElem?_cons_zero, List.getElem?_cons_succ, List.getElem?_toArray, Option.bind_some, Option.map_some, Option.map_none, Option.getD_some, if_true, if_false, reduceIte, and_self, true_and, and_true, ne_eq, not_true_eq_false, not_false_eq_true, List.map_cons, List.map_nil, List.nil_append, List.cons_append, List.append_nil, Nat.reduceAdd, Nat.reduceSub, Nat.reduceMul, List.length_cons, List.length_nil, Nat.zero_add, Nat.zero_mul, Nat.add_zero, Nat.mul_one, Nat.one_mul, Nat.reduceLeDiff, Nat.reduceLT, ofCells, ofCell, decide_true, decide_false, Bool.not_true, Bool.not_false, Bool.true_eq_false, Bool.false_eq_true, beq_self_eq_true, bne_self_eq_false, bq1, bq2, bq3, bq4, Bool.or_true, Bool.or_false, Bool.true_or, Bool.false_or, Bool.and_true, Bool.and_false, Bool.true_and, Bool.false_and, Option.some.injEq, reduceCtorEq, Int.reduceLE, Int.reduceLT, Int.toNat_natCast, Int.reduceToNat, Int.reduceAdd, Int.reduceSub, Int.reduceMul, Int.reduceNeg, Int.reduceBEq, Int.reduceBNe, Int.reduceEq, Nat.sub_zero, PH.ob_push, eqCell, eqCells, binP, unP, convP, lenP, builtinP, sliceDataP, unsafeStringP, appendT, appendS, appendP, copyP, srcP, mmsP, mmP, indexOp, indexAddrOp, sliceOp, bndsP, bndP, capw, capCut, loadOp, storeOp, loadP, fieldOp, fieldAddrOp, arrayAtOp, buildP, buildSliceP, makeSliceP, placeF, fillP, setL, pc_bool, ck_bool, pc_int, ck_int, pc_str, ck_str, pc_nilptr, ck_nilptr, pc_ptr, ck_ptr, pc_fptr, ck_fptr, pc_nilsl, ck_nilsl, pc_zsl, ck_zsl, pc_sl, ck_sl, pc_fsl, ck_fsl, pc_func, ck_func, pc_yield, ck_yield, pc_nilfunc, ck_nilfunc, pc_nilif, ck_nilif, pc_agg, PK.agg, isZero, List.all_cons, List.all_nil, List.flatten_cons, List.flatten_nil, List.replicate_succ, List.replicate_zero, gt_iff_lt, false_or, or_false, Nat.reducePow, List.take_succ_cons, List.drop_succ_cons, List.take_zero, List.drop_zero, List.length_set, List.length_append, decide_eq_true_eq, not_true_eq_false, not_false_eq_true, Nat.lt_irrefl, Nat.reduceGT, reps, seg, frz, frzs, resP, resPs, resP1, PH.shut, Marks] at h ⊢

end Pv
