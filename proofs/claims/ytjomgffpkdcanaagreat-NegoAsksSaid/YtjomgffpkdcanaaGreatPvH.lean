/- Part of the proof: the layer of pure values, or walks through functions (PvH, PvB0). -/
import Derived.Test.YtjomgffpkdcanaaGreatPvNum
set_option linter.all false
namespace Pv
open Go Go.RowKit
variable {X : Ctx} {G : Ghost} {ph : PH} {w : World} {ρ : Option Nat} {n0 : Nat} {Q : Exit → PSt → PH → Prop}

/-! ### Heaps told as blocks upon others -/
def H (b : PH) (l : List (Option Blk)) (ob : Nat → Option PObj) (ty : Nat → Option TypeId) : PH := ⟨b.bl ++ l, ob, ty⟩
def upF {α : Type} (f : Nat → Option α) (r : Nat) (o : Option α) : Nat → Option α := fun i => if i = r then o else f i

section h
variable {b : PH} {l : List (Option Blk)} {ob : Nat → Option PObj} {ty : Nat → Option TypeId} {k m : Nat} {c : List PV}
theorem h_start (b : PH) : H b [] b.ob b.ty = b := by simp [H]
theorem h_n : (H b l ob ty).n = b.n + l.length := by simp [H, PH.n]
theorem h_push : (H b l ob ty).push c = H b (l ++ [some (.own c)]) ob ty := by simp [H, PH.push]
theorem h_pushG {s t : Nat} {e : TypeId} : (H b l ob ty).pushG s t e = H b (l ++ [some (.grow s t e)]) ob ty := by simp [H, PH.pushG]
theorem h_at : (H b l ob ty).bl[b.n + k]? = l[k]? := by
  simp only [H, PH.n]; rw [List.getElem?_append_right (by omega), show b.bl.length + k - b.bl.length = k by omega]
theorem h_lt {p : Nat} (hp : p < b.n) : (H b l ob ty).bl[p]? = b.bl[p]? := by
  simp only [H]; rw [List.getElem?_append_left hp]
theorem h_get : (H b l ob ty).get (b.n + k) = (l[k]?).join.bind Blk.cells := by unfold PH.get; rw [h_at]
theorem h_get0 : (H b l ob ty).get b.n = (l[0]?).join.bind Blk.cells := h_get (k := 0)
theorem h_gro : (H b l ob ty).gro (b.n + k) = (l[k]?).join.bind Blk.gro := by unfold PH.gro; rw [h_at]
theorem h_gro0 : (H b l ob ty).gro b.n = (l[0]?).join.bind Blk.gro := h_gro (k := 0)
theorem h_set {x : Option Blk} : b.bl ++ l.set k x = (b.bl ++ l).set (b.n + k) x := by
  rw [List.set_append_right _ _ (by simp [PH.n])]; simp [PH.n]
theorem h_put : (H b l ob ty).put (b.n + k) c = H b (l.set k (some (.own c))) ob ty := by simp only [H, PH.put, h_set]
theorem h_put0 : (H b l ob ty).put b.n c = H b (l.set 0 (some (.own c))) ob ty := h_put (k := 0)
theorem h_putG {s t : Nat} {e : TypeId} : (H b l ob ty).putG (b.n + k) s t e = H b (l.set k (some (.grow s t e))) ob ty := by simp only [H, PH.putG, h_set]
theorem h_putG0 {s t : Nat} {e : TypeId} : (H b l ob ty).putG b.n s t e = H b (l.set 0 (some (.grow s t e))) ob ty := h_putG (k := 0)
theorem h_kill : (H b l ob ty).kill (b.n + k) = H b (l.set k none) ob ty := by simp only [H, PH.kill, h_set]
theorem h_kill0 : (H b l ob ty).kill b.n = H b (l.set 0 none) ob ty := h_kill (k := 0)
theorem h_setOb {r : Nat} {o : Option PObj} : (H b l ob ty).setOb r o = H b l (upF ob r o) ty := rfl
theorem h_setTy {p : Nat} {e : TypeId} : (H b l ob ty).setTy p e = H b l ob (upF ty p (some e)) := rfl
theorem h_ob : (H b l ob ty).ob = ob := rfl
theorem h_ty : (H b l ob ty).ty = ty := rfl
theorem h_getlt {p : Nat} (hp : p < b.n) : (H b l ob ty).get p = b.get p := by unfold PH.get; rw [h_lt hp]
theorem h_grolt {p : Nat} (hp : p < b.n) : (H b l ob ty).gro p = b.gro p := by unfold PH.gro; rw [h_lt hp]
theorem h_putlt {p : Nat} (hp : p < b.n) : (H b l ob ty).put p c = H (b.put p c) l ob ty := by
  simp only [H, PH.put]; rw [List.set_append_left _ _ (show p < b.bl.length from hp)]
theorem h_putGlt {p s t : Nat} {e : TypeId} (hp : p < b.n) : (H b l ob ty).putG p s t e = H (b.putG p s t e) l ob ty := by
  simp only [H, PH.putG]; rw [List.set_append_left _ _ (show p < b.bl.length from hp)]
theorem h_shut0 : (H b l ob ty).shut [] = H b l ob ty := rfl
theorem h_shut1 {r : Nat} : (H b l ob ty).shut [r] = H b l (upF ob r none) ty := rfl
end h

section up
variable {α : Type} {f : Nat → Option α} {r s : Nat} {o p : Option α}
theorem up_same : upF f r o r = o := by simp [upF]
theorem up_ne (h : r ≠ s) : upF f s o r = f r := by simp [upF, h]
theorem up_ne' (h : s ≠ r) : upF f s o r = f r := up_ne fun e => h e.symm
theorem up_up : upF (upF f r o) r p = upF f r p := by funext i; simp only [upF]; split <;> rfl
theorem up_none (h : f r = none) : upF f r none = f := by funext i; simp only [upF]; split <;> simp_all
end up

theorem blk_own {c : List PV} : Blk.cells (.own c) = some c := rfl
theorem blk_grow {s t : Nat} {e : TypeId} : Blk.cells (.grow s t e) = none := rfl
theorem gro_own {c : List PV} : Blk.gro (.own c) = none := rfl
theorem gro_grow {s t : Nat} {e : TypeId} : Blk.gro (.grow s t e) = some (s, t, e) := rfl
theorem deg_gsl {p e l : Nat} {c : List PV} : deg (.gsl p e l c) = .fsl e l c := rfl
theorem deg_fsl {e l : Nat} {c : List PV} : deg (.fsl e l c) = .fsl e l c := rfl
theorem deg_sl {p o e l : Nat} {c : Option Nat} : deg (.sl p o e l c) = .sl p o e l c := rfl
theorem deg_str {l : List UInt8} : deg (.str l) = .str l := rfl
theorem deg_int {k : IntKind} {n : Int} : deg (.int k n) = .int k n := rfl
theorem deg_nilsl : deg .nilsl = .nilsl := rfl
theorem deg_zsl : deg .zsl = .zsl := rfl
theorem deg_ptr {p o : Nat} : deg (.ptr p o) = .ptr p o := rfl
theorem deg_fptr {c : List PV} : deg (.fptr c) = .fptr c := rfl
theorem deg_nilptr : deg .nilptr = .nilptr := rfl
theorem deg_agg {c : List PV} : deg (.agg c) = .agg c := rfl
theorem deg_bool {t : Bool} : deg (.bool t) = .bool t := rfl
theorem deg_func {f : FuncId} {a c : List PV} : deg (.func f a c) = .func f a c := rfl
theorem pc_gsl {p e l : Nat} {c : List PV} : PV.cells (.gsl p e l c) = [(.gsl p e l c)] := rfl
theorem ck_gsl {p e l : Nat} {c : List PV} : cellOk (.gsl p e l c) = true := rfl
theorem app_g {P : Program} {sT xT : TypeId} {x : PV} {ph : PH} {p sz len : Nat} {cells : List PV} : appendG P sT xT (.gsl p sz len cells) x ph = match kSl P sT, ph.gro p with
    | some e, some (sz', len', e') => match byP P e, zeroP P e, srcP ph sz x with
      | some b, some z, some (n, new) => if e' = e ∧ sz' = sz ∧ len' = len ∧ szP P e = some sz ∧ z.cells.length = sz ∧ b ≠ 0 ∧ appTy P xT = true ∧ (len + n) * b ≤ 2 ^ 47 then some (.gsl p sz (len + n) (cells ++ new), ph.putG p sz (len + n) e) else none
      | _, _, _ => none
    | _, _ => none := rfl
theorem app_nil {P : Program} {sT xT : TypeId} {x : PV} {ph : PH} : appendG P sT xT .nilsl x ph = appendT P sT xT .nilsl x ph := rfl
theorem app_sl {P : Program} {sT xT : TypeId} {x : PV} {ph : PH} {p o e l : Nat} {c : Option Nat} : appendG P sT xT (.sl p o e l c) x ph = appendT P sT xT (.sl p o e l c) x ph := rfl
theorem app_zsl {P : Program} {sT xT : TypeId} {x : PV} {ph : PH} : appendG P sT xT .zsl x ph = appendT P sT xT .zsl x ph := rfl

/-! ### Telling less -/
theorem Rel.less (h : Rel X G ph w) {ob : Nat → Option PObj} {ty : Nat → Option TypeId} (ho : ∀ r o, ob r = some o → ph.ob r = some o) (ht : ∀ p e, ty p = some e → ph.ty p = some e) : Rel X G ⟨ph.bl, ob, ty⟩ w :=
  ⟨h.len, h.below, h.own, h.disj, h.fz, h.fdisj, fun r o hr => h.ob r o (ho r o hr), fun p e hp => h.ty p e (ht p e hp), h.grow.step rfl (Nat.le_refl _) (fun _ _ h => h) (fun _ _ => rfl) (fun _ _ h => .inl h) fun q c L hc hL => .inl ⟨c, hc, hL⟩⟩

theorem Weak.less {ob : Nat → Option PObj} {ty : Nat → Option TypeId} {vs : List PV} (ho : ∀ r o, ob r = some o → ph.ob r = some o) (ht : ∀ p e, ty p = some e → ph.ty p = some e) : Weak X n0 ph vs ⟨ph.bl, ob, ty⟩ vs :=
  fun G _ _ hr hv => ⟨G, .refl _ _, hr.less ho ht, hv⟩

theorem Weak.cutS {n : Nat} {ob : Nat → Option PObj} {vs : List PV} (hn : n0 ≤ n) (hc : Closed ph n ob) (hs : Scs n vs) : Weak X n0 ph vs (ph.cut n ob) vs :=
  fun G w _ hr hv => ⟨frozenGhost G ph w n, (leN_frozen G ph w n).less hn, hr.cut hc, hv.monoN (leN_frozen G ph w n) hs⟩

/-- A round's end, told as a round's head. -/
structure HTo (b : PH) (l : List (Option Blk)) (ob : Nat → Option PObj) (ty : Nat → Option TypeId) (st tm : List PV) (ph' : PH) : Prop where
  fade : FadeTo tm st
  ex : ∃ g ob' ty', ph' = H b (l ++ g) ob' ty' ∧ (∀ r o, ob r = some o → ob' r = some o) ∧ (∀ p e, ty p = some e → ty' p = some e) ∧
    (g = [] ∨ (Scs (b.n + l.length) st ∧ (∀ (k : Nat) (c : List PV), l[k]? = some (some (Blk.own c)) → Scs (b.n + l.length) c) ∧ (∀ p c, b.get p = some c → Scs (b.n + l.length) c) ∧ (∀ r o, ob r = some o → ObSc (b.n + l.length) o) ∧ ∀ p e, ty p = some e → p < b.n + l.length))

theorem HTo.same {b : PH} {l : List (Option Blk)} {ob : Nat → Option PObj} {ty : Nat → Option TypeId} {st tm : List PV} (h : FadeTo tm st) : HTo b l ob ty st tm (H b l ob ty) :=
  ⟨h, [], ob, ty, by simp, fun _ _ h => h, fun _ _ h => h, .inl rfl⟩

theorem HTo.eq {b : PH} {l : List (Option Blk)} {ob : Nat → Option PObj} {ty : Nat → Option TypeId} {st tm : List PV} {ph' : PH} (h : FadeTo tm st) (e : ph' = H b l ob ty) : HTo b l ob ty st tm ph' := e ▸ .same h

/-- What is there names nothing that is not there. -/
structure WF (b : PH) : Prop where
  bl : ∀ p c, b.get p = some c → Scs b.n c
  ob : ∀ r o, b.ob r = some o → ObSc b.n o
  ty : ∀ p e, b.ty p = some e → p < b.n

mutual
theorem Sc.mono {n m : Nat} (hm : n ≤ m) : ∀ {p : PV}, Sc n p → Sc m p
  | .undef, _ => trivial
  | .bool _, _ => trivial
  | .int _ _, _ => trivial
  | .str _, _ => trivial
  | .nilptr, _ => trivial
  | .ptr _ _, h => Nat.lt_of_lt_of_le h hm
  | .fptr _, h => Scs.mono hm h
  | .nilsl, _ => trivial
  | .zsl, _ => trivial
  | .sl _ _ _ _ _, h => Nat.lt_of_lt_of_le h hm
  | .fsl _ _ _, h => Scs.mono hm h
  | .gsl _ _ _ _, h => ⟨Nat.lt_of_lt_of_le h.1 hm, Scs.mono hm h.2⟩
  | .gptr _ _ _ _, h => ⟨Nat.lt_of_lt_of_le h.1 hm, Scs.mono hm h.2⟩
  | .func _ _ _, h => ⟨Scs.mono hm h.1, Scs.mono hm h.2⟩
  | .yield _, _ => trivial
  | .nilfunc, _ => trivial
  | .agg _, h => Scs.mono hm h
  | .tuple _, h => Scs.mono hm h
  | .nilif, _ => trivial
theorem Scs.mono {n m : Nat} (hm : n ≤ m) : ∀ {ps : List PV}, Scs n ps → Scs m ps
  | [], _ => trivial
  | _ :: _, h => ⟨Sc.mono hm h.1, Scs.mono hm h.2⟩
end

theorem scs_scalars {n : Nat} : ∀ {ps : List PV}, ps.all scalarV = true → Scs n ps
  | [], _ => trivial
  | p :: ps, h => by
    simp only [List.all_cons, Bool.and_eq_true] at h
    refine ⟨?_, scs_scalars h.2⟩
    have := h.1
    cases p <;> simp [scalarV] at this <;> trivial

/-- .. with blocks behind that nobody names any more. -/
theorem HTo.drop {b : PH} {l g : List (Option Blk)} {ob ob' : Nat → Option PObj} {ty ty' : Nat → Option TypeId} {st tm : List PV} (hb : WF b) (h : FadeTo tm st) (ho : ∀ r o, ob r = some o → ob' r = some o) (ht : ∀ p e, ty p = some e → ty' p = some e)
    (h1 : Scs (b.n + l.length) st) (h2 : ∀ (k : Nat) (c : List PV), l[k]? = some (some (Blk.own c)) → Scs (b.n + l.length) c) (h3 : ob = b.ob ∨ ∀ r o, ob r = some o → ObSc (b.n + l.length) o) (h4 : ty = b.ty ∨ ∀ p e, ty p = some e → p < b.n + l.length) : HTo b l ob ty st tm (H b (l ++ g) ob' ty') := by
  refine ⟨h, g, ob', ty', rfl, ho, ht, .inr ⟨h1, h2, fun p c hp => Scs.mono (Nat.le_add_right _ _) (hb.bl p c hp), ?_, ?_⟩⟩
  · rcases h3 with rfl | h3
    · intro r o hr
      have := hb.ob r o hr
      cases o with
      | loop L => exact Scs.mono (Nat.le_add_right _ _) this
      | defd => trivial
    · exact h3
  · rcases h4 with rfl | h4
    · intro p e hp; have := hb.ty p e hp; omega
    · exact h4

theorem HTo.weak {b : PH} {l : List (Option Blk)} {ob : Nat → Option PObj} {ty : Nat → Option TypeId} {st tm : List PV} {ph' : PH} (h : HTo b l ob ty st tm ph') (hn : n0 ≤ b.n + l.length) : Weak X n0 ph' tm (H b l ob ty) st := by
  obtain ⟨hf, g, ob', ty', rfl, ho, ht, hg⟩ := h
  refine (Weak.fades hf.fades).trans ?_
  rcases hg with rfl | ⟨h1, h2, h3, h4, h5⟩
  · rw [List.append_nil]
    exact Weak.less (ph := H b l ob' ty') ho ht
  · have hcl : Closed (H b (l ++ g) ob' ty') (b.n + l.length) ob := by
      refine ⟨fun p c hp hc => ?_, fun r o hr => ⟨ho r o hr, h4 r o hr⟩⟩
      by_cases hpb : p < b.n
      · rw [h_getlt hpb] at hc; exact h3 p c hc
      · obtain ⟨k, rfl⟩ : ∃ k, p = b.n + k := ⟨p - b.n, by omega⟩
        have hc' := PH.get_eq.1 hc
        rw [h_at, List.getElem?_append_left (by omega)] at hc'
        exact h2 k c hc'
    refine (Weak.cutS hn hcl h1).trans ?_
    have e : (H b (l ++ g) ob' ty').cut (b.n + l.length) ob = H b l ob (fun p => if p < b.n + l.length then ty' p else none) := by
      simp only [PH.cut, H, PH.n]
      congr 1
      rw [← List.append_assoc, List.take_append_of_le_length (by simp), List.take_of_length_le (by simp)]
    rw [e]
    exact Weak.less (ph := H b l ob _) (fun _ _ h => h) fun p e hp => by
      show (if p < b.n + l.length then ty' p else none) = some e
      rw [if_pos (h5 p e hp)]; exact ht p e hp

/-- **A loop**, its heap told as it stands. -/
theorem w_loopH {α : Type} {c : Code} {tm : List PV} {ms : List Nat} (b : PH) (ob : Nat → Option PObj) (ty : Nat → Option TypeId) (st : α → List PV) (hl : α → List (Option Blk)) (Inv : α → Prop) (μ : α → Nat) (a0 : α) (h0 : Inv a0) (hn : ∀ a, Inv a → n0 ≤ b.n + (hl a).length)
    (hi : HTo b (hl a0) ob ty (st a0) tm ph)
    (round : ∀ a, Inv a → ∀ K : PSt → PH → Prop, (∀ a' tm ph', Inv a' → μ a' < μ a → HTo b (hl a') ob ty (st a') tm ph' → K ⟨tm, ms⟩ ph') → vc X ρ n0 c (PExit.seq K Q) ⟨st a, ms⟩ (H b (hl a) ob ty)) : vc X ρ n0 (.loop c) Q ⟨tm, ms⟩ ph := by
  show PWp X ρ n0 (.loop c) Q ⟨tm, ms⟩ ph
  refine PWp.weak (s' := ⟨st a0, ms⟩) (ph' := H b (hl a0) ob ty) (hi.weak (hn _ h0)) rfl ?_
  refine pwp_loopN (I := fun j s' ph' => ∃ a, Inv a ∧ μ a = j ∧ HTo b (hl a) ob ty (st a) s'.tm ph' ∧ s'.ms = ms) (μ a0) ⟨a0, h0, rfl, .same (by
    clear hi round
    generalize st a0 = s
    induction s with
    | nil => trivial
    | cons p ps ih => exact ⟨.inr rfl, ih⟩), rfl⟩ ?_
  rintro j s' ph' ⟨a, hI, rfl, hT, hm⟩
  refine PWp.weak (s' := ⟨st a, ms⟩) (ph' := H b (hl a) ob ty) (hT.weak (hn a hI)) hm.symm ?_
  refine vc_ok _ _ _ _ (round a hI _ ?_)
  intro a' tm' ph' h1 h2 h3
  exact ⟨μ a', h2, a', h1, rfl, h3, rfl⟩

/-! ### Functions -/
theorem Rel.wf (h : Rel X G ph w) : WF ph := ⟨h.shuts.1, h.shuts.2, fun p e he => h.ty_lt he⟩

theorem keepsH {b : PH} {l : List (Option Blk)} {ob : Nat → Option PObj} {ty : Nat → Option TypeId} (ho : ∀ r o, b.ob r = some o → ob r = some o) (ht : ∀ p, p < b.n → ty p = b.ty p) : Keeps b (H b l ob ty) :=
  ⟨by rw [h_n]; omega, fun p hp => h_getlt hp, ho, ht, fun p hp => h_grolt hp⟩
theorem keepsH0 {b : PH} {l : List (Option Blk)} : Keeps b (H b l b.ob b.ty) := keepsH (fun _ _ h => h) fun _ _ => rfl

/-- The heap after is 'ph1'. -/
def FEff (X : Ctx) (rs : List ResultVar) (base ph1 : PH) (R : PV → Prop) : Exit → PSt → PH → Prop := fun e s ph =>
  (e = .normal ∨ e = .ret) ∧ Marks ph s.ms ∧ ∃ v, resP X.P rs s (ph.shut s.ms) = some v ∧ ∃ v' d, frz (ph.shut s.ms) base.n d v = some v' ∧ Keeps ph1 (ph.shut s.ms) ∧ R v'

theorem pcalls_eff {f : FuncId} {fn : Func} {c : Code} {args : List PV} {R : PV → Prop} {ph1 : PH} (hf : X.P.funcs[f]? = some fn) (hb : fn.body = some c) (hnm : (fn.name == "runtime.NumGoroutine") = false) (hn : ph1.n = ph.n) (hw : WF ph → WF ph1)
    (h : WF ph → PWp X none ph.n c (FEff X fn.results.toList ph ph1 R) (start fn args) ph) : PCalls X f args ph fun v ph' => ph' = ph1 ∧ R v := by
  intro G w rargs hr hargs
  have hsh := hw hr.wf
  refine pcalls_of hf hb hnm ?_ G w rargs hr hargs
  refine (h hr.wf).mono ?_
  rintro e s ph' ⟨h1, h2, v, h3, v', d, h4, h5, h6⟩
  refine ⟨h1, h2, v, h3, v', ph1, ?_, by omega, rfl, h6⟩
  have hcl : Closed (ph'.shut s.ms) ph1.n ph1.ob := ⟨fun p c hp hc => hsh.bl p c (by rw [← h5.bl p hp]; exact hc), fun r o ho => ⟨h5.ob r o ho, hsh.ob r o ho⟩⟩
  have := Weak.freeze (X := X) (n0 := ph.n) (vs := [v]) (vs' := [v']) (d := d) (by omega : ph.n ≤ ph1.n) hcl (by unfold frzs; rw [hn, h4]; unfold frzs; rfl)
  rw [h5.cut_eq fun p e he => hsh.ty p e he] at this
  exact this

/-- A call that turns the heap. -/
def Eff (X : Ctx) (f : FuncId) (args : List PV) (ph : PH) (v : PV) (ph1 : PH) : Prop := PCalls X f args ph fun v' ph' => ph' = ph1 ∧ v' = v

theorem w_eff {f : FuncId} {args : List PV} {v : PV} {ph1 : PH} {K : PV → PH → Prop} (h : Eff X f args ph v ph1) (k : K v ph1) : PCalls X f args ph K :=
  PCalls.mono h (by rintro v' ph' ⟨rfl, rfl⟩; exact k)

/-- What is told of one is told of the other. -/
def NW (a b : PV) : Prop := ∀ (G : Ghost) (r : Value), RV G a r → RV G b r
def NWs (a b : List PV) : Prop := ∀ (G : Ghost) (rs : List Value), RVs G a rs → RVs G b rs
theorem nw_eq {a b : PV} (h : a = b) : NW a b := fun _ _ hr => h ▸ hr
theorem nw_nil {e : Nat} : NW .nilsl (.fsl e 0 []) := fun G r h => by cases h; exact .fslnil e
theorem nw_zsl {e : Nat} : NW .zsl (.fsl e 0 []) := fun G r h => by
  cases h with
  | zsl a => cases a with
    | none => exact .fslnil e
    | some a => exact .fsl e 0 [] [] a 0 .nil (Nat.le_refl _) (by simp) (by omega) (by simp)
theorem nws_nil : NWs [] [] := fun _ _ h => h
theorem nws_cons {a b : PV} {xs bs : List PV} (h : NW a b) (hs : NWs xs bs) : NWs (a :: xs) (b :: bs) := fun G rs hr => by
  cases hr with | cons _ _ _ _ h1 h2 => exact .cons _ _ _ _ (h _ _ h1) (hs _ _ h2)
theorem nw_tuple {xs bs : List PV} (h : NWs xs bs) : NW (.tuple xs) (.tuple bs) := fun G r hr => by
  cases hr with | tuple _ _ h1 => exact .tuple _ _ (h _ _ h1)
theorem nw_agg {xs bs : List PV} (h : NWs xs bs) : NW (.agg xs) (.agg bs) := fun G r hr => by
  cases hr with | agg _ _ h1 => exact .agg _ _ (h _ _ h1)

theorem PCalls.widen {f : FuncId} {args : List PV} {ph1 : PH} {v : PV} (h : PCalls X f args ph fun v' ph' => ph' = ph1 ∧ NW v' v) : PCalls X f args ph fun v' ph' => ph' = ph1 ∧ v' = v := by
  have key : ∀ (G : Ghost) (u : Value) (w : World), CPost X ph.n G (fun v' ph' => ph' = ph1 ∧ NW v' v) u w → CPost X ph.n G (fun v' ph' => ph' = ph1 ∧ v' = v) u w := by
    rintro G u w ⟨G', pv, ph', h1, h2, h3, h4, h5, h6⟩
    exact ⟨G', v, ph', h1, h2, h6 _ _ h3, h4, h5, rfl⟩
  intro G w rargs hr ha
  rcases h G w rargs hr ha with ⟨v, w', e, hc⟩ | ⟨w', e, hc⟩
  · exact .inl ⟨v, w', e, key _ _ _ hc⟩
  · refine .inr ⟨w', e, Calls.mono hc ?_⟩
    intro e w he
    cases e with
    | returned v => exact key _ _ _ he
    | _ => exact he

theorem eff_of {f : FuncId} {fn : Func} {c : Code} {args : List PV} {v : PV} {ph1 : PH} (rs : List ResultVar) (hf : X.P.funcs[f]? = some fn) (hrs : fn.results.toList = rs) (hb : fn.body = some c) (hnm : (fn.name == "runtime.NumGoroutine") = false) (hn : ph1.n = ph.n) (hw : WF ph → WF ph1)
    (h : WF ph → ∀ (Q : Exit → PSt → PH → Prop), (∀ {e : Exit} {tm : List PV} {ms : List Nat} {ph' : PH} {u v' : PV}, (e = .normal ∨ e = .ret) → Marks ph' ms → resP X.P rs ⟨tm, ms⟩ (ph'.shut ms) = some u → (∃ d, frz (ph'.shut ms) ph.n d u = some v') → Keeps ph1 (ph'.shut ms) → NW v' v → Q e ⟨tm, ms⟩ ph') →
      vc X none ph.n c Q (start fn args) (H ph [] ph.ob ph.ty)) : Eff X f args ph v ph1 := by
  subst hrs
  refine PCalls.widen (pcalls_eff hf hb hnm hn hw fun hW => vc_ok _ _ _ _ ?_)
  have := h hW (FEff X fn.results.toList ph ph1 (NW · v)) (fun h1 h2 h3 h4 h5 h6 => ⟨h1, h2, _, h3, _, h4.choose, h4.choose_spec, h5, h6⟩)
  rw [h_start] at this; exact this

/-- A function of its arguments alone. -/
theorem fn_H {f : FuncId} {fn : Func} {c : Code} {args : List PV} {v : PV} (rs : List ResultVar) (hf : X.P.funcs[f]? = some fn) (hrs : fn.results.toList = rs) (hb : fn.body = some c) (hnm : (fn.name == "runtime.NumGoroutine") = false)
    (h : ∀ (ph : PH), WF ph → ∀ (Q : Exit → PSt → PH → Prop), (∀ {e : Exit} {tm : List PV} {ms : List Nat} {ph' : PH} {u v' : PV}, (e = .normal ∨ e = .ret) → Marks ph' ms → resP X.P rs ⟨tm, ms⟩ (ph'.shut ms) = some u → (∃ d, frz (ph'.shut ms) ph.n d u = some v') → Keeps ph (ph'.shut ms) → NW v' v → Q e ⟨tm, ms⟩ ph') →
      vc X none ph.n c Q (start fn args) (H ph [] ph.ob ph.ty)) : Fn X f args v :=
  fun ph => eff_of rs hf hrs hb hnm rfl (fun h => h) fun hW Q hQ => h ph hW Q hQ

/-! ### Calls walked where they stand -/
theorem PWp.grown {c : Code} {s : PSt} (h : PWp X ρ n0 c Q s ph) : PWp X ρ n0 c (fun e s ph' => Q e s ph' ∧ n0 ≤ ph'.n) s ph := by
  intro hn G w a hr hs
  refine wpIn_mono (h hn G w a hr hs) ?_
  rintro e a' w' ⟨G', s', ph', h1, h2, h3, h4⟩
  exact ⟨G', s', ph', h1, h2, h3, h4, grow_n hr h2 h1 hn⟩

theorem PCalls.grown {f : FuncId} {args : List PV} {R : PV → PH → Prop} (h : PCalls X f args ph R) : PCalls X f args ph fun v ph' => ph.n ≤ ph'.n ∧ R v ph' := by
  have key : ∀ G v w, CPost X ph.n G R v w → CPost X ph.n G (fun v ph' => ph.n ≤ ph'.n ∧ R v ph') v w := by
    rintro G v w ⟨G', pv, ph', h1, h2, h3, h4, h5⟩; exact ⟨G', pv, ph', h1, h2, h3, h4, h4, h5⟩
  intro G w rargs hr ha
  rcases h G w rargs hr ha with ⟨v, w', e, hc⟩ | ⟨w', e, hc⟩
  · exact .inl ⟨v, w', e, key _ _ _ hc⟩
  · refine .inr ⟨w', e, Calls.mono hc ?_⟩
    intro e w he
    cases e with
    | returned v => exact key _ _ _ he
    | _ => exact he

theorem w_inl {f : FuncId} {fn : Func} {c : Code} {args : List PV} {K : PV → PH → Prop} (rs : List ResultVar) (hf : X.P.funcs[f]? = some fn) (hrs : fn.results.toList = rs) (hb : fn.body = some c) (hnm : (fn.name == "runtime.NumGoroutine") = false)
    (h : ∀ (Q : Exit → PSt → PH → Prop), (∀ {e : Exit} {tm : List PV} {ms : List Nat} {ph' : PH} {v : PV}, (e = .normal ∨ e = .ret) → Marks ph' ms → resP X.P rs ⟨tm, ms⟩ (ph'.shut ms) = some v → K v (ph'.shut ms) → Q e ⟨tm, ms⟩ ph') →
      vc X none ph.n c Q (start fn args) ph) : PCalls X f args ph K := by
  subst hrs
  refine pcalls_of hf hb hnm ?_
  refine (vc_ok _ _ _ _ (h (fun e s ph' => (e = .normal ∨ e = .ret) ∧ Marks ph' s.ms ∧ ∃ v, resP X.P fn.results.toList s (ph'.shut s.ms) = some v ∧ K v (ph'.shut s.ms)) ?_)).grown.mono ?_
  · intro e tm ms ph' v he hm hv hK
    exact ⟨he, hm, v, hv, hK⟩
  · rintro e s ph' ⟨⟨he, hm, v, hv, hK⟩, hn⟩
    have hsn : ∀ (ms : List Nat) (ph' : PH), (ph'.shut ms).n = ph'.n := by
      intro ms
      induction ms with
      | nil => intro ph'; rfl
      | cons r ms ih => intro ph'; simp only [PH.shut]; rw [ih]; rfl
    exact ⟨he, hm, v, hv, v, _, .refl _ _, by rw [hsn]; exact hn, hK⟩

theorem re_normal {s : PSt} {l : Nat} {L : PLoop} (hl : ph.ob l = some (.loop L)) (hs : L.st = .ready) (hp : L.pending = none) (h : Q .normal s (ph.setOb l none)) : rangeEnd X ρ n0 Q l s ph :=
  ⟨L, hl, by rw [hs]; simp, by rw [hp]; exact h⟩
theorem re_exit {s : PSt} {l id : Nat} {L : PLoop} (hl : ph.ob l = some (.loop L)) (hs : L.st = .done) (hp : L.pending = some (.exit id)) (h : Q (.exit id) s (ph.setOb l none)) : rangeEnd X ρ n0 Q l s ph :=
  ⟨L, hl, by rw [hs]; simp, by rw [hp]; exact vc_ok (.exit id) _ _ _ h⟩

/-- A range over a function, that function walked where it stands. -/
theorem w_range {f : Operand} {ps : Array Tmp} {assign body : Code} {g : FuncId} {first caps : List PV} {tm : List PV} {ms : List Nat} {fn : Func} {c : Code} (rs : List ResultVar) (hf : PSt.ev ⟨tm, ms⟩ f = .func g first caps) (hg : X.P.funcs[g]? = some fn) (hrs : fn.results.toList = rs) (hb : fn.body = some c)
    (hnm : (fn.name == "runtime.NumGoroutine") = false)
    (h : ∀ (r l : Nat) (fnid : FuncId), ph.ob r = none → ph.ob l = none → r ≠ l → ∀ (Q' : Exit → PSt → PH → Prop),
      (∀ {e : Exit} {tm' : List PV} {ms' : List Nat} {ph' : PH} {v : PV}, (e = .normal ∨ e = .ret) → Marks ph' ms' → resP X.P rs ⟨tm', ms'⟩ (ph'.shut ms') = some v → rangeEnd X none n0 Q l ⟨tm, r :: ms⟩ (ph'.shut ms') → Q' e ⟨tm', ms'⟩ ph') →
      vc X none ph.n c Q' (start fn (first ++ [.yield l] ++ caps)) ((ph.setOb r (some .defd)).setOb l (some (.loop (mkLoop fnid tm ps assign body r))))) :
    vc X none n0 (.rangeFunc f ps assign body) Q ⟨tm, ms⟩ ph := by
  show PWp X none n0 (.rangeFunc f ps assign body) Q ⟨tm, ms⟩ ph
  intro hn
  refine (pwp_range hf ⟨fn, hg, by rw [hb]; rfl, hnm⟩ ?_) hn
  intro r l fnid hr hl hne
  refine PCalls.mono (PCalls.grown (R := fun _ ph' => rangeEnd X none n0 Q l ⟨tm, r :: ms⟩ ph') ?_) ?_
  · refine w_inl rs hg hrs hb hnm fun Q' hQ' => ?_
    exact h r l fnid hr hl hne Q' hQ'
  · rintro v ph' ⟨h1, h2⟩
    exact ⟨Nat.le_trans hn h1, h2⟩

/-- A round, walked where it is asked for. -/
theorem w_round {l : Nat} {L : PLoop} {vs : List PV} {R : PV → PH → Prop} (hl : ph.ob l = some (.loop L)) (hst : L.st = .ready) (hlen : L.params.size = vs.length)
    (h : vc X (some l) ph.n L.assign (PExit.seq (fun s ph' => ∃ L', ph'.ob l = some (.loop L') ∧ L'.st = .ready ∧ vc X (some l) ph.n L.body (RPost l L R) s (ph'.setOb l (some (.loop { L' with st := .busy })))) (fun _ _ _ => False)) ⟨setPs L.tmps L.params.toList vs, []⟩ ph) : PYield X l vs ph R := by
  refine pyield_of hl hst hlen ((vc_ok _ _ _ _ h).mono ?_)
  intro e s ph' hq
  cases e with
  | normal =>
    obtain ⟨L', h1, h2, h3⟩ := hq
    exact ⟨L', h1, h2, vc_ok _ _ _ _ h3⟩
  | _ => exact hq

def NilL (n sz : Nat) : List PV → List PV → Prop
  | [], [] => True
  | v :: vs, u :: us => (u = v ∨ u = .undef ∨ (v = .nilsl ∧ u = .gsl n sz 0 [])) ∧ NilL n sz vs us
  | _, _ => False

def NilB (n sz : Nat) : List (Option Blk) → List (Option Blk) → Prop
  | [], [] => True
  | x :: xs, y :: ys => (y = x ∨ ∃ c c', x = some (.own c) ∧ y = some (.own c') ∧ NilL n sz c c') ∧ NilB n sz xs ys
  | _, _ => False

theorem NilL.rvs {n sz : Nat} {G' : Ghost} (hle : Le G G') (hn : ∀ v, RV G .nilsl v → RV G' (.gsl n sz 0 []) v) : ∀ {vs us : List PV} {rs : List Value}, NilL n sz vs us → RVs G vs rs → RVs G' us rs
  | [], [], _, _, h => by cases h; exact .nil
  | v :: vs, u :: us, _, hl, h => by
    obtain ⟨h1, h2⟩ := hl
    cases h with
    | cons _ r _ rs a b =>
      refine .cons _ _ _ _ ?_ (NilL.rvs hle hn h2 b)
      rcases h1 with rfl | rfl | ⟨rfl, rfl⟩
      · exact a.mono hle
      · exact .undef _
      · exact hn _ a
  | [], _ :: _, _, hl, _ => hl.elim
  | _ :: _, [], _, hl, _ => hl.elim

theorem NilB.at {n sz : Nat} : ∀ {l l' : List (Option Blk)}, NilB n sz l l' → l'.length = l.length ∧ ∀ k : Nat, (l'[k]? = l[k]?) ∨ ∃ c c', l[k]? = some (some (.own c)) ∧ l'[k]? = some (some (.own c')) ∧ NilL n sz c c'
  | [], [], _ => ⟨rfl, fun _ => .inl rfl⟩
  | x :: xs, y :: ys, h => by
    obtain ⟨h1, h2⟩ := h
    obtain ⟨h3, h4⟩ := h2.at
    refine ⟨by simp [h3], fun k => ?_⟩
    cases k with
    | zero =>
      rcases h1 with rfl | ⟨c, c', rfl, rfl, h⟩
      · exact .inl rfl
      · exact .inr ⟨c, c', rfl, rfl, h⟩
    | succ k => simpa using h4 k
  | [], _ :: _, h => h.elim
  | _ :: _, [], h => h.elim

theorem Weak.grow {b : PH} {l l' : List (Option Blk)} {ob : Nat → Option PObj} {ty : Nat → Option TypeId} {tm tm' : List PV} (sz : Nat) (e : TypeId) (hn : n0 ≤ b.n + l.length) (h1 : NilL (b.n + l.length) sz tm tm') (h2 : NilB (b.n + l.length) sz l l') :
    Weak X n0 (H b l ob ty) tm (H b (l' ++ [some (.grow sz 0 e)]) ob ty) tm' := by
  intro G w rvs hr hv
  have hp := hr.pushG sz e
  have hle := hr.leG
  have hnn : ∀ v, RV G .nilsl v → RV G.pushG (.gsl (b.n + l.length) sz 0 []) v := fun v hv => by
    have := rv_newG hr sz hv; rw [h_n] at this; exact this
  obtain ⟨h3, h4⟩ := h2.at
  refine ⟨G.pushG, hle.n _, ?_, h1.rvs hle hnn hv⟩
  rw [h_pushG] at hp
  -- the cells told anew
  have hgen : ∀ (p : Nat) (hp : ¬ p < b.n), ∃ k, p = b.n + k := fun p hp => ⟨p - b.n, by omega⟩
  have hat : ∀ k : Nat, ((l' ++ [some (Blk.grow sz 0 e)])[k]? = (l ++ [some (Blk.grow sz 0 e)])[k]?) ∨ ∃ c c', (l ++ [some (Blk.grow sz 0 e)])[k]? = some (some (.own c)) ∧ (l' ++ [some (Blk.grow sz 0 e)])[k]? = some (some (.own c')) ∧ NilL (b.n + l.length) sz c c' := by
    intro k
    by_cases hk : k < l.length
    · rw [List.getElem?_append_left (by omega), List.getElem?_append_left hk]; exact h4 k
    · left
      rw [List.getElem?_append_right (by omega), List.getElem?_append_right (by omega), h3]
  have hcell : ∀ c c', NilL (b.n + l.length) sz c c' → ∀ vals, RVs G c vals → RVs G.pushG c' vals := fun c c' h vals hv => h.rvs hle hnn hv
  refine ⟨by rw [hp.len]; simp [H, h3], hp.below, ?_, ?_, hp.fz, ?_, hp.ob, hp.ty, ?_⟩
  · intro p c' hc
    by_cases hpb : p < b.n
    · have hc2 : (H b (l ++ [some (.grow sz 0 e)]) ob ty).get p = some c' := by rw [h_getlt hpb] at hc ⊢; exact hc
      exact hp.own p c' hc2
    · obtain ⟨k, rfl⟩ := hgen p hpb
      rcases hat k with h5 | ⟨c, d, h5, h6, h7⟩
      · have hc2 : (H b (l ++ [some (.grow sz 0 e)]) ob ty).get (b.n + k) = some c' := by rw [h_get] at hc ⊢; rw [← h5]; exact hc
        exact hp.own _ c' hc2
      · rw [h_get, h6] at hc
        cases hc
        have hk : k < l.length := by
          by_cases hk : k < l.length
          · exact hk
          · rw [List.getElem?_append_right (by omega)] at h5
            have := (List.getElem?_eq_some_iff.1 h5).1
            simp at this
            have hkl : k - l.length = 0 := by omega
            rw [hkl] at h5; simp at h5
        have hc0 : (H b l ob ty).get (b.n + k) = some c := by rw [h_get]; rw [List.getElem?_append_left hk] at h5; rw [h5]; rfl
        obtain ⟨L, vals, cs, e', fz, hL, o⟩ := hr.own _ c hc0
        exact ⟨L, vals, cs, e', fz, hle.l _ _ hL, ⟨hcell _ _ h7 _ o.rv, o.lt, o.ge, o.hb, o.sz, o.fr, o.at_, o.one⟩⟩
  all_goals
    have hget : ∀ p c', (H b (l' ++ [some (.grow sz 0 e)]) ob ty).get p = some c' → ∃ c, (H b (l ++ [some (.grow sz 0 e)]) ob ty).get p = some c := by
      intro p c' hc
      by_cases hpb : p < b.n
      · exact ⟨c', by rw [h_getlt hpb] at hc ⊢; exact hc⟩
      · obtain ⟨k, rfl⟩ := hgen p hpb
        rcases hat k with h5 | ⟨c, d, h5, h6, h7⟩
        · exact ⟨c', by rw [h_get] at hc ⊢; rw [← h5]; exact hc⟩
        · exact ⟨c, by rw [h_get, h5]; rfl⟩
  · intro p q c d L M hpq hp' hq hL hM
    obtain ⟨c0, hc0⟩ := hget p c hp'
    obtain ⟨d0, hd0⟩ := hget q d hq
    exact hp.disj p q _ _ L M hpq hc0 hd0 hL hM
  · intro a v p c L hv hp' hL
    obtain ⟨c0, hc0⟩ := hget p c hp'
    exact hp.fdisj a v p _ L hv hc0 hL
  · refine hp.grow.step rfl (Nat.le_refl _) (fun p r hr => ?_) (fun _ _ => rfl) (fun _ _ h => .inl h) fun q c L hc hL => by
      obtain ⟨c0, hc0⟩ := hget q c hc
      exact .inl ⟨c0, hc0, hL⟩
    by_cases hpb : p < b.n
    · rw [h_grolt hpb] at hr ⊢; exact hr
    · obtain ⟨k, rfl⟩ := hgen p hpb
      rw [h_gro] at hr ⊢
      rcases hat k with h5 | ⟨c, d, h5, h6, h7⟩
      · rw [← h5]; exact hr
      · rw [h6] at hr; cases hr

theorem w_grow {c : Code} {tm : List PV} {ms : List Nat} {l : List (Option Blk)} {b : PH} {ob : Nat → Option PObj} {ty : Nat → Option TypeId} (sz : Nat) (e : TypeId) (tm' : List PV) (l' : List (Option Blk)) (hn : n0 ≤ b.n + l.length) (h1 : NilL (b.n + l.length) sz tm tm') (h2 : NilB (b.n + l.length) sz l l')
    (h : vc X ρ n0 c Q ⟨tm', ms⟩ (H b (l' ++ [some (.grow sz 0 e)]) ob ty)) (hs : PWp X ρ n0 c Q ⟨tm, ms⟩ (H b l ob ty) → vc X ρ n0 c Q ⟨tm, ms⟩ (H b l ob ty)) : vc X ρ n0 c Q ⟨tm, ms⟩ (H b l ob ty) :=
  hs (PWp.weak (s' := ⟨tm', ms⟩) (Weak.grow sz e hn h1 h2) rfl (vc_ok _ _ _ _ h))

/-- At a loop, and at a range over a function. -/
theorem w_growL {c : Code} {tm : List PV} {ms : List Nat} {l : List (Option Blk)} {b : PH} {ob : Nat → Option PObj} {ty : Nat → Option TypeId} (sz : Nat) (e : TypeId) (tm' : List PV) (l' : List (Option Blk)) (hn : n0 ≤ b.n + l.length) (h1 : NilL (b.n + l.length) sz tm tm') (h2 : NilB (b.n + l.length) sz l l')
    (h : vc X ρ n0 (.loop c) Q ⟨tm', ms⟩ (H b (l' ++ [some (.grow sz 0 e)]) ob ty)) : vc X ρ n0 (.loop c) Q ⟨tm, ms⟩ (H b l ob ty) := w_grow sz e tm' l' hn h1 h2 h fun h => h
theorem w_growR {f : Operand} {ps : Array Tmp} {assign body : Code} {tm : List PV} {ms : List Nat} {l : List (Option Blk)} {b : PH} {ob : Nat → Option PObj} {ty : Nat → Option TypeId} (sz : Nat) (e : TypeId) (tm' : List PV) (l' : List (Option Blk)) (hn : n0 ≤ b.n + l.length) (h1 : NilL (b.n + l.length) sz tm tm') (h2 : NilB (b.n + l.length) sz l l')
    (h : vc X ρ n0 (.rangeFunc f ps assign body) Q ⟨tm', ms⟩ (H b (l' ++ [some (.grow sz 0 e)]) ob ty)) : vc X ρ n0 (.rangeFunc f ps assign body) Q ⟨tm, ms⟩ (H b l ob ty) := w_grow sz e tm' l' hn h1 h2 h fun h => h

theorem frz_gsl {n d p e l : Nat} {ps qs : List PV} (hp : n ≤ p) (h : frzs ph n d ps = some qs) : frz ph n (d + 1) (.gsl p e l ps) = some (.fsl e l qs) := by
  unfold frz; simp only [if_neg (show ¬ p < n by omega), h, Option.map_some]
theorem WF.put {b : PH} (h : WF b) {p : Nat} {c : List PV} (hp : p < b.n) (hc : Scs b.n c) : WF (b.put p c) := by
  refine ⟨fun q d hq => ?_, fun r o hr => ?_, fun q e he => ?_⟩
  · rw [PH.get_put hp] at hq
    rw [PH.n_put]
    split at hq
    · cases hq; exact hc
    · exact h.bl q d hq
  · have := h.ob r o hr; rw [PH.n_put]; exact this
  · rw [PH.n_put]; exact h.ty q e he
theorem WF.putG {b : PH} (h : WF b) {p s t : Nat} {e : TypeId} : WF (b.putG p s t e) := by
  refine ⟨fun q d hq => ?_, fun r o hr => ?_, fun q e he => ?_⟩
  · rw [PH.get_putG] at hq
    rw [PH.n_putG]
    split at hq
    · cases hq
    · exact h.bl q d hq
  · have := h.ob r o hr; rw [PH.n_putG]; exact this
  · rw [PH.n_putG]; exact h.ty q e he

theorem bytesPV_scalar (s : List UInt8) : (bytesPV s).all scalarV = true := by simp [bytesPV, scalarV]

/-! ### strings.Builder -/
def adP (w : Bool) (p : Nat) : PV := if w then .ptr p 0 else .nilptr
theorem adP_t {p : Nat} : adP true p = .ptr p 0 := rfl
theorem adP_f {p : Nat} : adP false p = .nilptr := rfl
/-- A Builder's cells. -/
def bldC (w : Bool) (p q : Nat) (s : List UInt8) : List PV := [adP w p, .gsl q 1 s.length (bytesPV s)]

theorem put_putG {p q s t : Nat} {e : TypeId} {c : List PV} (hne : p ≠ q) : (ph.put p c).putG q s t e = (ph.putG q s t e).put p c := by
  simp only [PH.put, PH.putG]; rw [List.set_comm _ _ hne]

theorem NilL.refl {n sz : Nat} : ∀ {vs : List PV}, NilL n sz vs vs
  | [] => trivial
  | _ :: _ => ⟨.inl rfl, NilL.refl⟩
theorem w_growL0 {c : Code} {tm : List PV} {ms : List Nat} {l : List (Option Blk)} {b : PH} {ob : Nat → Option PObj} {ty : Nat → Option TypeId} (sz : Nat) (e : TypeId) (l' : List (Option Blk)) (hn : n0 ≤ b.n + l.length) (h2 : NilB (b.n + l.length) sz l l')
    (h : vc X ρ n0 (.loop c) Q ⟨tm, ms⟩ (H b (l' ++ [some (.grow sz 0 e)]) ob ty)) : vc X ρ n0 (.loop c) Q ⟨tm, ms⟩ (H b l ob ty) := w_growL sz e tm l' hn NilL.refl h2 h
theorem w_growR0 {f : Operand} {ps : Array Tmp} {assign body : Code} {tm : List PV} {ms : List Nat} {l : List (Option Blk)} {b : PH} {ob : Nat → Option PObj} {ty : Nat → Option TypeId} (sz : Nat) (e : TypeId) (l' : List (Option Blk)) (hn : n0 ≤ b.n + l.length) (h2 : NilB (b.n + l.length) sz l l')
    (h : vc X ρ n0 (.rangeFunc f ps assign body) Q ⟨tm, ms⟩ (H b (l' ++ [some (.grow sz 0 e)]) ob ty)) : vc X ρ n0 (.rangeFunc f ps assign body) Q ⟨tm, ms⟩ (H b l ob ty) := w_growR sz e tm l' hn NilL.refl h2 h

/-- Behind a round: blocks that are named no more. -/
theorem HTo.cut {b : PH} {l : List (Option Blk)} {ob ob' : Nat → Option PObj} {ty ty' : Nat → Option TypeId} {st tm : List PV} {ph' : PH} (g : List (Option Blk)) (hb : WF b) (h : FadeTo tm st) (e : ph' = H b (l ++ g) ob' ty') (h1 : Scs (b.n + l.length) st)
    (h2 : ∀ x ∈ l, ∀ c, x = some (Blk.own c) → Scs (b.n + l.length) c) (ho : ∀ r o, ob r = some o → ob' r = some o := by exact fun _ _ h => h) (ht : ∀ p e, ty p = some e → ty' p = some e := by exact fun _ _ h => h)
    (h3 : ob = b.ob ∨ ∀ r o, ob r = some o → ObSc (b.n + l.length) o := by exact .inl rfl) (h4 : ty = b.ty ∨ ∀ p e, ty p = some e → p < b.n + l.length := by exact .inl rfl) : HTo b l ob ty st tm ph' :=
  e ▸ HTo.drop hb h ho ht h1 (fun k c hk => h2 _ (List.mem_of_getElem? hk) c rfl) h3 h4

theorem scs_nil {n : Nat} : Scs n [] = True := rfl
theorem scs_cons {n : Nat} {p : PV} {ps : List PV} : Scs n (p :: ps) = (Sc n p ∧ Scs n ps) := rfl
theorem sc_ptr {n p o : Nat} : Sc n (.ptr p o) = (p < n) := rfl
theorem sc_fsl {n e l : Nat} {c : List PV} : Sc n (.fsl e l c) = Scs n c := rfl
theorem sc_gsl {n p e l : Nat} {c : List PV} : Sc n (.gsl p e l c) = (p < n ∧ Scs n c) := rfl
theorem sc_sl {n p o e l : Nat} {cp : Option Nat} : Sc n (.sl p o e l cp) = (p < n) := rfl
theorem sc_agg {n : Nat} {c : List PV} : Sc n (.agg c) = Scs n c := rfl
theorem sc_func {n : Nat} {f : FuncId} {a c : List PV} : Sc n (.func f a c) = (Scs n a ∧ Scs n c) := rfl
theorem sc_int {n : Nat} {k : IntKind} {i : Int} : Sc n (.int k i) = True := rfl
theorem sc_bool {n : Nat} {i : Bool} : Sc n (.bool i) = True := rfl
theorem sc_str {n : Nat} {i : List UInt8} : Sc n (.str i) = True := rfl
theorem sc_undef {n : Nat} : Sc n .undef = True := rfl
theorem sc_nilsl {n : Nat} : Sc n .nilsl = True := rfl
theorem sc_yield {n l : Nat} : Sc n (.yield l) = True := rfl
theorem scs_bytes {n : Nat} {s : List UInt8} : Scs n (bytesPV s) = True := eq_true (scs_scalars (bytesPV_scalar s))
theorem up_none2 {α : Type} {f : Nat → Option α} {r l : Nat} {o : Option α} (h : f l = none) (hne : r ≠ l) : upF (upF f r o) l none = upF f r o := by
  apply up_none; rw [up_ne' hne]; exact h
theorem marks1 {b : PH} {l : List (Option Blk)} {ob : Nat → Option PObj} {ty : Nat → Option TypeId} {r : Nat} : Marks (H b l (upF ob r (some .defd)) ty) [r] := ⟨up_same, trivial⟩
theorem keeps1 {b : PH} {l : List (Option Blk)} {r : Nat} (hr : b.ob r = none) : Keeps b ((H b l (upF b.ob r (some .defd)) b.ty).shut [r]) := by
  rw [h_shut1, up_up, up_none hr]; exact keepsH0
theorem keeps1t {b : PH} {l : List (Option Blk)} {r : Nat} {ty : Nat → Option TypeId} (hr : b.ob r = none) (ht : ∀ p, p < b.n → ty p = b.ty p) : Keeps b ((H b l (upF b.ob r (some .defd)) ty).shut [r]) := by
  rw [h_shut1, up_up, up_none hr]; exact keepsH (fun _ _ h => h) ht

theorem obsc2 {b : PH} (hb : WF b) {m r l : Nat} {L : PLoop} (hm : b.n ≤ m) (hL : Scs m L.tmps) : ∀ k o, upF (upF b.ob r (some .defd)) l (some (.loop L)) k = some o → ObSc m o := by
  intro k o h
  simp only [upF] at h
  split at h
  · cases h; exact hL
  · split at h
    · cases h; trivial
    · have := hb.ob k o h
      cases o with
      | loop L => exact Scs.mono hm this
      | defd => trivial
theorem sc_tuple {n : Nat} {c : List PV} : Sc n (.tuple c) = Scs n c := rfl
end Pv

namespace Pv
open Go Go.RowKit
/-- The walk's lemmas, as one. -/
theorem wkAll : type_of% (And.intro (And.intro (And.intro (And.intro (And.intro (And.intro (And.intro (@w_seq) (@w_cond)) (And.intro (@w_region) (@w_nil))) (And.intro (And.intro (@w_cons) (@w_noguard)) (And.intro (@w_true) (@w_false)))) (And.intro (And.intro (And.intro (@w_op) (@w_some)) (And.intro (@w_next) (@w_put))) (And.intro (And.intro (@w_put0) (@w_tmp)) (And.intro (@w_int) (@w_bool))))) (And.intro (And.intro (And.intro (And.intro (@w_string) (@w_nilsl)) (And.intro (@w_nilptr) (@w_nilfunc))) (And.intro (And.intro (@w_nilif) (@w_agg)) (And.intro (@w_fn) (@w_call)))) (And.intro (And.intro (And.intro (@w_func) (@w_yield)) (And.intro (@w_skip) (@w_label))) (And.intro (And.intro (@w_exit) (@w_goto)) (And.intro (@w_ret) (@w_block)))))) (And.intro (And.intro (And.intro (And.intro (And.intro (@w_scope) (@w_ctrue)) (And.intro (@w_cfalse) (@w_snormal))) (And.intro (And.intro (@w_sret) (@w_sexit)) (And.intro (@w_bnormal) (@w_bret)))) (And.intro (And.intro (And.intro (@w_bsame) (@w_bother)) (And.intro (@w_cnormal) (@w_cret))) (And.intro (And.intro (@w_cexit) (@bq1)) (And.intro (@bq2) (@bq3))))) (And.intro (And.intro (And.intro (And.intro (@bq4) (@pc_bool)) (And.intro (@ck_bool) (@pc_int))) (And.intro (And.intro (@ck_int) (@pc_str)) (And.intro (@ck_str) (@pc_nilptr)))) (And.intro (And.intro (And.intro (@ck_nilptr) (@pc_ptr)) (And.intro (@ck_ptr) (@pc_fptr))) (And.intro (And.intro (@ck_fptr) (@pc_nilsl)) (And.intro (@ck_nilsl) (And.intro (@pc_zsl) (@ck_zsl)))))))) (And.intro (And.intro (And.intro (And.intro (And.intro (And.intro (@pc_sl) (@ck_sl)) (And.intro (@pc_fsl) (@ck_fsl))) (And.intro (And.intro (@pc_func) (@ck_func)) (And.intro (@pc_yield) (@ck_yield)))) (And.intro (And.intro (And.intro (@pc_nilfunc) (@ck_nilfunc)) (And.intro (@pc_nilif) (@ck_nilif))) (And.intro (And.intro (@pc_agg) (@d_nil)) (And.intro (@d_cons) (@d_op))))) (And.intro (And.intro (And.intro (And.intro (@d_true) (@d_false)) (And.intro (@d_mv) (@d_se0))) (And.intro (And.intro (@d_se) (@d_look0)) (And.intro (@d_look) (@d_look1)))) (And.intro (And.intro (And.intro (@h_n) (@h_push)) (And.intro (@h_pushG) (@h_get))) (And.intro (And.intro (@h_get0) (@h_gro)) (And.intro (@h_gro0) (@h_put)))))) (And.intro (And.intro (And.intro (And.intro (And.intro (@h_put0) (@h_putG)) (And.intro (@h_putG0) (@h_kill))) (And.intro (And.intro (@h_kill0) (@h_setOb)) (And.intro (@h_setTy) (@h_ob)))) (And.intro (And.intro (And.intro (@h_ty) (@h_shut0)) (And.intro (@h_shut1) (@blk_own))) (And.intro (And.intro (@blk_grow) (@gro_own)) (And.intro (@gro_grow) (@deg_gsl))))) (And.intro (And.intro (And.intro (And.intro (@deg_fsl) (@deg_sl)) (And.intro (@deg_str) (@deg_int))) (And.intro (And.intro (@deg_nilsl) (@deg_zsl)) (And.intro (@deg_ptr) (@deg_fptr)))) (And.intro (And.intro (And.intro (@deg_nilptr) (@deg_agg)) (And.intro (@deg_bool) (@deg_func))) (And.intro (And.intro (@pc_gsl) (@ck_gsl)) (And.intro (@app_nil) (And.intro (@app_sl) (@app_zsl))))))))) := And.intro (And.intro (And.intro (And.intro (And.intro (And.intro (And.intro (@w_seq) (@w_cond)) (And.intro (@w_region) (@w_nil))) (And.intro (And.intro (@w_cons) (@w_noguard)) (And.intro (@w_true) (@w_false)))) (And.intro (And.intro (And.intro (@w_op) (@w_some)) (And.intro (@w_next) (@w_put))) (And.intro (And.intro (@w_put0) (@w_tmp)) (And.intro (@w_int) (@w_bool))))) (And.intro (And.intro (And.intro (And.intro (@w_string) (@w_nilsl)) (And.intro (@w_nilptr) (@w_nilfunc))) (And.intro (And.intro (@w_nilif) (@w_agg)) (And.intro (@w_fn) (@w_call)))) (And.intro (And.intro (And.intro (@w_func) (@w_yield)) (And.intro (@w_skip) (@w_label))) (And.intro (And.intro (@w_exit) (@w_goto)) (And.intro (@w_ret) (@w_block)))))) (And.intro (And.intro (And.intro (And.intro (And.intro (@w_scope) (@w_ctrue)) (And.intro (@w_cfalse) (@w_snormal))) (And.intro (And.intro (@w_sret) (@w_sexit)) (And.intro (@w_bnormal) (@w_bret)))) (And.intro (And.intro (And.intro (@w_bsame) (@w_bother)) (And.intro (@w_cnormal) (@w_cret))) (And.intro (And.intro (@w_cexit) (@bq1)) (And.intro (@bq2) (@bq3))))) (And.intro (And.intro (And.intro (And.intro (@bq4) (@pc_bool)) (And.intro (@ck_bool) (@pc_int))) (And.intro (And.intro (@ck_int) (@pc_str)) (And.intro (@ck_str) (@pc_nilptr)))) (And.intro (And.intro (And.intro (@ck_nilptr) (@pc_ptr)) (And.intro (@ck_ptr) (@pc_fptr))) (And.intro (And.intro (@ck_fptr) (@pc_nilsl)) (And.intro (@ck_nilsl) (And.intro (@pc_zsl) (@ck_zsl)))))))) (And.intro (And.intro (And.intro (And.intro (And.intro (And.intro (@pc_sl) (@ck_sl)) (And.intro (@pc_fsl) (@ck_fsl))) (And.intro (And.intro (@pc_func) (@ck_func)) (And.intro (@pc_yield) (@ck_yield)))) (And.intro (And.intro (And.intro (@pc_nilfunc) (@ck_nilfunc)) (And.intro (@pc_nilif) (@ck_nilif))) (And.intro (And.intro (@pc_agg) (@d_nil)) (And.intro (@d_cons) (@d_op))))) (And.intro (And.intro (And.intro (And.intro (@d_true) (@d_false)) (And.intro (@d_mv) (@d_se0))) (And.intro (And.intro (@d_se) (@d_look0)) (And.intro (@d_look) (@d_look1)))) (And.intro (And.intro (And.intro (@h_n) (@h_push)) (And.intro (@h_pushG) (@h_get))) (And.intro (And.intro (@h_get0) (@h_gro)) (And.intro (@h_gro0) (@h_put)))))) (And.intro (And.intro (And.intro (And.intro (And.intro (@h_put0) (@h_putG)) (And.intro (@h_putG0) (@h_kill))) (And.intro (And.intro (@h_kill0) (@h_setOb)) (And.intro (@h_setTy) (@h_ob)))) (And.intro (And.intro (And.intro (@h_ty) (@h_shut0)) (And.intro (@h_shut1) (@blk_own))) (And.intro (And.intro (@blk_grow) (@gro_own)) (And.intro (@gro_grow) (@deg_gsl))))) (And.intro (And.intro (And.intro (And.intro (@deg_fsl) (@deg_sl)) (And.intro (@deg_str) (@deg_int))) (And.intro (And.intro (@deg_nilsl) (@deg_zsl)) (And.intro (@deg_ptr) (@deg_fptr)))) (And.intro (And.intro (And.intro (@deg_nilptr) (@deg_agg)) (And.intro (@deg_bool) (@deg_func))) (And.intro (And.intro (@pc_gsl) (@ck_gsl)) (And.intro (@app_nil) (And.intro (@app_sl) (@app_zsl))))))))
end Pv
