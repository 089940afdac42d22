/- Part of the proof: the layer of pure values, or a walk through a function (PvRules). -/
import Derived.Test.YthegpibaoikoeaaPvVc
import Derived.Scope
set_option linter.all false
namespace Pv
open Go Go.RowKit
variable {X : Ctx} {G : Ghost} {ph : PH} {w : World} {ρ : Option Nat} {n0 : Nat} {Q : Exit → PSt → PH → Prop}

theorem PWp.mono {c : Code} {Q' : Exit → PSt → PH → Prop} {s : PSt} (h : PWp X ρ n0 c Q s ph) (hq : ∀ e s ph, Q e s ph → Q' e s ph) : PWp X ρ n0 c Q' s ph :=
  fun hn G w a hr hs => wpIn_mono (h hn G w a hr hs) fun e a w ⟨G', s', ph', h1, h2, h3, h4⟩ => ⟨G', s', ph', h1, h2, h3, hq _ _ _ h4⟩

section scope
variable {F : Fence} {n : Nat} {P : Program}
theorem stepR_scope {b : Frame} {a : Act} {k : List Item} {cs : List Frame} {c : Code} : step P (lone (b.atR a (.code (.scope c) :: k)) cs w) = .next (lone (b.atR a (.code c :: .inScope c :: k)) cs w) :=
  step_lone_go (by simp [stepG, stepG.exec, Frame.atR])
theorem stepR_inScope {b : Frame} {a : Act} {k : List Item} {cs : List Frame} {c : Code} : step P (lone (b.atR a (.inScope c :: k)) cs w) = .next (lone (b.atR a k) cs w) :=
  step_lone_go (by simp [stepG, stepG.exec, Frame.atR])

theorem wpIn_scope {c : Code} {a : Act} {Q : Exit → Act → World → Prop} (h : c.wpIn F n P (Exit.noGoto Q) a w) : (Code.scope c).wpIn F n P Q a w := by
  intro b k cs hro hb hr
  have h0 : (lone (b.atR a (.code (.scope c) :: k)) cs w).fenced P F := fenced_calm hb hr rfl
  obtain ⟨e, a₁, w₁, hq, harr⟩ := h b (.inScope c :: k) cs hro hb hr
  cases e with
  | normal => exact ⟨.normal, a₁, w₁, hq, .head h0 stepR_scope (StepsIn.trans harr (.one (fenced_calm hb hr rfl) stepR_inScope))⟩
  | exit id => exact ⟨.exit id, a₁, w₁, hq, ⟨fun k' hk => .head h0 stepR_scope (harr.1 k' (by simp [exitTo, hk])), fun hrr hk => let ⟨k₁, h1, h2⟩ := harr.2 hrr (by simp [exitTo, hk]); ⟨k₁, h1, .head h0 stepR_scope h2⟩⟩⟩
  | goto l => exact hq.elim
  | ret => exact ⟨.ret, a₁, w₁, hq, .of_steps (.one h0 stepR_scope) harr⟩
  | panic ch => exact ⟨.panic ch, a₁, w₁, hq, .of_steps (.one h0 stepR_scope) harr⟩
  | outgrown => exact ⟨.outgrown, a₁, w₁, hq, ArrivesIn.of_steps (I := Machine.fenced P F) (b := b) (k := k) (cs := cs) (e := .outgrown) (a := a₁) (w := w₁) (.one h0 stepR_scope) harr⟩
end scope

/-- What is left to show is shown by what is computed. -/
theorem vc_ok : ∀ (c : Code) (Q : Exit → PSt → PH → Prop) (s : PSt) (ph : PH), vc X ρ n0 c Q s ph → PWp X ρ n0 c Q s ph := by
  intro c
  induction c with
  | skip => exact fun Q s ph h hn G w a hr hs => wpIn_skip ⟨G, s, ph, .refl _ _, hr, hs, h⟩
  | label l => exact fun Q s ph h hn G w a hr hs => wpIn_label ⟨G, s, ph, .refl _ _, hr, hs, h⟩
  | exit id => exact fun Q s ph h hn G w a hr hs => wpIn_exit ⟨G, s, ph, .refl _ _, hr, hs, h⟩
  | goto l => exact fun Q s ph h hn G w a hr hs => wpIn_goto ⟨G, s, ph, .refl _ _, hr, hs, h⟩
  | ret => exact fun Q s ph h hn G w a hr hs => wpIn_ret ⟨G, s, ph, .refl _ _, hr, hs, h⟩
  | refuse _ => exact fun Q s ph h => h.elim
  | loop c ih => exact fun Q s ph h => h
  | rangeFunc f ps a b => exact fun Q s ph h => h
  | region id ops draw =>
    intro Q s ph h hn G w a hr hs
    unfold vc at h
    split at h
    · rename_i hd
      subst hd
      exact wpIn_region (vcOps_ok _ hn hr hs (.refl _ _) h)
    · rename_i hd
      have : draw = true := by cases draw <;> simp_all
      subst this
      exact h hn G w a hr hs
  | seq x y ihx ihy =>
    intro Q s ph h hn G w a hr hs
    refine wpIn_seq (wpIn_mono (ihx _ s ph h hn G w a hr hs) ?_)
    rintro e a' w' ⟨G', s', ph', h1, h2, h3, h4⟩
    cases e with
    | normal =>
      have hn' : n0 ≤ ph'.n := by
        by_cases hz : n0 = 0
        · omega
        · have hl := hr.lenN
          obtain ⟨L, hL⟩ : ∃ L, G.l[n0 - 1]? = some L := ⟨_, List.getElem?_eq_getElem (by omega)⟩
          have := (List.getElem?_eq_some_iff.1 (h1.l _ _ (by omega) hL)).1
          have := h2.lenN
          omega
      refine wpIn_mono (ihy _ s' ph' h4 hn' G' w' a' h2 h3) ?_
      rintro e2 a2 w2 ⟨G2, s2, ph2, q1, q2, q3, q4⟩
      exact ⟨G2, s2, ph2, h1.trans q1, q2, q3, q4⟩
    | exit id => exact ⟨G', s', ph', h1, h2, h3, h4⟩
    | goto l => exact ⟨G', s', ph', h1, h2, h3, h4⟩
    | ret => exact ⟨G', s', ph', h1, h2, h3, h4⟩
    | panic c => exact ⟨G', s', ph', h1, h2, h3, h4⟩
    | outgrown => exact ⟨G', s', ph', h1, h2, h3, h4⟩
  | cond c x y ihx ihy =>
    intro Q s ph h hn G w a hr hs
    unfold vc at h
    split at h
    · rename_i t ht
      have he := hs.ev c
      rw [ht] at he
      refine wpIn_cond (t := t) he.bool_inv ?_
      cases t with
      | true => exact ihx _ s ph (h.1 rfl) hn G w a hr hs
      | false => exact ihy _ s ph (h.2 rfl) hn G w a hr hs
    · exact h.elim
  | block id c ih =>
    intro Q s ph h hn G w a hr hs
    refine wpIn_block (wpIn_mono (ih _ s ph h hn G w a hr hs) ?_)
    rintro e a' w' ⟨G', s', ph', h1, h2, h3, h4⟩
    cases e with
    | exit id' =>
      simp only [PExit.blk] at h4
      simp only [Exit.inBlock]
      split
      · rename_i e; rw [if_pos e] at h4; exact ⟨G', s', ph', h1, h2, h3, h4⟩
      · rename_i e; rw [if_neg e] at h4; exact ⟨G', s', ph', h1, h2, h3, h4⟩
    | normal => exact ⟨G', s', ph', h1, h2, h3, h4⟩
    | goto l => exact ⟨G', s', ph', h1, h2, h3, h4⟩
    | ret => exact ⟨G', s', ph', h1, h2, h3, h4⟩
    | panic c => exact ⟨G', s', ph', h1, h2, h3, h4⟩
    | outgrown => exact ⟨G', s', ph', h1, h2, h3, h4⟩
  | scope c ih =>
    intro Q s ph h hn G w a hr hs
    refine wpIn_scope (wpIn_mono (ih _ s ph h hn G w a hr hs) ?_)
    rintro e a' w' ⟨G', s', ph', h1, h2, h3, h4⟩
    cases e with
    | goto l => exact h4.elim
    | normal => exact ⟨G', s', ph', h1, h2, h3, h4⟩
    | exit l => exact ⟨G', s', ph', h1, h2, h3, h4⟩
    | ret => exact ⟨G', s', ph', h1, h2, h3, h4⟩
    | panic c => exact ⟨G', s', ph', h1, h2, h3, h4⟩
    | outgrown => exact ⟨G', s', ph', h1, h2, h3, h4⟩

theorem grow_n {G G' : Ghost} {ph ph' : PH} {w w' : World} (hr : Rel X G ph w) (hr' : Rel X G' ph' w') (hle : LeN n0 G G') (hn : n0 ≤ ph.n) : n0 ≤ ph'.n := by
  by_cases hz : n0 = 0
  · omega
  · have hl := hr.lenN
    obtain ⟨L, hL⟩ : ∃ L, G.l[n0 - 1]? = some L := ⟨_, List.getElem?_eq_getElem (by omega)⟩
    have := (List.getElem?_eq_some_iff.1 (hle.l _ _ (by omega) hL)).1
    have := hr'.lenN
    omega

/-- A loop: what holds at every round's head; a number that goes down. -/
theorem pwp_loop {c : Code} {s : PSt} (I : PSt → PH → Prop) (μ : PSt → PH → Nat) (h0 : I s ph)
    (round : ∀ s ph, I s ph → PWp X ρ n0 c (PExit.seq (fun s' ph' => I s' ph' ∧ μ s' ph' < μ s ph) Q) s ph) : PWp X ρ n0 (.loop c) Q s ph := by
  intro hn G w a hr hs b k cs hro hb hroom
  have key : ∀ (j : Nat) (s : PSt) (ph : PH) (G' : Ghost) (a : Act) (w : World), μ s ph = j → I s ph → n0 ≤ ph.n → LeN n0 G G' → Rel X G' ph w → RSt G' s a →
      ∃ e a' w', Post X n0 G Q e a' w' ∧ ArrivesIn (Machine.fenced X.P (Fen ρ)) X.P (lone (b.atR a (.code c :: .inLoop c :: k)) cs w) b k cs e a' w' := by
    intro j
    induction j using Nat.strongRecOn with
    | _ j ih =>
      intro s ph G' a w hj hI hn hle hr hs
      obtain ⟨e, a₁, w₁, ⟨G1, s1, ph1, q1, q2, q3, q4⟩, harr⟩ := round s ph hI hn G' w a hr hs b (.inLoop c :: k) cs hro hb hroom
      cases e with
      | normal =>
        obtain ⟨hI₁, hlt⟩ := q4
        obtain ⟨e₂, a₂, w₂, hq₂, harr₂⟩ := ih (μ s1 ph1) (hj ▸ hlt) s1 ph1 G1 a₁ w₁ rfl hI₁ (grow_n hr q2 q1 hn) (hle.trans q1) q2 q3
        exact ⟨e₂, a₂, w₂, hq₂, .of_steps (StepsIn.trans harr (.one (fenced_calm hb hroom rfl) stepR_inLoop)) harr₂⟩
      | exit id => exact ⟨_, a₁, w₁, ⟨G1, s1, ph1, hle.trans q1, q2, q3, q4⟩, .pass (x := .inLoop c) rfl (fun _ _ => .inl (by simp)) harr⟩
      | goto l => exact ⟨_, a₁, w₁, ⟨G1, s1, ph1, hle.trans q1, q2, q3, q4⟩, .pass (x := .inLoop c) rfl (fun _ _ => .inl (by simp)) harr⟩
      | ret => exact ⟨_, a₁, w₁, ⟨G1, s1, ph1, hle.trans q1, q2, q3, q4⟩, .pass (x := .inLoop c) rfl (fun _ _ => .inl (by simp)) harr⟩
      | panic ch => exact ⟨_, a₁, w₁, ⟨G1, s1, ph1, hle.trans q1, q2, q3, q4⟩, .pass (x := .inLoop c) rfl (fun _ _ => .inl (by simp)) harr⟩
      | outgrown => exact ⟨_, a₁, w₁, ⟨G1, s1, ph1, hle.trans q1, q2, q3, q4⟩, .pass (x := .inLoop c) rfl (fun _ _ => .inl (by simp)) harr⟩
  obtain ⟨e, a', w', hq, harr⟩ := key _ s ph G a w rfl h0 hn (.refl _ _) hr hs
  exact ⟨e, a', w', hq, .of_steps (.one (fenced_calm hb hroom rfl) stepR_loop) harr⟩

/-! ### What is told less of -/
/-- The state may be told anew. -/
def Weak (X : Ctx) (n0 : Nat) (ph : PH) (vs : List PV) (ph' : PH) (vs' : List PV) : Prop :=
  ∀ G w rvs, Rel X G ph w → RVs G vs rvs → ∃ G', LeN n0 G G' ∧ Rel X G' ph' w ∧ RVs G' vs' rvs

theorem Weak.refl (ph : PH) (vs : List PV) : Weak X n0 ph vs ph vs := fun G w rvs hr hv => ⟨G, .refl _ _, hr, hv⟩
theorem Weak.trans {a b c : PH} {x y z : List PV} (h : Weak X n0 a x b y) (k : Weak X n0 b y c z) : Weak X n0 a x c z := fun G w rvs hr hv =>
  let ⟨G1, l1, r1, v1⟩ := h G w rvs hr hv
  let ⟨G2, l2, r2, v2⟩ := k G1 w rvs r1 v1
  ⟨G2, l1.trans l2, r2, v2⟩

theorem PWp.weak {c : Code} {s s' : PSt} {ph' : PH} (hw : Weak X n0 ph s.tm ph' s'.tm) (hm : s'.ms = s.ms) (h : PWp X ρ n0 c Q s' ph') : PWp X ρ n0 c Q s ph := by
  intro hn G w a hr hs
  obtain ⟨G', l1, r1, v1⟩ := hw G w _ hr hs.tm
  refine wpIn_mono (h (grow_n hr r1 l1 hn) G' w a r1 ⟨v1, by rw [hm]; exact hs.ms⟩) ?_
  rintro e a' w' ⟨G2, s2, ph2, q1, q2, q3, q4⟩
  exact ⟨G2, s2, ph2, l1.trans q1, q2, q3, q4⟩

/-- Slots whose values nobody reads any more. -/
inductive Fades : List PV → List PV → Prop
  | nil : Fades [] []
  | keep (p : PV) (ps qs : List PV) (h : Fades ps qs) : Fades (p :: ps) (p :: qs)
  | fade (p : PV) (ps qs : List PV) (h : Fades ps qs) : Fades (p :: ps) (.undef :: qs)

theorem Fades.rvs {ps qs : List PV} (h : Fades ps qs) : ∀ {vs : List Value}, RVs G ps vs → RVs G qs vs := by
  induction h with
  | nil => exact fun h => h
  | keep p ps qs _ ih => intro vs h; cases h with | cons _ v _ vs a b => exact .cons _ _ _ _ a (ih b)
  | fade p ps qs _ ih => intro vs h; cases h with | cons _ v _ vs a b => exact .cons _ _ _ _ (.undef _) (ih b)

theorem Weak.fades {ps qs : List PV} (h : Fades ps qs) : Weak X n0 ph ps ph qs := fun G w rvs hr hv => ⟨G, .refl _ _, hr, h.rvs hv⟩

def PH.cut (ph : PH) (n : Nat) (ob : Nat → Option PObj) : PH := { bl := ph.bl.take n, ob := ob, ty := fun p => if p < n then ph.ty p else none }

/-- All that lies from n on is frozen, or forgotten. -/
noncomputable def frozenGhost (G : Ghost) (ph : PH) (w : World) (n : Nat) : Ghost :=
  { l := G.l.take n
    g := fun p m => if p < n then G.g p m else none
    f := fun a => match G.f a with
      | some v => some v
      | none => open Classical in if a.spot = none ∧ ∃ p c L, n ≤ p ∧ ph.get p = some c ∧ G.l[p]? = some L ∧ a.block = L.b then w.cell? a else none }

mutual
/-- A value told without the blocks from n on: rows that lie there are told with all their cells. -/
def frz (ph : PH) (n : Nat) : Nat → PV → Option PV
  | 0, _ => none
  | d + 1, v => match v with
    | .undef => some .undef
    | .bool b => some (.bool b)
    | .int k i => some (.int k i)
    | .str s => some (.str s)
    | .nilptr => some .nilptr
    | .nilsl => some .nilsl
    | .zsl => some .zsl
    | .nilfunc => some .nilfunc
    | .nilif => some .nilif
    | .yield l => some (.yield l)
    | .ptr p o => if p < n then some (.ptr p o) else none
    | .sl p off esz len cap => if p < n then some (.sl p off esz len cap) else match ph.get p with
      | some cells => if off + len * esz ≤ cells.length then (frzs ph n d (seg cells off (len * esz))).map (.fsl esz len) else none
      | none => none
    | .fptr cells => (frzs ph n d cells).map .fptr
    | .fsl esz len cells => (frzs ph n d cells).map (.fsl esz len)
    | .gsl p esz len cells => if p < n then (frzs ph n d cells).map (.gsl p esz len) else (frzs ph n d cells).map (.fsl esz len)
    | .gptr _ _ _ _ => none
    | .func f a b => match frzs ph n d a, frzs ph n d b with
      | some a, some b => some (.func f a b)
      | _, _ => none
    | .agg cells => (frzs ph n d cells).map .agg
    | .tuple cells => (frzs ph n d cells).map .tuple
def frzs (ph : PH) (n : Nat) : Nat → List PV → Option (List PV)
  | _, [] => some []
  | d, p :: ps => match frz ph n d p, frzs ph n d ps with
    | some p, some ps => some (p :: ps)
    | _, _ => none
end

end Pv
