/- Part of the proof: the layer of pure values, or walks through functions (PvH5, PvH2). -/
import Derived.Test.YtbocckencbkdeaaGreatPvAe1
import Derived.Test.YtbocckencbkdeaaGreatPvNum
set_option linter.all false
namespace Pv
open Go Go.RowKit
variable {X : Ctx} {G : Ghost} {ph : PH} {w : World} {ρ : Option Nat} {n0 : Nat} {Q : Exit → PSt → PH → Prop}

/-! ### Told otherwise: a block that was there -/
theorem gro_of_get {q : Nat} {C : List PV} (hq : ph.get q = some C) : ph.gro q = none := by
  unfold PH.gro; rw [PH.get_eq.1 hq]; rfl
theorem Weak.tellP {q : Nat} {C C' : List PV} {vs : List PV} (hq : ph.get q = some C) (h : ∀ (G : Ghost) vals, RVs G C vals → RVs G C' vals) : Weak X n0 ph vs (ph.put q C') vs := by
  intro G w rvs hr hv
  have hlt := PH.get_lt hq
  refine ⟨G, .refl _ _, hr.retell (PH.n_put ..) ?_ ?_ rfl rfl, hv⟩
  · intro p c' hc
    rw [PH.get_put hlt] at hc
    split at hc
    · rename_i e; cases hc; subst e; exact ⟨C, hq, h G⟩
    · exact ⟨c', hc, fun _ h => h⟩
  · intro p
    rw [PH.gro_put]
    split
    · rename_i e; subst e; rw [gro_of_get hq]
    · rfl
theorem Weak.growP {q sz : Nat} {e : TypeId} {C C' : List PV} {vs : List PV} (hq : ph.get q = some C) (hC : NilL ph.n sz C C') (hn : n0 ≤ ph.n) : Weak X n0 ph vs ((ph.pushG sz 0 e).put q C') vs := by
  intro G w rvs hr hv
  have hp := hr.pushG sz e
  have hle := hr.leG
  have hq' : (ph.pushG sz 0 e).get q = some C := by rw [PH.get_pushG]; exact hq
  have hlt := PH.get_lt hq'
  refine ⟨G.pushG, hle.n _, hp.retell (PH.n_put ..) ?_ ?_ rfl rfl, hv.mono hle⟩
  · intro p c' hc
    rw [PH.get_put hlt] at hc
    split at hc
    · rename_i e; cases hc; subst e
      refine ⟨C, hq', fun vals hv => ?_⟩
      have hself : NilL ph.n sz C C' := hC
      have key : ∀ {vs us : List PV} {rs : List Value}, NilL ph.n sz vs us → RVs G.pushG vs rs → RVs G.pushG us rs := by
        intro vs us rs h1 h2
        exact NilL.rvs (G := G.pushG) (G' := G.pushG) (.refl _) (fun v hv => by
          cases hv with
          | nilsl => exact rv_newG hr sz .nilsl) h1 h2
      exact key hself hv
    · exact ⟨c', hc, fun _ h => h⟩
  · intro p
    rw [PH.gro_put]
    split
    · rename_i e; subst e; rw [gro_of_get hq']
    · rfl
theorem hput_pushG {B : PH} {q sz : Nat} {e : TypeId} {C : List PV} {l : List (Option Blk)} {ob : Nat → Option PObj} {ty : Nat → Option TypeId} (hq : q < B.n) : ((H B l ob ty).pushG sz 0 e).put q C = H (B.put q C) (l ++ [some (.grow sz 0 e)]) ob ty := by
  rw [h_pushG, h_putlt hq]

/-- At a range over a function, and at a loop: what is told is told otherwise. -/
theorem w_weakR {f : Operand} {ps : Array Tmp} {assign body : Code} {tm tm' : List PV} {ms : List Nat} {ph' : PH} (hw : Weak X n0 ph tm ph' tm')
    (h : vc X ρ n0 (.rangeFunc f ps assign body) Q ⟨tm', ms⟩ ph') : vc X ρ n0 (.rangeFunc f ps assign body) Q ⟨tm, ms⟩ ph := by
  show PWp X ρ n0 _ Q ⟨tm, ms⟩ ph
  exact PWp.weak (s' := ⟨tm', ms⟩) (ph' := ph') hw rfl (vc_ok _ _ _ _ h)

theorem obsc1 {b : PH} (hb : WF b) {m r : Nat} (hm : b.n ≤ m) : ∀ k o, upF b.ob r (some .defd) k = some o → ObSc m o := by
  intro k o h
  simp only [upF] at h
  split at h
  · cases h; trivial
  · have := hb.ob k o h
    cases o with
    | loop L => exact Scs.mono hm this
    | defd => trivial

theorem obsc_up {f : Nat → Option PObj} {m r : Nat} {o' : PObj} (hf : ∀ k o, f k = some o → ObSc m o) (ho : ObSc m o') : ∀ k o, upF f r (some o') k = some o → ObSc m o := by
  intro k o h
  simp only [upF] at h
  split at h
  · cases h; exact ho
  · exact hf k o h
/-- Behind a round, the base written into: blocks that are named no more. -/
theorem HTo.cutP {b : PH} {q : Nat} {C : List PV} {l : List (Option Blk)} {ob : Nat → Option PObj} {st tm : List PV} {ph' : PH} (g : List (Option Blk)) (hW : WF b) (hq : q < b.n) (hC : Scs (b.n + l.length) C) (h : FadeTo tm st) (e : ph' = H (b.put q C) (l ++ g) ob b.ty)
    (h1 : Scs (b.n + l.length) st) (h2 : ∀ x ∈ l, ∀ c, x = some (Blk.own c) → Scs (b.n + l.length) c) (h4 : ∀ r o, ob r = some o → ObSc (b.n + l.length) o) : HTo (b.put q C) l ob b.ty st tm ph' := by
  refine ⟨h, g, ob, b.ty, e, fun _ _ h => h, fun _ _ h => h, .inr ⟨?_, ?_, ?_, ?_, ?_⟩⟩
  · rw [PH.n_put]; exact h1
  · rw [PH.n_put]; exact fun k c hk => h2 _ (List.mem_of_getElem? hk) c rfl
  · intro p c hp
    rw [PH.n_put]
    rw [PH.get_put hq] at hp
    split at hp
    · cases hp; exact hC
    · exact Scs.mono (Nat.le_add_right _ _) (hW.bl p c hp)
  · rw [PH.n_put]; exact h4
  · intro p e hp; rw [PH.n_put]; have := hW.ty p e hp; omega

/-- **A loop**; a round's end is told as a round's head by any 'Weak'. -/
theorem w_loopW {α : Type} {c : Code} {tm : List PV} {ms : List Nat} (n : Nat) (ob : Nat → Option PObj) (ty : Nat → Option TypeId) (b : α → PH) (st : α → List PV) (hl : α → List (Option Blk)) (Inv : α → Prop) (μ : α → Nat) (a0 : α) (h0 : Inv a0) (hb : ∀ a, Inv a → (b a).n = n)
    (hi : Weak X n0 ph tm (H (b a0) (hl a0) ob ty) (st a0))
    (round : ∀ a, Inv a → ∀ B, B = b a → B.n = n → ∀ K : PSt → PH → Prop, (∀ a' tm ph', Inv a' → μ a' < μ a → Weak X n0 ph' tm (H (b a') (hl a') ob ty) (st a') → K ⟨tm, ms⟩ ph') → vc X ρ n0 c (PExit.seq K Q) ⟨st a, ms⟩ (H B (hl a) ob ty)) : vc X ρ n0 (.loop c) Q ⟨tm, ms⟩ ph := by
  show PWp X ρ n0 (.loop c) Q ⟨tm, ms⟩ ph
  refine PWp.weak (s' := ⟨st a0, ms⟩) (ph' := H (b a0) (hl a0) ob ty) hi rfl ?_
  refine pwp_loopN (I := fun j s' ph' => ∃ a, Inv a ∧ μ a = j ∧ Weak X n0 ph' s'.tm (H (b a) (hl a) ob ty) (st a) ∧ s'.ms = ms) (μ a0) ⟨a0, h0, rfl, .refl _ _, rfl⟩ ?_
  rintro j s' ph' ⟨a, hI, rfl, hT, hm⟩
  refine PWp.weak (s' := ⟨st a, ms⟩) (ph' := H (b a) (hl a) ob ty) hT hm.symm ?_
  refine vc_ok _ _ _ _ (round a hI _ rfl (hb a hI) _ ?_)
  intro a' tm' ph' h1 h2 h3
  exact ⟨μ a', h2, a', h1, rfl, h3, rfl⟩
end Pv

namespace Pv
open Go Go.RowKit
variable {X : Ctx} {G : Ghost} {ph : PH} {w : World} {ρ : Option Nat} {n0 : Nat} {Q : Exit → PSt → PH → Prop}

theorem PCalls.args {f : FuncId} {args args' : List PV} {K : PV → PH → Prop} (h : NWs args args') (hc : PCalls X f args' ph K) : PCalls X f args ph K :=
  fun G w rargs hr ha => hc G w rargs hr (h G rargs ha)

/-- All cells of a block are frozen. -/
noncomputable def Ghost.frzB (G : Ghost) (w : World) (b : Nat) : Ghost :=
  { G with f := fun a => match G.f a with
      | some v => some v
      | none => open Classical in if a.spot = none ∧ a.block = b then w.cell? a else none }

theorem le_frzB (G : Ghost) (w : World) (b : Nat) : Le G (G.frzB w b) := ⟨fun _ _ h => h, fun a v h => by simp only [Ghost.frzB, h], fun _ _ _ h => h⟩

theorem Rel.frzB (h : Rel X G ph w) {p : Nat} {cells : List PV} {L : Loc} (hp : ph.get p = some cells) (hL : G.l[p]? = some L) : Rel X (G.frzB w L.b) (ph.kill p) w := by
  have hle := le_frzB G w L.b
  have hk := h.kill p
  have hf : ∀ a v, (G.frzB w L.b).f a = some v → G.f a = some v ∨ (a.spot = none ∧ a.block = L.b ∧ w.cell? a = some v) := by
    intro a v ha
    simp only [Ghost.frzB] at ha
    split at ha
    · rename_i e; cases ha; exact .inl e
    · split at ha
      · rename_i e; exact .inr ⟨e.1, e.2, ha⟩
      · cases ha
  refine ⟨hk.len, hk.below, ?_, hk.disj, ?_, ?_, ?_, ?_, ?_⟩
  · intro q c hc
    obtain ⟨M, vals, cs, e, fz, hM, o⟩ := hk.own q c hc
    exact ⟨M, vals, cs, e, fz, hM, ⟨o.rv.mono hle, o.lt, o.ge, o.hb, o.sz, o.fr, o.at_, o.one⟩⟩
  · intro a v ha
    rcases hf a v ha with h1 | ⟨h1, h2, h3⟩
    · exact h.fz a v h1
    · exact ⟨h1, h3⟩
  · intro a v q c M ha hq hM
    rw [PH.get_kill] at hq
    split at hq
    · cases hq
    · rename_i hne
      rcases hf a v ha with h1 | ⟨h1, h2, h3⟩
      · exact h.fdisj a v q c M h1 hq hM
      · rw [h2]; exact fun e => h.disj q p c cells M L hne hq hp hM hL e.symm
  · intro r o hr
    exact ⟨(hk.ob r o hr).1, (hk.ob r o hr).2.mono hle rfl⟩
  · exact hk.ty.step hle (fun b cs e fz hb => ⟨cs, fz, hb⟩) rfl
  · refine hk.grow.step rfl (Nat.le_refl _) (fun _ _ h => h) (fun _ _ => rfl) (fun a v ha => ?_) fun q c L hc hL => .inl ⟨c, hc, hL⟩
    rcases hf a v ha with h1 | ⟨h1, h2, h3⟩
    · exact .inl h1
    · exact .inr fun hG => h.noGrow hp hL (h2 ▸ hG.kill)

/-- Arguments, of which those that lie in block p are told with their cells. -/
def FA (p : Nat) (cells : List PV) : List PV → List PV → Prop
  | [], [] => True
  | a :: az, b :: bs => (b = a ∨ ∃ off esz len cap, a = .sl p off esz len cap ∧ b = .fsl esz len (seg cells off (len * esz)) ∧ off + len * esz ≤ cells.length) ∧ FA p cells az bs
  | _, _ => False

theorem rv_frz (h : Rel X G ph w) {p : Nat} {cells : List PV} {L : Loc} (hp : ph.get p = some cells) (hL : G.l[p]? = some L) {off esz len : Nat} {cap : Option Nat} {v : Value} (hr : RV G (.sl p off esz len cap) v) (hle : off + len * esz ≤ cells.length) :
    RV (G.frzB w L.b) (.fsl esz len (seg cells off (len * esz))) v := by
  obtain ⟨L2, vals, cs, e, fz, hL2, o⟩ := h.own p cells hp
  rw [hL] at hL2
  obtain rfl : L = L2 := by simpa using hL2
  cases hr with
  | sl _ _ _ _ _ L' a rcap hL' h1 h2 h3 h4 =>
    rw [hL] at hL'
    obtain rfl : L = L' := by simpa using hL'
    refine .fsl _ _ _ ((vals.drop off).take (len * esz)) _ _ (((o.rv.drop off).take _).mono (le_frzB _ _ _)) h1 (by simp [seg]; omega) ?_ ?_
    · intro h0; rw [h4 (by omega)]
    · intro j u hj
      have h0 : 0 < rcap := by
        by_cases hz : rcap = 0
        · have : len = 0 := by omega
          subst this; simp at hj
        · omega
      rw [h4 h0]
      rw [List.getElem?_take] at hj
      split at hj
      · rw [List.getElem?_drop] at hj
        have hc := o.cell hj
        have hn : G.f ⟨L.b, L.o + (off + j), none⟩ = none := by
          cases e : G.f ⟨L.b, L.o + (off + j), none⟩ with
          | none => rfl
          | some u => exact absurd rfl (h.fdisj _ _ p cells L e hp hL)
        simp only [Ghost.frzB, Nat.add_assoc, hn]
        rw [if_pos (by simp)]; exact hc
      · cases hj

theorem FA.rvs (h : Rel X G ph w) {p : Nat} {cells : List PV} {L : Loc} (hp : ph.get p = some cells) (hL : G.l[p]? = some L) : ∀ {az bs : List PV} {rs : List Value}, FA p cells az bs → RVs G az rs → RVs (G.frzB w L.b) bs rs
  | [], [], _, _, hr => by cases hr; exact .nil
  | a :: az, b :: bs, _, hf, hr => by
    obtain ⟨h1, h2⟩ := hf
    cases hr with
    | cons _ r _ rs ha hs =>
      refine .cons _ _ _ _ ?_ (FA.rvs h hp hL h2 hs)
      rcases h1 with rfl | ⟨off, esz, len, cap, rfl, rfl, hle⟩
      · exact ha.mono (le_frzB _ _ _)
      · exact rv_frz h hp hL ha hle
  | [], _ :: _, _, hf, _ => hf.elim
  | _ :: _, [], _, hf, _ => hf.elim

/-- A call to which a row of one's own is handed that is only read from now on. -/
theorem w_frz {f : FuncId} {args args' : List PV} {K : PV → PH → Prop} {p : Nat} {cells : List PV} (hp : ph.get p = some cells) (ha : FA p cells args args') (h : PCalls X f args' (ph.kill p) K) : PCalls X f args ph K := by
  intro G w rargs hr hv
  obtain ⟨L, hL⟩ : ∃ L, G.l[p]? = some L := ⟨_, List.getElem?_eq_getElem (by rw [hr.lenN]; exact PH.get_lt hp)⟩
  have hr' := hr.frzB hp hL
  have hv' := ha.rvs hr hp hL hv
  have key : ∀ v w', CPost X (ph.kill p).n (G.frzB w L.b) K v w' → CPost X ph.n G K v w' := by
    rintro v w' ⟨G2, pv, ph', h1, h2, h3, h4, h5⟩
    rw [PH.n_kill] at h1 h4
    exact ⟨G2, pv, ph', ((le_frzB G w L.b).n _).trans h1, h2, h3, h4, h5⟩
  rcases h _ w rargs hr' hv' with ⟨v, w', e, hc⟩ | ⟨w', e, hc⟩
  · exact .inl ⟨v, w', e, key _ _ hc⟩
  · refine .inr ⟨w', e, Calls.mono hc ?_⟩
    intro e w he
    cases e with
    | returned v => exact key _ _ he
    | _ => exact he
end Pv
