/- Part of the proof: the layer of pure values, or a walk through a function (PvIter). -/
import Derived.Test.YtinfnpgibmopoaaPvLoop
set_option linter.all false
namespace Pv
open Go Go.RowKit
variable {X : Ctx} {G : Ghost} {ph : PH} {w : World} {n0 : Nat} {Q : Exit → PSt → PH → Prop}

def PH.wo (ph : PH) (ob : Nat → Option PObj) : PH := { ph with ob := ob }
@[simp] theorem wo_get (ph : PH) (ob : Nat → Option PObj) (q : Nat) : (ph.wo ob).get q = ph.get q := rfl
@[simp] theorem wo_n (ph : PH) (ob : Nat → Option PObj) : (ph.wo ob).n = ph.n := rfl
theorem setOb_wo (ph : PH) (r : Nat) (o : Option PObj) : ph.setOb r o = ph.wo fun i => if i = r then o else ph.ob i := rfl
theorem setOb_get (ph : PH) (r : Nat) (o : Option PObj) (q : Nat) : (ph.setOb r o).get q = ph.get q := rfl
theorem setOb_n (ph : PH) (r : Nat) (o : Option PObj) : (ph.setOb r o).n = ph.n := rfl

/-- What an iterator may turn between two rounds: blocks and loops of its own (S: where it began). -/
structure Fg (S : PH) (n1 : Nat) (a b : PH) : Prop where
  n : a.n ≤ b.n
  bl : ∀ q, q < a.n → ¬(S.n ≤ q ∧ q < n1) → b.get q = a.get q
  ob : ∀ o, S.ob o ≠ none → b.ob o = a.ob o

theorem Fg.refl {S : PH} {n1 : Nat} (a : PH) : Fg S n1 a a := ⟨Nat.le_refl _, fun _ _ _ => rfl, fun _ _ => rfl⟩

/-- What a round leaves alone: the iterator's. -/
structure Fc (pr : Nat → Prop) (S : PH) (n1 : Nat) (a b : PH) : Prop where
  n : a.n ≤ b.n
  bl : ∀ q, (pr q ∨ (S.n ≤ q ∧ q < n1)) → b.get q = a.get q
  ob : ∀ o y, S.ob o = none → a.ob o = some y → b.ob o = some y

/-- **An iterator:** it hands out 'xs', one by one, until a round says no. -/
def Iter (X : Ctx) (g : FuncId) (caps : List PV) (pr : Nat → Prop) (S : PH) (xs : List (List PV)) : Prop :=
  ∀ (l : Nat) (I : Nat → Nat → PH → Prop) (D : Nat → PH → Prop), S.ob l ≠ none →
    (∀ n1 i a b, I n1 i a → Fg S n1 a b → I n1 i b) → (∀ n1 a b, D n1 a → Fg S n1 a b → D n1 b) →
    (∀ n1, S.n ≤ n1 → I n1 0 S) →
    (∀ n1 i x a, S.n ≤ n1 → n1 ≤ a.n → xs[i]? = some x → I n1 i a → PYield X l x a fun v b => Fc pr S n1 a b ∧ ((v = .bool true ∧ I n1 (i + 1) b) ∨ (v = .bool false ∧ D n1 b))) →
    PCalls X g (.yield l :: caps) S fun _ b => ∃ n1, S.n ≤ n1 ∧ n1 ≤ b.n ∧ (I n1 xs.length b ∨ D n1 b)

/-- The code of a jump. -/
def jumpOf : Exit → Code
  | .exit id => .exit id
  | _ => .ret

/-- Behind the assignment of a round's variables: the round's body. -/
structure EachNext (X : Ctx) (l : Nat) (body : Code) (pr : Nat → Prop) (ph a : PH) (n1 : Nat) (JN : PH → Prop) (EN : Exit → PH → Prop) (s : PSt) (b0 : PH) : Prop where
  ob : b0.ob = a.ob
  go : ∀ (ob : Nat → Option PObj) (K : Exit → PSt → PH → Prop), (∀ o, ph.ob o ≠ none → ob o = a.ob o) →
    (∀ s b, JN b → Fc pr ph n1 (a.wo ob) b → K .normal s b) →
    (∀ e s b, (e = .ret ∨ ∃ id, e = .exit id) → EN e b → Fc pr ph n1 (a.wo ob) b → K e s b) → vc X (some l) a.n body K s (b0.wo ob)

/-- **A range over an iterator**, not in a round. -/
theorem w_each {f : Operand} {ps : Array Tmp} {assign body : Code} {g : FuncId} {caps : List PV} {tm : List PV} {ms : List Nat} (pr : Nat → Prop) (xs : List (List PV))
    (hf : PSt.ev ⟨tm, ms⟩ f = .func g [] caps) (hg : HasBody X.P g) (hlen : ∀ x ∈ xs, x.length = ps.size)
    (hit : ∀ ob, Iter X g caps pr (ph.wo ob) xs)
    (J : Nat → Nat → PH → Prop) (E : Exit → Nat → PH → Prop)
    (stab : ∀ n1 i a b, J n1 i a → Fg ph n1 a b → J n1 i b) (stabE : ∀ e n1 a b, E e n1 a → Fg ph n1 a b → E e n1 b)
    (h0 : ∀ n1, ph.n ≤ n1 → J n1 0 ph)
    (round : ∀ (l n1 i : Nat) (x : List PV) (a : PH), ph.n ≤ n1 → n1 ≤ a.n → xs[i]? = some x → J n1 i a →
      vc X (some l) a.n assign (PExit.seq (EachNext X l body pr ph a n1 (J n1 (i + 1)) (fun e b => E e n1 b)) (fun _ _ _ => False)) ⟨setPs tm ps.toList x, []⟩ a)
    (after : ∀ r n1 b, ph.ob r = none → J n1 xs.length b → ph.n ≤ n1 → n1 ≤ b.n → b.ob r = some .defd → Q .normal ⟨tm, r :: ms⟩ b)
    (exits : ∀ e r n1 b, (e = .ret ∨ ∃ id, e = .exit id) → ph.ob r = none → E e n1 b → ph.n ≤ n1 → n1 ≤ b.n → b.ob r = some .defd → Q e ⟨tm, r :: ms⟩ b) :
    vc X none n0 (.rangeFunc f ps assign body) Q ⟨tm, ms⟩ ph := by
  show PWp X none n0 (.rangeFunc f ps assign body) Q ⟨tm, ms⟩ ph
  intro hn
  refine (pwp_range hf hg ?_) hn
  intro r l fnid hr hl hne
  obtain ⟨L0, hL0⟩ : ∃ L0, L0 = mkLoop fnid tm ps assign body r := ⟨_, rfl⟩
  simp only [← hL0]
  obtain ⟨phS, hS⟩ : ∃ phS, phS = (ph.setOb r (some .defd)).setOb l (some (.loop L0)) := ⟨_, rfl⟩
  rw [← hS]
  have hSn : phS.n = ph.n := by rw [hS]; rfl
  have hSg : ∀ q, phS.get q = ph.get q := fun q => by rw [hS]; rfl
  have hSl : phS.ob l = some (.loop L0) := by rw [hS]; simp [PH.setOb]
  have hSr : phS.ob r = some .defd := by rw [hS]; simp [PH.setOb, hne]
  have hSo : ∀ o y, ph.ob o = some y → o ≠ l ∧ phS.ob o = some y := by
    intro o y h
    have h1 : o ≠ l := fun e => by rw [e, hl] at h; cases h
    have h2 : o ≠ r := fun e => by rw [e, hr] at h; cases h
    exact ⟨h1, by rw [hS]; simp [PH.setOb, h1, h2, h]⟩
  have hit' := hit phS.ob
  have hwo : ph.wo phS.ob = phS := by rw [hS]; rfl
  rw [hwo] at hit'
  have hLr : L0.st = .ready := by rw [hL0]; rfl
  have hLp : L0.pending = none := by rw [hL0]; rfl
  have hFg : ∀ n1 a b, Fg phS n1 a b → Fg ph n1 a b := fun n1 a b hF => ⟨hF.n, by rw [← hSn]; exact hF.bl, fun o ho => hF.ob o (by
    cases h : ph.ob o with
    | none => exact absurd h ho
    | some y => rw [(hSo o y h).2]; simp)⟩
  have hset : ∀ n1 (a : PH) y, Fg ph n1 a (a.setOb l y) := fun n1 a y => ⟨Nat.le_refl _, fun _ _ _ => rfl, fun o ho => by
    have : o ≠ l := fun e => ho (by rw [e]; exact hl)
    simp [PH.setOb, this]⟩
  have main := hit' l (fun n1 i a => J n1 i a ∧ a.ob l = some (.loop L0) ∧ a.ob r = some .defd) (fun n1 a => ∃ e L', (e = .ret ∨ ∃ id, e = Exit.exit id) ∧ E e n1 a ∧ a.ob l = some (.loop L') ∧ L'.st = .done ∧ L'.pending = some (jumpOf e) ∧ a.ob r = some .defd)
    (by rw [hSl]; simp) ?_ ?_ ?_ ?_
  · refine PCalls.mono main ?_
    rintro v b ⟨n1, h1, h2, h4⟩
    refine ⟨by omega, ?_⟩
    rcases h4 with ⟨h4, h5, h6⟩ | ⟨e, L', he, h4, h5, h6, h7, h8⟩
    · refine ⟨L0, h5, by rw [hLr]; simp, ?_⟩
      rw [hLp]
      exact after r n1 _ hr (stab _ _ _ _ h4 (hset _ _ _)) (by omega) h2 (by simp [PH.setOb, hne, h6])
    · refine ⟨L', h5, by rw [h6]; simp, ?_⟩
      rw [h7]
      have hq := exits e r n1 (b.setOb l none) he hr (stabE _ _ _ _ h4 (hset _ _ _)) (by omega) h2 (by simp [PH.setOb, hne, h8])
      refine vc_ok _ _ _ _ ?_
      rcases he with rfl | ⟨id, rfl⟩
      · exact hq
      · exact hq
  · rintro n1 i a b ⟨h1, h2, h3⟩ hF
    exact ⟨stab _ _ _ _ h1 (hFg _ _ _ hF), by rw [hF.ob l (by rw [hSl]; simp)]; exact h2, by rw [hF.ob r (by rw [hSr]; simp)]; exact h3⟩
  · rintro n1 a b ⟨e, L', he, h1, h2, h3, h4, h5⟩ hF
    exact ⟨e, L', he, stabE _ _ _ _ h1 (hFg _ _ _ hF), by rw [hF.ob l (by rw [hSl]; simp)]; exact h2, h3, h4, by rw [hF.ob r (by rw [hSr]; simp)]; exact h5⟩
  · intro n1 h1
    refine ⟨stab _ _ _ _ (h0 n1 (by omega)) ⟨by omega, fun q _ _ => hSg q, fun o ho => ?_⟩, hSl, hSr⟩
    cases h : ph.ob o with
    | none => exact absurd h ho
    | some y => exact (hSo o y h).2
  · rintro n1 i x a h1 h2 hx ⟨hJ, hal, har⟩
    have hLa : L0.assign = assign := by rw [hL0]; rfl
    have hLb : L0.body = body := by rw [hL0]; rfl
    have hLt : L0.tmps = tm := by rw [hL0]; rfl
    have hLps : L0.params = ps := by rw [hL0]; rfl
    refine pyield_of hal hLr (by rw [hLps]; exact (hlen x (List.mem_of_getElem? hx)).symm) ?_ (fun v b h => h.1.n)
    rw [hLa, hLb, hLt, hLps]
    refine (vc_ok _ _ _ _ (round l n1 i x a (by omega) h2 hx hJ)).mono ?_
    intro e s b0 hK
    cases e with
    | normal =>
      obtain ⟨hob, hK⟩ := hK
      refine ⟨L0, by rw [hob]; exact hal, hLr, ?_⟩
      rw [setOb_wo]
      obtain ⟨ob, hob2⟩ : ∃ ob, ob = fun i => if i = l then some (PObj.loop { L0 with st := .busy }) else b0.ob i := ⟨_, rfl⟩
      rw [← hob2]
      have hobl : ob l = some (PObj.loop { L0 with st := .busy }) := by rw [hob2]; simp
      have hobr : ob r = some .defd := by rw [hob2]; simp [hne, hob, har]
      have hobn : ∀ o, o ≠ l → ob o = a.ob o := by intro o h; rw [hob2]; simp [h, hob]
      have hfc : ∀ b : PH, ∀ y, Fc pr ph n1 (a.wo ob) b → Fc pr phS n1 a (b.setOb l y) := by
        intro b y hF
        refine ⟨hF.n, by rw [hSn]; exact hF.bl, ?_⟩
        intro o z ho hz
        have h1 : o ≠ l := fun e => by rw [e, hSl] at ho; cases ho
        have h2 : ph.ob o = none := by
          cases h : ph.ob o with
          | none => rfl
          | some y => rw [(hSo o y h).2] at ho; cases ho
        have := hF.ob o z h2 (by show ob o = _; rw [hobn o h1]; exact hz)
        simp [PH.setOb, h1, this]
      refine vc_ok _ _ _ _ (hK ob (RPost l L0 _) (fun o ho => hobn o fun e => ho (by rw [e]; exact hl)) ?_ ?_)
      · intro s b hJ' hF
        have hbl := hF.ob l _ hl hobl
        have hbr := hF.ob r _ hr hobr
        refine ⟨{ L0 with st := .busy }, hbl, hfc _ _ hF, .inl ⟨rfl, stab _ _ _ _ hJ' (hset _ _ _), ?_, by simp [PH.setOb, hne, hbr]⟩⟩
        simp only [PH.setOb, if_true]
        rw [← hLr, ← hLp]
      · intro e s b he hE hF
        have hbl := hF.ob l _ hl hobl
        have hbr := hF.ob r _ hr hobr
        have hE' : ∀ y, E e n1 (b.setOb l y) := fun y => stabE _ _ _ _ hE (hset _ _ _)
        rcases he with rfl | ⟨id, rfl⟩
        · exact ⟨{ L0 with st := .busy }, hbl, hfc _ _ hF, .inr ⟨rfl, .ret, _, .inl rfl, hE' _, by simp [PH.setOb]; rfl, rfl, rfl, by simp [PH.setOb, hne, hbr]⟩⟩
        · exact ⟨{ L0 with st := .busy }, hbl, hfc _ _ hF, .inr ⟨rfl, .exit id, _, .inr ⟨id, rfl⟩, hE' _, by simp [PH.setOb]; rfl, rfl, rfl, by simp [PH.setOb, hne, hbr]⟩⟩
    | exit id => exact hK.elim
    | goto l => exact hK.elim
    | ret => exact hK.elim
    | panic c => exact hK.elim
    | outgrown => exact hK.elim

end Pv
