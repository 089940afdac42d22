/- Part of the proof: the layer of pure values, or a walk through a function (PvLoop). -/
import Derived.Test.YthegpibaoikoeaaPvNum
set_option linter.all false
namespace Pv
open Go Go.RowKit
variable {X : Ctx} {G : Ghost} {ph : PH} {w : World} {ρ : Option Nat} {n0 : Nat} {Q : Exit → PSt → PH → Prop}

/-- A loop, by a number that goes down. -/
theorem pwp_loopN {c : Code} {s : PSt} (I : Nat → PSt → PH → Prop) (j0 : Nat) (h0 : I j0 s ph)
    (round : ∀ j s ph, I j s ph → PWp X ρ n0 c (PExit.seq (fun s' ph' => ∃ j', j' < j ∧ I j' s' ph') Q) s ph) : PWp X ρ n0 (.loop c) Q s ph := by
  intro hn G w a hr hs b k cs hro hb hroom
  have key : ∀ (j : Nat) (s : PSt) (ph : PH) (G' : Ghost) (a : Act) (w : World), I j s ph → n0 ≤ ph.n → LeN n0 G G' → Rel X G' ph w → RSt G' s a →
      ∃ e a' w', Post X n0 G Q e a' w' ∧ ArrivesIn (Machine.fenced X.P (Fen ρ)) X.P (lone (b.atR a (.code c :: .inLoop c :: k)) cs w) b k cs e a' w' := by
    intro j
    induction j using Nat.strongRecOn with
    | _ j ih =>
      intro s ph G' a w hI hn hle hr hs
      obtain ⟨e, a₁, w₁, ⟨G1, s1, ph1, q1, q2, q3, q4⟩, harr⟩ := round j s ph hI hn G' w a hr hs b (.inLoop c :: k) cs hro hb hroom
      cases e with
      | normal =>
        obtain ⟨j', hlt, hI₁⟩ := q4
        obtain ⟨e₂, a₂, w₂, hq₂, harr₂⟩ := ih j' hlt s1 ph1 G1 a₁ w₁ hI₁ (grow_n hr q2 q1 hn) (hle.trans q1) q2 q3
        exact ⟨e₂, a₂, w₂, hq₂, .of_steps (StepsIn.trans harr (.one (fenced_calm hb hroom rfl) stepR_inLoop)) harr₂⟩
      | exit id => exact ⟨_, a₁, w₁, ⟨G1, s1, ph1, hle.trans q1, q2, q3, q4⟩, .pass (x := .inLoop c) rfl (fun _ _ => .inl (by simp)) harr⟩
      | goto l => exact ⟨_, a₁, w₁, ⟨G1, s1, ph1, hle.trans q1, q2, q3, q4⟩, .pass (x := .inLoop c) rfl (fun _ _ => .inl (by simp)) harr⟩
      | ret => exact ⟨_, a₁, w₁, ⟨G1, s1, ph1, hle.trans q1, q2, q3, q4⟩, .pass (x := .inLoop c) rfl (fun _ _ => .inl (by simp)) harr⟩
      | panic ch => exact ⟨_, a₁, w₁, ⟨G1, s1, ph1, hle.trans q1, q2, q3, q4⟩, .pass (x := .inLoop c) rfl (fun _ _ => .inl (by simp)) harr⟩
      | outgrown => exact ⟨_, a₁, w₁, ⟨G1, s1, ph1, hle.trans q1, q2, q3, q4⟩, .pass (x := .inLoop c) rfl (fun _ _ => .inl (by simp)) harr⟩
  obtain ⟨e, a', w', hq, harr⟩ := key _ s ph G a w h0 hn (.refl _ _) hr hs
  exact ⟨e, a', w', hq, .of_steps (.one (fenced_calm hb hroom rfl) stepR_loop) harr⟩

/-- The slots as they are told at a round's head: one of which nothing is told is 'undef'. -/
def FadeTo : List PV → List PV → Prop
  | [], [] => True
  | p :: ps, q :: qs => (q = .undef ∨ p = q) ∧ FadeTo ps qs
  | _, _ => False

theorem FadeTo.fades : ∀ {ps qs : List PV}, FadeTo ps qs → Fades ps qs
  | [], [], _ => .nil
  | p :: ps, q :: qs, h => by
    obtain ⟨h1, h2⟩ := h
    rcases h1 with rfl | rfl
    · exact .fade _ _ _ h2.fades
    · exact .keep _ _ _ h2.fades

theorem ft_nil : FadeTo [] [] = True := rfl
theorem ft_undef {p : PV} {ps qs : List PV} : FadeTo (p :: ps) (.undef :: qs) = FadeTo ps qs := by simp [FadeTo]
theorem ft_cons {p q : PV} {ps qs : List PV} (h : p = q) : FadeTo (p :: ps) (q :: qs) = FadeTo ps qs := by simp [FadeTo, h]
theorem ft_keep {p : PV} {ps qs : List PV} : FadeTo (p :: ps) (p :: qs) = FadeTo ps qs := by simp [FadeTo]

/-- **A loop.** What a round's head looks like hangs on 'a'. -/
theorem w_loop {α : Type} {c : Code} {tm : List PV} (st : α → List PV) (hp : α → PH) (Inv : α → Prop) (μ : α → Nat) (a0 : α) (h0 : Inv a0) (hf : FadeTo tm (st a0)) (hph : ph = hp a0)
    (round : ∀ a, Inv a → ∀ K : PSt → PH → Prop, (∀ a' tm, Inv a' → μ a' < μ a → FadeTo tm (st a') → K ⟨tm, []⟩ (hp a')) → vc X ρ n0 c (PExit.seq K Q) ⟨st a, []⟩ (hp a)) : vc X ρ n0 (.loop c) Q ⟨tm, []⟩ ph := by
  show PWp X ρ n0 (.loop c) Q ⟨tm, []⟩ ph
  refine pwp_loopN (I := fun j s' ph' => ∃ a, Inv a ∧ μ a = j ∧ FadeTo s'.tm (st a) ∧ ph' = hp a ∧ s'.ms = []) (μ a0) ⟨a0, h0, rfl, hf, hph, rfl⟩ ?_
  rintro j s' ph' ⟨a, hI, rfl, hF, rfl, hm⟩
  refine PWp.weak (s' := ⟨st a, []⟩) (ph' := hp a) (Weak.fades hF.fades) (by simp [hm]) ?_
  refine vc_ok _ _ _ _ (round a hI _ ?_)
  intro a' tm' h1 h2 h3
  exact ⟨μ a', h2, a', h1, rfl, h3, rfl, rfl⟩

/-- A function of its arguments alone: its body, and an end that is not looked into. -/
theorem fn_of2 {f : FuncId} {fn : Func} {c : Code} {args : List PV} {v : PV} (rs : List ResultVar) (hf : X.P.funcs[f]? = some fn) (hrs : fn.results.toList = rs) (hb : fn.body = some c) (hnm : (fn.name == "runtime.NumGoroutine") = false)
    (h : ∀ (ph : PH) (Q : Exit → PSt → PH → Prop), (∀ {e : Exit} {tm : List PV} {ph' : PH} {u v' : PV}, (e = .normal ∨ e = .ret) → resP X.P rs ⟨tm, []⟩ ph' = some u → (∃ d, frz ph' ph.n d u = some v') → Keeps ph ph' → v' = v → Q e ⟨tm, []⟩ ph') →
      vc X none ph.n c Q (start fn args) ph) : Fn X f args v :=
  fn_of hf hb hnm fun ph => by subst hrs; exact h ph _ fun he hv hf hk hR => fpure_keeps he hv hf hk hR

theorem bytesPV_get (l : List UInt8) (i : Nat) : (bytesPV l)[i]? = (l[i]?).map fun b => .int .u8 b.toNat := by simp [bytesPV]
theorem bytesPV_len (l : List UInt8) : (bytesPV l).length = l.length := by simp [bytesPV]
theorem seg_bytes (l : List UInt8) (i n : Nat) : seg (bytesPV l) i n = bytesPV ((l.drop i).take n) := by
  unfold seg bytesPV; rw [List.map_take, List.map_drop]
theorem bytesPV_append (a b : List UInt8) : bytesPV (a ++ b) = bytesPV a ++ bytesPV b := by simp [bytesPV]
theorem drop_get {α : Type} (l : List α) (i j : Nat) : (l.drop i)[j]? = l[i + j]? := List.getElem?_drop

/-! ### A slice that grows -/
/-- Nil, or a whole block of its own. -/
def SlIs (base ph : PH) (l : PV) (sz : Nat) (cells : List PV) (n : Nat) : Prop :=
  cells.length = n * sz ∧ cells.all cellOk = true ∧ Keeps base ph ∧ ((n = 0 ∧ l = .nilsl) ∨ (0 < n ∧ ∃ p, l = .sl p 0 sz n none ∧ ph.get p = some cells ∧ base.n ≤ p))

theorem SlIs.nil (base : PH) (sz : Nat) : SlIs base base .nilsl sz [] 0 := ⟨by simp, rfl, .refl _, .inl ⟨rfl, rfl⟩⟩
theorem SlIs.nil' {base ph : PH} (sz : Nat) (h : Keeps base ph) : SlIs base ph .nilsl sz [] 0 := ⟨by simp, rfl, h, .inl ⟨rfl, rfl⟩⟩

/-- Blocks that come behind change nothing. -/
theorem SlIs.push {base ph : PH} {l : PV} {sz n : Nat} {cells : List PV} (h : SlIs base ph l sz cells n) (c : List PV) : SlIs base (ph.push c) l sz cells n := by
  obtain ⟨h1, h2, h3, h4⟩ := h
  refine ⟨h1, h2, h3.push c, ?_⟩
  rcases h4 with h4 | ⟨hn, p, rfl, hp, hb⟩
  · exact .inl h4
  · exact .inr ⟨hn, p, rfl, by rw [get_push_lt _ _ _ (PH.get_lt hp)]; exact hp, hb⟩

theorem SlIs.put {base ph : PH} {l : PV} {sz n : Nat} {cells : List PV} (h : SlIs base ph l sz cells n) {q : Nat} (c : List PV) (hq : base.n ≤ q) (hl : q < ph.n) (hne : ∀ p, l = .sl p 0 sz n none → p ≠ q) : SlIs base (ph.put q c) l sz cells n := by
  obtain ⟨h1, h2, h3, h4⟩ := h
  refine ⟨h1, h2, h3.put hq hl c, ?_⟩
  rcases h4 with h4 | ⟨hn, p, rfl, hp, hb⟩
  · exact .inl h4
  · exact .inr ⟨hn, p, rfl, by rw [put_other (hne p rfl)]; exact hp, hb⟩

theorem append_grow {P : Program} {sT xT e : TypeId} {sz b : Nat} {z : PV} {base ph : PH} {l x : PV} {cells new : List PV} {m n : Nat}
    (hk : kSl P sT = some e) (h1 : szP P e = some sz) (h2 : byP P e = some b) (h3 : zeroP P e = some z) (hz : z.cells.length = sz) (hb : b ≠ 0) (hx : appTy P xT = true)
    (hs : srcP ph sz x = some (n, new)) (hn : 0 < n) (hln : new.length = n * sz) (hok : new.all cellOk = true) (hl : SlIs base ph l sz cells m) (hbd : (m + n) * b ≤ 2 ^ 47) :
    ∃ l' ph', appendP P sT xT l x ph = some (l', ph') ∧ SlIs base ph' l' sz (cells ++ new) (m + n) ∧ ph'.n = ph.n + 1 ∧ l' = .sl ph.n 0 sz (m + n) none ∧ (∀ q, q < ph.n → (∀ p, l = .sl p 0 sz m none → q ≠ p) → ph'.get q = ph.get q) := by
  obtain ⟨g1, g2, g3, g4⟩ := hl
  have hn0 : n ≠ 0 := by omega
  have hc : z.cells.length = sz ∧ b ≠ 0 ∧ appTy P xT = true := ⟨hz, hb, hx⟩
  rcases g4 with ⟨rfl, rfl⟩ | ⟨hm, p, rfl, hp, hbp⟩
  · have hc0 : cells = [] := List.length_eq_zero_iff.1 (by simpa using g1)
    subst hc0
    refine ⟨.sl ph.n 0 sz n none, ph.push new, ?_, ⟨by simpa using hln, by simpa using hok, g3.push _, .inr ⟨by omega, ph.n, by simp, by simpa using get_push_same ph new, g3.n⟩⟩, by simp, by simp, fun q hq _ => get_push_lt _ _ _ hq⟩
    unfold appendP
    simp only [hk, h1, h2, h3, hs]
    rw [if_pos hc, if_neg hn0, if_pos (by simpa using hbd)]
  · refine ⟨.sl ph.n 0 sz (m + n) none, (ph.kill p).push (cells ++ new), ?_, ⟨by simp [g1, hln, Nat.add_mul], by simp [g2, hok], (g3.kill hbp).push _, .inr ⟨by omega, ph.n, rfl, ?_, g3.n⟩⟩, by simp, rfl, ?_⟩
    · unfold appendP
      simp only [hk, h1, h2, h3, hs, hp]
      rw [if_pos hc, if_pos ⟨trivial, by omega, hbd, g2⟩]
      simp
    · have := get_push_same (ph.kill p) (cells ++ new)
      rw [PH.n_kill] at this; exact this
    · intro q hq hne
      rw [get_push_lt _ _ _ (by simpa using hq), PH.get_kill, if_neg (hne p rfl)]

/-- A grown slice, as a result. -/
def slV (sz n : Nat) (cells : List PV) : PV := if n = 0 then .nilsl else .fsl sz n cells

theorem frz_slIs {base ph : PH} {l : PV} {sz n d : Nat} {cells qs : List PV} (h : SlIs base ph l sz cells n) (hf : frzs ph base.n d cells = some qs) : frz ph base.n (d + 1) l = some (slV sz n qs) := by
  obtain ⟨g1, g2, g3, g4⟩ := h
  rcases g4 with ⟨rfl, rfl⟩ | ⟨hm, p, rfl, hp, hbp⟩
  · rw [frz_scalar rfl]; rfl
  · rw [slV, if_neg (by omega)]
    exact frz_sl hbp hp (by omega) (by unfold seg; rw [List.drop_zero, ← g1, List.take_length]; exact hf)
end Pv
