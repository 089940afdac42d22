/- Part of the proof: the layer of pure values, or walks through functions (PvNum, PvLoop). -/
import Derived.Test.YtnlifahnieeciaaPvDraw
import Derived.Test.YtnlifahnieeciaaPvPure
import Derived.IntWalk
set_option linter.all false
namespace Pv
open Go Go.RowKit
variable {X : Ctx} {G : Ghost} {ph : PH} {w : World} {ρ : Option Nat} {n0 : Nat} {Q : Exit → PSt → PH → Prop}

/-! ### Numbers -/
/-- A number's low byte. -/
def u8 (n : Int) : UInt8 := UInt8.ofNat (n % 256).toNat

theorem u8_wrap (n : Int) : UInt8.ofNat (IntKind.wrap .u8 n).toNat = u8 n := by
  rw [IntKind.wrap_u8]; rfl

theorem u8_of (b : UInt8) : UInt8.ofNat ((b.toNat : Int)).toNat = b := by simp

theorem u8_nat (b : UInt8) : u8 b.toNat = b := by
  unfold u8
  have h : b.toNat < 256 := b.toNat_lt
  rw [show ((b.toNat : Int) % 256).toNat = b.toNat by omega]; simp

theorem u8_toNat (n : Int) : ((u8 n).toNat : Int) = n % 256 := by
  unfold u8
  have h1 : (0 : Int) ≤ n % 256 := by omega
  have h2 : n % 256 < 256 := by omega
  rw [UInt8.toNat_ofNat']
  simp only [Nat.reducePow]
  omega

theorem byte_lt (b : UInt8) : (b.toNat : Int) < 256 := by have : b.toNat < 256 := b.toNat_lt; omega
theorem byte_nn (b : UInt8) : 0 ≤ (b.toNat : Int) := by omega

theorem wrap_i64_b (b : UInt8) : IntKind.wrap .i64 (b.toNat : Int) = b.toNat := by have := byte_lt b; exact IntWalk.i64_in _ (by omega)
theorem wrap_u8_b (b : UInt8) : IntKind.wrap .u8 (b.toNat : Int) = b.toNat := by have := byte_lt b; exact IntWalk.u8_in _ (by omega)
theorem wrap_u16_b (b : UInt8) : IntKind.wrap .u16 (b.toNat : Int) = b.toNat := by have := byte_lt b; exact IntWalk.u16_in _ (by omega)
theorem wrap_u32_b (b : UInt8) : IntKind.wrap .u32 (b.toNat : Int) = b.toNat := by have := byte_lt b; exact IntWalk.u32_in _ (by omega)
theorem wrap_u64_b (b : UInt8) : IntKind.wrap .u64 (b.toNat : Int) = b.toNat := by have := byte_lt b; exact IntWalk.u64_in _ (by omega)

theorem shr8 (k : IntKind) (n : Int) (h : 8 ≤ k.bits) : shrP k n 8 = n / 256 := by
  unfold shrP
  rw [show min (Int.toNat 8) k.bits = 8 by simp; omega]
  rw [Int.fdiv_eq_ediv_of_nonneg _ (by omega)]; rfl

theorem shl8_i64 (n : Int) (h0 : 0 ≤ n) (h : n < 36028797018963968) : shlP .i64 n 8 = n * 256 := by
  unfold shlP
  rw [show min (Int.toNat 8) IntKind.i64.bits = 8 by decide]
  exact IntWalk.i64_in _ (by omega)

theorem shl8_b (b : UInt8) : shlP .i64 (b.toNat : Int) 8 = b.toNat * 256 := by
  have := byte_lt b; exact shl8_i64 _ (by omega) (by omega)

theorem ncN (n : Nat) : ((no_index (OfNat.ofNat n) : Nat) : Int) = OfNat.ofNat n := rfl

/-- High and low byte. -/
theorem or_bytes (a b : UInt8) : bitsP .or .i64 ((a.toNat : Int) * 256) b.toNat = a.toNat * 256 + b.toNat := by
  have ha : a.toNat < 256 := a.toNat_lt
  have hb : b.toNat < 256 := b.toNat_lt
  unfold bitsP
  simp only
  have e1 : (BitVec.ofInt IntKind.i64.bits ((a.toNat : Int) * 256)).toNat = a.toNat * 256 := by
    rw [BitVec.toNat_ofInt]; simp only [IntKind.bits]; omega
  have e2 : (BitVec.ofInt IntKind.i64.bits (b.toNat : Int)).toNat = b.toNat := by
    rw [BitVec.toNat_ofInt]; simp only [IntKind.bits]; omega
  rw [BitVec.toNat_or, e1, e2]
  have : a.toNat * 256 ||| b.toNat = a.toNat * 256 + b.toNat := by
    have := Nat.shiftLeft_add_eq_or_of_lt (i := 8) (b := b.toNat) (by omega) a.toNat
    rw [Nat.shiftLeft_eq, show (2 : Nat) ^ 8 = 256 from rfl] at this; exact this.symm
  rw [this]
  exact IntWalk.i64_in _ (by omega)

/-! ### Heap -/
theorem get_push_same (ph : PH) (c : List PV) : (ph.push c).get ph.n = some c := by rw [PH.get_push, if_pos rfl]
theorem get_push_lt (ph : PH) (c : List PV) (p : Nat) (h : p < ph.n) : (ph.push c).get p = ph.get p := by rw [PH.get_push, if_neg (by omega)]
theorem put_same {ph : PH} {p : Nat} {c : List PV} (hp : p < ph.n) : (ph.put p c).get p = some c := by rw [PH.get_put hp, if_pos rfl]
theorem put_other {ph : PH} {p q : Nat} {c : List PV} (hp : q ≠ p) : (ph.put p c).get q = ph.get q := by
  unfold PH.get PH.put
  simp only [List.getElem?_set]
  have h' : ¬ p = q := fun e => hp e.symm
  simp only [if_neg h']
theorem push_put_same (ph : PH) (c d : List PV) : (ph.push c).put ph.n d = ph.push d := by
  unfold PH.push PH.put PH.n
  simp
theorem push_put_lt (ph : PH) (c d : List PV) (p : Nat) (h : p < ph.n) : (ph.push c).put p d = (ph.put p d).push c := by
  unfold PH.push PH.put PH.n at *
  simp [List.set_append, h]
theorem push_kill_same_n (ph : PH) (c : List PV) : ((ph.push c).kill ph.n).n = ph.n + 1 := by simp

/-- An open region, walked by a plan. -/
theorem w_drawn {id : Nat} {ops : Array Oper} {s : PSt} (κ : Plan) (N : Nat) (hm : X.P.follows .mixedOrders = true) (hok : (drawOk X.P ops N (κ.map (·.1)) && planOk X.P ops [] κ) = true) (hN : N ≤ s.tm.length) (h : vcP X ops Q κ s ph) : vc X ρ n0 (.region id ops true) Q s ph := by
  rw [w_draw]; exact pwp_draw κ N hm hok hN h

theorem bytesOf_map (s : List UInt8) : bytesOf (s.map fun b => PV.int .u8 b.toNat) = some s := bytesOf_bytesPV s
theorem bytesOf_nil : bytesOf [] = some [] := rfl
theorem bytesOf_cons (n : Int) (r : List PV) : bytesOf (.int .u8 n :: r) = (bytesOf r).map (UInt8.ofNat n.toNat :: ·) := rfl
theorem quo_nn (n : Int) (k : Int) (h : 0 ≤ n) (hk : 0 < k) : n.tdiv k = n / k := Int.tdiv_eq_ediv_of_nonneg h
theorem rem_nn (n : Int) (k : Int) (h : 0 ≤ n) : n.tmod k = n % k := Int.tmod_eq_emod_of_nonneg h
theorem u8_mod (n : Int) : u8 (n % 256) = u8 n := by unfold u8; rw [Int.emod_emod_of_dvd _ (by omega)]

/-! ### Cases -/
section cases
variable {a b : Code} {s : PSt}
theorem w_dec {p : Prop} [Decidable p] (h1 : p → vc X ρ n0 a Q s ph) (h2 : ¬p → vc X ρ n0 b Q s ph) : vcC X ρ n0 a b Q s ph (.bool (decide p)) :=
  ⟨fun h => h1 (by simpa using h), fun h => h2 (by simpa using h)⟩
theorem w_eqc {α : Type} [BEq α] [LawfulBEq α] {x y : α} (h1 : x = y → vc X ρ n0 a Q s ph) (h2 : x ≠ y → vc X ρ n0 b Q s ph) : vcC X ρ n0 a b Q s ph (.bool (x == y)) :=
  ⟨fun h => h1 (by simpa using h), fun h => h2 (by simpa using h)⟩
theorem w_neqc {α : Type} [BEq α] [LawfulBEq α] {x y : α} (h1 : x ≠ y → vc X ρ n0 a Q s ph) (h2 : x = y → vc X ρ n0 b Q s ph) : vcC X ρ n0 a b Q s ph (.bool (x != y)) :=
  ⟨fun h => h1 (by simpa using h), fun h => h2 (by simpa using h)⟩
theorem w_nneqc {α : Type} [BEq α] [LawfulBEq α] {x y : α} (h1 : x ≠ y → vc X ρ n0 a Q s ph) (h2 : x = y → vc X ρ n0 b Q s ph) : vcC X ρ n0 a b Q s ph (.bool (!(x == y))) :=
  ⟨fun h => h1 (by simpa using h), fun h => h2 (by simpa using h)⟩
end cases
end Pv

namespace Pv
open Go Go.RowKit
variable {X : Ctx} {G : Ghost} {ph : PH} {w : World} {ρ : Option Nat} {n0 : Nat} {Q : Exit → PSt → PH → Prop}

/-- A loop, by a number that goes down. -/
theorem pwp_loopN {c : Code} {s : PSt} (I : Nat → PSt → PH → Prop) (j0 : Nat) (h0 : I j0 s ph)
    (round : ∀ j s ph, I j s ph → PWp X ρ n0 c (PExit.seq (fun s' ph' => ∃ j', j' < j ∧ I j' s' ph') Q) s ph) : PWp X ρ n0 (.loop c) Q s ph := by
  intro hn G w a hr hs b k cs hro hb hroom
  have key : ∀ (j : Nat) (s : PSt) (ph : PH) (G' : Ghost) (a : Act) (w : World), I j s ph → n0 ≤ ph.n → LeN n0 G G' → Rel X G' ph w → RSt G' s a →
      ∃ e a' w', Post X n0 G Q e a' w' ∧ ArrivesIn (Machine.fenced X.P (Fen ρ)) X.P (lone (b.atR a (.code c :: .inLoop c :: k)) cs w) b k cs e a' w' := by
    intro j
    induction j using Nat.strongRecOn with
    | _ j ih =>
      intro s ph G' a w hI hn hle hr hs
      obtain ⟨e, a₁, w₁, ⟨G1, s1, ph1, q1, q2, q3, q4⟩, harr⟩ := round j s ph hI hn G' w a hr hs b (.inLoop c :: k) cs hro hb hroom
      cases e with
      | normal =>
        obtain ⟨j', hlt, hI₁⟩ := q4
        obtain ⟨e₂, a₂, w₂, hq₂, harr₂⟩ := ih j' hlt s1 ph1 G1 a₁ w₁ hI₁ (grow_n hr q2 q1 hn) (hle.trans q1) q2 q3
        exact ⟨e₂, a₂, w₂, hq₂, .of_steps (StepsIn.trans harr (.one (fenced_calm hb hroom rfl) stepR_inLoop)) harr₂⟩
      | exit id => exact ⟨_, a₁, w₁, ⟨G1, s1, ph1, hle.trans q1, q2, q3, q4⟩, .pass (x := .inLoop c) rfl (fun _ _ => .inl (by simp)) harr⟩
      | goto l => exact ⟨_, a₁, w₁, ⟨G1, s1, ph1, hle.trans q1, q2, q3, q4⟩, .pass (x := .inLoop c) rfl (fun _ _ => .inl (by simp)) harr⟩
      | ret => exact ⟨_, a₁, w₁, ⟨G1, s1, ph1, hle.trans q1, q2, q3, q4⟩, .pass (x := .inLoop c) rfl (fun _ _ => .inl (by simp)) harr⟩
      | panic ch => exact ⟨_, a₁, w₁, ⟨G1, s1, ph1, hle.trans q1, q2, q3, q4⟩, .pass (x := .inLoop c) rfl (fun _ _ => .inl (by simp)) harr⟩
      | outgrown => exact ⟨_, a₁, w₁, ⟨G1, s1, ph1, hle.trans q1, q2, q3, q4⟩, .pass (x := .inLoop c) rfl (fun _ _ => .inl (by simp)) harr⟩
  obtain ⟨e, a', w', hq, harr⟩ := key _ s ph G a w h0 hn (.refl _ _) hr hs
  exact ⟨e, a', w', hq, .of_steps (.one (fenced_calm hb hroom rfl) stepR_loop) harr⟩

/-- The slots as they are told at a round's head: one of which nothing is told is 'undef'. -/
def FadeTo : List PV → List PV → Prop
  | [], [] => True
  | p :: ps, q :: qs => (q = .undef ∨ p = q) ∧ FadeTo ps qs
  | _, _ => False

theorem FadeTo.fades : ∀ {ps qs : List PV}, FadeTo ps qs → Fades ps qs
  | [], [], _ => .nil
  | p :: ps, q :: qs, h => by
    obtain ⟨h1, h2⟩ := h
    rcases h1 with rfl | rfl
    · exact .fade _ _ _ h2.fades
    · exact .keep _ _ _ h2.fades

theorem ft_nil : FadeTo [] [] = True := rfl
theorem ft_undef {p : PV} {ps qs : List PV} : FadeTo (p :: ps) (.undef :: qs) = FadeTo ps qs := by simp [FadeTo]
theorem ft_cons {p q : PV} {ps qs : List PV} (h : p = q) : FadeTo (p :: ps) (q :: qs) = FadeTo ps qs := by simp [FadeTo, h]
theorem ft_keep {p : PV} {ps qs : List PV} : FadeTo (p :: ps) (p :: qs) = FadeTo ps qs := by simp [FadeTo]

/-- **A loop.** What a round's head looks like hangs on 'a'. -/
theorem w_loop {α : Type} {c : Code} {tm : List PV} (st : α → List PV) (hp : α → PH) (Inv : α → Prop) (μ : α → Nat) (a0 : α) (h0 : Inv a0) (hf : FadeTo tm (st a0)) (hph : ph = hp a0)
    (round : ∀ a, Inv a → ∀ K : PSt → PH → Prop, (∀ a' tm, Inv a' → μ a' < μ a → FadeTo tm (st a') → K ⟨tm, []⟩ (hp a')) → vc X ρ n0 c (PExit.seq K Q) ⟨st a, []⟩ (hp a)) : vc X ρ n0 (.loop c) Q ⟨tm, []⟩ ph := by
  show PWp X ρ n0 (.loop c) Q ⟨tm, []⟩ ph
  refine pwp_loopN (I := fun j s' ph' => ∃ a, Inv a ∧ μ a = j ∧ FadeTo s'.tm (st a) ∧ ph' = hp a ∧ s'.ms = []) (μ a0) ⟨a0, h0, rfl, hf, hph, rfl⟩ ?_
  rintro j s' ph' ⟨a, hI, rfl, hF, rfl, hm⟩
  refine PWp.weak (s' := ⟨st a, []⟩) (ph' := hp a) (Weak.fades hF.fades) (by simp [hm]) ?_
  refine vc_ok _ _ _ _ (round a hI _ ?_)
  intro a' tm' h1 h2 h3
  exact ⟨μ a', h2, a', h1, rfl, h3, rfl, rfl⟩

/-- A function of its arguments alone: its body, and an end that is not looked into. -/
theorem fn_of2 {f : FuncId} {fn : Func} {c : Code} {args : List PV} {v : PV} (rs : List ResultVar) (hf : X.P.funcs[f]? = some fn) (hrs : fn.results.toList = rs) (hb : fn.body = some c) (hnm : (fn.name == "runtime.NumGoroutine") = false)
    (h : ∀ (ph : PH) (Q : Exit → PSt → PH → Prop), (∀ {e : Exit} {tm : List PV} {ph' : PH} {u v' : PV}, (e = .normal ∨ e = .ret) → resP X.P rs ⟨tm, []⟩ ph' = some u → (∃ d, frz ph' ph.n d u = some v') → Keeps ph ph' → v' = v → Q e ⟨tm, []⟩ ph') →
      vc X none ph.n c Q (start fn args) ph) : Fn X f args v :=
  fn_of hf hb hnm fun ph => by subst hrs; exact h ph _ fun he hv hf hk hR => fpure_keeps he hv hf hk hR

theorem bytesPV_get (l : List UInt8) (i : Nat) : (bytesPV l)[i]? = (l[i]?).map fun b => .int .u8 b.toNat := by simp [bytesPV]
theorem bytesPV_len (l : List UInt8) : (bytesPV l).length = l.length := by simp [bytesPV]
theorem seg_bytes (l : List UInt8) (i n : Nat) : seg (bytesPV l) i n = bytesPV ((l.drop i).take n) := by
  unfold seg bytesPV; rw [List.map_take, List.map_drop]
theorem bytesPV_append (a b : List UInt8) : bytesPV (a ++ b) = bytesPV a ++ bytesPV b := by simp [bytesPV]
theorem drop_get {α : Type} (l : List α) (i j : Nat) : (l.drop i)[j]? = l[i + j]? := List.getElem?_drop

/-! ### A slice that grows -/
/-- Nil, or a whole block of its own. -/
def SlIs (base ph : PH) (l : PV) (sz : Nat) (cells : List PV) (n : Nat) : Prop :=
  cells.length = n * sz ∧ cells.all cellOk = true ∧ Keeps base ph ∧ ((n = 0 ∧ l = .nilsl) ∨ (0 < n ∧ ∃ p, l = .sl p 0 sz n none ∧ ph.get p = some cells ∧ base.n ≤ p))

theorem SlIs.nil (base : PH) (sz : Nat) : SlIs base base .nilsl sz [] 0 := ⟨by simp, rfl, .refl _, .inl ⟨rfl, rfl⟩⟩
theorem SlIs.nil' {base ph : PH} (sz : Nat) (h : Keeps base ph) : SlIs base ph .nilsl sz [] 0 := ⟨by simp, rfl, h, .inl ⟨rfl, rfl⟩⟩

/-- Blocks that come behind change nothing. -/
theorem SlIs.push {base ph : PH} {l : PV} {sz n : Nat} {cells : List PV} (h : SlIs base ph l sz cells n) (c : List PV) : SlIs base (ph.push c) l sz cells n := by
  obtain ⟨h1, h2, h3, h4⟩ := h
  refine ⟨h1, h2, h3.push c, ?_⟩
  rcases h4 with h4 | ⟨hn, p, rfl, hp, hb⟩
  · exact .inl h4
  · exact .inr ⟨hn, p, rfl, by rw [get_push_lt _ _ _ (PH.get_lt hp)]; exact hp, hb⟩

theorem SlIs.put {base ph : PH} {l : PV} {sz n : Nat} {cells : List PV} (h : SlIs base ph l sz cells n) {q : Nat} (c : List PV) (hq : base.n ≤ q) (hl : q < ph.n) (hne : ∀ p, l = .sl p 0 sz n none → p ≠ q) : SlIs base (ph.put q c) l sz cells n := by
  obtain ⟨h1, h2, h3, h4⟩ := h
  refine ⟨h1, h2, h3.put hq hl c, ?_⟩
  rcases h4 with h4 | ⟨hn, p, rfl, hp, hb⟩
  · exact .inl h4
  · exact .inr ⟨hn, p, rfl, by rw [put_other (hne p rfl)]; exact hp, hb⟩

theorem append_grow {P : Program} {sT xT e : TypeId} {sz b : Nat} {z : PV} {base ph : PH} {l x : PV} {cells new : List PV} {m n : Nat}
    (hk : kSl P sT = some e) (h1 : szP P e = some sz) (h2 : byP P e = some b) (h3 : zeroP P e = some z) (hz : z.cells.length = sz) (hb : b ≠ 0) (hx : appTy P xT = true)
    (hs : srcP ph sz x = some (n, new)) (hn : 0 < n) (hln : new.length = n * sz) (hok : new.all cellOk = true) (hl : SlIs base ph l sz cells m) (hbd : (m + n) * b ≤ 2 ^ 47) :
    ∃ l' ph', appendP P sT xT l x ph = some (l', ph') ∧ SlIs base ph' l' sz (cells ++ new) (m + n) ∧ ph'.n = ph.n + 1 ∧ l' = .sl ph.n 0 sz (m + n) none ∧ (∀ q, q < ph.n → (∀ p, l = .sl p 0 sz m none → q ≠ p) → ph'.get q = ph.get q) := by
  obtain ⟨g1, g2, g3, g4⟩ := hl
  have hn0 : n ≠ 0 := by omega
  have hc : z.cells.length = sz ∧ b ≠ 0 ∧ appTy P xT = true := ⟨hz, hb, hx⟩
  rcases g4 with ⟨rfl, rfl⟩ | ⟨hm, p, rfl, hp, hbp⟩
  · have hc0 : cells = [] := List.length_eq_zero_iff.1 (by simpa using g1)
    subst hc0
    refine ⟨.sl ph.n 0 sz n none, ph.push new, ?_, ⟨by simpa using hln, by simpa using hok, g3.push _, .inr ⟨by omega, ph.n, by simp, by simpa using get_push_same ph new, g3.n⟩⟩, by simp, by simp, fun q hq _ => get_push_lt _ _ _ hq⟩
    unfold appendP
    simp only [hk, h1, h2, h3, hs]
    rw [if_pos hc, if_neg hn0, if_pos (by simpa using hbd)]
  · refine ⟨.sl ph.n 0 sz (m + n) none, (ph.kill p).push (cells ++ new), ?_, ⟨by simp [g1, hln, Nat.add_mul], by simp [g2, hok], (g3.kill hbp).push _, .inr ⟨by omega, ph.n, rfl, ?_, g3.n⟩⟩, by simp, rfl, ?_⟩
    · unfold appendP
      simp only [hk, h1, h2, h3, hs, hp]
      rw [if_pos hc, if_pos ⟨trivial, by omega, hbd, g2⟩]
      simp
    · have := get_push_same (ph.kill p) (cells ++ new)
      rw [PH.n_kill] at this; exact this
    · intro q hq hne
      rw [get_push_lt _ _ _ (by simpa using hq), PH.get_kill, if_neg (hne p rfl)]

/-- A grown slice, as a result. -/
def slV (sz n : Nat) (cells : List PV) : PV := if n = 0 then .nilsl else .fsl sz n cells

theorem frz_slIs {base ph : PH} {l : PV} {sz n d : Nat} {cells qs : List PV} (h : SlIs base ph l sz cells n) (hf : frzs ph base.n d cells = some qs) : frz ph base.n (d + 1) l = some (slV sz n qs) := by
  obtain ⟨g1, g2, g3, g4⟩ := h
  rcases g4 with ⟨rfl, rfl⟩ | ⟨hm, p, rfl, hp, hbp⟩
  · rw [frz_scalar rfl]; rfl
  · rw [slV, if_neg (by omega)]
    exact frz_sl hbp hp (by omega) (by unfold seg; rw [List.drop_zero, ← g1, List.take_length]; exact hf)
end Pv
