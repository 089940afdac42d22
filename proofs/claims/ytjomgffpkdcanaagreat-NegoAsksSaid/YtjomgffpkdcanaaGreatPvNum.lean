/- Part of the proof: the layer of pure values, or walks through functions (PvNum, PvLoop). -/
import Derived.Test.YtjomgffpkdcanaaGreatPvDraw
import Derived.Test.YtjomgffpkdcanaaGreatPvFxM
import Derived.IntWalk
set_option linter.all false
namespace Pv
open Go Go.RowKit
variable {X : Ctx} {G : Ghost} {ph : PH} {w : World} {ρ : Option Nat} {n0 : Nat} {Q : Exit → PSt → PH → Prop}

/-! ### Numbers -/
/-- A number's low byte. -/
def u8 (n : Int) : UInt8 := UInt8.ofNat (n % 256).toNat

theorem u8_wrap (n : Int) : UInt8.ofNat (IntKind.wrap .u8 n).toNat = u8 n := by
  rw [IntKind.wrap_u8]; rfl

theorem byte_lt (b : UInt8) : (b.toNat : Int) < 256 := by have : b.toNat < 256 := b.toNat_lt; omega
theorem wrap_i64_b (b : UInt8) : IntKind.wrap .i64 (b.toNat : Int) = b.toNat := by have := byte_lt b; exact IntWalk.i64_in _ (by omega)
theorem wrap_u8_b (b : UInt8) : IntKind.wrap .u8 (b.toNat : Int) = b.toNat := by have := byte_lt b; exact IntWalk.u8_in _ (by omega)
theorem wrap_u16_b (b : UInt8) : IntKind.wrap .u16 (b.toNat : Int) = b.toNat := by have := byte_lt b; exact IntWalk.u16_in _ (by omega)
theorem wrap_u32_b (b : UInt8) : IntKind.wrap .u32 (b.toNat : Int) = b.toNat := by have := byte_lt b; exact IntWalk.u32_in _ (by omega)
theorem wrap_u64_b (b : UInt8) : IntKind.wrap .u64 (b.toNat : Int) = b.toNat := by have := byte_lt b; exact IntWalk.u64_in _ (by omega)

theorem shr8 (k : IntKind) (n : Int) (h : 8 ≤ k.bits) : shrP k n 8 = n / 256 := by
  unfold shrP
  rw [show min (Int.toNat 8) k.bits = 8 by simp; omega]
  rw [Int.fdiv_eq_ediv_of_nonneg _ (by omega)]; rfl

theorem shl8_i64 (n : Int) (h0 : 0 ≤ n) (h : n < 36028797018963968) : shlP .i64 n 8 = n * 256 := by
  unfold shlP
  rw [show min (Int.toNat 8) IntKind.i64.bits = 8 by decide]
  exact IntWalk.i64_in _ (by omega)

theorem shl8_b (b : UInt8) : shlP .i64 (b.toNat : Int) 8 = b.toNat * 256 := by
  have := byte_lt b; exact shl8_i64 _ (by omega) (by omega)

theorem ncN (n : Nat) : ((no_index (OfNat.ofNat n) : Nat) : Int) = OfNat.ofNat n := rfl

/-- High and low byte. -/
theorem or_bytes (a b : UInt8) : bitsP .or .i64 ((a.toNat : Int) * 256) b.toNat = a.toNat * 256 + b.toNat := by
  have ha : a.toNat < 256 := a.toNat_lt
  have hb : b.toNat < 256 := b.toNat_lt
  unfold bitsP
  simp only
  have e1 : (BitVec.ofInt IntKind.i64.bits ((a.toNat : Int) * 256)).toNat = a.toNat * 256 := by
    rw [BitVec.toNat_ofInt]; simp only [IntKind.bits]; omega
  have e2 : (BitVec.ofInt IntKind.i64.bits (b.toNat : Int)).toNat = b.toNat := by
    rw [BitVec.toNat_ofInt]; simp only [IntKind.bits]; omega
  rw [BitVec.toNat_or, e1, e2]
  have : a.toNat * 256 ||| b.toNat = a.toNat * 256 + b.toNat := by
    have := Nat.shiftLeft_add_eq_or_of_lt (i := 8) (b := b.toNat) (by omega) a.toNat
    rw [Nat.shiftLeft_eq, show (2 : Nat) ^ 8 = 256 from rfl] at this; exact this.symm
  rw [this]
  exact IntWalk.i64_in _ (by omega)

theorem get_push_lt (ph : PH) (c : List PV) (p : Nat) (h : p < ph.n) : (ph.push c).get p = ph.get p := by rw [PH.get_push, if_neg (by omega)]
theorem put_same {ph : PH} {p : Nat} {c : List PV} (hp : p < ph.n) : (ph.put p c).get p = some c := by rw [PH.get_put hp, if_pos rfl]
theorem put_other {ph : PH} {p q : Nat} {c : List PV} (hp : q ≠ p) : (ph.put p c).get q = ph.get q := by
  unfold PH.get PH.put
  simp only [List.getElem?_set]
  have h' : ¬ p = q := fun e => hp e.symm
  simp only [if_neg h']
/-- An open region, walked by a plan. -/
theorem w_drawn {id : Nat} {ops : Array Oper} {s : PSt} (κ : Plan) (N : Nat) (hm : X.P.follows .mixedOrders = true) (hok : (drawOk X.P ops N (κ.map (·.1)) && planOk X.P ops [] κ) = true) (hN : N ≤ s.tm.length) (h : vcP X ops Q κ s ph) : vc X ρ n0 (.region id ops true) Q s ph := by
  rw [w_draw]; exact pwp_draw κ N hm hok hN h

theorem bytesOf_nil : bytesOf [] = some [] := rfl
theorem bytesOf_cons (n : Int) (r : List PV) : bytesOf (.int .u8 n :: r) = (bytesOf r).map (UInt8.ofNat n.toNat :: ·) := rfl
theorem quo_nn (n : Int) (k : Int) (h : 0 ≤ n) (hk : 0 < k) : n.tdiv k = n / k := Int.tdiv_eq_ediv_of_nonneg h
theorem rem_nn (n : Int) (k : Int) (h : 0 ≤ n) : n.tmod k = n % k := Int.tmod_eq_emod_of_nonneg h
/-! ### Cases -/
section cases
variable {a b : Code} {s : PSt}
theorem w_dec {p : Prop} [Decidable p] (h1 : p → vc X ρ n0 a Q s ph) (h2 : ¬p → vc X ρ n0 b Q s ph) : vcC X ρ n0 a b Q s ph (.bool (decide p)) :=
  ⟨fun h => h1 (by simpa using h), fun h => h2 (by simpa using h)⟩
theorem w_eqc {α : Type} [BEq α] [LawfulBEq α] {x y : α} (h1 : x = y → vc X ρ n0 a Q s ph) (h2 : x ≠ y → vc X ρ n0 b Q s ph) : vcC X ρ n0 a b Q s ph (.bool (x == y)) :=
  ⟨fun h => h1 (by simpa using h), fun h => h2 (by simpa using h)⟩
theorem w_neqc {α : Type} [BEq α] [LawfulBEq α] {x y : α} (h1 : x ≠ y → vc X ρ n0 a Q s ph) (h2 : x = y → vc X ρ n0 b Q s ph) : vcC X ρ n0 a b Q s ph (.bool (x != y)) :=
  ⟨fun h => h1 (by simpa using h), fun h => h2 (by simpa using h)⟩
theorem w_nneqc {α : Type} [BEq α] [LawfulBEq α] {x y : α} (h1 : x ≠ y → vc X ρ n0 a Q s ph) (h2 : x = y → vc X ρ n0 b Q s ph) : vcC X ρ n0 a b Q s ph (.bool (!(x == y))) :=
  ⟨fun h => h1 (by simpa using h), fun h => h2 (by simpa using h)⟩
end cases
end Pv

namespace Pv
open Go Go.RowKit
variable {X : Ctx} {G : Ghost} {ph : PH} {w : World} {ρ : Option Nat} {n0 : Nat} {Q : Exit → PSt → PH → Prop}

/-- A loop, by a number that goes down. -/
theorem pwp_loopN {c : Code} {s : PSt} (I : Nat → PSt → PH → Prop) (j0 : Nat) (h0 : I j0 s ph)
    (round : ∀ j s ph, I j s ph → PWp X ρ n0 c (PExit.seq (fun s' ph' => ∃ j', j' < j ∧ I j' s' ph') Q) s ph) : PWp X ρ n0 (.loop c) Q s ph := by
  intro hn G w a hr hs b k cs hro hb hroom
  have key : ∀ (j : Nat) (s : PSt) (ph : PH) (G' : Ghost) (a : Act) (w : World), I j s ph → n0 ≤ ph.n → LeN n0 G G' → Rel X G' ph w → RSt G' s a →
      ∃ e a' w', Post X n0 G Q e a' w' ∧ ArrivesIn (Machine.fenced X.P (Fen ρ)) X.P (lone (b.atR a (.code c :: .inLoop c :: k)) cs w) b k cs e a' w' := by
    intro j
    induction j using Nat.strongRecOn with
    | _ j ih =>
      intro s ph G' a w hI hn hle hr hs
      obtain ⟨e, a₁, w₁, ⟨G1, s1, ph1, q1, q2, q3, q4⟩, harr⟩ := round j s ph hI hn G' w a hr hs b (.inLoop c :: k) cs hro hb hroom
      cases e with
      | normal =>
        obtain ⟨j', hlt, hI₁⟩ := q4
        obtain ⟨e₂, a₂, w₂, hq₂, harr₂⟩ := ih j' hlt s1 ph1 G1 a₁ w₁ hI₁ (grow_n hr q2 q1 hn) (hle.trans q1) q2 q3
        exact ⟨e₂, a₂, w₂, hq₂, .of_steps (StepsIn.trans harr (.one (fenced_calm hb hroom rfl) stepR_inLoop)) harr₂⟩
      | exit id => exact ⟨_, a₁, w₁, ⟨G1, s1, ph1, hle.trans q1, q2, q3, q4⟩, .pass (x := .inLoop c) rfl (fun _ _ => .inl (by simp)) harr⟩
      | goto l => exact ⟨_, a₁, w₁, ⟨G1, s1, ph1, hle.trans q1, q2, q3, q4⟩, .pass (x := .inLoop c) rfl (fun _ _ => .inl (by simp)) harr⟩
      | ret => exact ⟨_, a₁, w₁, ⟨G1, s1, ph1, hle.trans q1, q2, q3, q4⟩, .pass (x := .inLoop c) rfl (fun _ _ => .inl (by simp)) harr⟩
      | panic ch => exact ⟨_, a₁, w₁, ⟨G1, s1, ph1, hle.trans q1, q2, q3, q4⟩, .pass (x := .inLoop c) rfl (fun _ _ => .inl (by simp)) harr⟩
      | outgrown => exact ⟨_, a₁, w₁, ⟨G1, s1, ph1, hle.trans q1, q2, q3, q4⟩, .pass (x := .inLoop c) rfl (fun _ _ => .inl (by simp)) harr⟩
  obtain ⟨e, a', w', hq, harr⟩ := key _ s ph G a w h0 hn (.refl _ _) hr hs
  exact ⟨e, a', w', hq, .of_steps (.one (fenced_calm hb hroom rfl) stepR_loop) harr⟩

/-- The slots as they are told at a round's head: one of which nothing is told is 'undef'. -/
def FadeTo : List PV → List PV → Prop
  | [], [] => True
  | p :: ps, q :: qs => (q = .undef ∨ p = q) ∧ FadeTo ps qs
  | _, _ => False

theorem FadeTo.fades : ∀ {ps qs : List PV}, FadeTo ps qs → Fades ps qs
  | [], [], _ => .nil
  | p :: ps, q :: qs, h => by
    obtain ⟨h1, h2⟩ := h
    rcases h1 with rfl | rfl
    · exact .fade _ _ _ h2.fades
    · exact .keep _ _ _ h2.fades

theorem bytesPV_get (l : List UInt8) (i : Nat) : (bytesPV l)[i]? = (l[i]?).map fun b => .int .u8 b.toNat := by simp [bytesPV]
theorem bytesPV_len (l : List UInt8) : (bytesPV l).length = l.length := by simp [bytesPV]
theorem seg_bytes (l : List UInt8) (i n : Nat) : seg (bytesPV l) i n = bytesPV ((l.drop i).take n) := by
  unfold seg bytesPV; rw [List.map_take, List.map_drop]
theorem bytesPV_append (a b : List UInt8) : bytesPV (a ++ b) = bytesPV a ++ bytesPV b := by simp [bytesPV]
/-! ### A slice that grows -/
/-- Nil, or a whole block of its own. -/
def SlIs (base ph : PH) (l : PV) (sz : Nat) (cells : List PV) (n : Nat) : Prop :=
  cells.length = n * sz ∧ cells.all cellOk = true ∧ Keeps base ph ∧ ((n = 0 ∧ l = .nilsl) ∨ (0 < n ∧ ∃ p, l = .sl p 0 sz n none ∧ ph.get p = some cells ∧ base.n ≤ p))

theorem SlIs.nil (base : PH) (sz : Nat) : SlIs base base .nilsl sz [] 0 := ⟨by simp, rfl, .refl _, .inl ⟨rfl, rfl⟩⟩
/-- Blocks that come behind change nothing. -/
theorem SlIs.push {base ph : PH} {l : PV} {sz n : Nat} {cells : List PV} (h : SlIs base ph l sz cells n) (c : List PV) : SlIs base (ph.push c) l sz cells n := by
  obtain ⟨h1, h2, h3, h4⟩ := h
  refine ⟨h1, h2, h3.push c, ?_⟩
  rcases h4 with h4 | ⟨hn, p, rfl, hp, hb⟩
  · exact .inl h4
  · exact .inr ⟨hn, p, rfl, by rw [get_push_lt _ _ _ (PH.get_lt hp)]; exact hp, hb⟩

theorem SlIs.put {base ph : PH} {l : PV} {sz n : Nat} {cells : List PV} (h : SlIs base ph l sz cells n) {q : Nat} (c : List PV) (hq : base.n ≤ q) (hl : q < ph.n) (hne : ∀ p, l = .sl p 0 sz n none → p ≠ q) : SlIs base (ph.put q c) l sz cells n := by
  obtain ⟨h1, h2, h3, h4⟩ := h
  refine ⟨h1, h2, h3.put hq hl c, ?_⟩
  rcases h4 with h4 | ⟨hn, p, rfl, hp, hb⟩
  · exact .inl h4
  · exact .inr ⟨hn, p, rfl, by rw [put_other (hne p rfl)]; exact hp, hb⟩

end Pv
