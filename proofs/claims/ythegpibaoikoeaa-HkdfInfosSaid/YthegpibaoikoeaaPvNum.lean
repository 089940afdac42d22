/- Part of the proof: the layer of pure values, or a walk through a function (PvNum). -/
import Derived.Test.YthegpibaoikoeaaPvDraw
import Derived.Test.YthegpibaoikoeaaPvPure
import Derived.IntWalk
set_option linter.all false
namespace Pv
open Go Go.RowKit
variable {X : Ctx} {G : Ghost} {ph : PH} {w : World} {ρ : Option Nat} {n0 : Nat} {Q : Exit → PSt → PH → Prop}

/-! ### Numbers -/
/-- A number's low byte. -/
def u8 (n : Int) : UInt8 := UInt8.ofNat (n % 256).toNat

theorem u8_wrap (n : Int) : UInt8.ofNat (IntKind.wrap .u8 n).toNat = u8 n := by
  rw [IntKind.wrap_u8]; rfl

theorem u8_of (b : UInt8) : UInt8.ofNat ((b.toNat : Int)).toNat = b := by simp

theorem u8_nat (b : UInt8) : u8 b.toNat = b := by
  unfold u8
  have h : b.toNat < 256 := b.toNat_lt
  rw [show ((b.toNat : Int) % 256).toNat = b.toNat by omega]; simp

theorem u8_toNat (n : Int) : ((u8 n).toNat : Int) = n % 256 := by
  unfold u8
  have h1 : (0 : Int) ≤ n % 256 := by omega
  have h2 : n % 256 < 256 := by omega
  rw [UInt8.toNat_ofNat']
  simp only [Nat.reducePow]
  omega

theorem byte_lt (b : UInt8) : (b.toNat : Int) < 256 := by have : b.toNat < 256 := b.toNat_lt; omega
theorem byte_nn (b : UInt8) : 0 ≤ (b.toNat : Int) := by omega

theorem wrap_i64_b (b : UInt8) : IntKind.wrap .i64 (b.toNat : Int) = b.toNat := by have := byte_lt b; exact IntWalk.i64_in _ (by omega)
theorem wrap_u8_b (b : UInt8) : IntKind.wrap .u8 (b.toNat : Int) = b.toNat := by have := byte_lt b; exact IntWalk.u8_in _ (by omega)
theorem wrap_u16_b (b : UInt8) : IntKind.wrap .u16 (b.toNat : Int) = b.toNat := by have := byte_lt b; exact IntWalk.u16_in _ (by omega)
theorem wrap_u32_b (b : UInt8) : IntKind.wrap .u32 (b.toNat : Int) = b.toNat := by have := byte_lt b; exact IntWalk.u32_in _ (by omega)
theorem wrap_u64_b (b : UInt8) : IntKind.wrap .u64 (b.toNat : Int) = b.toNat := by have := byte_lt b; exact IntWalk.u64_in _ (by omega)

theorem shr8 (k : IntKind) (n : Int) (h : 8 ≤ k.bits) : shrP k n 8 = n / 256 := by
  unfold shrP
  rw [show min (Int.toNat 8) k.bits = 8 by simp; omega]
  rw [Int.fdiv_eq_ediv_of_nonneg _ (by omega)]; rfl

theorem shl8_i64 (n : Int) (h0 : 0 ≤ n) (h : n < 36028797018963968) : shlP .i64 n 8 = n * 256 := by
  unfold shlP
  rw [show min (Int.toNat 8) IntKind.i64.bits = 8 by decide]
  exact IntWalk.i64_in _ (by omega)

theorem shl8_b (b : UInt8) : shlP .i64 (b.toNat : Int) 8 = b.toNat * 256 := by
  have := byte_lt b; exact shl8_i64 _ (by omega) (by omega)

theorem ncN (n : Nat) : ((no_index (OfNat.ofNat n) : Nat) : Int) = OfNat.ofNat n := rfl

/-- High and low byte. -/
theorem or_bytes (a b : UInt8) : bitsP .or .i64 ((a.toNat : Int) * 256) b.toNat = a.toNat * 256 + b.toNat := by
  have ha : a.toNat < 256 := a.toNat_lt
  have hb : b.toNat < 256 := b.toNat_lt
  unfold bitsP
  simp only
  have e1 : (BitVec.ofInt IntKind.i64.bits ((a.toNat : Int) * 256)).toNat = a.toNat * 256 := by
    rw [BitVec.toNat_ofInt]; simp only [IntKind.bits]; omega
  have e2 : (BitVec.ofInt IntKind.i64.bits (b.toNat : Int)).toNat = b.toNat := by
    rw [BitVec.toNat_ofInt]; simp only [IntKind.bits]; omega
  rw [BitVec.toNat_or, e1, e2]
  have : a.toNat * 256 ||| b.toNat = a.toNat * 256 + b.toNat := by
    have := Nat.shiftLeft_add_eq_or_of_lt (i := 8) (b := b.toNat) (by omega) a.toNat
    rw [Nat.shiftLeft_eq, show (2 : Nat) ^ 8 = 256 from rfl] at this; exact this.symm
  rw [this]
  exact IntWalk.i64_in _ (by omega)

/-! ### Heap -/
theorem get_push_same (ph : PH) (c : List PV) : (ph.push c).get ph.n = some c := by rw [PH.get_push, if_pos rfl]
theorem get_push_lt (ph : PH) (c : List PV) (p : Nat) (h : p < ph.n) : (ph.push c).get p = ph.get p := by rw [PH.get_push, if_neg (by omega)]
theorem put_same {ph : PH} {p : Nat} {c : List PV} (hp : p < ph.n) : (ph.put p c).get p = some c := by rw [PH.get_put hp, if_pos rfl]
theorem put_other {ph : PH} {p q : Nat} {c : List PV} (hp : q ≠ p) : (ph.put p c).get q = ph.get q := by
  unfold PH.get PH.put
  simp only [List.getElem?_set]
  have h' : ¬ p = q := fun e => hp e.symm
  simp only [if_neg h']
theorem push_put_same (ph : PH) (c d : List PV) : (ph.push c).put ph.n d = ph.push d := by
  unfold PH.push PH.put PH.n
  simp
theorem push_put_lt (ph : PH) (c d : List PV) (p : Nat) (h : p < ph.n) : (ph.push c).put p d = (ph.put p d).push c := by
  unfold PH.push PH.put PH.n at *
  simp [List.set_append, h]
theorem push_kill_same_n (ph : PH) (c : List PV) : ((ph.push c).kill ph.n).n = ph.n + 1 := by simp

/-- An open region, walked by a plan. -/
theorem w_drawn {id : Nat} {ops : Array Oper} {s : PSt} (κ : Plan) (N : Nat) (hm : X.P.follows .mixedOrders = true) (hok : (drawOk X.P ops N (κ.map (·.1)) && planOk X.P ops [] κ) = true) (hN : N ≤ s.tm.length) (h : vcP X ops Q κ s ph) : vc X ρ n0 (.region id ops true) Q s ph := by
  rw [w_draw]; exact pwp_draw κ N hm hok hN h

theorem bytesOf_map (s : List UInt8) : bytesOf (s.map fun b => PV.int .u8 b.toNat) = some s := bytesOf_bytesPV s
theorem bytesOf_nil : bytesOf [] = some [] := rfl
theorem bytesOf_cons (n : Int) (r : List PV) : bytesOf (.int .u8 n :: r) = (bytesOf r).map (UInt8.ofNat n.toNat :: ·) := rfl
theorem quo_nn (n : Int) (k : Int) (h : 0 ≤ n) (hk : 0 < k) : n.tdiv k = n / k := Int.tdiv_eq_ediv_of_nonneg h
theorem rem_nn (n : Int) (k : Int) (h : 0 ≤ n) : n.tmod k = n % k := Int.tmod_eq_emod_of_nonneg h
theorem u8_mod (n : Int) : u8 (n % 256) = u8 n := by unfold u8; rw [Int.emod_emod_of_dvd _ (by omega)]

/-! ### Cases -/
section cases
variable {a b : Code} {s : PSt}
theorem w_dec {p : Prop} [Decidable p] (h1 : p → vc X ρ n0 a Q s ph) (h2 : ¬p → vc X ρ n0 b Q s ph) : vcC X ρ n0 a b Q s ph (.bool (decide p)) :=
  ⟨fun h => h1 (by simpa using h), fun h => h2 (by simpa using h)⟩
theorem w_eqc {α : Type} [BEq α] [LawfulBEq α] {x y : α} (h1 : x = y → vc X ρ n0 a Q s ph) (h2 : x ≠ y → vc X ρ n0 b Q s ph) : vcC X ρ n0 a b Q s ph (.bool (x == y)) :=
  ⟨fun h => h1 (by simpa using h), fun h => h2 (by simpa using h)⟩
theorem w_neqc {α : Type} [BEq α] [LawfulBEq α] {x y : α} (h1 : x ≠ y → vc X ρ n0 a Q s ph) (h2 : x = y → vc X ρ n0 b Q s ph) : vcC X ρ n0 a b Q s ph (.bool (x != y)) :=
  ⟨fun h => h1 (by simpa using h), fun h => h2 (by simpa using h)⟩
theorem w_nneqc {α : Type} [BEq α] [LawfulBEq α] {x y : α} (h1 : x ≠ y → vc X ρ n0 a Q s ph) (h2 : x = y → vc X ρ n0 b Q s ph) : vcC X ρ n0 a b Q s ph (.bool (!(x == y))) :=
  ⟨fun h => h1 (by simpa using h), fun h => h2 (by simpa using h)⟩
end cases
end Pv
