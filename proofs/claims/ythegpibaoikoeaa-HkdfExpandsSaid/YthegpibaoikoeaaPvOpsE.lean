/- Part of the proof: the layer of pure values, or a walk through a function (PvOpsE). -/
import Derived.Test.YthegpibaoikoeaaPvOpsD
import Derived.Lib.Builder
import Derived.Lib.UnsafeStr
set_option linter.all false
namespace Pv
open Go Go.RowKit
variable {X : Ctx} {G : Ghost} {ph : PH} {w : World}

/-- Bits, as the machine has them. -/
def bitsP (op : BinOp) (k : IntKind) (x y : Int) : Int :=
  let a := BitVec.ofInt k.bits x
  let b := BitVec.ofInt k.bits y
  match op with
  | .and => k.wrap (a &&& b).toNat
  | .or => k.wrap (a ||| b).toNat
  | .xor => k.wrap (a ^^^ b).toNat
  | _ => k.wrap (a &&& ~~~b).toNat

def shlP (k : IntKind) (x y : Int) : Int := k.wrap (x * 2 ^ (min y.toNat k.bits))
def shrP (k : IntKind) (x y : Int) : Int := x.fdiv (2 ^ (min y.toNat k.bits))

def ltB : List UInt8 → List UInt8 → Bool := Op.bytesLess

def aggP (P : Program) (t : TypeId) : Bool := match kP P t with | some k => k.agg | none => false

/-- A binary operation. -/
def binP (P : Program) (op : BinOp) (t : TypeId) : PV → PV → Option PV
  | .int k a, .int k' b =>
    match op with
    | .shl => if 0 ≤ b then some (.int k (shlP k a b)) else none
    | .shr => if 0 ≤ b then some (.int k (shrP k a b)) else none
    | op => if k = k' then
        match op with
        | .add => some (.int k (k.wrap (a + b)))
        | .sub => some (.int k (k.wrap (a - b)))
        | .mul => some (.int k (k.wrap (a * b)))
        | .quo => if b = 0 then none else some (.int k (k.wrap (a.tdiv b)))
        | .rem => if b = 0 then none else some (.int k (a.tmod b))
        | .and => some (.int k (bitsP .and k a b))
        | .or => some (.int k (bitsP .or k a b))
        | .xor => some (.int k (bitsP .xor k a b))
        | .andNot => some (.int k (bitsP .andNot k a b))
        | .eql => some (.bool (a == b))
        | .neq => some (.bool (a != b))
        | .lss => some (.bool (decide (a < b)))
        | .leq => some (.bool (decide (a ≤ b)))
        | .gtr => some (.bool (decide (a > b)))
        | .geq => some (.bool (decide (a ≥ b)))
        | _ => none
      else none
  | .str a, .str b =>
    match op with
    | .add => if a.length + b.length ≤ 9223372036854775807 then some (.str (a ++ b)) else none
    | .eql => some (.bool (a == b))
    | .neq => some (.bool (!(a == b)))
    | .lss => some (.bool (ltB a b))
    | .gtr => some (.bool (!(ltB a b || a == b)))
    | .leq => some (.bool (ltB a b || a == b))
    | .geq => some (.bool (!ltB a b))
    | _ => none
  | .bool a, .bool b =>
    match op, P.underlying t with
    | .eql, some .bool => some (.bool (a == b))
    | .neq, some .bool => some (.bool (!(a == b)))
    | _, _ => none
  | .agg a, .agg b =>
    match op, flatL P 20 t with
    | .eql, some ks => if a.length = ks.length ∧ b.length = ks.length ∧ P.eqGuardType P.depth t = false ∧ aggP P t = true then (eqCells ks a b).map .bool else none
    | .neq, some ks => if a.length = ks.length ∧ b.length = ks.length ∧ P.eqGuardType P.depth t = false ∧ aggP P t = true then (eqCells ks a b).map fun r => .bool (!r) else none
    | _, _ => none
  | x, .nilptr =>
    match x, op, P.underlying t with
    | .ptr _ _, .eql, some (.pointer _) => some (.bool false)
    | .ptr _ _, .neq, some (.pointer _) => some (.bool true)
    | .fptr _, .eql, some (.pointer _) => some (.bool false)
    | .fptr _, .neq, some (.pointer _) => some (.bool true)
    | .nilptr, .eql, some (.pointer _) => some (.bool true)
    | .nilptr, .neq, some (.pointer _) => some (.bool false)
    | _, _, _ => none
  | x, .nilsl =>
    match x, op, P.underlying t with
    | .sl _ _ _ _ _, .eql, some (.slice _) => some (.bool false)
    | .sl _ _ _ _ _, .neq, some (.slice _) => some (.bool true)
    | .nilsl, .eql, some (.slice _) => some (.bool true)
    | .nilsl, .neq, some (.slice _) => some (.bool false)
    | _, _, _ => none
  | .ptr p o, .ptr q o' =>
    match op, P.underlying t with
    | .neq, some (.pointer te) => if p = q ∧ o = o' ∧ (P.info? te).isSome = true then some (.bool false) else none
    | _, _ => none
  | _, _ => none

theorem eqIn_ptr {P : Program} {t e : TypeId} (hu : P.underlying t = some (.pointer e)) (d : Nat) (a : Option Addr) : (Op.equalIn (d + 1) t (.pointer a) (.pointer none)).run P w = .ok a.isNone w := by
  simp only [Op.equalIn, Sem.run_bind, run_underlying_k hu, Result.andThen_ok]
  cases a <;> rfl
theorem eq_ptr {P : Program} {t e : TypeId} (hu : P.underlying t = some (.pointer e)) (a : Option Addr) : (Op.equal t (.pointer a) (.pointer none)).run P w = .ok a.isNone w := eqIn_ptr hu 9999 a
theorem eqIn_sl {P : Program} {t e : TypeId} (hu : P.underlying t = some (.slice e)) (d : Nat) (a : Option Addr) (n c : Nat) : (Op.equalIn (d + 1) t (.slice a n c) (.slice none 0 0)).run P w = .ok a.isNone w := by
  simp only [Op.equalIn, Sem.run_bind, run_underlying_k hu, Result.andThen_ok]
  cases a <;> rfl
theorem eq_sl {P : Program} {t e : TypeId} (hu : P.underlying t = some (.slice e)) (a : Option Addr) (n c : Nat) : (Op.equal t (.slice a n c) (.slice none 0 0)).run P w = .ok a.isNone w := eqIn_sl hu 9999 a n c
theorem bin_eql {P : Program} {t : TypeId} {x y : Value} {b : Bool} (hx : ∀ k n, x ≠ .int k n) (h2 : ∀ k n, x ≠ .float k n) (h3 : ∀ k n m, x ≠ .complex k n m) (h4 : ∀ s, x ≠ .string s) (h : (Op.equal t x y).run P w = .ok b w) : (binOp .eql t x y).run P w = .ok (.bool b) w := by
  cases x <;> first | exact absurd rfl (hx _ _) | exact absurd rfl (h2 _ _) | exact absurd rfl (h3 _ _ _) | exact absurd rfl (h4 _) | (cases y <;> simp only [binOp, Sem.run_bind, h, Result.andThen_ok, Sem.run_pure])
theorem bin_neq {P : Program} {t : TypeId} {x y : Value} {b : Bool} (hx : ∀ k n, x ≠ .int k n) (h2 : ∀ k n, x ≠ .float k n) (h3 : ∀ k n m, x ≠ .complex k n m) (h4 : ∀ s, x ≠ .string s) (h : (Op.equal t x y).run P w = .ok b w) : (binOp .neq t x y).run P w = .ok (.bool (!b)) w := by
  cases x <;> first | exact absurd rfl (hx _ _) | exact absurd rfl (h2 _ _) | exact absurd rfl (h3 _ _ _) | exact absurd rfl (h4 _) | (cases y <;> simp only [binOp, Sem.run_bind, h, Result.andThen_ok, Sem.run_pure])

theorem guard_skip {P : Program} {op : BinOp} {t : TypeId} {xo yo : Operand} {a b : Value} (h : (∀ cs, a ≠ .agg cs) ∧ a ≠ .nilIface ∨ op ≠ .eql ∧ op ≠ .neq) : (eqGuard op t xo yo a b).run P w = .ok () w := by
  unfold eqGuard
  rcases h with ⟨h1, h2⟩ | ⟨h1, h2⟩
  · cases op <;> (try simp; done) <;> cases a <;> first | exact absurd rfl (h1 _) | exact absurd rfl h2 | (cases b <;> simp)
  · cases op <;> first | exact absurd rfl h1 | exact absurd rfl h2 | simp

theorem guard_agg {P : Program} {op : BinOp} {t : TypeId} {xo yo : Operand} {a b : Array Value} (h : P.eqGuardType P.depth t = false) : (eqGuard op t xo yo (.agg a) (.agg b)).run P w = .ok () w := by
  unfold eqGuard
  cases op <;> simp [h]

theorem run_intop {P : Program} {op : BinOp} {t : TypeId} {k k' : IntKind} {a b : Int} {r : PV} (h : binP P op t (.int k a) (.int k' b) = some r) : ∃ v, (binOp op t (.int k a) (.int k' b)).run P w = .ok v w ∧ RV G r v := by
  cases op
  case shl =>
    simp only [binP] at h
    split at h
    · rename_i h0; cases h
      exact ⟨_, by simp [binOp, Op.shift, show ¬ b < 0 by omega, shlP], .int _ _⟩
    · cases h
  case shr =>
    simp only [binP] at h
    split at h
    · rename_i h0; cases h
      exact ⟨_, by simp [binOp, Op.shift, show ¬ b < 0 by omega, shrP], .int _ _⟩
    · cases h
  case quo =>
    simp only [binP] at h
    split at h
    · rename_i hk; subst hk
      split at h
      · cases h
      · rename_i h0; cases h
        exact ⟨_, by simp [binOp, Op.intDiv, h0], .int _ _⟩
    · cases h
  case rem =>
    simp only [binP] at h
    split at h
    · rename_i hk; subst hk
      split at h
      · cases h
      · rename_i h0; cases h
        exact ⟨_, by simp [binOp, Op.intDiv, h0], .int _ _⟩
    · cases h
  all_goals
    simp only [binP] at h
    split at h
    · rename_i hk; subst hk
      cases h
      first
        | (refine ⟨_, ?_, .int _ _⟩; simp only [binOp, ne_eq, not_true_eq_false, if_false]; rfl)
        | (refine ⟨_, ?_, .bool _⟩; simp only [binOp, ne_eq, not_true_eq_false, if_false]; rfl)
    · cases h

theorem run_strop {P : Program} {op : BinOp} {t : TypeId} {a b : List UInt8} {x y : Value} {r : PV} (hx : RV G (.str a) x) (hy : RV G (.str b) y) (h : binP P op t (.str a) (.str b) = some r) :
    ∃ v, (binOp op t x y).run P w = .ok v w ∧ RV G r v := by
  obtain ⟨s, rfl, hs⟩ := hx.str_inv
  obtain ⟨u, rfl, hu⟩ := hy.str_inv
  have e1 : s.toList = a := by rw [ByteArray.toList_eq, hs]
  have e2 : u.toList = b := by rw [ByteArray.toList_eq, hu]
  have z1 : s.size = a.length := by rw [← hs]; rfl
  have z2 : u.size = b.length := by rw [← hu]; rfl
  cases op <;> simp only [binP] at h <;> (try cases h)
  case add =>
    split at h
    · rename_i hle; cases h
      refine ⟨.string (s ++ u), ?_, .str _ _ (by rw [← hs, ← hu]; simp)⟩
      have : ¬ (((s.size + u.size : Nat) : Int) > IntKind.i64.max) := by
        rw [z1, z2]; show ¬ (((a.length + b.length : Nat) : Int) > 9223372036854775807); omega
      show (Op.stringOp .add s u).run P w = _
      simp only [Op.stringOp]
      rw [if_neg this]; rfl
    · cases h
  all_goals
    refine ⟨_, ?_, .bool _⟩
    subst e1; subst e2
    first
      | (show (Op.stringOp .eql s u).run P w = _; rfl)
      | (show (Op.stringOp .neq s u).run P w = _; rfl)
      | (show (Op.stringOp .lss s u).run P w = _; rfl)
      | (show (Op.stringOp .leq s u).run P w = _; rfl)
      | (show (Op.stringOp .gtr s u).run P w = _; rfl)
      | (show (Op.stringOp .geq s u).run P w = _; rfl)

theorem run_binP {P : Program} {op : BinOp} {t : TypeId} {xo yo : Operand} {p q r : PV} {x y : Value} (hx : RV G p x) (hy : RV G q y) (h : binP P op t p q = some r) :
    ∃ v, (do eqGuard op t xo yo x y; binOp op t x y : Sem Value).run P w = .ok v w ∧ RV G r v := by
  have key : ∀ {A : Prop} (hg : (eqGuard op t xo yo x y).run P w = .ok () w), (∃ v, (binOp op t x y).run P w = .ok v w ∧ RV G r v) → ∃ v, (do eqGuard op t xo yo x y; binOp op t x y : Sem Value).run P w = .ok v w ∧ RV G r v := by
    intro _ hg ⟨v, e, hv⟩
    exact ⟨v, by rw [Sem.run_bind, hg, Result.andThen_ok, e], hv⟩
  unfold binP at h
  split at h
  · obtain rfl := hx.int_inv; obtain rfl := hy.int_inv
    exact key (A := True) (guard_skip (.inl ⟨by simp, by simp⟩)) (run_intop (P := P) (w := w) (G := G) (by unfold binP; exact h))
  · obtain ⟨s, rfl, -⟩ := hx.str_inv
    exact key (A := True) (guard_skip (.inl ⟨by simp, by simp⟩)) (run_strop hx hy (by unfold binP; exact h))
  · obtain rfl := hx.bool_inv; obtain rfl := hy.bool_inv
    refine key (A := True) (guard_skip (.inl ⟨by simp, by simp⟩)) ?_
    split at h
    · rename_i hu; cases h
      exact ⟨_, by simp only [binOp, Op.equal, Op.maxDepth, Sem.run_bind, Go.run_equalIn_bool w 9999 t _ _ hu]; rfl, .bool _⟩
    · rename_i hu; cases h
      exact ⟨_, by simp only [binOp, Op.equal, Op.maxDepth, Sem.run_bind, Go.run_equalIn_bool w 9999 t _ _ hu]; rfl, .bool _⟩
    · cases h
  · rename_i a b
    cases hx with
    | agg _ vs hx =>
      cases hy with
      | agg _ us hy =>
        split at h
        · rename_i ks hf
          split at h
          · rename_i hl
            refine key (A := True) (guard_agg hl.2.2.1) ?_
            simp only [Option.map_eq_some_iff] at h
            obtain ⟨r', he, rfl⟩ := h
            obtain ⟨k, hk, -⟩ := flat_kind hf
            have hagg : k.agg = true := by have := hl.2.2.2; unfold aggP at this; rw [hk] at this; exact this
            have := flat_eq (w := w) 20 t ks k a b vs us r' 10000 hf hk (by omega) hx hy he hl.1 hl.2.1
            rw [hagg] at this
            exact ⟨_, by simp only [binOp, Op.equal, Op.maxDepth, Sem.run_bind]; rw [show wrapV true vs = .agg vs.toArray from rfl, show wrapV true us = .agg us.toArray from rfl] at this; rw [this]; rfl, .bool _⟩
          · cases h
        · rename_i ks hf
          split at h
          · rename_i hl
            refine key (A := True) (guard_agg hl.2.2.1) ?_
            simp only [Option.map_eq_some_iff] at h
            obtain ⟨r', he, rfl⟩ := h
            obtain ⟨k, hk, -⟩ := flat_kind hf
            have hagg : k.agg = true := by have := hl.2.2.2; unfold aggP at this; rw [hk] at this; exact this
            have := flat_eq (w := w) 20 t ks k a b vs us r' 10000 hf hk (by omega) hx hy he hl.1 hl.2.1
            rw [hagg] at this
            exact ⟨_, by simp only [binOp, Op.equal, Op.maxDepth, Sem.run_bind]; rw [show wrapV true vs = .agg vs.toArray from rfl, show wrapV true us = .agg us.toArray from rfl] at this; rw [this]; rfl, .bool _⟩
          · cases h
        · cases h
  · cases hy
    split at h <;> rename_i hu <;> (try cases h)
    all_goals
      cases hx
      refine key (A := True) (guard_skip (.inl ⟨by simp, by simp⟩)) ⟨_, ?_, .bool _⟩
      first
        | exact bin_eql (by simp) (by simp) (by simp) (by simp) (eq_ptr hu _)
        | exact bin_neq (by simp) (by simp) (by simp) (by simp) (eq_ptr hu _)
  · cases hy
    split at h <;> rename_i hu <;> (try cases h)
    all_goals
      cases hx
      refine key (A := True) (guard_skip (.inl ⟨by simp, by simp⟩)) ⟨_, ?_, .bool _⟩
      first
        | exact bin_eql (by simp) (by simp) (by simp) (by simp) (eq_sl hu _ _ _)
        | exact bin_neq (by simp) (by simp) (by simp) (by simp) (eq_sl hu _ _ _)
  · split at h
    · rename_i te hu
      split at h
      · rename_i hc
        cases h
        obtain ⟨rfl, rfl, hi⟩ := hc
        obtain ⟨j, hj⟩ := Option.isSome_iff_exists.1 hi
        cases hx with
        | ptr _ _ L hL =>
          cases hy with
          | ptr _ _ M hM =>
            rw [hL] at hM; cases hM
            exact key (A := True) (guard_skip (.inl ⟨by simp, by simp⟩)) ⟨_, Go.Lib.run_neq_ptr_same w _ hu hj, .bool _⟩
      · cases h
    · cases h
  · cases h

end Pv
