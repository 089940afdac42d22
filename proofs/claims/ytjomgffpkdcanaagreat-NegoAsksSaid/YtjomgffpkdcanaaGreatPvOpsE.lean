/- Part of the proof: the layer of pure values, or walks through functions (PvOpsE, PvOpsF). -/
import Derived.Test.YtjomgffpkdcanaaGreatPvOpsD
import Derived.Lib.Builder
import Derived.Lib.UnsafeStr
set_option linter.all false
namespace Pv
open Go Go.RowKit
variable {X : Ctx} {G : Ghost} {ph : PH} {w : World}

/-- Bits, as the machine has them. -/
def bitsP (op : BinOp) (k : IntKind) (x y : Int) : Int :=
  let a := BitVec.ofInt k.bits x
  let b := BitVec.ofInt k.bits y
  match op with
  | .and => k.wrap (a &&& b).toNat
  | .or => k.wrap (a ||| b).toNat
  | .xor => k.wrap (a ^^^ b).toNat
  | _ => k.wrap (a &&& ~~~b).toNat

def shlP (k : IntKind) (x y : Int) : Int := k.wrap (x * 2 ^ (min y.toNat k.bits))
def shrP (k : IntKind) (x y : Int) : Int := x.fdiv (2 ^ (min y.toNat k.bits))

def ltB : List UInt8 → List UInt8 → Bool := Op.bytesLess

def aggP (P : Program) (t : TypeId) : Bool := match kP P t with | some k => k.agg | none => false

/-- A binary operation. -/
def binP (P : Program) (op : BinOp) (t : TypeId) : PV → PV → Option PV
  | .int k a, .int k' b =>
    match op with
    | .shl => if 0 ≤ b then some (.int k (shlP k a b)) else none
    | .shr => if 0 ≤ b then some (.int k (shrP k a b)) else none
    | op => if k = k' then
        match op with
        | .add => some (.int k (k.wrap (a + b)))
        | .sub => some (.int k (k.wrap (a - b)))
        | .mul => some (.int k (k.wrap (a * b)))
        | .quo => if b = 0 then none else some (.int k (k.wrap (a.tdiv b)))
        | .rem => if b = 0 then none else some (.int k (a.tmod b))
        | .and => some (.int k (bitsP .and k a b))
        | .or => some (.int k (bitsP .or k a b))
        | .xor => some (.int k (bitsP .xor k a b))
        | .andNot => some (.int k (bitsP .andNot k a b))
        | .eql => some (.bool (a == b))
        | .neq => some (.bool (a != b))
        | .lss => some (.bool (decide (a < b)))
        | .leq => some (.bool (decide (a ≤ b)))
        | .gtr => some (.bool (decide (a > b)))
        | .geq => some (.bool (decide (a ≥ b)))
        | _ => none
      else none
  | .str a, .str b =>
    match op with
    | .add => if a.length + b.length ≤ 9223372036854775807 then some (.str (a ++ b)) else none
    | .eql => some (.bool (a == b))
    | .neq => some (.bool (!(a == b)))
    | .lss => some (.bool (ltB a b))
    | .gtr => some (.bool (!(ltB a b || a == b)))
    | .leq => some (.bool (ltB a b || a == b))
    | .geq => some (.bool (!ltB a b))
    | _ => none
  | .bool a, .bool b =>
    match op, P.underlying t with
    | .eql, some .bool => some (.bool (a == b))
    | .neq, some .bool => some (.bool (!(a == b)))
    | _, _ => none
  | .agg a, .agg b =>
    match op, flatL P 20 t with
    | .eql, some ks => if a.length = ks.length ∧ b.length = ks.length ∧ P.eqGuardType P.depth t = false ∧ aggP P t = true then (eqCells ks a b).map .bool else none
    | .neq, some ks => if a.length = ks.length ∧ b.length = ks.length ∧ P.eqGuardType P.depth t = false ∧ aggP P t = true then (eqCells ks a b).map fun r => .bool (!r) else none
    | _, _ => none
  | x, .nilptr =>
    match x, op, P.underlying t with
    | .ptr _ _, .eql, some (.pointer _) => some (.bool false)
    | .ptr _ _, .neq, some (.pointer _) => some (.bool true)
    | .fptr _, .eql, some (.pointer _) => some (.bool false)
    | .fptr _, .neq, some (.pointer _) => some (.bool true)
    | .nilptr, .eql, some (.pointer _) => some (.bool true)
    | .nilptr, .neq, some (.pointer _) => some (.bool false)
    | _, _, _ => none
  | x, .nilsl =>
    match x, op, P.underlying t with
    | .sl _ _ _ _ _, .eql, some (.slice _) => some (.bool false)
    | .sl _ _ _ _ _, .neq, some (.slice _) => some (.bool true)
    | .fsl _ len _, .eql, some (.slice _) => if 0 < len then some (.bool false) else none
    | .fsl _ len _, .neq, some (.slice _) => if 0 < len then some (.bool true) else none
    | .nilsl, .eql, some (.slice _) => some (.bool true)
    | .nilsl, .neq, some (.slice _) => some (.bool false)
    | _, _, _ => none
  | .ptr p o, .ptr q o' =>
    match op, P.underlying t with
    | .neq, some (.pointer te) => if p = q ∧ o = o' ∧ (P.info? te).isSome = true then some (.bool false) else none
    | _, _ => none
  | _, _ => none

theorem eqIn_ptr {P : Program} {t e : TypeId} (hu : P.underlying t = some (.pointer e)) (d : Nat) (a : Option Addr) : (Op.equalIn (d + 1) t (.pointer a) (.pointer none)).run P w = .ok a.isNone w := by
  simp only [Op.equalIn, Sem.run_bind, run_underlying_k hu, Result.andThen_ok]
  cases a <;> rfl
theorem eq_ptr {P : Program} {t e : TypeId} (hu : P.underlying t = some (.pointer e)) (a : Option Addr) : (Op.equal t (.pointer a) (.pointer none)).run P w = .ok a.isNone w := eqIn_ptr hu 9999 a
theorem eqIn_sl {P : Program} {t e : TypeId} (hu : P.underlying t = some (.slice e)) (d : Nat) (a : Option Addr) (n c : Nat) : (Op.equalIn (d + 1) t (.slice a n c) (.slice none 0 0)).run P w = .ok a.isNone w := by
  simp only [Op.equalIn, Sem.run_bind, run_underlying_k hu, Result.andThen_ok]
  cases a <;> rfl
theorem eq_sl {P : Program} {t e : TypeId} (hu : P.underlying t = some (.slice e)) (a : Option Addr) (n c : Nat) : (Op.equal t (.slice a n c) (.slice none 0 0)).run P w = .ok a.isNone w := eqIn_sl hu 9999 a n c
theorem bin_eql {P : Program} {t : TypeId} {x y : Value} {b : Bool} (hx : ∀ k n, x ≠ .int k n) (h2 : ∀ k n, x ≠ .float k n) (h3 : ∀ k n m, x ≠ .complex k n m) (h4 : ∀ s, x ≠ .string s) (h : (Op.equal t x y).run P w = .ok b w) : (binOp .eql t x y).run P w = .ok (.bool b) w := by
  cases x <;> first | exact absurd rfl (hx _ _) | exact absurd rfl (h2 _ _) | exact absurd rfl (h3 _ _ _) | exact absurd rfl (h4 _) | (cases y <;> simp only [binOp, Sem.run_bind, h, Result.andThen_ok, Sem.run_pure])
theorem bin_neq {P : Program} {t : TypeId} {x y : Value} {b : Bool} (hx : ∀ k n, x ≠ .int k n) (h2 : ∀ k n, x ≠ .float k n) (h3 : ∀ k n m, x ≠ .complex k n m) (h4 : ∀ s, x ≠ .string s) (h : (Op.equal t x y).run P w = .ok b w) : (binOp .neq t x y).run P w = .ok (.bool (!b)) w := by
  cases x <;> first | exact absurd rfl (hx _ _) | exact absurd rfl (h2 _ _) | exact absurd rfl (h3 _ _ _) | exact absurd rfl (h4 _) | (cases y <;> simp only [binOp, Sem.run_bind, h, Result.andThen_ok, Sem.run_pure])

theorem guard_skip {P : Program} {op : BinOp} {t : TypeId} {xo yo : Operand} {a b : Value} (h : (∀ cs, a ≠ .agg cs) ∧ a ≠ .nilIface ∨ op ≠ .eql ∧ op ≠ .neq) : (eqGuard op t xo yo a b).run P w = .ok () w := by
  unfold eqGuard
  rcases h with ⟨h1, h2⟩ | ⟨h1, h2⟩
  · cases op <;> (try simp; done) <;> cases a <;> first | exact absurd rfl (h1 _) | exact absurd rfl h2 | (cases b <;> simp)
  · cases op <;> first | exact absurd rfl h1 | exact absurd rfl h2 | simp

theorem guard_agg {P : Program} {op : BinOp} {t : TypeId} {xo yo : Operand} {a b : Array Value} (h : P.eqGuardType P.depth t = false) : (eqGuard op t xo yo (.agg a) (.agg b)).run P w = .ok () w := by
  unfold eqGuard
  cases op <;> simp [h]

theorem run_intop {P : Program} {op : BinOp} {t : TypeId} {k k' : IntKind} {a b : Int} {r : PV} (h : binP P op t (.int k a) (.int k' b) = some r) : ∃ v, (binOp op t (.int k a) (.int k' b)).run P w = .ok v w ∧ RV G r v := by
  cases op
  case shl =>
    simp only [binP] at h
    split at h
    · rename_i h0; cases h
      exact ⟨_, by simp [binOp, Op.shift, show ¬ b < 0 by omega, shlP], .int _ _⟩
    · cases h
  case shr =>
    simp only [binP] at h
    split at h
    · rename_i h0; cases h
      exact ⟨_, by simp [binOp, Op.shift, show ¬ b < 0 by omega, shrP], .int _ _⟩
    · cases h
  case quo =>
    simp only [binP] at h
    split at h
    · rename_i hk; subst hk
      split at h
      · cases h
      · rename_i h0; cases h
        exact ⟨_, by simp [binOp, Op.intDiv, h0], .int _ _⟩
    · cases h
  case rem =>
    simp only [binP] at h
    split at h
    · rename_i hk; subst hk
      split at h
      · cases h
      · rename_i h0; cases h
        exact ⟨_, by simp [binOp, Op.intDiv, h0], .int _ _⟩
    · cases h
  all_goals
    simp only [binP] at h
    split at h
    · rename_i hk; subst hk
      cases h
      first
        | (refine ⟨_, ?_, .int _ _⟩; simp only [binOp, ne_eq, not_true_eq_false, if_false]; rfl)
        | (refine ⟨_, ?_, .bool _⟩; simp only [binOp, ne_eq, not_true_eq_false, if_false]; rfl)
    · cases h

theorem run_strop {P : Program} {op : BinOp} {t : TypeId} {a b : List UInt8} {x y : Value} {r : PV} (hx : RV G (.str a) x) (hy : RV G (.str b) y) (h : binP P op t (.str a) (.str b) = some r) :
    ∃ v, (binOp op t x y).run P w = .ok v w ∧ RV G r v := by
  obtain ⟨s, rfl, hs⟩ := hx.str_inv
  obtain ⟨u, rfl, hu⟩ := hy.str_inv
  have e1 : s.toList = a := by rw [ByteArray.toList_eq, hs]
  have e2 : u.toList = b := by rw [ByteArray.toList_eq, hu]
  have z1 : s.size = a.length := by rw [← hs]; rfl
  have z2 : u.size = b.length := by rw [← hu]; rfl
  cases op <;> simp only [binP] at h <;> (try cases h)
  case add =>
    split at h
    · rename_i hle; cases h
      refine ⟨.string (s ++ u), ?_, .str _ _ (by rw [← hs, ← hu]; simp)⟩
      have : ¬ (((s.size + u.size : Nat) : Int) > IntKind.i64.max) := by
        rw [z1, z2]; show ¬ (((a.length + b.length : Nat) : Int) > 9223372036854775807); omega
      show (Op.stringOp .add s u).run P w = _
      simp only [Op.stringOp]
      rw [if_neg this]; rfl
    · cases h
  all_goals
    refine ⟨_, ?_, .bool _⟩
    subst e1; subst e2
    first
      | (show (Op.stringOp .eql s u).run P w = _; rfl)
      | (show (Op.stringOp .neq s u).run P w = _; rfl)
      | (show (Op.stringOp .lss s u).run P w = _; rfl)
      | (show (Op.stringOp .leq s u).run P w = _; rfl)
      | (show (Op.stringOp .gtr s u).run P w = _; rfl)
      | (show (Op.stringOp .geq s u).run P w = _; rfl)

theorem run_binP {P : Program} {op : BinOp} {t : TypeId} {xo yo : Operand} {p q r : PV} {x y : Value} (hx : RV G p x) (hy : RV G q y) (h : binP P op t p q = some r) :
    ∃ v, (do eqGuard op t xo yo x y; binOp op t x y : Sem Value).run P w = .ok v w ∧ RV G r v := by
  have key : ∀ {A : Prop} (hg : (eqGuard op t xo yo x y).run P w = .ok () w), (∃ v, (binOp op t x y).run P w = .ok v w ∧ RV G r v) → ∃ v, (do eqGuard op t xo yo x y; binOp op t x y : Sem Value).run P w = .ok v w ∧ RV G r v := by
    intro _ hg ⟨v, e, hv⟩
    exact ⟨v, by rw [Sem.run_bind, hg, Result.andThen_ok, e], hv⟩
  unfold binP at h
  split at h
  · obtain rfl := hx.int_inv; obtain rfl := hy.int_inv
    exact key (A := True) (guard_skip (.inl ⟨by simp, by simp⟩)) (run_intop (P := P) (w := w) (G := G) (by unfold binP; exact h))
  · obtain ⟨s, rfl, -⟩ := hx.str_inv
    exact key (A := True) (guard_skip (.inl ⟨by simp, by simp⟩)) (run_strop hx hy (by unfold binP; exact h))
  · obtain rfl := hx.bool_inv; obtain rfl := hy.bool_inv
    refine key (A := True) (guard_skip (.inl ⟨by simp, by simp⟩)) ?_
    split at h
    · rename_i hu; cases h
      exact ⟨_, by simp only [binOp, Op.equal, Op.maxDepth, Sem.run_bind, Go.run_equalIn_bool w 9999 t _ _ hu]; rfl, .bool _⟩
    · rename_i hu; cases h
      exact ⟨_, by simp only [binOp, Op.equal, Op.maxDepth, Sem.run_bind, Go.run_equalIn_bool w 9999 t _ _ hu]; rfl, .bool _⟩
    · cases h
  · rename_i a b
    cases hx with
    | agg _ vs hx =>
      cases hy with
      | agg _ us hy =>
        split at h
        · rename_i ks hf
          split at h
          · rename_i hl
            refine key (A := True) (guard_agg hl.2.2.1) ?_
            simp only [Option.map_eq_some_iff] at h
            obtain ⟨r', he, rfl⟩ := h
            obtain ⟨k, hk, -⟩ := flat_kind hf
            have hagg : k.agg = true := by have := hl.2.2.2; unfold aggP at this; rw [hk] at this; exact this
            have := flat_eq (w := w) 20 t ks k a b vs us r' 10000 hf hk (by omega) hx hy he hl.1 hl.2.1
            rw [hagg] at this
            exact ⟨_, by simp only [binOp, Op.equal, Op.maxDepth, Sem.run_bind]; rw [show wrapV true vs = .agg vs.toArray from rfl, show wrapV true us = .agg us.toArray from rfl] at this; rw [this]; rfl, .bool _⟩
          · cases h
        · rename_i ks hf
          split at h
          · rename_i hl
            refine key (A := True) (guard_agg hl.2.2.1) ?_
            simp only [Option.map_eq_some_iff] at h
            obtain ⟨r', he, rfl⟩ := h
            obtain ⟨k, hk, -⟩ := flat_kind hf
            have hagg : k.agg = true := by have := hl.2.2.2; unfold aggP at this; rw [hk] at this; exact this
            have := flat_eq (w := w) 20 t ks k a b vs us r' 10000 hf hk (by omega) hx hy he hl.1 hl.2.1
            rw [hagg] at this
            exact ⟨_, by simp only [binOp, Op.equal, Op.maxDepth, Sem.run_bind]; rw [show wrapV true vs = .agg vs.toArray from rfl, show wrapV true us = .agg us.toArray from rfl] at this; rw [this]; rfl, .bool _⟩
          · cases h
        · cases h
  · cases hy
    split at h <;> rename_i hu <;> (try cases h)
    all_goals
      cases hx
      refine key (A := True) (guard_skip (.inl ⟨by simp, by simp⟩)) ⟨_, ?_, .bool _⟩
      first
        | exact bin_eql (by simp) (by simp) (by simp) (by simp) (eq_ptr hu _)
        | exact bin_neq (by simp) (by simp) (by simp) (by simp) (eq_ptr hu _)
  · cases hy
    split at h <;> rename_i hu
    case h_3 =>
      split at h
      · rename_i h0
        cases h
        cases hx with
        | fsl _ _ _ _ _ _ _ _ _ _ _ => exact key (A := True) (guard_skip (.inl ⟨by simp, by simp⟩)) ⟨_, bin_eql (by simp) (by simp) (by simp) (by simp) (eq_sl hu _ _ _), .bool _⟩
        | fslnil => exact absurd h0 (by simp)
      · cases h
    case h_4 =>
      split at h
      · rename_i h0
        cases h
        cases hx with
        | fsl _ _ _ _ _ _ _ _ _ _ _ => exact key (A := True) (guard_skip (.inl ⟨by simp, by simp⟩)) ⟨_, bin_neq (by simp) (by simp) (by simp) (by simp) (eq_sl hu _ _ _), .bool _⟩
        | fslnil => exact absurd h0 (by simp)
      · cases h
    all_goals (try cases h)
    all_goals
      cases hx
      refine key (A := True) (guard_skip (.inl ⟨by simp, by simp⟩)) ⟨_, ?_, .bool _⟩
      first
        | exact bin_eql (by simp) (by simp) (by simp) (by simp) (eq_sl hu _ _ _)
        | exact bin_neq (by simp) (by simp) (by simp) (by simp) (eq_sl hu _ _ _)
  · split at h
    · rename_i te hu
      split at h
      · rename_i hc
        cases h
        obtain ⟨rfl, rfl, hi⟩ := hc
        obtain ⟨j, hj⟩ := Option.isSome_iff_exists.1 hi
        cases hx with
        | ptr _ _ L hL =>
          cases hy with
          | ptr _ _ M hM =>
            rw [hL] at hM; cases hM
            exact key (A := True) (guard_skip (.inl ⟨by simp, by simp⟩)) ⟨_, Go.Lib.run_neq_ptr_same w _ hu hj, .bool _⟩
      · cases h
    · cases h
  · cases h

end Pv

namespace Pv
open Go Go.RowKit
variable {X : Ctx} {G : Ghost} {ph : PH} {w : World}

/-! ### Conversions -/
def bytesOf : List PV → Option (List UInt8)
  | [] => some []
  | .int .u8 n :: r => (bytesOf r).map (UInt8.ofNat n.toNat :: ·)
  | _ :: _ => none

theorem bytesOf_ints : ∀ {cells : List PV} {s : List UInt8}, bytesOf cells = some s → ∃ ns : List Int, cells = ns.map (PV.int .u8) ∧ s = ns.map fun n => UInt8.ofNat n.toNat
  | [], s, h => ⟨[], rfl, by cases h; rfl⟩
  | c :: r, s, h => by
    unfold bytesOf at h
    split at h
    · cases h; exact ⟨[], by simp_all⟩
    · rename_i n r' heq
      cases heq
      simp only [Option.map_eq_some_iff] at h
      obtain ⟨t, ht, rfl⟩ := h
      obtain ⟨ns, rfl, rfl⟩ := bytesOf_ints ht
      exact ⟨n :: ns, rfl, rfl⟩
    · cases h

theorem bytesOf_bytesPV (s : List UInt8) : bytesOf (bytesPV s) = some s := by
  induction s with
  | nil => rfl
  | cons b s ih =>
    show bytesOf (.int .u8 b.toNat :: bytesPV s) = _
    simp [bytesOf, ih]

theorem RVs.ints : ∀ {ns : List Int} {vs : List Value}, RVs G (ns.map (PV.int .u8)) vs → vs = ns.map (Value.int .u8)
  | [], _, .nil => rfl
  | n :: ns, _, .cons _ _ _ _ h hs => by rw [h.int_inv, hs.ints]; rfl

theorem foldl_push (ns : List Int) : ∀ s : ByteArray, (ns.foldl (fun (r : ByteArray) (n : Int) => r.push (UInt8.ofNat n.toNat)) s).data.toList = s.data.toList ++ ns.map fun n => UInt8.ofNat n.toNat := by
  induction ns with
  | nil => intro s; simp
  | cons n ns ih => intro s; rw [List.foldl_cons, ih]; simp

theorem run_bytesStr {P : Program} {a : Addr} {len cap : Nat} {cells : List PV} {vals : List Value} {s : List UInt8} (hl : (loadCells a len).run P w = .ok vals.toArray w) (hr : RVs G cells vals) (hs : bytesOf cells = some s) :
    ∃ v, (Conv.bytesToString (.slice (some a) len cap)).run P w = .ok v w ∧ RV G (.str s) v := by
  obtain ⟨ns, rfl, rfl⟩ := bytesOf_ints hs
  have hv := hr.ints
  subst hv
  exact ⟨_, run_bytesToString w a len cap ns hl, .str _ _ (by rw [foldl_push]; simp)⟩

theorem run_conv_bs {P : Program} {s d e : TypeId} (hs : kSl P s = some e) (he : P.underlying e = some (.int .u8)) (hd : P.underlying d = some .string) (a : Option Addr) (l c : Nat) :
    (convert s d (.slice a l c)).run P w = (Conv.bytesToString (.slice a l c)).run P w := by
  simp only [convert, Sem.run_bind, run_underlying_k (kSl_some hs), run_underlying_k hd, Result.andThen_ok, run_underlying_k he]

theorem gives_str_sl (h : Rel X G ph w) {s d e : TypeId} {p off len : Nat} {cap : Option Nat} {cells : List PV} {x : Value} {r : List UInt8} (hx : RV G (.sl p off 1 len cap) x) (hs : kSl X.P s = some e) (he : X.P.underlying e = some (.int .u8)) (hd : X.P.underlying d = some .string)
    (hp : ph.get p = some cells) (hle : off + len ≤ cells.length) (hr : bytesOf (seg cells off len) = some r) : Gives X G ((convert s d x).run X.P w) (.str r) ph := by
  have := src_sl (X := X) hx hp (by omega) w h
  obtain ⟨vals, -, e2, rv⟩ := this
  cases hx with
  | sl _ _ _ _ _ L a rcap hL h1 h2 h3 h4 =>
    simp only [Builtin.firstCells, Nat.mul_one] at e2 rv
    obtain ⟨v, e3, hv⟩ := run_bytesStr (cap := rcap) e2 rv hr
    exact .pure h (by rw [run_conv_bs hs he hd, e3]) hv

theorem gives_str_fsl (h : Rel X G ph w) {s d e : TypeId} {len : Nat} {cells : List PV} {x : Value} {r : List UInt8} (hx : RV G (.fsl 1 len cells) x) (hs : kSl X.P s = some e) (he : X.P.underlying e = some (.int .u8)) (hd : X.P.underlying d = some .string)
    (hr : bytesOf cells = some r) : Gives X G ((convert s d x).run X.P w) (.str r) ph := by
  obtain ⟨vals, -, e2, rv⟩ := src_fsl (X := X) (ph := ph) hx w h
  cases hx with
  | fsl _ _ _ vals' a rcap hr' h1 h2 h3 hf =>
    simp only [Builtin.firstCells, Nat.mul_one] at e2
    obtain ⟨v, e3, hv⟩ := run_bytesStr (cap := rcap) e2 rv hr
    exact .pure h (by rw [run_conv_bs hs he hd, e3]) hv
  | fslnil _ =>
    have : r = [] := by simpa [bytesOf] using hr.symm
    subst this
    exact .pure h (by rw [run_conv_bs hs he hd]; simp [Conv.bytesToString]; rfl) (.str _ _ rfl)

theorem gives_str_nil (h : Rel X G ph w) {s d e : TypeId} {x : Value} (hx : RV G .nilsl x) (hs : kSl X.P s = some e) (he : X.P.underlying e = some (.int .u8)) (hd : X.P.underlying d = some .string) : Gives X G ((convert s d x).run X.P w) (.str []) ph := by
  cases hx
  exact .pure h (by rw [run_conv_bs hs he hd]; simp [Conv.bytesToString]; rfl) (.str _ _ rfl)

theorem gives_bytes (h : Rel X G ph w) {s d e : TypeId} {r : List UInt8} {x : Value} (hx : RV G (.str r) x) (hs : X.P.underlying s = some .string) (hd : kSl X.P d = some e) (he : X.P.underlying e = some (.int .u8)) :
    Gives X G ((convert s d x).run X.P w) (.sl ph.n 0 1 r.length none) (ph.push (bytesPV r)) := by
  obtain ⟨t, rfl, ht⟩ := hx.str_inv
  have hsz : t.size = r.length := by rw [← ht]; rfl
  have hd' := h.drew
  let cap := t.size + w.tape w.drawn (.appendCap t.size 0 e) % (2 ^ 63 - t.size)
  let elems : Array Value := t.data.map fun b => .int .u8 b.toNat
  let cs : Array Value := elems ++ Array.replicate (cap - t.size) (.int .u8 0)
  have hrv : RVs G (bytesPV r) elems.toList := by
    refine .of_get (by simp [bytesPV, elems, ← ht]) fun j p v h1 h2 => ?_
    simp only [elems, bytesPV, Array.toList_map, List.getElem?_map, Option.map_eq_some_iff] at h1 h2
    obtain ⟨c, hc, rfl⟩ := h1
    obtain ⟨c', hc', rfl⟩ := h2
    rw [ht, hc] at hc'; cases hc'; exact .int _ _
  have hok : (bytesPV r).all cellOk = true := by simp [bytesPV, cellOk]
  have hpush := hd'.push (e := e) (cs := cs) (fz := (cs.size, cs.size + 1)) (extra := (Array.replicate (cap - t.size) (Value.int .u8 0)).toList) hrv (hrv.ones hok) (by simp [cs]) (.inl (Nat.le_refl _))
  have hcsz : cs.size = cap := by
    have : t.data.size = t.size := rfl
    simp only [cs, elems, Array.size_append, Array.size_map, Array.size_replicate, this]
    show t.size + (cap - t.size) = cap
    have : t.size ≤ cap := Nat.le_add_right _ _
    omega
  refine ⟨.slice (some ⟨w.heap.size, 0, none⟩) t.size cap, _, _, ?_, .push G _, hpush, ?_⟩
  · have hch : (choose (.appendCap t.size 0 e)).run X.P w = .ok cap { w with drawn := w.drawn + 1 } := by simp [Question.forced, Question.cut, cap]
    simp only [convert, Sem.run_bind, run_underlying_k hs, run_underlying_k (kSl_some hd), Result.andThen_ok, run_underlying_k he, Conv.stringToBytes, hch]
    have hnr : (newRow e (t.data.map (fun b => Value.int .u8 b.toNat) ++ Array.replicate (cap - t.size) (.int .u8 0))).run X.P { w with drawn := w.drawn + 1 } = .ok ⟨w.heap.size, 0, none⟩ { w with drawn := w.drawn + 1, heap := w.heap.push (.cells cs e (0, 0)) } := by simp [newRow]; rfl
    rw [hnr]
    simp only [Result.andThen_ok, markStringish, Sem.run_bind, run_shape]
    have hsh : ({ w with drawn := w.drawn + 1, heap := w.heap.push (.cells cs e (0, 0)) } : World).shape? w.heap.size = some (e, cs.size) := by simp [World.shape?]
    rw [hsh]
    simp only [run_freeze, Result.andThen_ok, Sem.run_pure]
    congr 1
    simp only [World.freeze, Nat.succ_ne_zero, if_false]
    congr 1
    apply Array.ext_getElem?
    intro i
    simp only [Array.getElem?_modify, Array.getElem?_push]
    by_cases hi : w.heap.size = i
    · subst hi; simp
    · rw [if_neg hi]
      by_cases hi2 : i = w.heap.size
      · exact absurd hi2.symm hi
      · rw [if_neg hi2, if_neg hi2]
  · rw [← hsz]
    refine .sl _ _ _ _ _ ⟨w.heap.size, 0, cs.size⟩ _ cap ?_ (Nat.le_add_right _ _) (by simp only [hcsz]; omega) (by simp) (fun _ => rfl)
    simp only [Ghost.push]; rw [← h.lenN]; simp

theorem run_conv_int {P : Program} {s d : TypeId} {ds : TypeDesc} {k k' : IntKind} {n : Int} (hs : P.underlying s = some ds) (hd : P.underlying d = some (.int k')) : (convert s d (.int k n)).run P w = .ok (.int k' (k'.wrap n)) w := by
  simp only [convert, Sem.run_bind, run_underlying_k hs, run_underlying_k hd, Result.andThen_ok]; rfl

theorem run_conv_str {P : Program} {s d : TypeId} {b : ByteArray} {ds : TypeDesc} (hs : P.underlying s = some ds) (hd : P.underlying d = some .string) : (convert s d (.string b)).run P w = .ok (.string b) w := by
  simp only [convert, Sem.run_bind, run_underlying_k hs, run_underlying_k hd, Result.andThen_ok]
  cases ds <;> rfl

def isU8 (P : Program) (e : TypeId) : Bool := match P.underlying e with | some (.int .u8) => true | _ => false
theorem isU8_some {P : Program} {e : TypeId} (h : isU8 P e = true) : P.underlying e = some (.int .u8) := by
  unfold isU8 at h; split at h
  · assumption
  · cases h

def convP (P : Program) (s d : TypeId) (ph : PH) (x : PV) : Option (PV × PH) :=
  match P.underlying s, P.underlying d, x with
  | some _, some (.int k'), .int _ n => some (.int k' (k'.wrap n), ph)
  | some _, some .string, .str r => some (.str r, ph)
  | some .string, some (.slice e), .str r => if isU8 P e = true then some (.sl ph.n 0 1 r.length none, ph.push (bytesPV r)) else none
  | some (.slice e), some .string, .sl p off 1 len _ => if isU8 P e = true then
      match ph.get p with
      | none => none
      | some cells => if off + len ≤ cells.length then (bytesOf (seg cells off len)).map fun r => (.str r, ph) else none
    else none
  | some (.slice e), some .string, .fsl 1 _ cells => if isU8 P e = true then (bytesOf cells).map fun r => (.str r, ph) else none
  | some (.slice e), some .string, .nilsl => if isU8 P e = true then some (.str [], ph) else none
  | some (.pointer t), some .unsafePointer, .ptr p o => match szP P t, ph.get p with
    | some sz, some cells => if sz ≠ 0 ∧ o < cells.length then some (.ptr p o, ph) else none
    | _, _ => none
  | some .unsafePointer, some (.pointer u), .ptr p o => match szP P u, ph.get p with
    | some sz, some cells => if sz ≠ 0 ∧ o = 0 ∧ sz ≤ cells.length ∧ ph.ty p = some u then some (.ptr p o, ph) else none
    | _, _ => none
  | _, _, _ => none

theorem kSl_of {P : Program} {t e : TypeId} (h : P.underlying t = some (.slice e)) : kSl P t = some e := by simp [kSl, h]

theorem liesAt_self {P : Program} {u : TypeId} {count : Nat} (hc : P.cellsOf u ≠ 0) (hn : 1 ≤ count) : liesAt P P.depth u count (0 + 0) u 1 = true := by
  have hd : P.depth = (2 * (P.types.size + Made.depth) + 1) + 1 := rfl
  rw [hd]
  simp only [liesAt, Bool.or_eq_true]
  left
  rw [hd]
  simp [rowAt, hc, hn, sameLayout]

theorem gives_conv (h : Rel X G ph w) {s d : TypeId} {p pv : PV} {x : Value} {ph' : PH} (hx : RV G p x) (hc : convP X.P s d ph p = some (pv, ph')) : Gives X G ((convert s d x).run X.P w) pv ph' := by
  unfold convP at hc
  split at hc
  · rename_i h1 h2; cases hc
    obtain rfl := hx.int_inv
    exact .pure h (run_conv_int h1 h2) (.int _ _)
  · rename_i h1 h2; cases hc
    obtain ⟨b, rfl, hb⟩ := hx.str_inv
    exact .pure h (run_conv_str h1 h2) (.str _ _ hb)
  · rename_i h1 h2
    split at hc
    · rename_i he; cases hc
      exact gives_bytes h hx h1 (kSl_of h2) (isU8_some he)
    · cases hc
  · rename_i h1 h2
    split at hc
    · rename_i he
      split at hc
      · cases hc
      · rename_i cells hp
        split at hc
        · rename_i hle
          simp only [Option.map_eq_some_iff] at hc
          obtain ⟨r, hr, hc⟩ := hc
          cases hc
          exact gives_str_sl h hx (kSl_of h1) (isU8_some he) h2 hp hle hr
        · cases hc
    · cases hc
  · rename_i h1 h2
    split at hc
    · rename_i he
      simp only [Option.map_eq_some_iff] at hc
      obtain ⟨r, hr, hc⟩ := hc
      cases hc
      exact gives_str_fsl h hx (kSl_of h1) (isU8_some he) h2 hr
    · cases hc
  · rename_i h1 h2
    split at hc
    · rename_i he; cases hc
      exact gives_str_nil h hx (kSl_of h1) (isU8_some he) h2
    · cases hc
  · rename_i t p o h1 h2
    split at hc
    · rename_i sz cells hsz hp
      split at hc
      · rename_i hcond; cases hc
        obtain ⟨j, hj, rfl⟩ := szP_some hsz
        obtain ⟨L, vals, cs, e, fz, hL, ow⟩ := h.own p cells hp
        cases hx with
        | ptr _ _ M hM =>
          rw [hL] at hM; cases hM
          refine .pure h (Go.Lib.run_to_unsafe (e := e) (cells := cs.size) w _ h1 h2 hj hcond.1 ?_ ?_) (.ptr p o _ hL)
          · simp only [World.shape?, ow.hb]
          · show L.o + o < cs.size
            have := ow.sz; have := ow.lt; have := ow.rv.length; omega
      · cases hc
    · cases hc
  · rename_i u p o h1 h2
    split at hc
    · rename_i sz cells hsz hp
      split at hc
      · rename_i hcond; cases hc
        obtain ⟨hs0, rfl, hle, hty⟩ := hcond
        obtain ⟨j, hj, rfl⟩ := szP_some hsz
        obtain ⟨L, vals, cs, e, fz, hL, ow⟩ := h.own p cells hp
        obtain ⟨L2, cs2, fz2, t1, t2, t3⟩ := h.ty p u hty
        rw [hL] at t1; cases t1
        rw [ow.hb] at t3; cases t3
        cases hx with
        | ptr _ _ M hM =>
          rw [hL] at hM; cases hM
          refine .pure h (Go.Lib.run_from_unsafe (e := u) (cells := cs.size) w _ h1 h2 hj ?_ ?_) (.ptr p 0 _ hL)
          · simp only [World.shape?, ow.hb]
          · show liesAt X.P X.P.depth u (cs.size / X.P.cellsOf u) (L.o + 0) u 1 = true
            rw [t2]
            refine liesAt_self (by unfold Program.cellsOf; rw [hj]; exact hs0) ?_
            have hcu : X.P.cellsOf u = j.size := by unfold Program.cellsOf; rw [hj]; rfl
            rw [hcu]
            have := ow.sz; have := ow.lt; have := ow.rv.length
            exact (Nat.le_div_iff_mul_le (by omega)).2 (by omega)
      · cases hc
    · cases hc
  · cases hc

/-! ### One operand -/
def unP (op : UnOp) : PV → Option PV
  | .int k n => match op with
    | .neg => some (.int k (k.wrap (0 - n)))
    | .xor => some (.int k (bitsP .xor k (if k.signed then -1 else k.max) n))
    | _ => none
  | .bool b => match op with
    | .not => some (.bool (!b))
    | _ => none
  | _ => none

theorem run_unP {P : Program} {op : UnOp} {p r : PV} {x : Value} (hx : RV G p x) (h : unP op p = some r) : ∃ v, (Op.unary op x).run P w = .ok v w ∧ RV G r v := by
  unfold unP at h
  split at h
  · obtain rfl := hx.int_inv
    split at h <;> cases h
    · exact ⟨_, rfl, .int _ _⟩
    · exact ⟨_, rfl, .int _ _⟩
  · obtain rfl := hx.bool_inv
    split at h <;> cases h
    exact ⟨_, rfl, .bool _⟩
  · cases h

/-! ### len, min, max -/
def lenP (P : Program) (t : TypeId) (x : PV) : Option PV :=
  match P.underlying t, x with
  | some .string, .str s => some (.int .i64 s.length)
  | some (.array n _), _ => some (.int .i64 n)
  | some (.slice _), .sl _ _ _ len _ => some (.int .i64 len)
  | some (.slice _), .fsl _ len _ => some (.int .i64 len)
  | some (.slice _), .nilsl => some (.int .i64 0)
  | some (.slice _), .zsl => some (.int .i64 0)
  | _, _ => none

theorem run_lenP {P : Program} {ts : Array TypeId} {t ty : TypeId} {p r : PV} {x : Value} (ht : ts[0]? = some t) (hx : RV G p x) (h : lenP P t p = some r) : ∃ v, (Builtin.len_ ts ty #[x]).run P w = .ok v w ∧ RV G r v := by
  unfold lenP at h
  split at h
  · rename_i s hu; cases h
    obtain ⟨b, rfl, hb⟩ := hx.str_inv
    refine ⟨.int .i64 b.size, by simp [Builtin.len_, ht, run_underlying_k hu, goInt], ?_⟩
    have : b.size = s.length := by rw [← hb]; rfl
    rw [this]; exact .int _ _
  · rename_i n e hu; cases h
    refine ⟨.int .i64 n, ?_, .int _ _⟩
    simp only [Builtin.len_, ht, List.getElem?_toArray, List.getElem?_cons_zero, Sem.run_bind, run_underlying_k hu, Result.andThen_ok]; rfl
  all_goals
    first
      | (rename_i hu; cases h; cases hx <;> first
          | (refine ⟨_, ?_, .int _ _⟩; simp only [Builtin.len_, ht, List.getElem?_toArray, List.getElem?_cons_zero, Sem.run_bind, run_underlying_k hu, Result.andThen_ok]; rfl))
      | cases h

def mmP (mx : Bool) : PV → PV → Option PV
  | .int k x, .int k' y => if k = k' then some (.int k (if mx then (if y > x then y else x) else (if y < x then y else x))) else none
  | _, _ => none

def mmsP (mx : Bool) : PV → List PV → Option PV
  | x, [] => some x
  | x, y :: r => (mmP mx x y).bind fun z => mmsP mx z r

theorem run_max {P : Program} : ∀ {ps : List PV} {vs : List Value} {p r : PV} {x : Value}, RVs G ps vs → RV G p x → mmsP true p ps = some r → ∃ v, (vs.foldlM Builtin.max2 x).run P w = .ok v w ∧ RV G r v
  | _, _, p, r, x, .nil, hx, h => by cases h; exact ⟨x, by simp, hx⟩
  | _, _, p, r, x, .cons q u qs us hq hs, hx, h => by
    simp only [mmsP, Option.bind_eq_some_iff] at h
    obtain ⟨z, hz, h⟩ := h
    unfold mmP at hz
    split at hz
    · rename_i k a k' b
      split at hz
      · rename_i hk; subst hk; cases hz
        obtain rfl := hx.int_inv; obtain rfl := hq.int_inv
        obtain ⟨v, e, hv⟩ := run_max (P := P) hs (RV.int (G := G) k (if b > a then b else a)) (by simpa using h)
        refine ⟨v, ?_, hv⟩
        simp only [List.foldlM_cons, Sem.run_bind, Builtin.max2, Sem.run_pure, Result.andThen_ok]; exact e
      · cases hz
    · cases hz

theorem run_min {P : Program} : ∀ {ps : List PV} {vs : List Value} {p r : PV} {x : Value}, RVs G ps vs → RV G p x → mmsP false p ps = some r → ∃ v, (vs.foldlM Builtin.min2 x).run P w = .ok v w ∧ RV G r v
  | _, _, p, r, x, .nil, hx, h => by cases h; exact ⟨x, by simp, hx⟩
  | _, _, p, r, x, .cons q u qs us hq hs, hx, h => by
    simp only [mmsP, Option.bind_eq_some_iff] at h
    obtain ⟨z, hz, h⟩ := h
    unfold mmP at hz
    split at hz
    · rename_i k a k' b
      split at hz
      · rename_i hk; subst hk; cases hz
        obtain rfl := hx.int_inv; obtain rfl := hq.int_inv
        obtain ⟨v, e, hv⟩ := run_min (P := P) hs (RV.int (G := G) k (if b < a then b else a)) (by simpa using h)
        refine ⟨v, ?_, hv⟩
        simp only [List.foldlM_cons, Sem.run_bind, Builtin.min2, Sem.run_pure, Result.andThen_ok]; exact e
      · cases hz
    · cases hz

end Pv
