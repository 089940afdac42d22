/- Part of the proof: the layer of pure values, or walks through functions (PvCore). -/
import Derived.CallsIn
import Derived.RangeFuncCalls
import Derived.RangeFuncLeaves
import Derived.Below
import Derived.Laws.Sem
import Derived.Laws.Cells
set_option linter.all false
namespace Pv
open Go Go.RowKit

/-- Values without addresses of the machine: what a cell, a slot, an argument says. -/
inductive PV where
  | undef
  | bool (b : Bool)
  | int (k : IntKind) (n : Int)
  | str (s : List UInt8)
  | nilptr
  | ptr (p off : Nat)
  | fptr (cells : List PV)
  | nilsl
  | zsl
  | sl (p off esz len : Nat) (cap : Option Nat)
  | fsl (esz len : Nat) (cells : List PV)
  | gsl (p esz len : Nat) (cells : List PV)
  | gptr (p esz len : Nat) (cells : List PV)
  | func (f : FuncId) (first caps : List PV)
  | yield (l : Nat)
  | nilfunc
  | agg (cells : List PV)
  | tuple (vs : List PV)
  | nilif
  deriving Inhabited

structure Loc where
  b : Nat
  o : Nat
  t : Nat

structure Ghost where
  l : List Loc
  f : Addr → Option Value
  g : Nat → Nat → Option (Option (Addr × Nat)) := fun _ _ => none

/-- May it lie in a cell? -/
def PV.cellB : PV → Bool
  | .undef | .agg _ | .tuple _ => false
  | _ => true

mutual
inductive RV (G : Ghost) : PV → Value → Prop
  | undef (v : Value) : RV G .undef v
  | bool (b : Bool) : RV G (.bool b) (.bool b)
  | int (k : IntKind) (n : Int) : RV G (.int k n) (.int k n)
  | str (s : List UInt8) (t : ByteArray) (h : t.data.toList = s) : RV G (.str s) (.string t)
  | nilptr : RV G .nilptr (.pointer none)
  | ptr (p off : Nat) (L : Loc) (h : G.l[p]? = some L) : RV G (.ptr p off) (.pointer (some ⟨L.b, L.o + off, none⟩))
  | fptr (cells : List PV) (vals : List Value) (b o : Nat) (h : RVs G cells vals) (hf : ∀ j v, vals[j]? = some v → G.f ⟨b, o + j, none⟩ = some v) :
      RV G (.fptr cells) (.pointer (some ⟨b, o, none⟩))
  | nilsl : RV G .nilsl (.slice none 0 0)
  | zsl (a : Option Addr) : RV G .zsl (.slice a 0 0)
  | sl (p off esz len : Nat) (cap : Option Nat) (L : Loc) (a : Addr) (rcap : Nat) (h : G.l[p]? = some L) (h1 : len ≤ rcap) (h2 : off + rcap * esz ≤ L.t)
      (h3 : ∀ c, cap = some c → rcap = c) (h4 : 0 < rcap → a = ⟨L.b, L.o + off, none⟩) : RV G (.sl p off esz len cap) (.slice (some a) len rcap)
  | fsl (esz len : Nat) (cells : List PV) (vals : List Value) (a : Addr) (rcap : Nat) (h : RVs G cells vals) (h1 : len ≤ rcap) (h2 : cells.length = len * esz)
      (h3 : 0 < len → a.spot = none) (hf : ∀ j v, vals[j]? = some v → G.f ⟨a.block, a.off + j, none⟩ = some v) : RV G (.fsl esz len cells) (.slice (some a) len rcap)
  | fslnil (esz : Nat) : RV G (.fsl esz 0 []) (.slice none 0 0)
  | gsl (p esz len : Nat) (cells : List PV) (vals : List Value) (a : Addr) (rcap : Nat) (L : Loc) (hL : G.l[p]? = some L) (hg : G.g p len = some (some (a, rcap))) (h : RVs G cells vals) (h1 : len ≤ rcap) (h2 : cells.length = len * esz)
      (h3 : a.spot = none) (h4 : ∀ c ∈ cells, PV.cellB c = true) (h5 : 0 < len) (hf : ∀ j v, vals[j]? = some v → G.f ⟨a.block, a.off + j, none⟩ = some v) : RV G (.gsl p esz len cells) (.slice (some a) len rcap)
  | gslnil (p esz : Nat) (L : Loc) (hL : G.l[p]? = some L) (hg : G.g p 0 = some none) : RV G (.gsl p esz 0 []) (.slice none 0 0)
  | gptr (p esz len : Nat) (cells : List PV) (vals : List Value) (a : Addr) (rcap : Nat) (L : Loc) (hL : G.l[p]? = some L) (hg : G.g p len = some (some (a, rcap))) (h : RVs G cells vals) (h1 : len ≤ rcap) (h2 : cells.length = len * esz)
      (h3 : a.spot = none) (h5 : 0 < len) (hf : ∀ j v, vals[j]? = some v → G.f ⟨a.block, a.off + j, none⟩ = some v) : RV G (.gptr p esz len cells) (.pointer (some a))
  | func (f : FuncId) (first caps : List PV) (rf rc : List Value) (h : RVs G first rf) (h' : RVs G caps rc) : RV G (.func f first caps) (.func (.func f) rf.toArray rc.toArray)
  | yield (l : Nat) : RV G (.yield l) (.func (.yield l) #[] #[])
  | nilfunc : RV G .nilfunc .nilFunc
  | agg (cells : List PV) (vals : List Value) (h : RVs G cells vals) : RV G (.agg cells) (.agg vals.toArray)
  | tuple (cells : List PV) (vals : List Value) (h : RVs G cells vals) : RV G (.tuple cells) (.tuple vals.toArray)
  | nilif : RV G .nilif .nilIface
inductive RVs (G : Ghost) : List PV → List Value → Prop
  | nil : RVs G [] []
  | cons (p : PV) (v : Value) (ps : List PV) (vs : List Value) (h : RV G p v) (hs : RVs G ps vs) : RVs G (p :: ps) (v :: vs)
end

variable {G G' : Ghost}

theorem RVs.length {ps : List PV} {vs : List Value} (h : RVs G ps vs) : ps.length = vs.length := by
  induction ps generalizing vs with
  | nil => cases h; rfl
  | cons p ps ih => cases h with | cons _ _ _ _ _ hs => simp [ih hs]

theorem RVs.get {ps : List PV} {vs : List Value} (h : RVs G ps vs) (j : Nat) (p : PV) (hp : ps[j]? = some p) : ∃ v, vs[j]? = some v ∧ RV G p v := by
  induction ps generalizing vs j with
  | nil => simp at hp
  | cons q ps ih =>
    cases h with
    | cons _ v _ vs h hs =>
      cases j with
      | zero => simp at hp; subst hp; exact ⟨v, by simp, h⟩
      | succ j => simp at hp; obtain ⟨v', h1, h2⟩ := ih hs j hp; exact ⟨v', by simpa using h1, h2⟩

theorem RVs.get' {ps : List PV} {vs : List Value} (h : RVs G ps vs) (j : Nat) (v : Value) (hv : vs[j]? = some v) : ∃ p, ps[j]? = some p ∧ RV G p v := by
  have hl := h.length
  have hj : j < ps.length := by have := (List.getElem?_eq_some_iff.1 hv).1; omega
  obtain ⟨v', h1, h2⟩ := h.get j ps[j] (List.getElem?_eq_getElem hj)
  rw [hv] at h1; cases h1
  exact ⟨_, List.getElem?_eq_getElem hj, h2⟩

theorem RVs.of_get {ps : List PV} {vs : List Value} (hl : ps.length = vs.length) (h : ∀ (j : Nat) (p : PV) (v : Value), ps[j]? = some p → vs[j]? = some v → RV G p v) : RVs G ps vs := by
  induction ps generalizing vs with
  | nil => cases vs with | nil => exact .nil | cons _ _ => simp at hl
  | cons p ps ih =>
    cases vs with
    | nil => simp at hl
    | cons v vs => exact .cons _ _ _ _ (h 0 p v rfl rfl) (ih (by simpa using hl) fun j p' v' h1 h2 => h (j + 1) p' v' (by simpa using h1) (by simpa using h2))

theorem RVs.append {ps qs : List PV} {vs us : List Value} (h : RVs G ps vs) (h' : RVs G qs us) : RVs G (ps ++ qs) (vs ++ us) := by
  induction ps generalizing vs with
  | nil => cases h; exact h'
  | cons p ps ih => cases h with | cons _ _ _ _ h hs => exact .cons _ _ _ _ h (ih hs)

theorem RVs.drop {ps : List PV} {vs : List Value} (h : RVs G ps vs) (n : Nat) : RVs G (ps.drop n) (vs.drop n) :=
  .of_get (by simp [h.length]) fun j p v h1 h2 => by
    rw [List.getElem?_drop] at h1 h2
    obtain ⟨v', e, r⟩ := h.get _ _ h1
    rw [h2] at e; cases e; exact r

theorem RVs.take {ps : List PV} {vs : List Value} (h : RVs G ps vs) (n : Nat) : RVs G (ps.take n) (vs.take n) :=
  .of_get (by simp [h.length]) fun j p v h1 h2 => by
    rw [List.getElem?_take] at h1 h2
    split at h1
    · rename_i hj
      rw [if_pos hj] at h2
      obtain ⟨v', e, r⟩ := h.get _ _ h1
      rw [h2] at e; cases e; exact r
    · simp at h1

theorem RVs.set {ps : List PV} {vs : List Value} (h : RVs G ps vs) (n : Nat) {p : PV} {v : Value} (hr : RV G p v) : RVs G (ps.set n p) (vs.set n v) := by
  refine .of_get (by simp [h.length]) fun j p' v' h1 h2 => ?_
  rw [List.getElem?_set] at h1 h2
  split at h1
  · rename_i hj
    rw [if_pos hj] at h2
    split at h1
    · rw [if_pos (by have := h.length; omega)] at h2
      cases h1; cases h2; exact hr
    · simp at h1
  · rename_i hj
    rw [if_neg hj] at h2
    obtain ⟨v'', e, r⟩ := h.get _ _ h1
    rw [h2] at e; cases e; exact r

theorem RVs.replicate (n : Nat) {p : PV} {v : Value} (hr : RV G p v) : RVs G (List.replicate n p) (List.replicate n v) := by
  induction n with
  | zero => exact .nil
  | succ n ih => exact .cons _ _ _ _ hr ih

/-- What was told before stays told. -/
structure Le (G G' : Ghost) : Prop where
  l : ∀ (i : Nat) (L : Loc), G.l[i]? = some L → G'.l[i]? = some L
  f : ∀ a v, G.f a = some v → G'.f a = some v
  g : ∀ p m x, G.g p m = some x → G'.g p m = some x

theorem Le.refl (G : Ghost) : Le G G := ⟨fun _ _ h => h, fun _ _ h => h, fun _ _ _ h => h⟩
theorem Le.trans {A B C : Ghost} (h : Le A B) (k : Le B C) : Le A C := ⟨fun i L e => k.l _ _ (h.l _ _ e), fun a v e => k.f _ _ (h.f _ _ e), fun p m x e => k.g _ _ _ (h.g _ _ _ e)⟩

mutual
theorem RV.mono (hle : Le G G') : ∀ {p : PV} {v : Value}, RV G p v → RV G' p v
  | _, _, .undef v => .undef v
  | _, _, .bool b => .bool b
  | _, _, .int k n => .int k n
  | _, _, .str s t h => .str s t h
  | _, _, .nilptr => .nilptr
  | _, _, .ptr p off L h => .ptr p off L (hle.l _ _ h)
  | _, _, .fptr cells vals b o h hf => .fptr cells vals b o (RVs.mono hle h) fun j v e => hle.f _ _ (hf j v e)
  | _, _, .nilsl => .nilsl
  | _, _, .zsl a => .zsl a
  | _, _, .sl p off esz len cap L a rcap h h1 h2 h3 h4 => .sl p off esz len cap L a rcap (hle.l _ _ h) h1 h2 h3 h4
  | _, _, .fsl esz len cells vals a rcap h h1 h2 h3 hf => .fsl esz len cells vals a rcap (RVs.mono hle h) h1 h2 h3 fun j v e => hle.f _ _ (hf j v e)
  | _, _, .fslnil esz => .fslnil esz
  | _, _, .gsl p esz len cells vals a rcap L hL hg h h1 h2 h3 h4 h5 hf => .gsl p esz len cells vals a rcap L (hle.l _ _ hL) (hle.g _ _ _ hg) (RVs.mono hle h) h1 h2 h3 h4 h5 fun j v e => hle.f _ _ (hf j v e)
  | _, _, .gslnil p esz L hL hg => .gslnil p esz L (hle.l _ _ hL) (hle.g _ _ _ hg)
  | _, _, .gptr p esz len cells vals a rcap L hL hg h h1 h2 h3 h5 hf => .gptr p esz len cells vals a rcap L (hle.l _ _ hL) (hle.g _ _ _ hg) (RVs.mono hle h) h1 h2 h3 h5 fun j v e => hle.f _ _ (hf j v e)
  | _, _, .func f a b c d h h' => .func f a b c d (RVs.mono hle h) (RVs.mono hle h')
  | _, _, .yield l => .yield l
  | _, _, .nilfunc => .nilfunc
  | _, _, .agg cells vals h => .agg cells vals (RVs.mono hle h)
  | _, _, .tuple cells vals h => .tuple cells vals (RVs.mono hle h)
  | _, _, .nilif => .nilif
theorem RVs.mono (hle : Le G G') : ∀ {ps : List PV} {vs : List Value}, RVs G ps vs → RVs G' ps vs
  | _, _, .nil => .nil
  | _, _, .cons p v ps vs h hs => .cons p v ps vs (RV.mono hle h) (RVs.mono hle hs)
end

mutual
def Sc (n : Nat) : PV → Prop
  | .ptr p _ => p < n
  | .sl p _ _ _ _ => p < n
  | .fptr cells => Scs n cells
  | .fsl _ _ cells => Scs n cells
  | .gsl p _ _ cells => p < n ∧ Scs n cells
  | .gptr p _ _ cells => p < n ∧ Scs n cells
  | .func _ a b => Scs n a ∧ Scs n b
  | .agg cells => Scs n cells
  | .tuple cells => Scs n cells
  | _ => True
def Scs (n : Nat) : List PV → Prop
  | [] => True
  | p :: ps => Sc n p ∧ Scs n ps
end

mutual
theorem RV.sc : ∀ {p : PV} {v : Value}, RV G p v → Sc G.l.length p
  | _, _, .undef v => trivial
  | _, _, .bool b => trivial
  | _, _, .int k n => trivial
  | _, _, .str s t h => trivial
  | _, _, .nilptr => trivial
  | _, _, .ptr p off L h => (List.getElem?_eq_some_iff.1 h).1
  | _, _, .fptr cells vals b o h hf => RVs.scs h
  | _, _, .nilsl => trivial
  | _, _, .zsl a => trivial
  | _, _, .sl p off esz len cap L a rcap h h1 h2 h3 h4 => (List.getElem?_eq_some_iff.1 h).1
  | _, _, .fsl esz len cells vals a rcap h h1 h2 h3 hf => RVs.scs h
  | _, _, .fslnil esz => trivial
  | _, _, .gsl p esz len cells vals a rcap L hL hg h h1 h2 h3 h4 h5 hf => ⟨(List.getElem?_eq_some_iff.1 hL).1, RVs.scs h⟩
  | _, _, .gslnil p esz L hL hg => ⟨(List.getElem?_eq_some_iff.1 hL).1, trivial⟩
  | _, _, .gptr p esz len cells vals a rcap L hL hg h h1 h2 h3 h5 hf => ⟨(List.getElem?_eq_some_iff.1 hL).1, RVs.scs h⟩
  | _, _, .func f a b c d h h' => ⟨RVs.scs h, RVs.scs h'⟩
  | _, _, .yield l => trivial
  | _, _, .nilfunc => trivial
  | _, _, .agg cells vals h => RVs.scs h
  | _, _, .tuple cells vals h => RVs.scs h
  | _, _, .nilif => trivial
theorem RVs.scs : ∀ {ps : List PV} {vs : List Value}, RVs G ps vs → Scs G.l.length ps
  | _, _, .nil => trivial
  | _, _, .cons p v ps vs h hs => ⟨RV.sc h, RVs.scs hs⟩
end

/-- What is told under one ghost is told under another that knows the first n blocks alike. -/
structure LeN (n : Nat) (G G' : Ghost) : Prop where
  l : ∀ (i : Nat) (L : Loc), i < n → G.l[i]? = some L → G'.l[i]? = some L
  f : ∀ a v, G.f a = some v → G'.f a = some v
  g : ∀ p m x, p < n → G.g p m = some x → G'.g p m = some x

theorem LeN.refl (n : Nat) (G : Ghost) : LeN n G G := ⟨fun _ _ _ h => h, fun _ _ h => h, fun _ _ _ _ h => h⟩
theorem LeN.trans {n : Nat} {A B C : Ghost} (h : LeN n A B) (k : LeN n B C) : LeN n A C := ⟨fun i L hi e => k.l _ _ hi (h.l _ _ hi e), fun a v e => k.f _ _ (h.f _ _ e), fun p m x hp e => k.g _ _ _ hp (h.g _ _ _ hp e)⟩
theorem LeN.less {n m : Nat} {A B : Ghost} (h : LeN n A B) (hm : m ≤ n) : LeN m A B := ⟨fun i L hi e => h.l _ _ (by omega) e, h.f, fun p m x hp e => h.g _ _ _ (by omega) e⟩
theorem Le.n {A B : Ghost} (h : Le A B) (n : Nat) : LeN n A B := ⟨fun i L _ e => h.l _ _ e, h.f, fun p m x _ e => h.g _ _ _ e⟩
theorem LeN.le {A B : Ghost} (hA : ∀ p m x, A.g p m = some x → p < A.l.length) (h : LeN A.l.length A B) : Le A B := ⟨fun i L e => h.l _ _ (List.getElem?_eq_some_iff.1 e).1 e, h.f, fun p m x e => h.g _ _ _ (hA p m x e) e⟩

mutual
theorem RV.monoN {n : Nat} (hle : LeN n G G') : ∀ {p : PV} {v : Value}, RV G p v → Sc n p → RV G' p v
  | _, _, .undef v, _ => .undef v
  | _, _, .bool b, _ => .bool b
  | _, _, .int k n, _ => .int k n
  | _, _, .str s t h, _ => .str s t h
  | _, _, .nilptr, _ => .nilptr
  | _, _, .ptr p off L h, s => .ptr p off L (hle.l _ _ s h)
  | _, _, .fptr cells vals b o h hf, s => .fptr cells vals b o (RVs.monoN hle h s) fun j v e => hle.f _ _ (hf j v e)
  | _, _, .nilsl, _ => .nilsl
  | _, _, .zsl a, _ => .zsl a
  | _, _, .sl p off esz len cap L a rcap h h1 h2 h3 h4, s => .sl p off esz len cap L a rcap (hle.l _ _ s h) h1 h2 h3 h4
  | _, _, .fsl esz len cells vals a rcap h h1 h2 h3 hf, s => .fsl esz len cells vals a rcap (RVs.monoN hle h s) h1 h2 h3 fun j v e => hle.f _ _ (hf j v e)
  | _, _, .fslnil esz, _ => .fslnil esz
  | _, _, .gsl p esz len cells vals a rcap L hL hg h h1 h2 h3 h4 h5 hf, s => .gsl p esz len cells vals a rcap L (hle.l _ _ s.1 hL) (hle.g _ _ _ s.1 hg) (RVs.monoN hle h s.2) h1 h2 h3 h4 h5 fun j v e => hle.f _ _ (hf j v e)
  | _, _, .gslnil p esz L hL hg, s => .gslnil p esz L (hle.l _ _ s.1 hL) (hle.g _ _ _ s.1 hg)
  | _, _, .gptr p esz len cells vals a rcap L hL hg h h1 h2 h3 h5 hf, s => .gptr p esz len cells vals a rcap L (hle.l _ _ s.1 hL) (hle.g _ _ _ s.1 hg) (RVs.monoN hle h s.2) h1 h2 h3 h5 fun j v e => hle.f _ _ (hf j v e)
  | _, _, .func f a b c d h h', s => .func f a b c d (RVs.monoN hle h s.1) (RVs.monoN hle h' s.2)
  | _, _, .yield l, _ => .yield l
  | _, _, .nilfunc, _ => .nilfunc
  | _, _, .agg cells vals h, s => .agg cells vals (RVs.monoN hle h s)
  | _, _, .tuple cells vals h, s => .tuple cells vals (RVs.monoN hle h s)
  | _, _, .nilif, _ => .nilif
theorem RVs.monoN {n : Nat} (hle : LeN n G G') : ∀ {ps : List PV} {vs : List Value}, RVs G ps vs → Scs n ps → RVs G' ps vs
  | _, _, .nil, _ => .nil
  | _, _, .cons p v ps vs h hs, s => .cons p v ps vs (RV.monoN hle h s.1) (RVs.monoN hle hs s.2)
end

/-! ### The heap -/
structure PLoop where
  st : LoopState
  pending : Option Code
  fn : FuncId
  tmps : List PV
  params : Array Tmp
  assign : Code
  body : Code
  defers : Nat

inductive PObj where
  | loop (l : PLoop)
  | defd

/-- A block of one's own; or a row that only grows: the size of its elements, how many it has, their type. -/
inductive Blk where
  | own (c : List PV)
  | grow (sz top : Nat) (e : TypeId)

structure PH where
  bl : List (Option Blk)
  ob : Nat → Option PObj
  ty : Nat → Option TypeId := fun _ => none

def Blk.cells : Blk → Option (List PV)
  | .own c => some c
  | .grow .. => none
def Blk.gro : Blk → Option (Nat × Nat × TypeId)
  | .own _ => none
  | .grow a b c => some (a, b, c)
def PH.push (ph : PH) (c : List PV) : PH := { ph with bl := ph.bl ++ [some (.own c)] }
def PH.get (ph : PH) (p : Nat) : Option (List PV) := (ph.bl[p]?).join.bind Blk.cells
def PH.gro (ph : PH) (p : Nat) : Option (Nat × Nat × TypeId) := (ph.bl[p]?).join.bind Blk.gro
def PH.put (ph : PH) (p : Nat) (c : List PV) : PH := { ph with bl := ph.bl.set p (some (.own c)) }
def PH.pushG (ph : PH) (sz top : Nat) (e : TypeId) : PH := { ph with bl := ph.bl ++ [some (.grow sz top e)] }
def PH.putG (ph : PH) (p sz top : Nat) (e : TypeId) : PH := { ph with bl := ph.bl.set p (some (.grow sz top e)) }
def PH.kill (ph : PH) (p : Nat) : PH := { ph with bl := ph.bl.set p none }
def PH.n (ph : PH) : Nat := ph.bl.length
def PH.setOb (ph : PH) (r : Nat) (o : Option PObj) : PH := { ph with ob := fun i => if i = r then o else ph.ob i }

/-- A block's element type is told. -/
def PH.setTy (ph : PH) (p : Nat) (e : TypeId) : PH := { ph with ty := fun i => if i = p then some e else ph.ty i }

/-- The program and the world in which all began. -/
structure Ctx where
  P : Program
  w0 : World

def Ctx.B (X : Ctx) : Nat := X.w0.heap.size

def ObRel (G : Ghost) (w : World) (r : Nat) : PObj → Prop
  | .loop l => ∃ rt : List Value, RVs G l.tmps rt ∧
      w.heap[r]? = some (.loop { state := l.st, pending := l.pending, fn := l.fn, tmps := rt.toArray, params := l.params, assign := l.assign, body := l.body, defers := l.defers })
  | .defd => w.heap[r]? = some (.deferred (some []))

structure OwnRel (X : Ctx) (G : Ghost) (w : World) (L : Loc) (cells : List PV) (vals : List Value) (cs : Array Value) (e : TypeId) (fz : Nat × Nat) : Prop where
  rv : RVs G cells vals
  lt : vals.length ≤ L.t
  ge : X.B ≤ L.b
  hb : w.heap[L.b]? = some (.cells cs e fz)
  sz : L.o + L.t ≤ cs.size
  fr : ∀ j, j < L.t → ¬ (fz.1 ≤ L.o + j ∧ L.o + j < fz.2)
  at_ : ∀ (j : Nat) (v : Value), vals[j]? = some v → cs[L.o + j]? = some v
  one : ∀ v ∈ vals, v.oneCell' = true

def TyOk (G : Ghost) (ph : PH) (w : World) : Prop := ∀ p e, ph.ty p = some e → ∃ L cs fz, G.l[p]? = some L ∧ L.o = 0 ∧ w.heap[L.b]? = some (.cells cs e fz)

/-- Where a growing row lies. -/
structure GRow (X : Ctx) (G : Ghost) (ph : PH) (w : World) (sz top : Nat) (e : TypeId) (a : Addr) (rcap : Nat) : Prop where
  sp : a.spot = none
  ge : X.B ≤ a.block
  le : top ≤ rcap
  off : a.off = 0
  hb : ∃ cs fz, w.heap[a.block]? = some (.cells cs e fz) ∧ rcap * sz ≤ cs.size ∧ fz.2 ≤ top * sz
  ff : ∀ c v, G.f c = some v → c.block = a.block → c.off < top * sz
  own : ∀ q c L, ph.get q = some c → G.l[q]? = some L → L.b ≠ a.block

structure GOwn (X : Ctx) (G : Ghost) (ph : PH) (w : World) (p sz top : Nat) (e : TypeId) (x : Option (Addr × Nat)) : Prop where
  loc : G.g p top = some x
  max : ∀ m, top < m → G.g p m = none
  nil : x = none → top = 0
  row : ∀ a rcap, x = some (a, rcap) → GRow X G ph w sz top e a rcap

structure GrOk (X : Ctx) (G : Ghost) (ph : PH) (w : World) : Prop where
  own : ∀ p sz top e, ph.gro p = some (sz, top, e) → ∃ x, GOwn X G ph w p sz top e x
  disj : ∀ p q s t e s' t' e' a ra b rb, p ≠ q → ph.gro p = some (s, t, e) → ph.gro q = some (s', t', e') → G.g p t = some (some (a, ra)) → G.g q t' = some (some (b, rb)) → a.block ≠ b.block
  new : ∀ p m x, G.g p m = some x → p < G.l.length

/-- Is it the block of a growing row? -/
def Grows (G : Ghost) (ph : PH) (b : Nat) : Prop := ∃ p s t e a ra, ph.gro p = some (s, t, e) ∧ G.g p t = some (some (a, ra)) ∧ a.block = b

structure Rel (X : Ctx) (G : Ghost) (ph : PH) (w : World) : Prop where
  len : G.l.length = ph.bl.length
  below : Below X.B X.w0 w
  own : ∀ p cells, ph.get p = some cells → ∃ L vals cs e fz, G.l[p]? = some L ∧ OwnRel X G w L cells vals cs e fz
  disj : ∀ p q c d L M, p ≠ q → ph.get p = some c → ph.get q = some d → G.l[p]? = some L → G.l[q]? = some M → L.b ≠ M.b
  fz : ∀ a v, G.f a = some v → a.spot = none ∧ w.cell? a = some v
  fdisj : ∀ a v p c L, G.f a = some v → ph.get p = some c → G.l[p]? = some L → a.block ≠ L.b
  ob : ∀ r o, ph.ob r = some o → X.B ≤ r ∧ ObRel G w r o
  ty : TyOk G ph w
  grow : GrOk X G ph w

theorem PH.get_eq {ph : PH} {p : Nat} {c : List PV} : ph.get p = some c ↔ ph.bl[p]? = some (some (.own c)) := by
  unfold PH.get
  cases ph.bl[p]? with
  | none => simp
  | some o => cases o with
    | none => simp
    | some b => cases b <;> simp [Blk.cells]

theorem PH.gro_eq {ph : PH} {p sz top : Nat} {e : TypeId} : ph.gro p = some (sz, top, e) ↔ ph.bl[p]? = some (some (.grow sz top e)) := by
  unfold PH.gro
  cases ph.bl[p]? with
  | none => simp
  | some o => cases o with
    | none => simp
    | some b => cases b <;> simp [Blk.gro]

theorem PH.gro_lt {ph : PH} {p : Nat} {x : Nat × Nat × TypeId} (h : ph.gro p = some x) : p < ph.n := (List.getElem?_eq_some_iff.1 (PH.gro_eq.1 h)).1

theorem PH.get_lt {ph : PH} {p : Nat} {c : List PV} (h : ph.get p = some c) : p < ph.n := (List.getElem?_eq_some_iff.1 (PH.get_eq.1 h)).1

theorem PH.get_push {ph : PH} {c : List PV} {p : Nat} : (ph.push c).get p = if p = ph.n then some c else ph.get p := by
  unfold PH.get PH.push PH.n
  by_cases h : p = ph.bl.length
  · simp [h, Blk.cells]
  · by_cases h2 : p < ph.bl.length
    · simp [h, List.getElem?_append_left h2]
    · rw [List.getElem?_eq_none (by simp; omega), List.getElem?_eq_none (by omega)]; simp [h]

theorem PH.get_put {ph : PH} {c : List PV} {p q : Nat} (hp : p < ph.n) : (ph.put p c).get q = if q = p then some c else ph.get q := by
  unfold PH.get PH.put
  simp only [List.getElem?_set]
  by_cases h : p = q
  · subst h; simp [show p < ph.bl.length from hp, Blk.cells]
  · have h' : ¬ q = p := fun e => h e.symm
    simp only [if_neg h, if_neg h']

theorem PH.get_kill {ph : PH} {p q : Nat} : (ph.kill p).get q = if q = p then none else ph.get q := by
  unfold PH.get PH.kill
  simp only [List.getElem?_set]
  by_cases h : p = q
  · subst h; simp; split <;> simp
  · have h' : ¬ q = p := fun e => h e.symm
    simp only [if_neg h, if_neg h']

theorem PH.gro_push {ph : PH} {c : List PV} {p : Nat} : (ph.push c).gro p = ph.gro p := by
  unfold PH.gro PH.push
  by_cases h : p = ph.bl.length
  · simp [h, Blk.gro]
  · by_cases h2 : p < ph.bl.length
    · simp [List.getElem?_append_left h2]
    · rw [List.getElem?_eq_none (by simp; omega), List.getElem?_eq_none (by omega)]

theorem PH.gro_put {ph : PH} {c : List PV} {p q : Nat} : (ph.put p c).gro q = if q = p then none else ph.gro q := by
  unfold PH.gro PH.put
  simp only [List.getElem?_set]
  by_cases h : p = q
  · subst h; simp; split <;> simp [Blk.gro]
  · have h' : ¬ q = p := fun e => h e.symm
    simp only [if_neg h, if_neg h']

theorem PH.gro_kill {ph : PH} {p q : Nat} : (ph.kill p).gro q = if q = p then none else ph.gro q := by
  unfold PH.gro PH.kill
  simp only [List.getElem?_set]
  by_cases h : p = q
  · subst h; simp; split <;> simp
  · have h' : ¬ q = p := fun e => h e.symm
    simp only [if_neg h, if_neg h']

theorem PH.get_putG {ph : PH} {p q sz top : Nat} {e : TypeId} : (ph.putG p sz top e).get q = if q = p then none else ph.get q := by
  unfold PH.get PH.putG
  simp only [List.getElem?_set]
  by_cases h : p = q
  · subst h; simp; split <;> simp [Blk.cells]
  · have h' : ¬ q = p := fun e => h e.symm
    simp only [if_neg h, if_neg h']

theorem PH.gro_putG {ph : PH} {p q sz top : Nat} {e : TypeId} (hp : p < ph.n) : (ph.putG p sz top e).gro q = if q = p then some (sz, top, e) else ph.gro q := by
  unfold PH.gro PH.putG
  simp only [List.getElem?_set]
  by_cases h : p = q
  · subst h; simp [show p < ph.bl.length from hp, Blk.gro]
  · have h' : ¬ q = p := fun e => h e.symm
    simp only [if_neg h, if_neg h']

theorem PH.get_pushG {ph : PH} {p sz top : Nat} {e : TypeId} : (ph.pushG sz top e).get p = ph.get p := by
  unfold PH.get PH.pushG
  by_cases h : p = ph.bl.length
  · simp [h, Blk.cells]
  · by_cases h2 : p < ph.bl.length
    · simp [List.getElem?_append_left h2]
    · rw [List.getElem?_eq_none (by simp; omega), List.getElem?_eq_none (by omega)]

theorem PH.gro_pushG {ph : PH} {p sz top : Nat} {e : TypeId} : (ph.pushG sz top e).gro p = if p = ph.n then some (sz, top, e) else ph.gro p := by
  unfold PH.gro PH.pushG PH.n
  by_cases h : p = ph.bl.length
  · simp [h, Blk.gro]
  · by_cases h2 : p < ph.bl.length
    · simp [h, List.getElem?_append_left h2]
    · rw [List.getElem?_eq_none (by simp; omega), List.getElem?_eq_none (by omega)]; simp [h]

@[simp] theorem PH.n_putG (ph : PH) (p sz top : Nat) (e : TypeId) : (ph.putG p sz top e).n = ph.n := by simp [PH.n, PH.putG]
@[simp] theorem PH.n_pushG (ph : PH) (sz top : Nat) (e : TypeId) : (ph.pushG sz top e).n = ph.n + 1 := by simp [PH.n, PH.pushG]
@[simp] theorem PH.n_push (ph : PH) (c : List PV) : (ph.push c).n = ph.n + 1 := by simp [PH.n, PH.push]
@[simp] theorem PH.n_put (ph : PH) (p : Nat) (c : List PV) : (ph.put p c).n = ph.n := by simp [PH.n, PH.put]
@[simp] theorem PH.n_kill (ph : PH) (p : Nat) : (ph.kill p).n = ph.n := by simp [PH.n, PH.kill]
@[simp] theorem PH.ob_push (ph : PH) (c : List PV) : (ph.push c).ob = ph.ob := rfl
@[simp] theorem PH.ob_put (ph : PH) (p : Nat) (c : List PV) : (ph.put p c).ob = ph.ob := rfl
@[simp] theorem PH.ob_kill (ph : PH) (p : Nat) : (ph.kill p).ob = ph.ob := rfl

def Ghost.push (G : Ghost) (L : Loc) : Ghost := { G with l := G.l ++ [L] }
theorem Le.push (G : Ghost) (L : Loc) : Le G (G.push L) :=
  ⟨fun i M h => by simp only [Ghost.push]; rw [List.getElem?_append_left (List.getElem?_eq_some_iff.1 h).1]; exact h, fun _ _ h => h, fun _ _ _ h => h⟩

theorem RV.one {p : PV} {v : Value} (h : RV G p v) (hp : (match p with | .undef | .agg _ | .tuple _ => false | _ => true) = true) : v.oneCell' = true := by
  cases h <;> simp_all [Value.oneCell']

/-- May it lie in a cell? -/
def cellOk : PV → Bool
  | .undef | .agg _ | .tuple _ => false
  | _ => true

theorem cellOk_eq (c : PV) : cellOk c = c.cellB := by cases c <;> rfl

theorem all_cells {cells : List PV} : cells.all cellOk = true ↔ ∀ c ∈ cells, PV.cellB c = true := by
  rw [List.all_eq_true]
  exact ⟨fun h c hc => (cellOk_eq c) ▸ h c hc, fun h c hc => (cellOk_eq c) ▸ h c hc⟩

theorem RVs.ones {ps : List PV} {vs : List Value} (h : RVs G ps vs) (hp : ps.all cellOk = true) : ∀ v ∈ vs, v.oneCell' = true := by
  intro v hv
  obtain ⟨j, hj, rfl⟩ := List.getElem_of_mem hv
  obtain ⟨p, h1, h2⟩ := h.get' j _ (List.getElem?_eq_getElem hj)
  have := List.all_eq_true.1 hp p (List.mem_of_getElem? h1)
  exact h2.one (by revert this; unfold cellOk; cases p <;> simp)

section rel
variable {X : Ctx} {ph : PH} {w w' : World}

theorem Rel.size (h : Rel X G ph w) : X.B ≤ w.heap.size := h.below.size
theorem Rel.lenN (h : Rel X G ph w) : G.l.length = ph.n := h.len

theorem ObRel.mono {o : PObj} {r : Nat} (hle : Le G G') (hw : w'.heap[r]? = w.heap[r]?) (h : ObRel G w r o) : ObRel G' w' r o := by
  cases o with
  | loop l => obtain ⟨rt, h1, h2⟩ := h; exact ⟨rt, h1.mono hle, hw.trans h2⟩
  | defd => exact hw.trans h

theorem TyOk.step {ph' : PH} (h : TyOk G ph w) (hG : Le G G') (hw : ∀ (b : Nat) (cs : Array Value) (e : TypeId) (fz : Nat × Nat), w.heap[b]? = some (.cells cs e fz) → ∃ cs' fz', w'.heap[b]? = some (.cells cs' e fz')) (ht : ph'.ty = ph.ty) : TyOk G' ph' w' := by
  intro p e he
  rw [ht] at he
  obtain ⟨L, cs, fz, h1, h0, h2⟩ := h p e he
  obtain ⟨cs', fz', h3⟩ := hw _ _ _ _ h2
  exact ⟨L, cs', fz', hG.l _ _ h1, h0, h3⟩

/-- Nothing is turned but at one place that is no row. -/
theorem TyOk.other {ph' : PH} (h : TyOk G ph w) {r : Nat} (hno : ∀ cs e fz, w.heap[r]? ≠ some (.cells cs e fz)) (hk : ∀ k, k ≠ r → w'.heap[k]? = w.heap[k]?) (ht : ph'.ty = ph.ty) : TyOk G ph' w' :=
  h.step (.refl _) (fun b cs e fz hb => ⟨cs, fz, by rw [hk b (by rintro rfl; exact hno _ _ _ hb)]; exact hb⟩) ht

/-- Nothing that concerns the growing rows is turned. -/
theorem GrOk.step {ph' : PH} (h : GrOk X G ph w) (hg : G'.g = G.g) (hl : G.l.length ≤ G'.l.length) (hro : ∀ p r, ph'.gro p = some r → ph.gro p = some r) (hw : ∀ b, Grows G ph b → w'.heap[b]? = w.heap[b]?)
    (hf : ∀ c v, G'.f c = some v → G.f c = some v ∨ ¬ Grows G ph c.block) (ho : ∀ q c L, ph'.get q = some c → G'.l[q]? = some L → (∃ c', ph.get q = some c' ∧ G.l[q]? = some L) ∨ ¬ Grows G ph L.b) : GrOk X G' ph' w' where
  own := fun p sz top e hp => by
    have hp0 := hro _ _ hp
    obtain ⟨x, h1, h2, h3, h4⟩ := h.own p sz top e hp0
    refine ⟨x, by rw [hg]; exact h1, by rw [hg]; exact h2, h3, fun a rcap hx => ?_⟩
    have hG : Grows G ph a.block := ⟨p, sz, top, e, a, rcap, hp0, by rw [h1, hx], rfl⟩
    obtain ⟨q1, q2, q3, q4, ⟨cs, fz, q5, q6, q7⟩, q8, q9⟩ := h4 a rcap hx
    refine ⟨q1, q2, q3, q4, ⟨cs, fz, by rw [hw _ hG]; exact q5, q6, q7⟩, ?_, ?_⟩
    · intro c v hc hb
      rcases hf c v hc with h5 | h5
      · exact q8 c v h5 hb
      · rw [hb] at h5; exact absurd hG h5
    · intro q c L hc hL
      rcases ho q c L hc hL with ⟨c', h5, h6⟩ | h5
      · exact q9 q c' L h5 h6
      · intro he; rw [he] at h5; exact h5 hG
  disj := fun p q s t e s' t' e' a ra b rb hpq h1 h2 h3 h4 => h.disj p q s t e s' t' e' a ra b rb hpq (hro _ _ h1) (hro _ _ h2) (by rw [← hg]; exact h3) (by rw [← hg]; exact h4)
  new := fun p m x hx => Nat.lt_of_lt_of_le (h.new p m x (by rw [← hg]; exact hx)) hl

theorem GrOk.cells (h : GrOk X G ph w) {b : Nat} (hb : Grows G ph b) : ∃ cs e fz, w.heap[b]? = some (.cells cs e fz) := by
  obtain ⟨p, s, t, e, a, ra, h1, h2, rfl⟩ := hb
  obtain ⟨x, h3, -, -, h4⟩ := h.own _ _ _ _ h1
  rw [h3] at h2; cases h2
  obtain ⟨cs, fz, h5, -⟩ := (h4 a ra rfl).hb
  exact ⟨cs, e, fz, h5⟩

theorem GrOk.lt (h : GrOk X G ph w) {b : Nat} (hb : Grows G ph b) : b < w.heap.size := by
  obtain ⟨cs, e, fz, h1⟩ := h.cells hb
  exact (Array.getElem?_eq_some_iff.1 h1).1

theorem Rel.noGrow (h : Rel X G ph w) {p : Nat} {c : List PV} {L : Loc} (hp : ph.get p = some c) (hL : G.l[p]? = some L) : ¬ Grows G ph L.b := by
  rintro ⟨q, s, t, e, a, ra, h1, h2, h3⟩
  obtain ⟨x, h4, -, -, h5⟩ := h.grow.own _ _ _ _ h1
  rw [h4] at h2; cases h2
  exact (h5 a ra rfl).own p c L hp hL h3.symm

theorem Grows.kill {p b : Nat} (h : Grows G (ph.kill p) b) : Grows G ph b := by
  obtain ⟨q, s, t, e, a, ra, h1, h2, h3⟩ := h
  rw [PH.gro_kill] at h1
  split at h1
  · cases h1
  · exact ⟨q, s, t, e, a, ra, h1, h2, h3⟩

theorem Rel.noGrowOb (h : Rel X G ph w) {r : Nat} (hno : ∀ cs e fz, w.heap[r]? ≠ some (.cells cs e fz)) : ¬ Grows G ph r := by
  intro hG; obtain ⟨cs, e, fz, h1⟩ := h.grow.cells hG; exact hno _ _ _ h1

/-- The counts of draws do not matter. -/
theorem Rel.congr (h : Rel X G ph w) (hh : w'.heap = w.heap) (ht : w'.tape = w.tape) (ho : w'.os = w.os) (hp : w'.output = w.output) : Rel X G ph w' where
  len := h.len
  below := h.below.trans ⟨ho, ht, hp, by rw [hh]; exact Nat.le_refl _, fun k _ => by rw [hh]⟩
  own := fun p c hc => by
    obtain ⟨L, vals, cs, e, fz, hL, o⟩ := h.own p c hc
    exact ⟨L, vals, cs, e, fz, hL, ⟨o.rv, o.lt, o.ge, by rw [hh]; exact o.hb, o.sz, o.fr, o.at_, o.one⟩⟩
  disj := h.disj
  fz := fun a v e => ⟨(h.fz a v e).1, by have := (h.fz a v e).2; simp only [World.cell?] at *; rw [hh]; exact this⟩
  fdisj := h.fdisj
  ob := fun r o e => ⟨(h.ob r o e).1, (h.ob r o e).2.mono (.refl _) (by rw [hh])⟩
  ty := h.ty.step (.refl _) (fun b cs e fz hb => ⟨cs, fz, by rw [hh]; exact hb⟩) rfl
  grow := h.grow.step rfl (Nat.le_refl _) (fun _ _ h => h) (fun b _ => by rw [hh]) (fun c v h => .inl h) fun q c L hc hL => .inl ⟨c, hc, hL⟩

theorem Rel.drew (h : Rel X G ph w) : Rel X G ph { w with drawn := w.drawn + 1 } := h.congr rfl rfl rfl rfl

theorem cell_alloc {a : Addr} {v : Value} {o : Obj} (h : w.cell? a = some v) : ({ w with heap := w.heap.push o } : World).cell? a = some v := by
  have hlt : a.block < w.heap.size := by
    by_cases hlt : a.block < w.heap.size
    · exact hlt
    · simp [World.cell?, Array.getElem?_eq_none (show w.heap.size ≤ a.block by omega)] at h
  simp only [World.cell?] at *
  rw [Array.getElem?_push, if_neg (by omega)]
  exact h

/-- A new block. -/
theorem Rel.push (h : Rel X G ph w) {cells : List PV} {vals extra : List Value} {cs : Array Value} {e : TypeId} {fz : Nat × Nat} (hv : RVs G cells vals) (h1 : ∀ v ∈ vals, v.oneCell' = true)
    (hcs : cs.toList = vals ++ extra) (hfz : cs.size ≤ fz.1 ∨ fz.2 ≤ fz.1) :
    Rel X (G.push ⟨w.heap.size, 0, cs.size⟩) (ph.push cells) { w with heap := w.heap.push (.cells cs e fz) } where
  len := by simp [Ghost.push, PH.push, h.len]
  below := h.below.trans ⟨rfl, rfl, rfl, by simp, fun k hk => by
    have := h.size; show (w.heap.push _)[k]? = _; rw [Array.getElem?_push, if_neg (by omega)]⟩
  own := fun p c hc => by
    rw [PH.get_push] at hc
    split at hc
    · rename_i hp
      cases hc
      refine ⟨⟨w.heap.size, 0, cs.size⟩, vals, cs, e, fz, ?_, ?_⟩
      · simp only [Ghost.push]; rw [hp, ← h.lenN]; simp
      · refine ⟨hv.mono (.push _ _), ?_, h.size, ?_, by simp, fun j hj => by simp only [] at hj ⊢; omega, ?_, h1⟩
        · have : cs.size = cs.toList.length := by simp
          simp only [this, hcs, List.length_append]; omega
        · show (w.heap.push _)[w.heap.size]? = _; simp
        · intro j v hj
          rw [Nat.zero_add, ← Array.getElem?_toList, hcs, List.getElem?_append_left (List.getElem?_eq_some_iff.1 hj).1]; exact hj
    · obtain ⟨L, vals', cs', e', fz', hL, o⟩ := h.own p c hc
      refine ⟨L, vals', cs', e', fz', (Le.push _ _).l _ _ hL, ⟨o.rv.mono (.push _ _), o.lt, o.ge, ?_, o.sz, o.fr, o.at_, o.one⟩⟩
      have hlt := (Array.getElem?_eq_some_iff.1 o.hb).1
      show (w.heap.push _)[L.b]? = _
      rw [Array.getElem?_push, if_neg (by omega)]; exact o.hb
  disj := fun p q c d L M hpq hp hq hL hM => by
    rw [PH.get_push] at hp hq
    have old : ∀ p c L, p ≠ ph.n → ph.get p = some c → (G.push ⟨w.heap.size, 0, cs.size⟩).l[p]? = some L → G.l[p]? = some L ∧ L.b < w.heap.size := by
      intro p c L hne hc hL
      obtain ⟨L', _, _, _, _, hL', o⟩ := h.own p c hc
      have e2 := (Le.push G ⟨w.heap.size, 0, cs.size⟩).l _ _ hL'
      rw [hL] at e2; cases e2
      exact ⟨hL', (Array.getElem?_eq_some_iff.1 o.hb).1⟩
    have new : ∀ L, (G.push ⟨w.heap.size, 0, cs.size⟩).l[ph.n]? = some L → L.b = w.heap.size := by
      intro L hL; simp only [Ghost.push] at hL; rw [← h.lenN] at hL; simp at hL; rw [← hL]
    split at hp
    · rename_i e1
      split at hq
      · rename_i e2; omega
      · rename_i e2
        have := old q d M e2 hq hM; subst e1; have := new L hL; omega
    · rename_i e1
      split at hq
      · rename_i e2
        have := old p c L e1 hp hL; subst e2; have := new M hM; omega
      · rename_i e2
        exact h.disj p q c d L M hpq hp hq (old p c L e1 hp hL).1 (old q d M e2 hq hM).1
  fz := fun a v hv => ⟨(h.fz a v hv).1, cell_alloc (h.fz a v hv).2⟩
  fdisj := fun a v p c L hv hp hL => by
    have hlt : a.block < w.heap.size := by
      by_cases hlt : a.block < w.heap.size
      · exact hlt
      · have := (h.fz a v hv).2; simp [World.cell?, Array.getElem?_eq_none (show w.heap.size ≤ a.block by omega)] at this
    rw [PH.get_push] at hp
    split at hp
    · rename_i e1
      subst e1; simp only [Ghost.push] at hL; rw [← h.lenN] at hL; simp at hL; rw [← hL]; simp; omega
    · obtain ⟨L', _, _, _, _, hL', o⟩ := h.own p c hp
      have e2 := (Le.push G ⟨w.heap.size, 0, cs.size⟩).l _ _ hL'
      rw [hL] at e2; cases e2
      exact h.fdisj a v p c L hv hp hL'
  ob := fun r o e => by
    obtain ⟨h1, h2⟩ := h.ob r o e
    refine ⟨h1, h2.mono (.push _ _) ?_⟩
    have hlt : r < w.heap.size := by
      cases o with
      | loop l => obtain ⟨rt, _, h2⟩ := h2; exact (Array.getElem?_eq_some_iff.1 h2).1
      | defd => exact (Array.getElem?_eq_some_iff.1 h2).1
    show (w.heap.push _)[r]? = _
    rw [Array.getElem?_push, if_neg (by omega)]
  ty := h.ty.step (.push _ _) (fun b cs' e' fz' hb => ⟨cs', fz', by
    have hlt := (Array.getElem?_eq_some_iff.1 hb).1
    show (w.heap.push _)[b]? = _
    rw [Array.getElem?_push, if_neg (by omega)]; exact hb⟩) rfl
  grow := h.grow.step rfl (by simp [Ghost.push]) (fun p r hr => by rw [PH.gro_push] at hr; exact hr)
    (fun b hb => by have := h.grow.lt hb; show (w.heap.push _)[b]? = _; rw [Array.getElem?_push, if_neg (by omega)]) (fun c v h => .inl h) fun q c L hc hL => by
      rw [PH.get_push] at hc
      split at hc
      · rename_i hq; subst hq
        refine .inr fun hG => ?_
        have h5 := h.grow.lt hG
        simp only [Ghost.push] at hL; rw [← h.lenN] at hL; simp at hL; rw [← hL] at h5; simp at h5
      · obtain ⟨L', _, _, _, _, hL', o⟩ := h.own q c hc
        have e2 := (Le.push G ⟨w.heap.size, 0, cs.size⟩).l _ _ hL'
        rw [hL] at e2; cases e2
        exact .inl ⟨c, hc, hL'⟩

/-- A block is no longer spoken of. -/
theorem Rel.kill (h : Rel X G ph w) (p : Nat) : Rel X G (ph.kill p) w where
  len := by rw [h.len]; simp [PH.kill]
  below := h.below
  own := fun q c hc => by
    rw [PH.get_kill] at hc
    split at hc
    · cases hc
    · exact h.own q c hc
  disj := fun a b c d L M hab hp hq => by
    rw [PH.get_kill] at hp hq
    split at hp
    · cases hp
    · split at hq
      · cases hq
      · exact h.disj a b c d L M hab hp hq
  fz := h.fz
  fdisj := fun a v q c L hv hp => by
    rw [PH.get_kill] at hp
    split at hp
    · cases hp
    · exact h.fdisj a v q c L hv hp
  ob := h.ob
  ty := h.ty.step (.refl _) (fun b cs e fz hb => ⟨cs, fz, hb⟩) rfl
  grow := h.grow.step rfl (Nat.le_refl _) (fun q r hr => by rw [PH.gro_kill] at hr; split at hr; cases hr; exact hr) (fun _ _ => rfl) (fun c v h => .inl h) fun q c L hc hL => by
    rw [PH.get_kill] at hc
    split at hc
    · cases hc
    · exact .inl ⟨c, hc, hL⟩

/-- A block's element type is told. -/
theorem Rel.tell (h : Rel X G ph w) {p : Nat} {L : Loc} {cs : Array Value} {e : TypeId} {fz : Nat × Nat} (hL : G.l[p]? = some L) (h0 : L.o = 0) (hb : w.heap[L.b]? = some (.cells cs e fz)) : Rel X G (ph.setTy p e) w where
  len := h.len
  below := h.below
  own := h.own
  disj := h.disj
  fz := h.fz
  fdisj := h.fdisj
  ob := h.ob
  grow := h.grow.step rfl (Nat.le_refl _) (fun _ _ h => h) (fun _ _ => rfl) (fun c v h => .inl h) fun q c L hc hL => .inl ⟨c, hc, hL⟩
  ty := by
    intro q e' he
    simp only [PH.setTy] at he
    split at he
    · rename_i hq; cases he; subst hq; exact ⟨L, cs, fz, hL, h0, hb⟩
    · exact h.ty q e' he

theorem Rel.ty_lt (h : Rel X G ph w) {p : Nat} {e : TypeId} (ht : ph.ty p = some e) : p < ph.n := by
  obtain ⟨L, cs, fz, hL, -, -⟩ := h.ty p e ht
  rw [← h.lenN]; exact (List.getElem?_eq_some_iff.1 hL).1

end rel
end Pv
