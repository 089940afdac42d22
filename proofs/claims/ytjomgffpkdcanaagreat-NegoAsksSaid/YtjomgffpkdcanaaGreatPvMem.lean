/- Part of the proof: the layer of pure values, or walks through functions (PvMem, PvOpsA). -/
import Derived.Test.YtjomgffpkdcanaaGreatPvCore
import Derived.Laws.Entries
set_option linter.all false
namespace Pv
open Go Go.RowKit
variable {X : Ctx} {G : Ghost} {ph : PH} {w : World}

/-! ### Types -/
inductive PK where
  | bool | int (k : IntKind) | str | ptr (e : Nat) | sl (e : Nat) | arr (n e : Nat) | st | fn | other
  deriving DecidableEq

def kOf : TypeDesc → PK
  | .bool => .bool | .int k => .int k | .string => .str | .pointer e => .ptr e | .slice e => .sl e | .array n e => .arr n e | .struct _ => .st | .func .. => .fn | _ => .other

def kP (P : Program) (t : TypeId) : Option PK := (P.underlying t).map kOf
def szP (P : Program) (t : TypeId) : Option Nat := (P.info? t).map (·.size)
def byP (P : Program) (t : TypeId) : Option Nat := (P.info? t).map (·.bytes)
def fldP (P : Program) (t : TypeId) (f : Nat) : Option (Nat × TypeId) :=
  match P.underlying t with
  | some (.struct fs) => (fs[f]?).bind fun x => (P.info? x.type).bind fun i => if i.size = 0 then none else some (x.offset, x.type)
  | _ => none

theorem kP_some {P : Program} {t : TypeId} {k : PK} (h : kP P t = some k) : ∃ d, P.underlying t = some d ∧ kOf d = k := by
  simpa [kP] using h
theorem szP_some {P : Program} {t : TypeId} {n : Nat} (h : szP P t = some n) : ∃ i, P.info? t = some i ∧ i.size = n := by
  simpa [szP] using h
theorem byP_some {P : Program} {t : TypeId} {n : Nat} (h : byP P t = some n) : ∃ i, P.info? t = some i ∧ i.bytes = n := by
  simpa [byP] using h

theorem run_underlying_k {P : Program} {t : TypeId} {d : TypeDesc} (h : P.underlying t = some d) (w : World) : (underlying t).run P w = .ok d w := by
  simp [underlying, h]
theorem run_typeInfo_k {P : Program} {t : TypeId} {i : TypeInfo} (h : P.info? t = some i) (w : World) : (typeInfo t).run P w = .ok i w := by
  simp [typeInfo, h]
theorem run_sizeOf_k {P : Program} {t : TypeId} {n : Nat} (h : szP P t = some n) (w : World) : (Go.sizeOf t).run P w = .ok n w := by
  obtain ⟨i, hi, rfl⟩ := szP_some h
  simp [Go.sizeOf, run_typeInfo_k hi]
def PK.agg : PK → Bool
  | .st | .arr _ _ => true
  | _ => false
theorem run_isAgg_k {P : Program} {t : TypeId} {k : PK} (h : kP P t = some k) (w : World) : (isAgg t).run P w = .ok k.agg w := by
  obtain ⟨d, hd, rfl⟩ := kP_some h
  simp only [isAgg, Sem.run_bind, run_underlying_k hd, Result.andThen_ok]
  cases d <;> rfl

/-! ### Constants -/
def ofCell : Value → Option PV
  | .bool b => some (.bool b)
  | .int k n => some (.int k n)
  | .string s => some (.str s.data.toList)
  | .pointer none => some .nilptr
  | .slice none 0 0 => some .nilsl
  | .nilFunc => some .nilfunc
  | .nilIface => some .nilif
  | _ => none

def ofCells : List Value → Option (List PV)
  | [] => some []
  | v :: vs => match ofCell v, ofCells vs with
    | some p, some ps => some (p :: ps)
    | _, _ => none

def ofValue : Value → Option PV
  | .agg cs => (ofCells cs.toList).map .agg
  | .tuple cs => if cs.size = 0 then some (.tuple []) else none
  | v => ofCell v

theorem ofCell_rv {v : Value} {p : PV} (h : ofCell v = some p) : RV G p v ∧ cellOk p = true := by
  unfold ofCell at h
  split at h <;> cases h <;> refine ⟨?_, rfl⟩
  · exact .bool _
  · exact .int _ _
  · exact .str _ _ rfl
  · exact .nilptr
  · exact .nilsl
  · exact .nilfunc
  · exact .nilif

theorem ofCells_rv : ∀ {vs : List Value} {ps : List PV}, ofCells vs = some ps → RVs G ps vs ∧ ps.all cellOk = true
  | [], ps, h => by cases h; exact ⟨.nil, rfl⟩
  | v :: vs, ps, h => by
    unfold ofCells at h
    split at h
    · rename_i p qs h1 h2
      cases h
      have a := ofCell_rv (G := G) h1
      have b := ofCells_rv h2
      exact ⟨.cons _ _ _ _ a.1 b.1, by simp [a.2, b.2]⟩
    · cases h

/-- A value's cells. -/
def PV.cells : PV → List PV
  | .agg cs => cs
  | v => [v]

theorem ofValue_rv {v : Value} {p : PV} (h : ofValue v = some p) : RV G p v := by
  unfold ofValue at h
  split at h
  · rename_i cs
    cases hc : ofCells cs.toList with
    | none => rw [hc] at h; cases h
    | some ps => rw [hc] at h; cases h; have := RV.agg _ _ (ofCells_rv (G := G) hc).1; simpa using this
  · rename_i cs
    split at h
    · rename_i h0
      cases h
      have : cs = (#[] : Array Value) := Array.size_eq_zero_iff.1 h0
      subst this
      exact .tuple [] [] .nil
    · cases h
  · exact (ofCell_rv h).1

theorem RV.cells {p : PV} {v : Value} (h : RV G p v) (hp : p.cells.all cellOk = true) : RVs G p.cells v.cells.toList ∧ ∀ u ∈ v.cells.toList, u.oneCell' = true := by
  cases h with
  | agg cells vals h =>
    refine ⟨by simpa [PV.cells, Value.cells] using h, ?_⟩
    have := h.ones hp
    simpa [Value.cells] using this
  | undef v => simp [PV.cells, cellOk] at hp
  | tuple _ _ _ => simp [PV.cells, cellOk] at hp
  | _ => exact ⟨.cons _ _ _ _ (by first | exact .bool _ | exact .int _ _ | exact .str _ _ ‹_› | exact .nilptr | exact .ptr _ _ _ ‹_› | exact .fptr _ _ _ _ ‹_› ‹_› | exact .nilsl | exact .zsl _ | exact .sl _ _ _ _ _ _ _ _ ‹_› ‹_› ‹_› ‹_› ‹_› | exact .fsl _ _ _ _ _ _ ‹_› ‹_› ‹_› ‹_› ‹_› | exact .fslnil _ | exact .func _ _ _ _ _ ‹_› ‹_› | exact .yield _ | exact .nilfunc | exact .nilif | exact .gsl _ _ _ _ _ _ _ _ ‹_› ‹_› ‹_› ‹_› ‹_› ‹_› ‹_› ‹_› ‹_› | exact .gslnil _ _ _ ‹_› ‹_› | exact .gptr _ _ _ _ _ _ _ _ ‹_› ‹_› ‹_› ‹_› ‹_› ‹_› ‹_› ‹_›) .nil, by simp [Value.cells, Value.oneCell']⟩

def zeroP (P : Program) (t : TypeId) : Option PV := (P.info? t).bind fun i => i.zero.bind fun z => (ofValue z).bind fun p => if p.cells.all cellOk then some p else none

theorem zeroP_some {P : Program} {t : TypeId} {p : PV} (h : zeroP P t = some p) : ∃ i z, P.info? t = some i ∧ i.zero = some z ∧ ofValue z = some p ∧ p.cells.all cellOk = true := by
  simp only [zeroP, Option.bind_eq_some_iff] at h
  obtain ⟨i, hi, z, hz, q, hq, h⟩ := h
  split at h
  · cases h; exact ⟨i, z, hi, hz, hq, ‹_›⟩
  · cases h

theorem run_zero_k {P : Program} {t : TypeId} {p : PV} (h : zeroP P t = some p) (w : World) : ∃ z, (zeroValue t).run P w = .ok z w ∧ RV G p z ∧ p.cells.all cellOk = true := by
  obtain ⟨i, z, hi, hz, hp, hc⟩ := zeroP_some h
  exact ⟨z, by simp [zeroValue, run_typeInfo_k hi, hz], ofValue_rv hp, hc⟩

/-! ### What an operation gives -/
def Gives (X : Ctx) (G : Ghost) (r : Result Value) (pv : PV) (ph' : PH) : Prop :=
  ∃ v w' G', r = .ok v w' ∧ Le G G' ∧ Rel X G' ph' w' ∧ RV G' pv v

theorem Gives.pure {r : Result Value} {pv : PV} {v : Value} (h : Rel X G ph w) (hr : r = .ok v w) (hv : RV G pv v) : Gives X G r pv ph := ⟨v, w, G, hr, .refl _, h, hv⟩

/-- .. and the element type of a block of its own. -/
def GivesE (X : Ctx) (G : Ghost) (r : Result Value) (pv : PV) (ph' : PH) (q : Nat) (e : TypeId) : Prop :=
  ∃ v w' G', r = .ok v w' ∧ Le G G' ∧ Rel X G' ph' w' ∧ RV G' pv v ∧ ∃ L cs fz, G'.l[q]? = some L ∧ L.o = 0 ∧ w'.heap[L.b]? = some (.cells cs e fz)

theorem GivesE.gives {r : Result Value} {pv : PV} {ph' : PH} {q : Nat} {e : TypeId} (h : GivesE X G r pv ph' q e) : Gives X G r pv ph' := by
  obtain ⟨v, w', G', h1, h2, h3, h4, -⟩ := h; exact ⟨v, w', G', h1, h2, h3, h4⟩

theorem GivesE.tell {r : Result Value} {pv : PV} {ph' : PH} {q : Nat} {e : TypeId} (h : GivesE X G r pv ph' q e) : Gives X G r pv (ph'.setTy q e) := by
  obtain ⟨v, w', G', h1, h2, h3, h4, L, cs, fz, h5, h6, h7⟩ := h
  exact ⟨v, w', G', h1, h2, h3.tell h5 h6 h7, h4⟩

/-! ### Addresses -/
theorem add_plain (b o n : Nat) : (⟨b, o, none⟩ : Addr).add n = ⟨b, o + n, none⟩ := by
  unfold Addr.add; split
  · rename_i h; subst h; rfl
  · rfl

/-! ### Making -/
theorem gives_new (h : Rel X G ph w) {cells : List PV} {vals extra : List Value} {cs : Array Value} {e : TypeId} (hv : RVs G cells vals) (h1 : ∀ v ∈ vals, v.oneCell' = true) (hcs : cs.toList = vals ++ extra) :
    ∃ w' G', (newRow e cs).run X.P w = .ok ⟨w.heap.size, 0, none⟩ w' ∧ w' = { w with heap := w.heap.push (.cells cs e (0, 0)) } ∧ Le G G' ∧ Rel X G' (ph.push cells) w' ∧ G'.l[ph.n]? = some ⟨w.heap.size, 0, cs.size⟩ := by
  refine ⟨_, _, by simp [newRow], rfl, Le.push G ⟨w.heap.size, 0, cs.size⟩, h.push hv h1 hcs (.inr (Nat.le_refl _)), ?_⟩
  simp only [Ghost.push]; rw [← h.lenN]; simp

theorem gives_var (h : Rel X G ph w) {p : PV} {v : Value} {e : TypeId} (hv : RV G p v) (hp : p.cells.all cellOk = true) :
    Gives X G (((fun a => Value.pointer (some a)) <$> newVar e v).run X.P w) (.ptr ph.n 0) (ph.push p.cells) := by
  obtain ⟨h1, h2⟩ := hv.cells hp
  obtain ⟨w', G', hr, -, hle, hrel, hl⟩ := gives_new (e := e) (cs := v.cells) (extra := []) h h1 h2 (by simp)
  exact ⟨_, w', G', by simp [newVar, hr], hle, hrel, .ptr ph.n 0 _ hl⟩

theorem gives_alloc (h : Rel X G ph w) {t : TypeId} {z : PV} (hz : zeroP X.P t = some z) : Gives X G ((Instr.alloc t true (.tuple #[])).run X.P w) (.ptr ph.n 0) (ph.push z.cells) := by
  obtain ⟨v, hr, hv, hc⟩ := run_zero_k (G := G) hz w
  obtain ⟨u, w', G', e, r⟩ := gives_var (e := t) h hv hc
  refine ⟨u, w', G', ?_, r⟩
  rw [← e]; simp [Instr.alloc, hr]

theorem gives_allocE (h : Rel X G ph w) {t : TypeId} {z : PV} (hz : zeroP X.P t = some z) : GivesE X G ((Instr.alloc t true (.tuple #[])).run X.P w) (.ptr ph.n 0) (ph.push z.cells) ph.n t := by
  obtain ⟨v, hr, hv, hc⟩ := run_zero_k (G := G) hz w
  obtain ⟨h1, h2⟩ := hv.cells hc
  obtain ⟨w', G', hr', hw, hle, hrel, hl⟩ := gives_new (e := t) (cs := v.cells) (extra := []) h h1 h2 (by simp)
  exact ⟨_, w', G', by simp [Instr.alloc, hr, newVar, hr'], hle, hrel, .ptr ph.n 0 _ hl, _, v.cells, (0, 0), hl, rfl, by rw [hw]; simp⟩

theorem gives_box (h : Rel X G ph w) {t : TypeId} {p : PV} {v : Value} (hv : RV G p v) (hp : p.cells.all cellOk = true) : Gives X G ((Instr.box t v).run X.P w) (.ptr ph.n 0) (ph.push p.cells) := by
  obtain ⟨u, w', G', e, r⟩ := gives_var (e := t) h hv hp
  refine ⟨u, w', G', ?_, r⟩
  rw [← e]; simp [Instr.box]

/-! ### Reading -/
theorem OwnRel.cell {L : Loc} {cells : List PV} {vals : List Value} {cs : Array Value} {e : TypeId} {fz : Nat × Nat} (o : OwnRel X G w L cells vals cs e fz) {j : Nat} {v : Value} (hv : vals[j]? = some v) :
    w.cell? ⟨L.b, L.o + j, none⟩ = some v := by
  simp only [World.cell?, o.hb]; simpa using o.at_ j v hv

theorem run_load_k {P : Program} {a : Addr} {v : Value} (h : w.cell? a = some v) : (load a).run P w = .ok v w := by simp [h]

/-- n cells from off on. -/
def seg (cells : List PV) (off n : Nat) : List PV := (cells.drop off).take n

theorem run_cells {P : Program} {vals : List Value} {b o n off : Nat} (hc : ∀ j v, vals[j]? = some v → w.cell? ⟨b, o + j, none⟩ = some v) (hn : off + n ≤ vals.length) :
    (loadCells ⟨b, o + off, none⟩ n).run P w = .ok ((vals.drop off).take n).toArray w := by
  have hl : ((vals.drop off).take n).length = n := by simp; omega
  have := run_loadCells_list (P := P) w ⟨b, o + off, none⟩ ((vals.drop off).take n) (fun j v hv => by
    rw [add_plain]
    rw [List.getElem?_take] at hv
    split at hv
    · rw [List.getElem?_drop] at hv
      have := hc _ _ hv
      rw [Nat.add_assoc]; exact this
    · cases hv)
  rw [hl] at this; exact this

def loadP (P : Program) (t : TypeId) (cells : List PV) (off : Nat) : Option PV :=
  match kP P t with
  | none => none
  | some k => if k.agg then (match szP P t with | none => none | some n => if off + n ≤ cells.length then some (.agg (seg cells off n)) else none) else cells[off]?

theorem run_loadVar_p {P : Program} {t : TypeId} {cells : List PV} {vals : List Value} {b o off : Nat} {pv : PV} (hc : ∀ j v, vals[j]? = some v → w.cell? ⟨b, o + j, none⟩ = some v) (hr : RVs G cells vals)
    (h : loadP P t cells off = some pv) : ∃ v, (loadVar t ⟨b, o + off, none⟩).run P w = .ok v w ∧ RV G pv v := by
  unfold loadP at h
  split at h
  · cases h
  · rename_i k hk
    split at h
    · rename_i ha
      split at h
      · cases h
      · rename_i n hn
        split at h
        · rename_i hle
          cases h
          have := run_cells (P := P) (n := n) (off := off) hc (by rw [← hr.length]; exact hle)
          exact ⟨_, by simp [loadVar, run_isAgg_k hk, ha, run_sizeOf_k hn, this], .agg _ _ ((hr.drop off).take n)⟩
        · cases h
    · rename_i ha
      obtain ⟨v, hv, hrv⟩ := hr.get off pv h
      refine ⟨v, ?_, hrv⟩
      have ha : k.agg = false := by simpa using ha
      simp only [loadVar, Sem.run_bind, run_isAgg_k hk, Result.andThen_ok, ha, Bool.false_eq_true, if_false, run_load_k (hc _ _ hv)]

theorem gives_load (h : Rel X G ph w) {t : TypeId} {p off : Nat} {cells : List PV} {a : Value} {pv : PV} (ha : RV G (.ptr p off) a) (hp : ph.get p = some cells) (hl : loadP X.P t cells off = some pv) :
    Gives X G ((Instr.loadAt t a).run X.P w) pv ph := by
  obtain ⟨L, vals, cs, e, fz, hL, o⟩ := h.own p cells hp
  cases ha with
  | ptr _ _ L' h' =>
    rw [hL] at h'; cases h'
    obtain ⟨v, hr, hv⟩ := run_loadVar_p (P := X.P) (w := w) (b := L.b) (o := L.o) (fun j v hv => o.cell hv) o.rv hl
    exact .pure h (by simp [Instr.loadAt, Instr.sureAddr, hr]) hv

theorem gives_load_f (h : Rel X G ph w) {t : TypeId} {cells : List PV} {a : Value} {pv : PV} (ha : RV G (.fptr cells) a) (hl : loadP X.P t cells 0 = some pv) :
    Gives X G ((Instr.loadAt t a).run X.P w) pv ph := by
  cases ha with
  | fptr _ vals b o hr hf =>
    obtain ⟨v, hr, hv⟩ := run_loadVar_p (P := X.P) (w := w) (b := b) (o := o) (fun j v hv => (h.fz _ _ (hf j v hv)).2) hr hl
    exact .pure h (by simpa [Instr.loadAt, Instr.sureAddr] using hr) hv

/-! ### Writing -/
theorem setCell_heap (w : World) (b k : Nat) (v : Value) (i : Nat) : (w.setCell ⟨b, k, none⟩ v).heap[i]? = if i = b then (w.heap[i]?).map (fun o => match o with
      | .cells c elem frozen => .cells (c.setIfInBounds k v) elem frozen
      | o => o) else w.heap[i]? := by
  simp only [World.setCell, Array.getElem?_modify]
  by_cases h : b = i
  · subst h; simp; cases w.heap[b]? with | none => rfl | some o => cases o <;> rfl
  · rw [if_neg h, if_neg (fun e => h e.symm)]

theorem Rel.store1 (h : Rel X G ph w) {p k : Nat} {cells : List PV} {c : PV} {v : Value} {L : Loc} (hp : ph.get p = some cells) (hL : G.l[p]? = some L) (hk : k < cells.length) (hv : RV G c v) (hc : cellOk c = true) :
    (store ⟨L.b, L.o + k, none⟩ v).run X.P w = .ok () (w.setCell ⟨L.b, L.o + k, none⟩ v) ∧ Rel X G (ph.put p (cells.set k c)) (w.setCell ⟨L.b, L.o + k, none⟩ v) := by
  obtain ⟨L', vals, cs, e, fz, hL', o⟩ := h.own p cells hp
  rw [hL] at hL'; cases hL'
  have hone : v.oneCell' = true := hv.one (by revert hc; unfold cellOk; cases c <;> simp)
  have hkv : k < vals.length := by rw [← o.rv.length]; exact hk
  have hcell := o.cell (List.getElem?_eq_getElem hkv)
  have hlt := PH.get_lt hp
  have hb : (w.setCell ⟨L.b, L.o + k, none⟩ v).heap[L.b]? = some (.cells (cs.setIfInBounds (L.o + k) v) e fz) := by rw [setCell_heap, if_pos rfl, o.hb]; rfl
  have hother : ∀ i, i ≠ L.b → (w.setCell ⟨L.b, L.o + k, none⟩ v).heap[i]? = w.heap[i]? := fun i hi => by rw [setCell_heap, if_neg hi]
  constructor
  · rw [run_store _ _ _ _ _ hone, hcell]
    have hfr : w.frozen? ⟨L.b, L.o + k, none⟩ = false := by
      simp only [World.frozen?, o.hb]
      have := o.fr k (by have := o.lt; omega)
      simp only [Bool.and_eq_false_iff, decide_eq_false_iff_not]
      by_cases hx : fz.1 ≤ L.o + k
      · exact .inr fun hy => this ⟨hx, hy⟩
      · exact .inl hx
    simp [hfr]
  · have hgr : GrOk X G (ph.put p (cells.set k c)) (w.setCell ⟨L.b, L.o + k, none⟩ v) := h.grow.step rfl (Nat.le_refl _) (fun q r hr => by rw [PH.gro_put] at hr; split at hr; cases hr; exact hr)
      (fun b hb => hother b fun e => h.noGrow hp hL (e ▸ hb)) (fun c v h => .inl h) fun q c M hc hM => by
        rw [PH.get_put hlt] at hc
        split at hc
        · rename_i e1; subst e1; exact .inl ⟨cells, hp, hM⟩
        · exact .inl ⟨c, hc, hM⟩
    refine ⟨?_, ?_, ?_, ?_, ?_, ?_, ?_, h.ty.step (.refl _) (fun b' cs' e' fz' hb' => ?_) rfl, hgr⟩
    · simp [PH.put, h.len]
    · exact h.below.setCell (p := ⟨L.b, L.o + k, none⟩) o.ge v
    · intro q d hq
      rw [PH.get_put hlt] at hq
      split at hq
      · rename_i e1; cases hq; subst e1
        refine ⟨L, vals.set k v, _, e, fz, hL, ⟨o.rv.set k hv, by simpa using o.lt, o.ge, hb, by simpa using o.sz, o.fr, ?_, ?_⟩⟩
        · intro j u hj
          rw [List.getElem?_set] at hj
          split at hj
          · rename_i ej; subst ej
            cases hj
            rw [Array.getElem?_setIfInBounds, if_pos rfl, if_pos (by have := o.sz; have := o.lt; omega)]
          · rename_i ej
            rw [Array.getElem?_setIfInBounds, if_neg (by omega)]; exact o.at_ j u hj
        · intro u hu
          rcases List.mem_or_eq_of_mem_set hu with h1 | h1
          · exact o.one u h1
          · subst h1; exact hone
      · rename_i e1
        obtain ⟨M, vals', cs', e', fz', hM, o'⟩ := h.own q d hq
        exact ⟨M, vals', cs', e', fz', hM, ⟨o'.rv, o'.lt, o'.ge, by rw [hother _ (h.disj q p _ _ _ _ e1 hq hp hM hL)]; exact o'.hb, o'.sz, o'.fr, o'.at_, o'.one⟩⟩
    · intro a b c d M N hab ha hb' hM hN
      rw [PH.get_put hlt] at ha hb'
      have ha' : ∃ c, ph.get a = some c := by
        split at ha
        · rename_i e1; exact ⟨_, by rw [e1]; exact hp⟩
        · exact ⟨_, ha⟩
      have hb'' : ∃ c, ph.get b = some c := by
        split at hb'
        · rename_i e1; exact ⟨_, by rw [e1]; exact hp⟩
        · exact ⟨_, hb'⟩
      exact h.disj a b _ _ M N hab ha'.choose_spec hb''.choose_spec hM hN
    · intro a u ha
      obtain ⟨h1, h2⟩ := h.fz a u ha
      refine ⟨h1, ?_⟩
      have hne := h.fdisj a u p cells L ha hp hL
      simp only [World.cell?] at h2 ⊢
      rw [hother _ hne]; exact h2
    · intro a u q d M ha hq hM
      rw [PH.get_put hlt] at hq
      split at hq
      · rename_i e1; subst e1; exact h.fdisj a u q cells M ha hp hM
      · exact h.fdisj a u q d M ha hq hM
    · intro r ob hr
      obtain ⟨h1, h2⟩ := h.ob r ob hr
      refine ⟨h1, h2.mono (.refl _) (hother _ ?_)⟩
      rintro rfl
      cases ob with
      | loop l => obtain ⟨rt, _, h2⟩ := h2; rw [o.hb] at h2; cases h2
      | defd => have : w.heap[L.b]? = _ := h2; rw [o.hb] at this; cases this
    · by_cases hbb : b' = L.b
      · subst hbb; rw [o.hb] at hb'; cases hb'; exact ⟨_, _, hb⟩
      · exact ⟨_, _, (hother _ hbb).trans hb'⟩

def setL (cells : List PV) (off : Nat) : List PV → List PV
  | [] => cells
  | v :: vs => setL (cells.set off v) (off + 1) vs

@[simp] theorem setL_length (cells : List PV) (off : Nat) (vs : List PV) : (setL cells off vs).length = cells.length := by
  induction vs generalizing cells off with
  | nil => rfl
  | cons v vs ih => simp [setL, ih]

theorem put_put (ph : PH) (p : Nat) (c d : List PV) : (ph.put p c).put p d = ph.put p d := by simp [PH.put]

theorem put_self {ph : PH} {p : Nat} {c : List PV} (h : ph.get p = some c) : ph.put p c = ph := by
  have := PH.get_eq.1 h
  unfold PH.put
  have e : ph.bl.set p (some (.own c)) = ph.bl := by
    apply List.ext_getElem?; intro i
    rw [List.getElem?_set]
    split
    · rename_i e; subst e; rw [this]; split
      · rfl
      · have := (List.getElem?_eq_some_iff.1 this).1; omega
    · rfl
  rw [e]

theorem Rel.stores {p : Nat} {L : Loc} (hL : G.l[p]? = some L) : ∀ (vs : List PV) (us : List Value) (i k : Nat) (ph : PH) (w : World) (cells : List PV) (h : Rel X G ph w) (hp : ph.get p = some cells) (hk : k + i + vs.length ≤ cells.length) (hv : RVs G vs us) (hc : vs.all cellOk = true),
    ∃ w', (storeCells ⟨L.b, L.o + k, none⟩ us i).run X.P w = .ok () w' ∧ Rel X G (ph.put p (setL cells (k + i) vs)) w'
  | [], us, i, k, ph, w, cells, h, hp, hk, hv, hc => by
    cases hv
    exact ⟨w, by simp [storeCells], by simp only [setL]; rw [put_self hp]; exact h⟩
  | v :: vs, us, i, k, ph, w, cells, h, hp, hk, hv, hc => by
    cases hv with
    | cons _ u _ us hv hvs =>
      simp only [List.all_cons, Bool.and_eq_true] at hc
      simp only [List.length_cons] at hk
      obtain ⟨e1, h1⟩ := h.store1 hp hL (k := k + i) (by omega) hv hc.1
      have hp1 : (ph.put p (cells.set (k + i) v)).get p = some (cells.set (k + i) v) := by rw [PH.get_put (PH.get_lt hp), if_pos rfl]
      obtain ⟨w', e2, h2⟩ := Rel.stores hL vs us (i + 1) k _ _ _ h1 hp1 (by simp; omega) hvs hc.2
      refine ⟨w', ?_, ?_⟩
      · simp only [storeCells, Sem.run_bind, add_plain]
        rw [Nat.add_assoc, e1, Result.andThen_ok]; exact e2
      · rw [put_put] at h2; exact h2

theorem gives_store (h : Rel X G ph w) {t : TypeId} {p off n : Nat} {cells : List PV} {a x : Value} {pv : PV} (ha : RV G (.ptr p off) a) (hx : RV G pv x) (hp : ph.get p = some cells)
    (hn : szP X.P t = some n) (hl : pv.cells.length = n) (hc : pv.cells.all cellOk = true) (hle : off + n ≤ cells.length) :
    ∃ w', (Instr.storeAt t a x).run X.P w = .ok () w' ∧ Rel X G (ph.put p (setL cells off pv.cells)) w' := by
  cases ha with
  | ptr _ _ L hL =>
    obtain ⟨h1, h2⟩ := hx.cells hc
    obtain ⟨w', e, h3⟩ := Rel.stores hL pv.cells x.cells.toList 0 off ph w cells h hp (by omega) h1 hc
    refine ⟨w', ?_, h3⟩
    have hs : x.cells.size = n := by rw [← hl, h1.length]; simp
    simp only [Instr.storeAt, Instr.sureAddr, storeVar, Sem.run_bind, Sem.run_pure, Result.andThen_ok, run_sizeOf_k hn, hs, ne_eq, not_true_eq_false, if_false]
    exact e

end Pv

namespace Pv
open Go Go.RowKit
variable {X : Ctx} {G : Ghost} {ph : PH} {w : World}

theorem RV.int_inv {k : IntKind} {n : Int} {v : Value} (h : RV G (.int k n) v) : v = .int k n := by cases h; rfl
theorem RV.bool_inv {b : Bool} {v : Value} (h : RV G (.bool b) v) : v = .bool b := by cases h; rfl
theorem RV.str_inv {s : List UInt8} {v : Value} (h : RV G (.str s) v) : ∃ t : ByteArray, v = .string t ∧ t.data.toList = s := by cases h; exact ⟨_, rfl, ‹_›⟩

/-! ### Fields -/
theorem fldP_some {P : Program} {t : TypeId} {f o : Nat} {ft : TypeId} (h : fldP P t f = some (o, ft)) :
    ∃ fs x i, P.underlying t = some (.struct fs) ∧ fs[f]? = some x ∧ x.offset = o ∧ x.type = ft ∧ P.info? ft = some i ∧ i.size ≠ 0 := by
  unfold fldP at h
  split at h
  · rename_i fs hu
    simp only [Option.bind_eq_some_iff] at h
    obtain ⟨x, hx, i, hi, h⟩ := h
    split at h
    · cases h
    · rename_i hs
      cases h
      exact ⟨fs, x, i, hu, hx, rfl, rfl, hi, hs⟩
  · cases h

theorem run_fieldAt {P : Program} {t : TypeId} {f o : Nat} {ft : TypeId} (h : fldP P t f = some (o, ft)) (b k : Nat) :
    (Instr.fieldAt t (.pointer (some ⟨b, k, none⟩)) f).run P w = .ok (.pointer (some ⟨b, k + o, none⟩)) w := by
  obtain ⟨fs, x, i, hu, hx, rfl, rfl, hi, hs⟩ := fldP_some h
  simp [Instr.fieldAt, run_underlying_k hu, hx, Instr.sureAddr, fieldPlace, Go.sizeOf, run_typeInfo_k hi, hs, add_plain]

theorem gives_fieldAddr (h : Rel X G ph w) {t : TypeId} {f o p off : Nat} {ft : TypeId} {a : Value} (ha : RV G (.ptr p off) a) (hf : fldP X.P t f = some (o, ft)) :
    Gives X G ((Instr.fieldAt t a f).run X.P w) (.ptr p (off + o)) ph := by
  cases ha with
  | ptr _ _ L hL => exact .pure h (run_fieldAt hf _ _) (by rw [Nat.add_assoc]; exact .ptr _ _ _ hL)

theorem RV.fptr_drop {cells : List PV} {vals : List Value} {b o : Nat} (hr : RVs G cells vals) (hf : ∀ (j : Nat) (v : Value), vals[j]? = some v → G.f ⟨b, o + j, none⟩ = some v) (n : Nat) :
    RV G (.fptr (cells.drop n)) (.pointer (some ⟨b, o + n, none⟩)) :=
  .fptr _ _ _ _ (hr.drop n) fun j v hj => by rw [List.getElem?_drop] at hj; rw [Nat.add_assoc]; exact hf _ _ hj

theorem gives_fieldAddr_f (h : Rel X G ph w) {t : TypeId} {f o : Nat} {cells : List PV} {ft : TypeId} {a : Value} (ha : RV G (.fptr cells) a) (hf : fldP X.P t f = some (o, ft)) :
    Gives X G ((Instr.fieldAt t a f).run X.P w) (.fptr (cells.drop o)) ph := by
  cases ha with
  | fptr _ vals b k hr hv => exact .pure h (run_fieldAt hf _ _) (.fptr_drop hr hv o)

/-- A part of an aggregate. -/
theorem run_part {P : Program} {t : TypeId} {cells : List PV} {vals : List Value} {off : Nat} {pv : PV} (hr : RVs G cells vals) (h : loadP P t cells off = some pv) :
    ∃ v, (part t vals.toArray off).run P w = .ok v w ∧ RV G pv v := by
  unfold loadP at h
  split at h
  · cases h
  · rename_i k hk
    split at h
    · rename_i ha
      split at h
      · cases h
      · rename_i n hn
        split at h
        · rename_i hle
          cases h
          refine ⟨.agg ((vals.drop off).take n).toArray, ?_, .agg _ _ ((hr.drop off).take n)⟩
          simp only [part, Sem.run_bind, run_isAgg_k hk, Result.andThen_ok, ha, if_true, run_sizeOf_k hn, Sem.run_pure]
          congr 2
          apply Array.toList_inj.1
          simp [List.extract]
        · cases h
    · rename_i ha
      obtain ⟨v, hv, hrv⟩ := hr.get off pv h
      refine ⟨v, ?_, hrv⟩
      have ha : k.agg = false := by simpa using ha
      simp [part, run_isAgg_k hk, ha, hv]

theorem gives_field (h : Rel X G ph w) {t : TypeId} {f o : Nat} {cells : List PV} {ft : TypeId} {a : Value} {pv : PV} (ha : RV G (.agg cells) a) (hf : fldP X.P t f = some (o, ft)) (hl : loadP X.P ft cells o = some pv) :
    Gives X G ((Instr.field t a f).run X.P w) pv ph := by
  cases ha with
  | agg _ vals hr =>
    obtain ⟨fs, x, i, hu, hx, rfl, rfl, hi, hs⟩ := fldP_some hf
    obtain ⟨v, e, hv⟩ := run_part (w := w) hr hl
    exact .pure h (by simp [Instr.field, run_underlying_k hu, hx, asAgg, e]) hv

/-! ### Indices -/
def kArr (P : Program) (t : TypeId) : Option (Nat × TypeId) := match P.underlying t with | some (.array n e) => some (n, e) | _ => none
def kSl (P : Program) (t : TypeId) : Option TypeId := match P.underlying t with | some (.slice e) => some e | _ => none
theorem kArr_some {P : Program} {t : TypeId} {n : Nat} {e : TypeId} (h : kArr P t = some (n, e)) : P.underlying t = some (.array n e) := by
  unfold kArr at h; split at h
  · rename_i hu; cases h; exact hu
  · cases h
theorem kSl_some {P : Program} {t : TypeId} {e : TypeId} (h : kSl P t = some e) : P.underlying t = some (.slice e) := by
  unfold kSl at h; split at h
  · rename_i hu; cases h; exact hu
  · cases h

theorem gives_index_arr (h : Rel X G ph w) {t e : TypeId} {n sz : Nat} {k : IntKind} {i : Int} {cells : List PV} {a x : Value} {pv : PV} (ha : RV G (.agg cells) a) (hx : RV G (.int k i) x) (ht : kArr X.P t = some (n, e)) (hs : szP X.P e = some sz)
    (h0 : 0 ≤ i) (h1 : i < n) (hl : loadP X.P e cells (i.toNat * sz) = some pv) : Gives X G ((Instr.index t a x).run X.P w) pv ph := by
  obtain rfl := hx.int_inv
  cases ha with
  | agg _ vals hr =>
    obtain ⟨v, ev, hv⟩ := run_part (w := w) hr hl
    exact .pure h (by simp [Instr.index, asIntOf, run_underlying_k (kArr_some ht), h0, h1, run_sizeOf_k hs, ev]) hv

theorem gives_index_str (h : Rel X G ph w) {t : TypeId} {k : IntKind} {i : Int} {s : List UInt8} {c : UInt8} {a x : Value} (ha : RV G (.str s) a) (hx : RV G (.int k i) x) (ht : kP X.P t = some .str) (h0 : 0 ≤ i) (hc : s[i.toNat]? = some c) :
    Gives X G ((Instr.index t a x).run X.P w) (.int .u8 c.toNat) ph := by
  obtain rfl := hx.int_inv
  obtain ⟨b, rfl, hb⟩ := ha.str_inv
  obtain ⟨d, hd, hk⟩ := kP_some ht
  have hd' : d = .string := by cases d <;> simp_all [kOf]
  subst hd'
  have hlt : i.toNat < b.data.size := by rw [← Array.length_toList, hb]; exact (List.getElem?_eq_some_iff.1 hc).1
  have e : b[i.toNat]? = some c := by
    have e1 : b[i.toNat]? = some b[i.toNat] := getElem?_pos b i.toNat hlt
    rw [e1]
    have e2 : b.data.toList[i.toNat]? = some c := by rw [hb]; exact hc
    rw [Array.getElem?_toList, Array.getElem?_eq_getElem hlt] at e2
    exact e2
  exact .pure h (by simp [Instr.index, asIntOf, run_underlying_k hd, h0, e]) (.int _ _)

theorem run_indexAt_sl {P : Program} {t e : TypeId} {sz len rcap : Nat} {k : IntKind} {i : Int} {b o : Nat} (ht : kSl P t = some e) (hs : szP P e = some sz) (h0 : 0 ≤ i) (h1 : i < len) :
    (Instr.indexAt t (.slice (some ⟨b, o, none⟩) len rcap) (.int k i)).run P w = .ok (.pointer (some ⟨b, o + i.toNat * sz, none⟩)) w := by
  simp [Instr.indexAt, asIntOf, run_underlying_k (kSl_some ht), h0, h1, run_sizeOf_k hs, add_plain]

theorem gives_indexAddr_sl (h : Rel X G ph w) {t e : TypeId} {p off esz len : Nat} {cap : Option Nat} {k : IntKind} {i : Int} {a x : Value} (ha : RV G (.sl p off esz len cap) a) (hx : RV G (.int k i) x) (ht : kSl X.P t = some e) (hs : szP X.P e = some esz)
    (h0 : 0 ≤ i) (h1 : i < len) : Gives X G ((Instr.indexAt t a x).run X.P w) (.ptr p (off + i.toNat * esz)) ph := by
  obtain rfl := hx.int_inv
  cases ha with
  | sl _ _ _ _ _ L a rcap hL h2 h3 h4 h5 =>
    obtain rfl := h5 (by omega)
    exact .pure h (run_indexAt_sl ht hs h0 h1) (by rw [Nat.add_assoc]; exact .ptr _ _ _ hL)

theorem gives_indexAddr_fsl (h : Rel X G ph w) {t e : TypeId} {esz len : Nat} {cells : List PV} {k : IntKind} {i : Int} {a x : Value} (ha : RV G (.fsl esz len cells) a) (hx : RV G (.int k i) x) (ht : kSl X.P t = some e) (hs : szP X.P e = some esz)
    (h0 : 0 ≤ i) (h1 : i < len) : Gives X G ((Instr.indexAt t a x).run X.P w) (.fptr (cells.drop (i.toNat * esz))) ph := by
  obtain rfl := hx.int_inv
  cases ha with
  | fsl _ _ _ vals a rcap hr h2 h3 h4 hf =>
    have hsp := h4 (by omega)
    obtain ⟨b, o, sp⟩ := a
    simp only at hsp hf; subst hsp
    exact .pure h (run_indexAt_sl ht hs h0 h1) (.fptr_drop hr hf _)
  | fslnil _ => simp only [Int.natCast_zero] at h1; omega

theorem run_indexAt_arr {P : Program} {t e : TypeId} {n sz : Nat} {k : IntKind} {i : Int} {b o : Nat} (ht : kArr P t = some (n, e)) (hs : szP P e = some sz) (h0 : 0 ≤ i) (h1 : i < n) :
    (Instr.indexAt t (.pointer (some ⟨b, o, none⟩)) (.int k i)).run P w = .ok (.pointer (some ⟨b, o + i.toNat * sz, none⟩)) w := by
  simp [Instr.indexAt, asIntOf, run_underlying_k (kArr_some ht), h0, h1, run_sizeOf_k hs, add_plain, Instr.sureAddr]

theorem gives_indexAddr_arr (h : Rel X G ph w) {t e : TypeId} {p off n sz : Nat} {k : IntKind} {i : Int} {a x : Value} (ha : RV G (.ptr p off) a) (hx : RV G (.int k i) x) (ht : kArr X.P t = some (n, e)) (hs : szP X.P e = some sz)
    (h0 : 0 ≤ i) (h1 : i < n) : Gives X G ((Instr.indexAt t a x).run X.P w) (.ptr p (off + i.toNat * sz)) ph := by
  obtain rfl := hx.int_inv
  cases ha with
  | ptr _ _ L hL => exact .pure h (run_indexAt_arr ht hs h0 h1) (by rw [Nat.add_assoc]; exact .ptr _ _ _ hL)

theorem gives_indexAddr_farr (h : Rel X G ph w) {t e : TypeId} {n sz : Nat} {cells : List PV} {k : IntKind} {i : Int} {a x : Value} (ha : RV G (.fptr cells) a) (hx : RV G (.int k i) x) (ht : kArr X.P t = some (n, e)) (hs : szP X.P e = some sz)
    (h0 : 0 ≤ i) (h1 : i < n) : Gives X G ((Instr.indexAt t a x).run X.P w) (.fptr (cells.drop (i.toNat * sz))) ph := by
  obtain rfl := hx.int_inv
  cases ha with
  | fptr _ vals b o hr hf => exact .pure h (run_indexAt_arr ht hs h0 h1) (.fptr_drop hr hf _)

/-! ### Slicing -/
/-- What a bound says: none, or a number within. -/
def bndP (d : Nat) (top : Nat) : Option PV → Option Nat
  | none => some d
  | some (.int _ i) => if 0 ≤ i ∧ i ≤ top then some i.toNat else none
  | some _ => none

theorem run_bound {P : Program} {k : IntKind} {i : Int} {y : Nat} {c : BoundsCode} (h : 0 ≤ i ∧ i ≤ y) : (Instr.sliceBound (.int k i) y c).run P w = .ok i.toNat w := by
  simp [Instr.sliceBound, asIntOf, h]

/-- An optional operand. -/
def RVo (G : Ghost) : Option PV → Option Value → Prop
  | none, none => True
  | some p, some v => RV G p v
  | _, _ => False

theorem bndP_run {P : Program} {d y : Nat} {o : Option PV} {ro : Option Value} {n : Nat} {c : BoundsCode} (hr : RVo G o ro) (h : bndP d y o = some n) :
    (match ro with | some v => Instr.sliceBound v y c | none => pure d : Sem Nat).run P w = .ok n w := by
  cases o with
  | none => cases ro with
    | none => cases h; rfl
    | some v => exact hr.elim
  | some p => cases ro with
    | none => exact hr.elim
    | some v =>
      unfold bndP at h
      split at h
      · rename_i h0; cases h0
      · rename_i k i h0; cases h0
        obtain rfl := RV.int_inv hr
        split at h
        · rename_i hb; cases h; exact run_bound hb
        · cases h
      · cases h

/-- low, high, max of a slicing; cap' is what high may come up to where no max stands. -/
def bndsP (len capw : Nat) (lo hi mx : Option PV) : Option (Nat × Nat × Option Nat) :=
  match mx with
  | none => (bndP len capw hi).bind fun h => (bndP 0 h lo).bind fun l => some (l, h, none)
  | some m => (bndP capw capw (some m)).bind fun m => (match hi with | none => none | some _ => bndP len m hi).bind fun h => (bndP 0 h lo).bind fun l => some (l, h, some m)

theorem bndsP_run {P : Program} {s : Bool} {len capw rcap : Nat} {lo hi mx : Option PV} {rl rh rm : Option Value} {l h : Nat} {m : Option Nat} (hl : RVo G lo rl) (hh : RVo G hi rh) (hm : RVo G mx rm) (hc : capw ≤ rcap) (hlen : len ≤ capw)
    (hb : bndsP len capw lo hi mx = some (l, h, m)) : (Instr.sliceBounds s len rcap rl rh rm).run P w = .ok (l, h, m.getD rcap) w ∧ l ≤ h ∧ h ≤ m.getD capw ∧ m.getD capw ≤ capw := by
  have key : ∀ {d y y' : Nat} {o : Option PV} {n : Nat}, y ≤ y' → bndP d y o = some n → bndP d y' o = some n := by
    intro d y y' o n hy h
    unfold bndP at h ⊢
    split at h
    · exact h
    · split at h
      · rename_i hb; cases h; rw [if_pos ⟨hb.1, by omega⟩]
      · cases h
    · cases h
  have bnd : ∀ {d y : Nat} {o : Option PV} {n : Nat}, d ≤ y → bndP d y o = some n → n ≤ y := by
    intro d y o n hd h
    unfold bndP at h
    split at h
    · cases h; exact hd
    · split at h
      · rename_i hb; cases h; omega
      · cases h
    · cases h
  unfold bndsP at hb
  cases mx with
  | none =>
    cases rm with
    | some _ => exact hm.elim
    | none =>
      simp only [Option.bind_eq_some_iff] at hb
      obtain ⟨h', hh', l', hl', e⟩ := hb
      cases e
      have e1 := bndP_run (P := P) (w := w) (c := if s then .sliceAcap else .sliceAlen) hh (key hc hh')
      have e2 := bndP_run (P := P) (w := w) (c := .sliceB) hl hl'
      have b1 := bnd hlen hh'
      have b2 := bnd (Nat.zero_le _) hl'
      refine ⟨?_, b2, by simpa using b1, by simp⟩
      cases rh <;> cases rl <;> simp_all [Instr.sliceBounds]
  | some q =>
    cases rm with
    | none => exact hm.elim
    | some vm =>
      cases hi with
      | none => simp at hb
      | some hq =>
        cases rh with
        | none => exact hh.elim
        | some vh =>
          simp only [Option.bind_eq_some_iff] at hb
          obtain ⟨m', hm', h', hh', l', hl', e⟩ := hb
          cases e
          have e0 := bndP_run (P := P) (w := w) (ro := some vm) (c := if s then .slice3Acap else .slice3Alen) hm (key hc hm')
          have e1 := bndP_run (P := P) (w := w) (ro := some vh) (c := .slice3B) hh hh'
          have e2 := bndP_run (P := P) (w := w) (c := .slice3C) hl hl'
          have b0 := bnd (Nat.le_refl _) hm'
          have b1 : h ≤ m' := by
            unfold bndP at hh'
            split at hh'
            · rename_i h0; cases h0
            · split at hh'
              · rename_i hb; cases hh'; omega
              · cases hh'
            · cases hh'
          have b2 := bnd (Nat.zero_le _) hl'
          refine ⟨?_, b2, by simpa using b1, by simpa using b0⟩
          cases rl <;> simp_all [Instr.sliceBounds]

end Pv
