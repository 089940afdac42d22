/- Part of the proof: the layer of pure values, or a walk through a function (PvMem). -/
import Derived.Test.YthegpibaoikoeaaPvCore
import Derived.Laws.Entries
set_option linter.all false
namespace Pv
open Go Go.RowKit
variable {X : Ctx} {G : Ghost} {ph : PH} {w : World}

/-! ### Types -/
inductive PK where
  | bool | int (k : IntKind) | str | ptr (e : Nat) | sl (e : Nat) | arr (n e : Nat) | st | fn | other
  deriving DecidableEq

def kOf : TypeDesc → PK
  | .bool => .bool | .int k => .int k | .string => .str | .pointer e => .ptr e | .slice e => .sl e | .array n e => .arr n e | .struct _ => .st | .func .. => .fn | _ => .other

def kP (P : Program) (t : TypeId) : Option PK := (P.underlying t).map kOf
def szP (P : Program) (t : TypeId) : Option Nat := (P.info? t).map (·.size)
def byP (P : Program) (t : TypeId) : Option Nat := (P.info? t).map (·.bytes)
def fldP (P : Program) (t : TypeId) (f : Nat) : Option (Nat × TypeId) :=
  match P.underlying t with
  | some (.struct fs) => (fs[f]?).bind fun x => (P.info? x.type).bind fun i => if i.size = 0 then none else some (x.offset, x.type)
  | _ => none

theorem kP_some {P : Program} {t : TypeId} {k : PK} (h : kP P t = some k) : ∃ d, P.underlying t = some d ∧ kOf d = k := by
  simpa [kP] using h
theorem szP_some {P : Program} {t : TypeId} {n : Nat} (h : szP P t = some n) : ∃ i, P.info? t = some i ∧ i.size = n := by
  simpa [szP] using h
theorem byP_some {P : Program} {t : TypeId} {n : Nat} (h : byP P t = some n) : ∃ i, P.info? t = some i ∧ i.bytes = n := by
  simpa [byP] using h

theorem run_underlying_k {P : Program} {t : TypeId} {d : TypeDesc} (h : P.underlying t = some d) (w : World) : (underlying t).run P w = .ok d w := by
  simp [underlying, h]
theorem run_typeInfo_k {P : Program} {t : TypeId} {i : TypeInfo} (h : P.info? t = some i) (w : World) : (typeInfo t).run P w = .ok i w := by
  simp [typeInfo, h]
theorem run_sizeOf_k {P : Program} {t : TypeId} {n : Nat} (h : szP P t = some n) (w : World) : (Go.sizeOf t).run P w = .ok n w := by
  obtain ⟨i, hi, rfl⟩ := szP_some h
  simp [Go.sizeOf, run_typeInfo_k hi]
def PK.agg : PK → Bool
  | .st | .arr _ _ => true
  | _ => false
theorem run_isAgg_k {P : Program} {t : TypeId} {k : PK} (h : kP P t = some k) (w : World) : (isAgg t).run P w = .ok k.agg w := by
  obtain ⟨d, hd, rfl⟩ := kP_some h
  simp only [isAgg, Sem.run_bind, run_underlying_k hd, Result.andThen_ok]
  cases d <;> rfl

/-! ### Constants -/
def ofCell : Value → Option PV
  | .bool b => some (.bool b)
  | .int k n => some (.int k n)
  | .string s => some (.str s.data.toList)
  | .pointer none => some .nilptr
  | .slice none 0 0 => some .nilsl
  | .nilFunc => some .nilfunc
  | .nilIface => some .nilif
  | _ => none

def ofCells : List Value → Option (List PV)
  | [] => some []
  | v :: vs => match ofCell v, ofCells vs with
    | some p, some ps => some (p :: ps)
    | _, _ => none

def ofValue : Value → Option PV
  | .agg cs => (ofCells cs.toList).map .agg
  | .tuple cs => if cs.size = 0 then some (.tuple []) else none
  | v => ofCell v

theorem ofCell_rv {v : Value} {p : PV} (h : ofCell v = some p) : RV G p v ∧ cellOk p = true := by
  unfold ofCell at h
  split at h <;> cases h <;> refine ⟨?_, rfl⟩
  · exact .bool _
  · exact .int _ _
  · exact .str _ _ rfl
  · exact .nilptr
  · exact .nilsl
  · exact .nilfunc
  · exact .nilif

theorem ofCells_rv : ∀ {vs : List Value} {ps : List PV}, ofCells vs = some ps → RVs G ps vs ∧ ps.all cellOk = true
  | [], ps, h => by cases h; exact ⟨.nil, rfl⟩
  | v :: vs, ps, h => by
    unfold ofCells at h
    split at h
    · rename_i p qs h1 h2
      cases h
      have a := ofCell_rv (G := G) h1
      have b := ofCells_rv h2
      exact ⟨.cons _ _ _ _ a.1 b.1, by simp [a.2, b.2]⟩
    · cases h

/-- A value's cells. -/
def PV.cells : PV → List PV
  | .agg cs => cs
  | v => [v]

theorem ofValue_rv {v : Value} {p : PV} (h : ofValue v = some p) : RV G p v := by
  unfold ofValue at h
  split at h
  · rename_i cs
    cases hc : ofCells cs.toList with
    | none => rw [hc] at h; cases h
    | some ps => rw [hc] at h; cases h; have := RV.agg _ _ (ofCells_rv (G := G) hc).1; simpa using this
  · rename_i cs
    split at h
    · rename_i h0
      cases h
      have : cs = (#[] : Array Value) := Array.size_eq_zero_iff.1 h0
      subst this
      exact .tuple [] [] .nil
    · cases h
  · exact (ofCell_rv h).1

theorem RV.cells {p : PV} {v : Value} (h : RV G p v) (hp : p.cells.all cellOk = true) : RVs G p.cells v.cells.toList ∧ ∀ u ∈ v.cells.toList, u.oneCell' = true := by
  cases h with
  | agg cells vals h =>
    refine ⟨by simpa [PV.cells, Value.cells] using h, ?_⟩
    have := h.ones hp
    simpa [Value.cells] using this
  | undef v => simp [PV.cells, cellOk] at hp
  | tuple _ _ _ => simp [PV.cells, cellOk] at hp
  | _ => exact ⟨.cons _ _ _ _ (by first | exact .bool _ | exact .int _ _ | exact .str _ _ ‹_› | exact .nilptr | exact .ptr _ _ _ ‹_› | exact .fptr _ _ _ _ ‹_› ‹_› | exact .nilsl | exact .zsl _ | exact .sl _ _ _ _ _ _ _ _ ‹_› ‹_› ‹_› ‹_› ‹_› | exact .fsl _ _ _ _ _ _ ‹_› ‹_› ‹_› ‹_› ‹_› | exact .fslnil _ | exact .func _ _ _ _ _ ‹_› ‹_› | exact .yield _ | exact .nilfunc | exact .nilif | exact .gsl _ _ _ _ _ _ _ _ ‹_› ‹_› ‹_› ‹_› ‹_› ‹_› ‹_› ‹_› ‹_› | exact .gslnil _ _ _ ‹_› ‹_› | exact .gptr _ _ _ _ _ _ _ _ ‹_› ‹_› ‹_› ‹_› ‹_› ‹_› ‹_› ‹_›) .nil, by simp [Value.cells, Value.oneCell']⟩

def zeroP (P : Program) (t : TypeId) : Option PV := (P.info? t).bind fun i => i.zero.bind fun z => (ofValue z).bind fun p => if p.cells.all cellOk then some p else none

theorem zeroP_some {P : Program} {t : TypeId} {p : PV} (h : zeroP P t = some p) : ∃ i z, P.info? t = some i ∧ i.zero = some z ∧ ofValue z = some p ∧ p.cells.all cellOk = true := by
  simp only [zeroP, Option.bind_eq_some_iff] at h
  obtain ⟨i, hi, z, hz, q, hq, h⟩ := h
  split at h
  · cases h; exact ⟨i, z, hi, hz, hq, ‹_›⟩
  · cases h

theorem run_zero_k {P : Program} {t : TypeId} {p : PV} (h : zeroP P t = some p) (w : World) : ∃ z, (zeroValue t).run P w = .ok z w ∧ RV G p z ∧ p.cells.all cellOk = true := by
  obtain ⟨i, z, hi, hz, hp, hc⟩ := zeroP_some h
  exact ⟨z, by simp [zeroValue, run_typeInfo_k hi, hz], ofValue_rv hp, hc⟩

/-! ### What an operation gives -/
def Gives (X : Ctx) (G : Ghost) (r : Result Value) (pv : PV) (ph' : PH) : Prop :=
  ∃ v w' G', r = .ok v w' ∧ Le G G' ∧ Rel X G' ph' w' ∧ RV G' pv v

theorem Gives.pure {r : Result Value} {pv : PV} {v : Value} (h : Rel X G ph w) (hr : r = .ok v w) (hv : RV G pv v) : Gives X G r pv ph := ⟨v, w, G, hr, .refl _, h, hv⟩

/-- .. and the element type of a block of its own. -/
def GivesE (X : Ctx) (G : Ghost) (r : Result Value) (pv : PV) (ph' : PH) (q : Nat) (e : TypeId) : Prop :=
  ∃ v w' G', r = .ok v w' ∧ Le G G' ∧ Rel X G' ph' w' ∧ RV G' pv v ∧ ∃ L cs fz, G'.l[q]? = some L ∧ L.o = 0 ∧ w'.heap[L.b]? = some (.cells cs e fz)

theorem GivesE.gives {r : Result Value} {pv : PV} {ph' : PH} {q : Nat} {e : TypeId} (h : GivesE X G r pv ph' q e) : Gives X G r pv ph' := by
  obtain ⟨v, w', G', h1, h2, h3, h4, -⟩ := h; exact ⟨v, w', G', h1, h2, h3, h4⟩

theorem GivesE.tell {r : Result Value} {pv : PV} {ph' : PH} {q : Nat} {e : TypeId} (h : GivesE X G r pv ph' q e) : Gives X G r pv (ph'.setTy q e) := by
  obtain ⟨v, w', G', h1, h2, h3, h4, L, cs, fz, h5, h6, h7⟩ := h
  exact ⟨v, w', G', h1, h2, h3.tell h5 h6 h7, h4⟩

/-! ### Addresses -/
theorem add_plain (b o n : Nat) : (⟨b, o, none⟩ : Addr).add n = ⟨b, o + n, none⟩ := by
  unfold Addr.add; split
  · rename_i h; subst h; rfl
  · rfl

/-! ### Making -/
theorem gives_new (h : Rel X G ph w) {cells : List PV} {vals extra : List Value} {cs : Array Value} {e : TypeId} (hv : RVs G cells vals) (h1 : ∀ v ∈ vals, v.oneCell' = true) (hcs : cs.toList = vals ++ extra) :
    ∃ w' G', (newRow e cs).run X.P w = .ok ⟨w.heap.size, 0, none⟩ w' ∧ w' = { w with heap := w.heap.push (.cells cs e (0, 0)) } ∧ Le G G' ∧ Rel X G' (ph.push cells) w' ∧ G'.l[ph.n]? = some ⟨w.heap.size, 0, cs.size⟩ := by
  refine ⟨_, _, by simp [newRow], rfl, Le.push G ⟨w.heap.size, 0, cs.size⟩, h.push hv h1 hcs (.inr (Nat.le_refl _)), ?_⟩
  simp only [Ghost.push]; rw [← h.lenN]; simp

theorem gives_var (h : Rel X G ph w) {p : PV} {v : Value} {e : TypeId} (hv : RV G p v) (hp : p.cells.all cellOk = true) :
    Gives X G (((fun a => Value.pointer (some a)) <$> newVar e v).run X.P w) (.ptr ph.n 0) (ph.push p.cells) := by
  obtain ⟨h1, h2⟩ := hv.cells hp
  obtain ⟨w', G', hr, -, hle, hrel, hl⟩ := gives_new (e := e) (cs := v.cells) (extra := []) h h1 h2 (by simp)
  exact ⟨_, w', G', by simp [newVar, hr], hle, hrel, .ptr ph.n 0 _ hl⟩

theorem gives_alloc (h : Rel X G ph w) {t : TypeId} {z : PV} (hz : zeroP X.P t = some z) : Gives X G ((Instr.alloc t true (.tuple #[])).run X.P w) (.ptr ph.n 0) (ph.push z.cells) := by
  obtain ⟨v, hr, hv, hc⟩ := run_zero_k (G := G) hz w
  obtain ⟨u, w', G', e, r⟩ := gives_var (e := t) h hv hc
  refine ⟨u, w', G', ?_, r⟩
  rw [← e]; simp [Instr.alloc, hr]

theorem gives_allocE (h : Rel X G ph w) {t : TypeId} {z : PV} (hz : zeroP X.P t = some z) : GivesE X G ((Instr.alloc t true (.tuple #[])).run X.P w) (.ptr ph.n 0) (ph.push z.cells) ph.n t := by
  obtain ⟨v, hr, hv, hc⟩ := run_zero_k (G := G) hz w
  obtain ⟨h1, h2⟩ := hv.cells hc
  obtain ⟨w', G', hr', hw, hle, hrel, hl⟩ := gives_new (e := t) (cs := v.cells) (extra := []) h h1 h2 (by simp)
  exact ⟨_, w', G', by simp [Instr.alloc, hr, newVar, hr'], hle, hrel, .ptr ph.n 0 _ hl, _, v.cells, (0, 0), hl, rfl, by rw [hw]; simp⟩

theorem gives_box (h : Rel X G ph w) {t : TypeId} {p : PV} {v : Value} (hv : RV G p v) (hp : p.cells.all cellOk = true) : Gives X G ((Instr.box t v).run X.P w) (.ptr ph.n 0) (ph.push p.cells) := by
  obtain ⟨u, w', G', e, r⟩ := gives_var (e := t) h hv hp
  refine ⟨u, w', G', ?_, r⟩
  rw [← e]; simp [Instr.box]

/-! ### Reading -/
theorem OwnRel.cell {L : Loc} {cells : List PV} {vals : List Value} {cs : Array Value} {e : TypeId} {fz : Nat × Nat} (o : OwnRel X G w L cells vals cs e fz) {j : Nat} {v : Value} (hv : vals[j]? = some v) :
    w.cell? ⟨L.b, L.o + j, none⟩ = some v := by
  simp only [World.cell?, o.hb]; simpa using o.at_ j v hv

theorem run_load_k {P : Program} {a : Addr} {v : Value} (h : w.cell? a = some v) : (load a).run P w = .ok v w := by simp [h]

/-- n cells from off on. -/
def seg (cells : List PV) (off n : Nat) : List PV := (cells.drop off).take n

theorem run_cells {P : Program} {vals : List Value} {b o n off : Nat} (hc : ∀ j v, vals[j]? = some v → w.cell? ⟨b, o + j, none⟩ = some v) (hn : off + n ≤ vals.length) :
    (loadCells ⟨b, o + off, none⟩ n).run P w = .ok ((vals.drop off).take n).toArray w := by
  have hl : ((vals.drop off).take n).length = n := by simp; omega
  have := run_loadCells_list (P := P) w ⟨b, o + off, none⟩ ((vals.drop off).take n) (fun j v hv => by
    rw [add_plain]
    rw [List.getElem?_take] at hv
    split at hv
    · rw [List.getElem?_drop] at hv
      have := hc _ _ hv
      rw [Nat.add_assoc]; exact this
    · cases hv)
  rw [hl] at this; exact this

def loadP (P : Program) (t : TypeId) (cells : List PV) (off : Nat) : Option PV :=
  match kP P t with
  | none => none
  | some k => if k.agg then (match szP P t with | none => none | some n => if off + n ≤ cells.length then some (.agg (seg cells off n)) else none) else cells[off]?

theorem run_loadVar_p {P : Program} {t : TypeId} {cells : List PV} {vals : List Value} {b o off : Nat} {pv : PV} (hc : ∀ j v, vals[j]? = some v → w.cell? ⟨b, o + j, none⟩ = some v) (hr : RVs G cells vals)
    (h : loadP P t cells off = some pv) : ∃ v, (loadVar t ⟨b, o + off, none⟩).run P w = .ok v w ∧ RV G pv v := by
  unfold loadP at h
  split at h
  · cases h
  · rename_i k hk
    split at h
    · rename_i ha
      split at h
      · cases h
      · rename_i n hn
        split at h
        · rename_i hle
          cases h
          have := run_cells (P := P) (n := n) (off := off) hc (by rw [← hr.length]; exact hle)
          exact ⟨_, by simp [loadVar, run_isAgg_k hk, ha, run_sizeOf_k hn, this], .agg _ _ ((hr.drop off).take n)⟩
        · cases h
    · rename_i ha
      obtain ⟨v, hv, hrv⟩ := hr.get off pv h
      refine ⟨v, ?_, hrv⟩
      have ha : k.agg = false := by simpa using ha
      simp only [loadVar, Sem.run_bind, run_isAgg_k hk, Result.andThen_ok, ha, Bool.false_eq_true, if_false, run_load_k (hc _ _ hv)]

theorem gives_load (h : Rel X G ph w) {t : TypeId} {p off : Nat} {cells : List PV} {a : Value} {pv : PV} (ha : RV G (.ptr p off) a) (hp : ph.get p = some cells) (hl : loadP X.P t cells off = some pv) :
    Gives X G ((Instr.loadAt t a).run X.P w) pv ph := by
  obtain ⟨L, vals, cs, e, fz, hL, o⟩ := h.own p cells hp
  cases ha with
  | ptr _ _ L' h' =>
    rw [hL] at h'; cases h'
    obtain ⟨v, hr, hv⟩ := run_loadVar_p (P := X.P) (w := w) (b := L.b) (o := L.o) (fun j v hv => o.cell hv) o.rv hl
    exact .pure h (by simp [Instr.loadAt, Instr.sureAddr, hr]) hv

theorem gives_load_f (h : Rel X G ph w) {t : TypeId} {cells : List PV} {a : Value} {pv : PV} (ha : RV G (.fptr cells) a) (hl : loadP X.P t cells 0 = some pv) :
    Gives X G ((Instr.loadAt t a).run X.P w) pv ph := by
  cases ha with
  | fptr _ vals b o hr hf =>
    obtain ⟨v, hr, hv⟩ := run_loadVar_p (P := X.P) (w := w) (b := b) (o := o) (fun j v hv => (h.fz _ _ (hf j v hv)).2) hr hl
    exact .pure h (by simpa [Instr.loadAt, Instr.sureAddr] using hr) hv

/-! ### Writing -/
theorem setCell_heap (w : World) (b k : Nat) (v : Value) (i : Nat) : (w.setCell ⟨b, k, none⟩ v).heap[i]? = if i = b then (w.heap[i]?).map (fun o => match o with
      | .cells c elem frozen => .cells (c.setIfInBounds k v) elem frozen
      | o => o) else w.heap[i]? := by
  simp only [World.setCell, Array.getElem?_modify]
  by_cases h : b = i
  · subst h; simp; cases w.heap[b]? with | none => rfl | some o => cases o <;> rfl
  · rw [if_neg h, if_neg (fun e => h e.symm)]

theorem Rel.store1 (h : Rel X G ph w) {p k : Nat} {cells : List PV} {c : PV} {v : Value} {L : Loc} (hp : ph.get p = some cells) (hL : G.l[p]? = some L) (hk : k < cells.length) (hv : RV G c v) (hc : cellOk c = true) :
    (store ⟨L.b, L.o + k, none⟩ v).run X.P w = .ok () (w.setCell ⟨L.b, L.o + k, none⟩ v) ∧ Rel X G (ph.put p (cells.set k c)) (w.setCell ⟨L.b, L.o + k, none⟩ v) := by
  obtain ⟨L', vals, cs, e, fz, hL', o⟩ := h.own p cells hp
  rw [hL] at hL'; cases hL'
  have hone : v.oneCell' = true := hv.one (by revert hc; unfold cellOk; cases c <;> simp)
  have hkv : k < vals.length := by rw [← o.rv.length]; exact hk
  have hcell := o.cell (List.getElem?_eq_getElem hkv)
  have hlt := PH.get_lt hp
  have hb : (w.setCell ⟨L.b, L.o + k, none⟩ v).heap[L.b]? = some (.cells (cs.setIfInBounds (L.o + k) v) e fz) := by rw [setCell_heap, if_pos rfl, o.hb]; rfl
  have hother : ∀ i, i ≠ L.b → (w.setCell ⟨L.b, L.o + k, none⟩ v).heap[i]? = w.heap[i]? := fun i hi => by rw [setCell_heap, if_neg hi]
  constructor
  · rw [run_store _ _ _ _ _ hone, hcell]
    have hfr : w.frozen? ⟨L.b, L.o + k, none⟩ = false := by
      simp only [World.frozen?, o.hb]
      have := o.fr k (by have := o.lt; omega)
      simp only [Bool.and_eq_false_iff, decide_eq_false_iff_not]
      by_cases hx : fz.1 ≤ L.o + k
      · exact .inr fun hy => this ⟨hx, hy⟩
      · exact .inl hx
    simp [hfr]
  · have hgr : GrOk X G (ph.put p (cells.set k c)) (w.setCell ⟨L.b, L.o + k, none⟩ v) := h.grow.step rfl (Nat.le_refl _) (fun q r hr => by rw [PH.gro_put] at hr; split at hr; cases hr; exact hr)
      (fun b hb => hother b fun e => h.noGrow hp hL (e ▸ hb)) (fun c v h => .inl h) fun q c M hc hM => by
        rw [PH.get_put hlt] at hc
        split at hc
        · rename_i e1; subst e1; exact .inl ⟨cells, hp, hM⟩
        · exact .inl ⟨c, hc, hM⟩
    refine ⟨?_, ?_, ?_, ?_, ?_, ?_, ?_, h.ty.step (.refl _) (fun b' cs' e' fz' hb' => ?_) rfl, hgr⟩
    · simp [PH.put, h.len]
    · exact h.below.setCell (p := ⟨L.b, L.o + k, none⟩) o.ge v
    · intro q d hq
      rw [PH.get_put hlt] at hq
      split at hq
      · rename_i e1; cases hq; subst e1
        refine ⟨L, vals.set k v, _, e, fz, hL, ⟨o.rv.set k hv, by simpa using o.lt, o.ge, hb, by simpa using o.sz, o.fr, ?_, ?_⟩⟩
        · intro j u hj
          rw [List.getElem?_set] at hj
          split at hj
          · rename_i ej; subst ej
            cases hj
            rw [Array.getElem?_setIfInBounds, if_pos rfl, if_pos (by have := o.sz; have := o.lt; omega)]
          · rename_i ej
            rw [Array.getElem?_setIfInBounds, if_neg (by omega)]; exact o.at_ j u hj
        · intro u hu
          rcases List.mem_or_eq_of_mem_set hu with h1 | h1
          · exact o.one u h1
          · subst h1; exact hone
      · rename_i e1
        obtain ⟨M, vals', cs', e', fz', hM, o'⟩ := h.own q d hq
        exact ⟨M, vals', cs', e', fz', hM, ⟨o'.rv, o'.lt, o'.ge, by rw [hother _ (h.disj q p _ _ _ _ e1 hq hp hM hL)]; exact o'.hb, o'.sz, o'.fr, o'.at_, o'.one⟩⟩
    · intro a b c d M N hab ha hb' hM hN
      rw [PH.get_put hlt] at ha hb'
      have ha' : ∃ c, ph.get a = some c := by
        split at ha
        · rename_i e1; exact ⟨_, by rw [e1]; exact hp⟩
        · exact ⟨_, ha⟩
      have hb'' : ∃ c, ph.get b = some c := by
        split at hb'
        · rename_i e1; exact ⟨_, by rw [e1]; exact hp⟩
        · exact ⟨_, hb'⟩
      exact h.disj a b _ _ M N hab ha'.choose_spec hb''.choose_spec hM hN
    · intro a u ha
      obtain ⟨h1, h2⟩ := h.fz a u ha
      refine ⟨h1, ?_⟩
      have hne := h.fdisj a u p cells L ha hp hL
      simp only [World.cell?] at h2 ⊢
      rw [hother _ hne]; exact h2
    · intro a u q d M ha hq hM
      rw [PH.get_put hlt] at hq
      split at hq
      · rename_i e1; subst e1; exact h.fdisj a u q cells M ha hp hM
      · exact h.fdisj a u q d M ha hq hM
    · intro r ob hr
      obtain ⟨h1, h2⟩ := h.ob r ob hr
      refine ⟨h1, h2.mono (.refl _) (hother _ ?_)⟩
      rintro rfl
      cases ob with
      | loop l => obtain ⟨rt, _, h2⟩ := h2; rw [o.hb] at h2; cases h2
      | defd => have : w.heap[L.b]? = _ := h2; rw [o.hb] at this; cases this
    · by_cases hbb : b' = L.b
      · subst hbb; rw [o.hb] at hb'; cases hb'; exact ⟨_, _, hb⟩
      · exact ⟨_, _, (hother _ hbb).trans hb'⟩

def setL (cells : List PV) (off : Nat) : List PV → List PV
  | [] => cells
  | v :: vs => setL (cells.set off v) (off + 1) vs

@[simp] theorem setL_length (cells : List PV) (off : Nat) (vs : List PV) : (setL cells off vs).length = cells.length := by
  induction vs generalizing cells off with
  | nil => rfl
  | cons v vs ih => simp [setL, ih]

theorem put_put (ph : PH) (p : Nat) (c d : List PV) : (ph.put p c).put p d = ph.put p d := by simp [PH.put]

theorem put_self {ph : PH} {p : Nat} {c : List PV} (h : ph.get p = some c) : ph.put p c = ph := by
  have := PH.get_eq.1 h
  unfold PH.put
  have e : ph.bl.set p (some (.own c)) = ph.bl := by
    apply List.ext_getElem?; intro i
    rw [List.getElem?_set]
    split
    · rename_i e; subst e; rw [this]; split
      · rfl
      · have := (List.getElem?_eq_some_iff.1 this).1; omega
    · rfl
  rw [e]

theorem Rel.stores {p : Nat} {L : Loc} (hL : G.l[p]? = some L) : ∀ (vs : List PV) (us : List Value) (i k : Nat) (ph : PH) (w : World) (cells : List PV) (h : Rel X G ph w) (hp : ph.get p = some cells) (hk : k + i + vs.length ≤ cells.length) (hv : RVs G vs us) (hc : vs.all cellOk = true),
    ∃ w', (storeCells ⟨L.b, L.o + k, none⟩ us i).run X.P w = .ok () w' ∧ Rel X G (ph.put p (setL cells (k + i) vs)) w'
  | [], us, i, k, ph, w, cells, h, hp, hk, hv, hc => by
    cases hv
    exact ⟨w, by simp [storeCells], by simp only [setL]; rw [put_self hp]; exact h⟩
  | v :: vs, us, i, k, ph, w, cells, h, hp, hk, hv, hc => by
    cases hv with
    | cons _ u _ us hv hvs =>
      simp only [List.all_cons, Bool.and_eq_true] at hc
      simp only [List.length_cons] at hk
      obtain ⟨e1, h1⟩ := h.store1 hp hL (k := k + i) (by omega) hv hc.1
      have hp1 : (ph.put p (cells.set (k + i) v)).get p = some (cells.set (k + i) v) := by rw [PH.get_put (PH.get_lt hp), if_pos rfl]
      obtain ⟨w', e2, h2⟩ := Rel.stores hL vs us (i + 1) k _ _ _ h1 hp1 (by simp; omega) hvs hc.2
      refine ⟨w', ?_, ?_⟩
      · simp only [storeCells, Sem.run_bind, add_plain]
        rw [Nat.add_assoc, e1, Result.andThen_ok]; exact e2
      · rw [put_put] at h2; exact h2

theorem gives_store (h : Rel X G ph w) {t : TypeId} {p off n : Nat} {cells : List PV} {a x : Value} {pv : PV} (ha : RV G (.ptr p off) a) (hx : RV G pv x) (hp : ph.get p = some cells)
    (hn : szP X.P t = some n) (hl : pv.cells.length = n) (hc : pv.cells.all cellOk = true) (hle : off + n ≤ cells.length) :
    ∃ w', (Instr.storeAt t a x).run X.P w = .ok () w' ∧ Rel X G (ph.put p (setL cells off pv.cells)) w' := by
  cases ha with
  | ptr _ _ L hL =>
    obtain ⟨h1, h2⟩ := hx.cells hc
    obtain ⟨w', e, h3⟩ := Rel.stores hL pv.cells x.cells.toList 0 off ph w cells h hp (by omega) h1 hc
    refine ⟨w', ?_, h3⟩
    have hs : x.cells.size = n := by rw [← hl, h1.length]; simp
    simp only [Instr.storeAt, Instr.sureAddr, storeVar, Sem.run_bind, Sem.run_pure, Result.andThen_ok, run_sizeOf_k hn, hs, ne_eq, not_true_eq_false, if_false]
    exact e

end Pv
