/- Part of the proof: the layer of pure values, or walks through functions (PvOpsD). -/
import Derived.Test.YtjomgffpkdcanaaGreatPvOpsC
set_option linter.all false
namespace Pv
open Go Go.RowKit
variable {X : Ctx} {G : Ghost} {ph : PH} {w : World}

/-! ### Where cells come from -/
def Src (X : Ctx) (G : Ghost) (ph : PH) (x : Value) (sz n : Nat) (new : List PV) : Prop :=
  ∀ w, Rel X G ph w → ∃ vals, (Builtin.lenOf x).run X.P w = .ok n w ∧ (Builtin.firstCells sz n x).run X.P w = .ok vals.toArray w ∧ RVs G new vals

theorem first_take {P : Program} {cells : List PV} {vals : List Value} {b o off sz m rcap len : Nat} (hc : ∀ j v, vals[j]? = some v → w.cell? ⟨b, o + j, none⟩ = some v) (hn : off + m * sz ≤ vals.length) :
    (Builtin.firstCells sz m (.slice (some ⟨b, o + off, none⟩) len rcap)).run P w = .ok ((vals.drop off).take (m * sz)).toArray w := by
  simp only [Builtin.firstCells]
  exact run_cells hc hn

theorem src_sl {p off sz len : Nat} {cap : Option Nat} {cells : List PV} {x : Value} (hx : RV G (.sl p off sz len cap) x) (hp : ph.get p = some cells) (hle : off + len * sz ≤ cells.length) : Src X G ph x sz len (seg cells off (len * sz)) := by
  intro w h
  obtain ⟨L, vals, cs, e, fz, hL, o⟩ := h.own p cells hp
  cases hx with
  | sl _ _ _ _ _ L' a rcap hL' h1 h2 h3 h4 =>
    rw [hL] at hL'
    obtain rfl : L = L' := by simpa using hL'
    refine ⟨(vals.drop off).take (len * sz), by simp [Builtin.lenOf], ?_, (o.rv.drop off).take _⟩
    by_cases h0 : 0 < rcap
    · obtain rfl := h4 h0
      exact first_take (cells := cells) (fun j v hv => o.cell hv) (by rw [← o.rv.length]; exact hle)
    · have : len = 0 := by omega
      subst this
      simp [Builtin.firstCells, loadCells, loadCellsFrom]

theorem src_fsl {sz len : Nat} {cells : List PV} {x : Value} (hx : RV G (.fsl sz len cells) x) : Src X G ph x sz len cells := by
  intro w h
  cases hx with
  | fsl _ _ _ vals a rcap hr h1 h2 h3 hf =>
    refine ⟨vals, by simp [Builtin.lenOf], ?_, hr⟩
    by_cases h0 : 0 < len
    · have hsp := h3 h0
      obtain ⟨b, o, sp⟩ := a
      simp only at hsp hf; subst hsp
      have := first_take (P := X.P) (w := w) (cells := cells) (b := b) (o := o) (off := 0) (sz := sz) (m := len) (rcap := rcap) (len := len) (fun j v hv => (h.fz _ _ (hf j v hv)).2) (by rw [← hr.length]; omega)
      rw [Nat.add_zero, List.drop_zero, List.take_of_length_le (by rw [← hr.length]; omega)] at this
      exact this
    · have h0 : len = 0 := by omega
      subst h0
      have : vals = [] := by have := hr.length; rw [h2] at this; simp at this; exact List.length_eq_zero_iff.1 this.symm
      subst this
      simp [Builtin.firstCells, loadCells, loadCellsFrom]
  | fslnil _ => exact ⟨[], by simp [Builtin.lenOf], by simp [Builtin.firstCells], .nil⟩

theorem src_nil {sz : Nat} {x : Value} (hx : RV G .nilsl x) : Src X G ph x sz 0 [] := by
  intro w h; cases hx; exact ⟨[], by simp [Builtin.lenOf], by simp [Builtin.firstCells], .nil⟩

theorem src_zsl {sz : Nat} {x : Value} (hx : RV G .zsl x) : Src X G ph x sz 0 [] := by
  intro w h; cases hx with
  | zsl a => cases a <;> exact ⟨[], by simp [Builtin.lenOf], by simp [Builtin.firstCells, loadCells, loadCellsFrom], .nil⟩

def bytesPV (s : List UInt8) : List PV := s.map fun b => .int .u8 b.toNat

theorem src_str {s : List UInt8} {x : Value} (hx : RV G (.str s) x) : Src X G ph x 1 s.length (bytesPV s) := by
  intro w h
  obtain ⟨t, rfl, ht⟩ := hx.str_inv
  have hsz : t.size = s.length := by rw [← ht]; rfl
  refine ⟨s.map fun b => .int .u8 b.toNat, by simp [Builtin.lenOf, hsz], ?_, ?_⟩
  · simp only [Builtin.firstCells, Sem.run_pure]
    congr 1
    apply Array.toList_inj.1
    simp only [Array.toList_map]
    have := extract_toList t 0 s.length
    simp only [List.drop_zero, Nat.sub_zero] at this
    rw [this, ht, List.take_of_length_le (Nat.le_refl _)]
  · exact .of_get (by simp [bytesPV]) fun j p v h1 h2 => by
      simp only [bytesPV, List.getElem?_map, Option.map_eq_some_iff] at h1 h2
      obtain ⟨c, hc, rfl⟩ := h1
      obtain ⟨c', hc', rfl⟩ := h2
      rw [hc] at hc'; cases hc'; exact .int _ _

theorem run_append_growE {sT xT e : TypeId} {sz n sLen sCap by_ : Nat} {d2 : TypeDesc} {z : PV} {base : Option Addr} {x : Value} {old new : List PV} (h : Rel X G ph w) (hk : kSl X.P sT = some e) (hk2 : X.P.underlying xT = some d2) (hd2 : (∃ e2, d2 = .slice e2) ∨ d2 = .string)
    (hs : szP X.P e = some sz) (hby : byP X.P e = some by_) (hz : zeroP X.P e = some z) (hzl : z.cells.length = sz) (hb0 : by_ ≠ 0) (hlim : (sLen + n) * by_ ≤ 2 ^ 47) (hgrow : sCap < sLen + n) (hn0 : old.all cellOk = true) (hn1 : new.all cellOk = true)
    (hold : ∀ w, Rel X G ph w → ∃ ov, (Builtin.firstCells sz sLen (.slice base sLen sCap)).run X.P w = .ok ov.toArray w ∧ RVs G old ov) (hnew : Src X G ph x sz n new) (hol : old.length = sLen * sz) (hnl : new.length = n * sz) (t : TypeId) :
    GivesE X G ((Builtin.append_ #[sT, xT] t #[.slice base sLen sCap, x]).run X.P w) (.sl ph.n 0 sz (sLen + n) none) (ph.push (old ++ new)) ph.n e := by
  obtain ⟨zv, ez, hz', hzc⟩ := run_zero_k (G := G) hz { w with drawn := w.drawn + 1 }
  obtain ⟨i, hi, hib⟩ := byP_some hby
  have hd := h.drew
  obtain ⟨nv0, el, -, -⟩ := hnew w h
  obtain ⟨ov, eo, ro⟩ := hold _ hd
  obtain ⟨nv, -, en, rn⟩ := hnew _ hd
  let need := sLen + n
  let nc := need + w.tape w.drawn (.appendCap need sCap e) % (2 ^ 63 - need)
  let rest := Builtin.zeroCells zv.cells (nc - need)
  obtain ⟨w', G', e1, hw', hle, hrel, hl⟩ := gives_new (e := e) (cs := ov.toArray ++ nv.toArray ++ rest) (extra := rest.toList) hd (ro.append rn)
    (by intro v hv; rcases List.mem_append.1 hv with h1 | h1; exact ro.ones hn0 v h1; exact rn.ones hn1 v h1) (by simp)
  have e1 : (newRow e (ov.toArray ++ nv.toArray ++ Builtin.zeroCells zv.cells (nc - need))).run X.P { w with drawn := w.drawn + 1 } = .ok ⟨w.heap.size, 0, none⟩ w' := e1
  have hgf : ¬ (Builtin.nextslicecap (sLen + n) sCap * i.bytes > 2 ^ 48) := by
    have := growslice_fits (bytes := by_) hgrow (by omega); rw [hib]; omega
  have hib0 : i.bytes ≠ 0 := by omega
  have hng : ¬ (sLen + n ≤ sCap) := by omega
  refine ⟨_, w', G', ?_, hle, hrel, .sl ph.n 0 sz need none _ ⟨w.heap.size, 0, none⟩ nc hl (Nat.le_add_right _ _) ?_ (by simp) (fun _ => rfl), _, ov.toArray ++ nv.toArray ++ rest, (0, 0), hl, rfl, by rw [hw']; simp⟩
  · have hch : (choose (.appendCap (sLen + n) sCap e)).run X.P w = .ok nc { w with drawn := w.drawn + 1 } := by simp [Question.forced, Question.cut, nc, need]
    have e2 : (newRow e (ov.toArray ++ nv.toArray ++ Builtin.zeroCells zv.cells (nc - (sLen + n)))).run X.P { w with drawn := w.drawn + 1 } = .ok ⟨w.heap.size, 0, none⟩ w' := e1
    have hun : (underlying xT).run X.P w = .ok d2 w := run_underlying_k hk2 w
    rcases hd2 with ⟨e3, rfl⟩ | rfl
    all_goals
      simp only [Builtin.append_, List.getElem?_toArray, List.getElem?_cons_zero, List.getElem?_cons_succ, Sem.run_bind, run_underlying_k (kSl_some hk), Result.andThen_ok, run_sizeOf_k hs, hun, Sem.run_pure,
        Bool.false_eq_true, if_false, el, if_neg hng, run_typeInfo_k hi, hib0, or_self, and_false, if_neg hgf, Bool.not_false, if_true, hch, run_askRoom, eo, en, ez, e2]
      try rfl
  · simp only [Nat.zero_add, Array.size_append, List.size_toArray]
    have r1 := ro.length; have r2 := rn.length
    have hzl' : rest.size = (nc - need) * zv.cells.size := by simp [rest, Builtin.zeroCells]
    have hnc : need ≤ nc := Nat.le_add_right _ _
    have hzs : zv.cells.size = sz := by rw [← hzl, (hz'.cells hzc).1.length]; simp
    rw [hzl', hzs, ← r1, ← r2, hol, hnl, ← Nat.add_mul, ← Nat.add_mul]
    exact Nat.mul_le_mul_right _ (by show nc ≤ need + (nc - need); omega)

theorem run_append_grow {sT xT e : TypeId} {sz n sLen sCap by_ : Nat} {d2 : TypeDesc} {z : PV} {base : Option Addr} {x : Value} {old new : List PV} (h : Rel X G ph w) (hk : kSl X.P sT = some e) (hk2 : X.P.underlying xT = some d2) (hd2 : (∃ e2, d2 = .slice e2) ∨ d2 = .string)
    (hs : szP X.P e = some sz) (hby : byP X.P e = some by_) (hz : zeroP X.P e = some z) (hzl : z.cells.length = sz) (hb0 : by_ ≠ 0) (hlim : (sLen + n) * by_ ≤ 2 ^ 47) (hgrow : sCap < sLen + n) (hn0 : old.all cellOk = true) (hn1 : new.all cellOk = true)
    (hold : ∀ w, Rel X G ph w → ∃ ov, (Builtin.firstCells sz sLen (.slice base sLen sCap)).run X.P w = .ok ov.toArray w ∧ RVs G old ov) (hnew : Src X G ph x sz n new) (hol : old.length = sLen * sz) (hnl : new.length = n * sz) (t : TypeId) :
    Gives X G ((Builtin.append_ #[sT, xT] t #[.slice base sLen sCap, x]).run X.P w) (.sl ph.n 0 sz (sLen + n) none) (ph.push (old ++ new)) :=
  (run_append_growE h hk hk2 hd2 hs hby hz hzl hb0 hlim hgrow hn0 hn1 hold hnew hol hnl t).gives

theorem setLV_len (cells : List Value) (off : Nat) (vs : List Value) : (setLV cells off vs).length = cells.length := by
  induction vs generalizing cells off with
  | nil => rfl
  | cons v vs ih => simp [setLV, ih]

theorem setLV_get (vs : List Value) : ∀ (cells : List Value) (off j : Nat), off + vs.length ≤ cells.length → (setLV cells off vs)[j]? = if off ≤ j ∧ j < off + vs.length then vs[j - off]? else cells[j]? := by
  induction vs with
  | nil => intro cells off j _; simp only [setLV, List.length_nil]; rw [if_neg (by omega)]
  | cons v vs ih =>
    intro cells off j hl
    simp only [List.length_cons] at hl
    simp only [setLV]
    rw [ih _ _ _ (by simp; omega)]
    by_cases h1 : off + 1 ≤ j ∧ j < off + 1 + vs.length
    · rw [if_pos h1, if_pos (by simp; omega)]
      obtain ⟨d, rfl⟩ : ∃ d, j = off + 1 + d := ⟨j - (off + 1), by omega⟩
      rw [show off + 1 + d - (off + 1) = d by omega, show off + 1 + d - off = d + 1 by omega]; simp
    · rw [if_neg h1, List.getElem?_set]
      by_cases h2 : off = j
      · subst h2; rw [if_pos rfl, if_pos (by omega), if_pos (by simp)]; simp
      · rw [if_neg h2, if_neg (by simp; omega)]

/-- Cells of one block are written. -/
theorem run_stores {P : Program} {b o : Nat} {e : TypeId} {fz : Nat × Nat} : ∀ (us : List Value) (i : Nat) (w : World) (cs : Array Value), w.heap[b]? = some (.cells cs e fz) → o + i + us.length ≤ cs.size →
    (∀ j, i ≤ j → j < i + us.length → ¬ (fz.1 ≤ o + j ∧ o + j < fz.2)) → (∀ u ∈ us, u.oneCell' = true) →
    ∃ w' cs', (storeCells ⟨b, o, none⟩ us i).run P w = .ok () w' ∧ w'.heap[b]? = some (.cells cs' e fz) ∧ cs'.toList = setLV cs.toList (o + i) us ∧ (∀ k, k ≠ b → w'.heap[k]? = w.heap[k]?) ∧
      w'.heap.size = w.heap.size ∧ w'.tape = w.tape ∧ w'.os = w.os ∧ w'.output = w.output
  | [], i, w, cs, hb, _, _, _ => ⟨w, cs, by simp [storeCells], hb, rfl, fun _ _ => rfl, rfl, rfl, rfl, rfl⟩
  | u :: us, i, w, cs, hb, hle, hfr, hone => by
    simp only [List.length_cons] at hle hfr
    have hcell : w.cell? ⟨b, o + i, none⟩ = some (cs[o + i]'(by omega)) := by simp only [World.cell?, hb]; simp
    have hfrz : w.frozen? ⟨b, o + i, none⟩ = false := by
      simp only [World.frozen?, hb]
      have := hfr i (Nat.le_refl _) (by omega)
      simp only [Bool.and_eq_false_iff, decide_eq_false_iff_not]
      by_cases hx : fz.1 ≤ o + i
      · exact .inr fun hy => this ⟨hx, hy⟩
      · exact .inl hx
    have hb1 : (w.setCell ⟨b, o + i, none⟩ u).heap[b]? = some (.cells (cs.setIfInBounds (o + i) u) e fz) := by rw [setCell_heap, if_pos rfl, hb]; rfl
    obtain ⟨w', cs', e1, e2, e3, e4, e5, e6, e7, e8⟩ := run_stores (P := P) us (i + 1) _ _ hb1 (by simp; omega) (fun j h1 h2 => hfr j (by omega) (by omega)) (fun x hx => hone x (List.mem_cons_of_mem _ hx))
    refine ⟨w', cs', ?_, e2, ?_, fun k hk => (e4 k hk).trans (by rw [setCell_heap, if_neg hk]), e5.trans (by simp [World.setCell]), e6, e7, e8⟩
    · simp only [storeCells, Sem.run_bind, add_plain]
      rw [run_store _ _ _ _ _ (hone u (by simp)), hcell]
      simp only [hfrz, Bool.false_eq_true, if_false, Result.andThen_ok]
      exact e1
    · rw [e3]; simp [setLV, Nat.add_assoc]

/-- Behind such a write into a block that nothing speaks of: all is as it was. -/
theorem Rel.wrote (h : Rel X G ph w) {w' : World} {b : Nat} (hge : X.B ≤ b) (hcells : ∃ cs e fz, w.heap[b]? = some (.cells cs e fz)) (hno : ∀ p c L, ph.get p = some c → G.l[p]? = some L → L.b ≠ b) (hf : ∀ a v, G.f a = some v → a.block ≠ b)
    (hk : ∀ k, k ≠ b → w'.heap[k]? = w.heap[k]?) (hs : w'.heap.size = w.heap.size) (ht : w'.tape = w.tape) (ho : w'.os = w.os) (hp : w'.output = w.output) (hty : ∀ cs e fz, w.heap[b]? = some (.cells cs e fz) → ∃ cs' fz', w'.heap[b]? = some (.cells cs' e fz')) (hgr : ¬ Grows G ph b) : Rel X G ph w' where
  grow := h.grow.step rfl (Nat.le_refl _) (fun _ _ h => h) (fun b' hb => hk b' fun e => hgr (e ▸ hb)) (fun c v h => .inl h) fun q c L hc hL => .inl ⟨c, hc, hL⟩
  ty := h.ty.step (.refl _) (fun b' cs e fz hb => by
    by_cases hbb : b' = b
    · subst hbb; exact hty _ _ _ hb
    · exact ⟨cs, fz, (hk _ hbb).trans hb⟩) rfl
  len := h.len
  below := h.below.trans ⟨ho, ht, hp, by omega, fun k hkB => hk k (by have := h.size; omega)⟩
  own := fun p c hc => by
    obtain ⟨L, vals, cs, e, fz, hL, o⟩ := h.own p c hc
    exact ⟨L, vals, cs, e, fz, hL, ⟨o.rv, o.lt, o.ge, by rw [hk _ (hno p c L hc hL)]; exact o.hb, o.sz, o.fr, o.at_, o.one⟩⟩
  disj := h.disj
  fz := fun a v e => ⟨(h.fz a v e).1, by have := (h.fz a v e).2; simp only [World.cell?] at *; rw [hk _ (hf a v e)]; exact this⟩
  fdisj := h.fdisj
  ob := fun r o e => by
    obtain ⟨h1, h2⟩ := h.ob r o e
    refine ⟨h1, h2.mono (.refl _) (hk _ ?_)⟩
    rintro rfl
    obtain ⟨cs, e', fz, hc⟩ := hcells
    cases o with
    | loop l => obtain ⟨rt, _, h2⟩ := h2; rw [hc] at h2; cases h2
    | defd => have : w.heap[r]? = _ := h2; rw [hc] at this; cases this

/-- A part of a block that nothing speaks of is told as a block of its own. -/
theorem Rel.own_again (h : Rel X G ph w) {cells : List PV} {vals : List Value} {cs : Array Value} {e : TypeId} {fz : Nat × Nat} {L : Loc} (hb : w.heap[L.b]? = some (.cells cs e fz)) (hge : X.B ≤ L.b) (hno : ∀ p c M, ph.get p = some c → G.l[p]? = some M → M.b ≠ L.b)
    (hf : ∀ a v, G.f a = some v → a.block ≠ L.b) (hv : RVs G cells vals) (h1 : ∀ v ∈ vals, v.oneCell' = true) (hlt : vals.length ≤ L.t) (hsz : L.o + L.t ≤ cs.size) (hfr : ∀ j, j < L.t → ¬ (fz.1 ≤ L.o + j ∧ L.o + j < fz.2)) (hat : ∀ (j : Nat) (v : Value), vals[j]? = some v → cs[L.o + j]? = some v) (hgr : ¬ Grows G ph L.b) :
    Rel X (G.push L) (ph.push cells) w where
  grow := h.grow.step rfl (by simp [Ghost.push]) (fun p r hr => by rw [PH.gro_push] at hr; exact hr) (fun _ _ => rfl) (fun c v h => .inl h) fun q c M hc hM => by
    rw [PH.get_push] at hc
    split at hc
    · rename_i hq; subst hq
      simp only [Ghost.push] at hM; rw [← h.lenN] at hM; simp at hM; rw [← hM]; exact .inr hgr
    · obtain ⟨L', _, _, _, _, hL', o⟩ := h.own q c hc
      have e2 := (Le.push G L).l _ _ hL'
      rw [hM] at e2; cases e2
      exact .inl ⟨c, hc, hL'⟩
  len := by simp [Ghost.push, PH.push, h.len]
  below := h.below
  own := fun p c hc => by
    rw [PH.get_push] at hc
    split at hc
    · rename_i hp
      cases hc
      refine ⟨L, vals, cs, e, fz, ?_, ⟨hv.mono (.push _ _), hlt, hge, hb, hsz, hfr, hat, h1⟩⟩
      simp only [Ghost.push]; rw [hp, ← h.lenN]; simp
    · obtain ⟨L', vals', cs', e', fz', hL, o⟩ := h.own p c hc
      exact ⟨L', vals', cs', e', fz', (Le.push _ _).l _ _ hL, ⟨o.rv.mono (.push _ _), o.lt, o.ge, o.hb, o.sz, o.fr, o.at_, o.one⟩⟩
  disj := fun p q c d M N hpq hp hq hM hN => by
    rw [PH.get_push] at hp hq
    have old : ∀ p c M, p ≠ ph.n → ph.get p = some c → (G.push L).l[p]? = some M → G.l[p]? = some M := by
      intro p c M hne hc hM
      obtain ⟨L', _, _, _, _, hL', o⟩ := h.own p c hc
      have e2 := (Le.push G L).l _ _ hL'
      rw [hM] at e2; cases e2; exact hL'
    have new : ∀ M, (G.push L).l[ph.n]? = some M → M = L := by
      intro M hM; simp only [Ghost.push] at hM; rw [← h.lenN] at hM; simp at hM; exact hM.symm
    split at hp
    · rename_i e1
      split at hq
      · rename_i e2; omega
      · rename_i e2
        subst e1; rw [new M hM]; exact fun e => hno q d N hq (old q d N e2 hq hN) e.symm
    · rename_i e1
      split at hq
      · rename_i e2; subst e2; rw [new N hN]; exact hno p c M hp (old p c M e1 hp hM)
      · rename_i e2; exact h.disj p q c d M N hpq hp hq (old p c M e1 hp hM) (old q d N e2 hq hN)
  fz := h.fz
  fdisj := fun a v p c M hv hp hM => by
    rw [PH.get_push] at hp
    split at hp
    · rename_i e1; subst e1; simp only [Ghost.push] at hM; rw [← h.lenN] at hM; simp at hM; rw [← hM]; exact hf a v hv
    · rename_i e1
      obtain ⟨L', _, _, _, _, hL', o⟩ := h.own p c hp
      have e2 := (Le.push G L).l _ _ hL'
      rw [hM] at e2; cases e2
      exact h.fdisj a v p c M hv hp hL'
  ob := fun r o e => ⟨(h.ob r o e).1, (h.ob r o e).2.mono (.push _ _) rfl⟩
  ty := h.ty.step (.push _ _) (fun b cs e fz hb => ⟨cs, fz, hb⟩) rfl

/-- append's second argument. -/
structure AppX (X : Ctx) (G : Ghost) (ph : PH) (sT xT e : TypeId) (sz by_ : Nat) (z : PV) (d2 : TypeDesc) (x : Value) (n : Nat) (new : List PV) : Prop where
  hk : kSl X.P sT = some e
  hk2 : X.P.underlying xT = some d2
  hd2 : (∃ e2, d2 = .slice e2) ∨ d2 = .string
  hs : szP X.P e = some sz
  hby : byP X.P e = some by_
  hz : zeroP X.P e = some z
  hzl : z.cells.length = sz
  hb0 : by_ ≠ 0
  ok : new.all cellOk = true
  src : Src X G ph x sz n new
  len : new.length = n * sz

theorem run_append_fit {sT xT e : TypeId} {sz n sLen sCap by_ : Nat} {z : PV} {d2 : TypeDesc} {a : Addr} {x : Value} {new : List PV} (h : Rel X G ph w) (A : AppX X G ph sT xT e sz by_ z d2 x n new) (hfit : sLen + n ≤ sCap) (t : TypeId) :
    ∃ nv : List Value, RVs G new nv ∧ (Builtin.append_ #[sT, xT] t #[.slice (some a) sLen sCap, x]).run X.P w = ((storeCells (a.add (sLen * sz)) nv).run X.P w).andThen fun _ w' => .ok (.slice (some a) (sLen + n) sCap) w' := by
  obtain ⟨nv, el, en, rn⟩ := A.src w h
  refine ⟨nv, rn, ?_⟩
  have hun : (underlying xT).run X.P w = .ok d2 w := run_underlying_k A.hk2 w
  rcases A.hd2 with ⟨e3, rfl⟩ | rfl
  all_goals
    simp only [Builtin.append_, List.getElem?_toArray, List.getElem?_cons_zero, List.getElem?_cons_succ, Sem.run_bind, run_underlying_k (kSl_some A.hk), Result.andThen_ok, run_sizeOf_k A.hs, hun, Sem.run_pure,
      Bool.false_eq_true, if_false, el, if_pos hfit, Bool.not_false, if_true, en]

/-- 'append' onto nothing. -/
theorem gives_append_none {sT xT e : TypeId} {sz n by_ : Nat} {z : PV} {d2 : TypeDesc} {s x : Value} {new : List PV} (h : Rel X G ph w) (hs : RV G .zsl s ∨ RV G .nilsl s) (A : AppX X G ph sT xT e sz by_ z d2 x n new) (hn : 0 < n) (hlim : n * by_ ≤ 2 ^ 47) (t : TypeId) :
    Gives X G ((Builtin.append_ #[sT, xT] t #[s, x]).run X.P w) (.sl ph.n 0 sz n none) (ph.push new) := by
  have key : ∀ a : Option Addr, Gives X G ((Builtin.append_ #[sT, xT] t #[.slice a 0 0, x]).run X.P w) (.sl ph.n 0 sz n none) (ph.push new) := by
    intro a
    have := run_append_grow (sLen := 0) (sCap := 0) (base := a) (old := []) h A.hk A.hk2 A.hd2 A.hs A.hby A.hz A.hzl A.hb0 (by simpa using hlim) (by omega) rfl A.ok (fun w _ => ⟨[], by cases a <;> simp [Builtin.firstCells, loadCells, loadCellsFrom], .nil⟩) A.src (by simp) A.len t
    simpa using this
  rcases hs with hs | hs <;> cases hs <;> exact key _

/-- 'append' onto nothing. -/
theorem gives_append_noneE {sT xT e : TypeId} {sz n by_ : Nat} {z : PV} {d2 : TypeDesc} {s x : Value} {new : List PV} (h : Rel X G ph w) (hs : RV G .zsl s ∨ RV G .nilsl s) (A : AppX X G ph sT xT e sz by_ z d2 x n new) (hn : 0 < n) (hlim : n * by_ ≤ 2 ^ 47) (t : TypeId) :
    GivesE X G ((Builtin.append_ #[sT, xT] t #[s, x]).run X.P w) (.sl ph.n 0 sz n none) (ph.push new) ph.n e := by
  have key : ∀ a : Option Addr, GivesE X G ((Builtin.append_ #[sT, xT] t #[.slice a 0 0, x]).run X.P w) (.sl ph.n 0 sz n none) (ph.push new) ph.n e := by
    intro a
    have := run_append_growE (sLen := 0) (sCap := 0) (base := a) (old := []) h A.hk A.hk2 A.hd2 A.hs A.hby A.hz A.hzl A.hb0 (by simpa using hlim) (by omega) rfl A.ok (fun w _ => ⟨[], by cases a <;> simp [Builtin.firstCells, loadCells, loadCellsFrom], .nil⟩) A.src (by simp) A.len t
    simpa using this
  rcases hs with hs | hs <;> cases hs <;> exact key _

theorem gives_append_zero {sT xT e : TypeId} {sz by_ : Nat} {z : PV} {d2 : TypeDesc} {s x : Value} {new : List PV} (h : Rel X G ph w) (hs : RV G .nilsl s) (A : AppX X G ph sT xT e sz by_ z d2 x 0 new) (t : TypeId) :
    Gives X G ((Builtin.append_ #[sT, xT] t #[s, x]).run X.P w) .nilsl ph := by
  cases hs
  obtain ⟨nv, el, en, rn⟩ := A.src w h
  have hun : (underlying xT).run X.P w = .ok d2 w := run_underlying_k A.hk2 w
  refine .pure h (v := .slice none 0 0) ?_ .nilsl
  rcases A.hd2 with ⟨e3, rfl⟩ | rfl
  all_goals
    simp only [Builtin.append_, List.getElem?_toArray, List.getElem?_cons_zero, List.getElem?_cons_succ, Sem.run_bind, run_underlying_k (kSl_some A.hk), Result.andThen_ok, run_sizeOf_k A.hs, hun, Sem.run_pure,
      Bool.false_eq_true, if_false, el, Nat.add_zero, Nat.le_refl, Bool.not_false, if_true, en]

/-- 'append' onto a row of one's own: the row as it was is spoken of no more. -/
theorem gives_append_own {sT xT e : TypeId} {sz n p off len by_ : Nat} {z : PV} {d2 : TypeDesc} {s x : Value} {cells new : List PV} (h : Rel X G ph w) (hs : RV G (.sl p off sz len none) s) (A : AppX X G ph sT xT e sz by_ z d2 x n new) (hp : ph.get p = some cells)
    (hcl : off + len * sz = cells.length) (hlim : (len + n) * by_ ≤ 2 ^ 47) (hok : cells.all cellOk = true) (t : TypeId) :
    Gives X G ((Builtin.append_ #[sT, xT] t #[s, x]).run X.P w) (.sl ph.n 0 sz (len + n) none) ((ph.kill p).push (cells.drop off ++ new)) := by
  obtain ⟨L, vals, cs, e', fz, hL, o⟩ := h.own p cells hp
  have hk := h.kill p
  have hgk : ¬ Grows G (ph.kill p) L.b := fun hG => h.noGrow hp hL hG.kill
  cases hs with
  | sl _ _ _ _ _ L' a rcap hL' h1 h2 h3 h4 =>
    rw [hL] at hL'
    obtain rfl : L = L' := by simpa using hL'
    have hvl := o.rv.length
    have hokd : (cells.drop off).all cellOk = true := by
      rw [List.all_eq_true] at hok ⊢; intro x hx; exact hok x (List.mem_of_mem_drop hx)
    by_cases hfit : len + n ≤ rcap
    · obtain ⟨nv, rn, er⟩ := run_append_fit (a := a) h A hfit t
      by_cases hr0 : 0 < rcap
      · obtain rfl := h4 hr0
        rw [add_plain] at er
        have hnl := rn.length
        have hno : ∀ q c M, (ph.kill p).get q = some c → G.l[q]? = some M → M.b ≠ L.b := by
          intro q c M hq hM
          rw [PH.get_kill] at hq
          split at hq
          · cases hq
          · rename_i hne; exact h.disj q p c cells M L hne hq hp hM hL
        have hff : ∀ a v, G.f a = some v → a.block ≠ L.b := fun a v ha => h.fdisj a v p cells L ha hp hL
        have hneed : (len + n) * sz ≤ rcap * sz := Nat.mul_le_mul_right _ hfit
        rw [Nat.add_mul] at hneed
        have hAl := A.len
        obtain ⟨w', cs', e1, e2, e3, e4, e5, e6, e7, e8⟩ := run_stores (P := X.P) (b := L.b) (o := L.o + off + len * sz) nv 0 w cs o.hb (by have := o.sz; omega) (fun j _ hj => by have := o.fr (off + len * sz + j) (by omega); simpa [Nat.add_assoc] using this) (rn.ones A.ok)
        have hw := hk.wrote o.ge ⟨_, _, _, o.hb⟩ hno hff e4 e5 e6 e7 e8 (fun cs1 e1' fz1 hc => by rw [o.hb] at hc; cases hc; exact ⟨_, _, e2⟩) hgk
        have hown := hw.own_again (L := ⟨L.b, L.o + off, L.t - off⟩) (cells := cells.drop off ++ new) (vals := vals.drop off ++ nv) e2 o.ge hno hff ((o.rv.drop off).append rn)
          (by intro v hv; rcases List.mem_append.1 hv with h5 | h5; exact o.one v (List.mem_of_mem_drop h5); exact rn.ones A.ok v h5) (by simp; omega)
          (by have : cs'.size = cs.size := by rw [← Array.length_toList, e3, setLV_len]; simp
              have := o.sz; simp only; omega)
          (fun j hj => by simp only at hj; have := o.fr (off + j) (by omega); simpa [Nat.add_assoc] using this)
          (by
            intro j v hj
            simp only
            rw [← Array.getElem?_toList, e3, setLV_get _ _ _ _ (by simp; have := o.sz; omega)]
            rw [List.getElem?_append] at hj
            split at hj
            · rename_i hlt
              simp only [List.length_drop] at hlt
              rw [if_neg (by omega), Array.getElem?_toList, Nat.add_assoc]
              rw [List.getElem?_drop] at hj
              exact o.at_ _ _ hj
            · rename_i hlt
              simp only [List.length_drop] at hlt hj
              have hjl := (List.getElem?_eq_some_iff.1 hj).1
              rw [if_pos (by omega), show L.o + off + j - (L.o + off + len * sz + 0) = j - (vals.length - off) by omega]; exact hj) hgk
        refine ⟨_, w', _, ?_, .push G _, hown, .sl ph.n 0 sz (len + n) none ⟨L.b, L.o + off, L.t - off⟩ _ rcap ?_ hfit ?_ (by simp) (fun _ => rfl)⟩
        · rw [er, e1]; rfl
        · simp only [Ghost.push]; rw [← h.lenN]; simp
        · simp only; omega
      · have hl0 : len = 0 := by omega
        have hn0 : n = 0 := by omega
        have hrc : rcap = 0 := by omega
        subst hl0; subst hn0; subst hrc
        have : nv = [] := by have := rn.length; rw [A.len] at this; simp at this; exact List.length_eq_zero_iff.1 this.symm
        subst this
        have hnn : new = [] := by have := A.len; simp at this; exact this
        subst hnn
        have hcd : cells.drop off = [] := by simp; omega
        have hno : ∀ q c M, (ph.kill p).get q = some c → G.l[q]? = some M → M.b ≠ L.b := by
          intro q c M hq hM
          rw [PH.get_kill] at hq
          split at hq
          · cases hq
          · rename_i hne; exact h.disj q p c cells M L hne hq hp hM hL
        have hff : ∀ a v, G.f a = some v → a.block ≠ L.b := fun a v ha => h.fdisj a v p cells L ha hp hL
        have hown := hk.own_again (L := ⟨L.b, L.o + off, L.t - off⟩) (cells := []) (vals := []) o.hb o.ge hno hff .nil (by simp) (by simp) (by have := o.sz; simp only; omega)
          (fun j hj => by simp only at hj; have := o.fr (off + j) (by omega); simpa [Nat.add_assoc] using this) (by simp) hgk
        refine ⟨_, w, _, by rw [er]; rfl, .push G _, by simpa [hcd] using hown, .sl ph.n 0 sz 0 none ⟨L.b, L.o + off, L.t - off⟩ _ 0 ?_ (Nat.le_refl _) (by simp) (by simp) (by omega)⟩
        simp only [Ghost.push]; rw [← h.lenN]; simp
    · have hold : ∀ w, Rel X G ph w → ∃ ov, (Builtin.firstCells sz len (.slice (some a) len rcap)).run X.P w = .ok ov.toArray w ∧ RVs G (cells.drop off) ov := by
        intro w h'
        obtain ⟨ov, _, e2, r2⟩ := src_sl (X := X) (.sl p off sz len none L a rcap hL h1 h2 h3 h4) hp (by omega) w h'
        refine ⟨ov, e2, ?_⟩
        have : seg cells off (len * sz) = cells.drop off := by unfold seg; rw [List.take_of_length_le (by simp; omega)]
        rw [this] at r2; exact r2
      have := run_append_grow (base := some a) (old := cells.drop off) h A.hk A.hk2 A.hd2 A.hs A.hby A.hz A.hzl A.hb0 hlim (by omega) hokd A.ok hold A.src (by simp; omega) A.len t
      obtain ⟨v, w', G', e1, hle, hr, hv⟩ := this
      refine ⟨v, w', G', e1, hle, ?_, hv⟩
      have hk2 := hr.kill p
      have : (ph.push (cells.drop off ++ new)).kill p = (ph.kill p).push (cells.drop off ++ new) := by
        have hlt := PH.get_lt hp
        simp only [PH.kill, PH.push]
        rw [List.set_append_left _ _ (show p < ph.bl.length from hlt)]
      rw [this] at hk2; exact hk2

/-- 'append' onto a row of one's own: the row as it was is spoken of no more. -/
theorem gives_append_ownE {sT xT e : TypeId} {sz n p off len by_ : Nat} {z : PV} {d2 : TypeDesc} {s x : Value} {cells new : List PV} (h : Rel X G ph w) (hs : RV G (.sl p off sz len none) s) (A : AppX X G ph sT xT e sz by_ z d2 x n new) (hp : ph.get p = some cells)
    (hcl : off + len * sz = cells.length) (hlim : (len + n) * by_ ≤ 2 ^ 47) (hok : cells.all cellOk = true) (ho : off = 0) (hty : ph.ty p = some e) (t : TypeId) :
    GivesE X G ((Builtin.append_ #[sT, xT] t #[s, x]).run X.P w) (.sl ph.n 0 sz (len + n) none) ((ph.kill p).push (cells.drop off ++ new)) ph.n e := by
  obtain ⟨L, vals, cs, e', fz, hL, o⟩ := h.own p cells hp
  have hk := h.kill p
  have hgk : ¬ Grows G (ph.kill p) L.b := fun hG => h.noGrow hp hL hG.kill
  cases hs with
  | sl _ _ _ _ _ L' a rcap hL' h1 h2 h3 h4 =>
    rw [hL] at hL'
    obtain rfl : L = L' := by simpa using hL'
    obtain ⟨L2, cs2, fz2, t1, t2, t3⟩ := h.ty p e hty
    rw [hL] at t1; cases t1
    rw [o.hb] at t3; cases t3
    have hvl := o.rv.length
    have hokd : (cells.drop off).all cellOk = true := by
      rw [List.all_eq_true] at hok ⊢; intro x hx; exact hok x (List.mem_of_mem_drop hx)
    by_cases hfit : len + n ≤ rcap
    · obtain ⟨nv, rn, er⟩ := run_append_fit (a := a) h A hfit t
      by_cases hr0 : 0 < rcap
      · obtain rfl := h4 hr0
        rw [add_plain] at er
        have hnl := rn.length
        have hno : ∀ q c M, (ph.kill p).get q = some c → G.l[q]? = some M → M.b ≠ L.b := by
          intro q c M hq hM
          rw [PH.get_kill] at hq
          split at hq
          · cases hq
          · rename_i hne; exact h.disj q p c cells M L hne hq hp hM hL
        have hff : ∀ a v, G.f a = some v → a.block ≠ L.b := fun a v ha => h.fdisj a v p cells L ha hp hL
        have hneed : (len + n) * sz ≤ rcap * sz := Nat.mul_le_mul_right _ hfit
        rw [Nat.add_mul] at hneed
        have hAl := A.len
        obtain ⟨w', cs', e1, e2, e3, e4, e5, e6, e7, e8⟩ := run_stores (P := X.P) (b := L.b) (o := L.o + off + len * sz) nv 0 w cs o.hb (by have := o.sz; omega) (fun j _ hj => by have := o.fr (off + len * sz + j) (by omega); simpa [Nat.add_assoc] using this) (rn.ones A.ok)
        have hw := hk.wrote o.ge ⟨_, _, _, o.hb⟩ hno hff e4 e5 e6 e7 e8 (fun cs1 e1' fz1 hc => by rw [o.hb] at hc; cases hc; exact ⟨_, _, e2⟩) hgk
        have hown := hw.own_again (L := ⟨L.b, L.o + off, L.t - off⟩) (cells := cells.drop off ++ new) (vals := vals.drop off ++ nv) e2 o.ge hno hff ((o.rv.drop off).append rn)
          (by intro v hv; rcases List.mem_append.1 hv with h5 | h5; exact o.one v (List.mem_of_mem_drop h5); exact rn.ones A.ok v h5) (by simp; omega)
          (by have : cs'.size = cs.size := by rw [← Array.length_toList, e3, setLV_len]; simp
              have := o.sz; simp only; omega)
          (fun j hj => by simp only at hj; have := o.fr (off + j) (by omega); simpa [Nat.add_assoc] using this)
          (by
            intro j v hj
            simp only
            rw [← Array.getElem?_toList, e3, setLV_get _ _ _ _ (by simp; have := o.sz; omega)]
            rw [List.getElem?_append] at hj
            split at hj
            · rename_i hlt
              simp only [List.length_drop] at hlt
              rw [if_neg (by omega), Array.getElem?_toList, Nat.add_assoc]
              rw [List.getElem?_drop] at hj
              exact o.at_ _ _ hj
            · rename_i hlt
              simp only [List.length_drop] at hlt hj
              have hjl := (List.getElem?_eq_some_iff.1 hj).1
              rw [if_pos (by omega), show L.o + off + j - (L.o + off + len * sz + 0) = j - (vals.length - off) by omega]; exact hj) hgk
        refine ⟨_, w', _, ?_, .push G _, hown, .sl ph.n 0 sz (len + n) none ⟨L.b, L.o + off, L.t - off⟩ _ rcap ?_ hfit ?_ (by simp) (fun _ => rfl), ⟨L.b, L.o + off, L.t - off⟩, _, _, ?_, by simp [ho, t2], e2⟩
        · rw [er, e1]; rfl
        · simp only [Ghost.push]; rw [← h.lenN]; simp
        · simp only; omega
        · simp only [Ghost.push]; rw [← h.lenN]; simp
      · have hl0 : len = 0 := by omega
        have hn0 : n = 0 := by omega
        have hrc : rcap = 0 := by omega
        subst hl0; subst hn0; subst hrc
        have : nv = [] := by have := rn.length; rw [A.len] at this; simp at this; exact List.length_eq_zero_iff.1 this.symm
        subst this
        have hnn : new = [] := by have := A.len; simp at this; exact this
        subst hnn
        have hcd : cells.drop off = [] := by simp; omega
        have hno : ∀ q c M, (ph.kill p).get q = some c → G.l[q]? = some M → M.b ≠ L.b := by
          intro q c M hq hM
          rw [PH.get_kill] at hq
          split at hq
          · cases hq
          · rename_i hne; exact h.disj q p c cells M L hne hq hp hM hL
        have hff : ∀ a v, G.f a = some v → a.block ≠ L.b := fun a v ha => h.fdisj a v p cells L ha hp hL
        have hown := hk.own_again (L := ⟨L.b, L.o + off, L.t - off⟩) (cells := []) (vals := []) o.hb o.ge hno hff .nil (by simp) (by simp) (by have := o.sz; simp only; omega)
          (fun j hj => by simp only at hj; have := o.fr (off + j) (by omega); simpa [Nat.add_assoc] using this) (by simp) hgk
        refine ⟨_, w, _, by rw [er]; rfl, .push G _, by simpa [hcd] using hown, .sl ph.n 0 sz 0 none ⟨L.b, L.o + off, L.t - off⟩ _ 0 ?_ (Nat.le_refl _) (by simp) (by simp) (by omega), ⟨L.b, L.o + off, L.t - off⟩, _, _, ?_, by simp [ho, t2], o.hb⟩
        · simp only [Ghost.push]; rw [← h.lenN]; simp
        · simp only [Ghost.push]; rw [← h.lenN]; simp
    · have hold : ∀ w, Rel X G ph w → ∃ ov, (Builtin.firstCells sz len (.slice (some a) len rcap)).run X.P w = .ok ov.toArray w ∧ RVs G (cells.drop off) ov := by
        intro w h'
        obtain ⟨ov, _, e2, r2⟩ := src_sl (X := X) (.sl p off sz len none L a rcap hL h1 h2 h3 h4) hp (by omega) w h'
        refine ⟨ov, e2, ?_⟩
        have : seg cells off (len * sz) = cells.drop off := by unfold seg; rw [List.take_of_length_le (by simp; omega)]
        rw [this] at r2; exact r2
      have := run_append_growE (base := some a) (old := cells.drop off) h A.hk A.hk2 A.hd2 A.hs A.hby A.hz A.hzl A.hb0 hlim (by omega) hokd A.ok hold A.src (by simp; omega) A.len t
      obtain ⟨v, w', G', e1, hle, hr, hv, hE⟩ := this
      refine ⟨v, w', G', e1, hle, ?_, hv, hE⟩
      have hk2 := hr.kill p
      have : (ph.push (cells.drop off ++ new)).kill p = (ph.kill p).push (cells.drop off ++ new) := by
        have hlt := PH.get_lt hp
        simp only [PH.kill, PH.push]
        rw [List.set_append_left _ _ (show p < ph.bl.length from hlt)]
      rw [this] at hk2; exact hk2

/-- 'append' onto a row whose room is known. -/
theorem gives_append_room {sT xT e : TypeId} {sz n p off len c by_ : Nat} {z : PV} {d2 : TypeDesc} {s x : Value} {cells new : List PV} (h : Rel X G ph w) (hs : RV G (.sl p off sz len (some c)) s) (A : AppX X G ph sT xT e sz by_ z d2 x n new) (hp : ph.get p = some cells)
    (hfit : len + n ≤ c) (h0 : 0 < c) (hcl : off + (len + n) * sz ≤ cells.length) (t : TypeId) :
    Gives X G ((Builtin.append_ #[sT, xT] t #[s, x]).run X.P w) (.sl p off sz (len + n) (some c)) (ph.put p (setL cells (off + len * sz) new)) := by
  cases hs with
  | sl _ _ _ _ _ L a rcap hL h1 h2 h3 h4 =>
    have hrc := h3 c rfl
    subst hrc
    obtain rfl := h4 h0
    obtain ⟨nv, rn, er⟩ := run_append_fit (a := ⟨L.b, L.o + off, none⟩) h A hfit t
    rw [add_plain] at er
    have hAl := A.len
    rw [Nat.add_mul] at hcl
    obtain ⟨w', e, h3'⟩ := Rel.stores hL new nv 0 (off + len * sz) ph w cells h hp (by omega) rn A.ok
    refine ⟨_, w', G, ?_, .refl _, h3', .sl _ _ _ _ _ L _ _ hL hfit h2 (fun c hc => by cases hc; rfl) (fun _ => rfl)⟩
    rw [er, Nat.add_assoc, e]; rfl

theorem gives_append_full {sT xT e : TypeId} {sz n p off len c by_ : Nat} {z : PV} {d2 : TypeDesc} {s x : Value} {cells new : List PV} (h : Rel X G ph w) (hs : RV G (.sl p off sz len (some c)) s) (A : AppX X G ph sT xT e sz by_ z d2 x n new) (hp : ph.get p = some cells)
    (hfull : c < len + n) (hcl : off + len * sz ≤ cells.length) (hlim : (len + n) * by_ ≤ 2 ^ 47) (hok : cells.all cellOk = true) (t : TypeId) :
    Gives X G ((Builtin.append_ #[sT, xT] t #[s, x]).run X.P w) (.sl ph.n 0 sz (len + n) none) (ph.push (seg cells off (len * sz) ++ new)) := by
  cases hs with
  | sl _ _ _ _ _ L a rcap hL h1 h2 h3 h4 =>
    have hrc := h3 c rfl
    subst hrc
    have hold : ∀ w, Rel X G ph w → ∃ ov, (Builtin.firstCells sz len (.slice (some a) len rcap)).run X.P w = .ok ov.toArray w ∧ RVs G (seg cells off (len * sz)) ov := by
      intro w h'
      obtain ⟨ov, _, e2, r2⟩ := src_sl (X := X) (.sl p off sz len (some rcap) L a rcap hL h1 h2 h3 h4) hp hcl w h'
      exact ⟨ov, e2, r2⟩
    exact run_append_grow (base := some a) h A.hk A.hk2 A.hd2 A.hs A.hby A.hz A.hzl A.hb0 hlim hfull (by rw [List.all_eq_true] at hok ⊢; intro x hx; exact hok x (List.mem_of_mem_drop (List.mem_of_mem_take hx))) A.ok hold A.src (by simp [seg]; omega) A.len t

/-! ### copy -/
theorem run_first_prefix {P : Program} {sz n m : Nat} {x : Value} {vals : List Value} (h : (Builtin.firstCells sz n x).run P w = .ok vals.toArray w) (hl : (Builtin.lenOf x).run P w = .ok n w) (hv : vals.length = n * sz) (hm : m ≤ n) (hsz : (∃ s, x = .string s) → sz = 1) :
    (Builtin.firstCells sz m x).run P w = .ok (vals.take (m * sz)).toArray w := by
  cases x with
  | string s =>
    have := hsz ⟨s, rfl⟩; subst this
    simp only [Builtin.firstCells, Sem.run_pure] at h ⊢
    congr 1
    have h' : ((s.extract 0 n).data.map fun b => Value.int .u8 b.toNat) = vals.toArray := by injection h
    apply Array.toList_inj.1
    have h2 := congrArg Array.toList h'
    simp only [Array.toList_map] at h2 ⊢
    rw [← h2]
    have a1 := extract_toList s 0 n
    have a2 := extract_toList s 0 m
    simp only [List.drop_zero, Nat.sub_zero] at a1 a2
    rw [a1, a2]
    simp [List.map_take, List.take_take, Nat.min_eq_left hm]
  | slice a l c =>
    cases a with
    | none =>
      simp only [Builtin.firstCells, Sem.run_pure] at h ⊢
      have : vals = [] := by have h' : (#[] : Array Value) = vals.toArray := by injection h
                             simpa using h'.symm
      subst this; simp
    | some a =>
      simp only [Builtin.firstCells] at h ⊢
      -- what is read cell by cell
      have key : ∀ (k i : Nat) (acc : Array Value) (us : List Value), us.length = k → (loadCellsFrom a i k acc).run P w = .ok (acc ++ us.toArray) w → ∀ k', k' ≤ k → (loadCellsFrom a i k' acc).run P w = .ok (acc ++ (us.take k').toArray) w := by
        intro k
        induction k with
        | zero => intro i acc us hu h k' hk; obtain rfl : k' = 0 := by omega
                  have : us = [] := List.length_eq_zero_iff.1 hu
                  subst this; simp [loadCellsFrom]
        | succ k ih =>
          intro i acc us hu h k' hk
          cases k' with
          | zero => simp [loadCellsFrom]
          | succ k' =>
            cases us with
            | nil => simp at hu
            | cons u us =>
              simp only [loadCellsFrom, Sem.run_bind] at h ⊢
              generalize hr : (load (a.add i)).run P w = r at h ⊢
              cases r with
              | halt x w' => simp [Result.andThen] at h
              | ok v w' =>
                have hw : w' = w := by
                  rw [run_load] at hr
                  split at hr
                  · cases hr; rfl
                  · split at hr
                    · cases hr; rfl
                    · cases hr
                subst hw
                simp only [Result.andThen_ok] at h ⊢
                have hvu : v = u := by
                  have hp : ∀ (k i : Nat) (acc : Array Value) (r : Array Value), (loadCellsFrom a i k acc).run P w' = .ok r w' → acc.toList <+: r.toList := by
                    intro k
                    induction k with
                    | zero => intro i acc r h; simp [loadCellsFrom] at h; subst h; exact List.prefix_refl _
                    | succ k ih2 =>
                      intro i acc r h
                      simp only [loadCellsFrom, Sem.run_bind] at h
                      generalize hr2 : (load (a.add i)).run P w' = r2 at h
                      cases r2 with
                      | halt x w2 => simp [Result.andThen] at h
                      | ok v2 w2 =>
                        have hw2 : w2 = w' := by
                          rw [run_load] at hr2
                          split at hr2
                          · cases hr2; rfl
                          · split at hr2
                            · cases hr2; rfl
                            · cases hr2
                        subst hw2
                        simp only [Result.andThen_ok] at h
                        have := ih2 _ _ _ h
                        simp only [Array.toList_push] at this
                        exact (List.prefix_append _ _).trans this
                  have := hp _ _ _ _ h
                  simp only [Array.toList_push, Array.toList_append, List.toList_toArray] at this
                  obtain ⟨tl, ht⟩ := this
                  rw [List.append_assoc] at ht
                  have := List.append_cancel_left ht
                  simp at this; exact this.1
                subst hvu
                have e : (acc ++ (v :: us).toArray) = acc.push v ++ us.toArray := by apply Array.toList_inj.1; simp
                rw [e] at h
                have := ih (i + 1) (acc.push v) us (by simpa using hu) h k' (by omega)
                rw [this]; congr 1; apply Array.toList_inj.1; simp
      have := key (n * sz) 0 #[] vals hv (by simpa [loadCells] using h) (m * sz) (Nat.mul_le_mul_right _ hm)
      simpa [loadCells] using this
  | _ => simp [Builtin.firstCells] at h

theorem gives_copy {dT xT e : TypeId} {sz n p off len : Nat} {cap : Option Nat} {s x : Value} {cells new : List PV} (h : Rel X G ph w) (hs : RV G (.sl p off sz len cap) s) (hk : kSl X.P dT = some e) (hsz : szP X.P e = some sz) (hsrc : Src X G ph x sz n new)
    (hnl : new.length = n * sz) (hok : new.all cellOk = true) (hp : ph.get p = some cells) (hcl : off + len * sz ≤ cells.length) (hstr : (∃ s, x = .string s) → sz = 1) (t : TypeId) :
    Gives X G ((Builtin.copy_ #[dT, xT] t #[s, x]).run X.P w) (.int .i64 (min n len : Nat)) (ph.put p (setL cells off (new.take (min n len * sz)))) := by
  obtain ⟨nv, el, en, rn⟩ := hsrc w h
  have hnv := rn.length
  have e1 := run_first_prefix (m := min n len) en el (by omega) (Nat.min_le_left _ _) hstr
  have hokt : (new.take (min n len * sz)).all cellOk = true := by rw [List.all_eq_true] at hok ⊢; intro x hx; exact hok x (List.mem_of_mem_take hx)
  cases hs with
  | sl _ _ _ _ _ L a rcap hL h1 h2 h3 h4 =>
    by_cases h0 : 0 < rcap
    · obtain rfl := h4 h0
      have hmul : min n len * sz ≤ len * sz := Nat.mul_le_mul_right _ (Nat.min_le_right _ _)
      obtain ⟨w', e2, h5⟩ := Rel.stores hL (new.take (min n len * sz)) (nv.take (min n len * sz)) 0 off ph w cells h hp (by simp; omega) (rn.take _) hokt
      refine ⟨_, w', G, ?_, .refl _, h5, .int _ _⟩
      simp only [Builtin.copy_, List.getElem?_toArray, List.getElem?_cons_zero, List.getElem?_cons_succ, Sem.run_bind, run_underlying_k (kSl_some hk), Result.andThen_ok, el, run_sizeOf_k hsz, Nat.min_def] at e1 ⊢
      simp only [Nat.min_def] at e2
      simp only [e1, Result.andThen_ok, e2]
      simp [goInt]
    · have hl0 : len = 0 := by omega
      subst hl0
      have e3 : min n 0 = 0 := Nat.min_zero _
      rw [e3] at e1 ⊢
      simp only [Nat.zero_mul, List.take_zero] at e1 ⊢
      refine .pure (v := .int .i64 0) (by simp only [setL]; rw [put_self hp]; exact h) ?_ (.int _ _)
      have e4 : Nat.min n 0 = 0 := Nat.min_zero _
      simp only [Builtin.copy_, List.getElem?_toArray, List.getElem?_cons_zero, List.getElem?_cons_succ, Sem.run_bind, run_underlying_k (kSl_some hk), Result.andThen_ok, el, run_sizeOf_k hsz, e4, e1]
      simp [storeCells, goInt]

end Pv
