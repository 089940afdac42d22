/- Part of the proof: the layer of pure values, or walks through functions (PvGrow). -/
import Derived.Test.YtjomgffpkdcanaaGreatPvOpsE
set_option linter.all false
namespace Pv
open Go Go.RowKit
variable {X : Ctx} {G : Ghost} {ph : PH} {w : World}

/-! ### Rows that only grow -/
/-- A row that grows, told as one that does not. -/
def deg : PV → PV
  | .gsl _ esz len cells => .fsl esz len cells
  | v => v

theorem RV.deg {p : PV} {v : Value} (h : RV G p v) : RV G (deg p) v := by
  cases p with
  | gsl q esz len cells =>
    cases h with
    | gsl _ _ _ _ vals a rcap L hL hg h h1 h2 h3 h4 h5 hf => exact .fsl _ _ _ vals a rcap h h1 h2 (fun _ => h3) hf
    | gslnil _ _ L hL hg => exact .fslnil _
  | _ => exact h

theorem putG_self {p sz top : Nat} {e : TypeId} (h : ph.gro p = some (sz, top, e)) : ph.putG p sz top e = ph := by
  have := PH.gro_eq.1 h
  unfold PH.putG
  have e2 : ph.bl.set p (some (.grow sz top e)) = ph.bl := by
    apply List.ext_getElem?; intro i
    rw [List.getElem?_set]
    split
    · rename_i e; subst e; rw [this]; split
      · rfl
      · have := (List.getElem?_eq_some_iff.1 this).1; omega
    · rfl
  rw [e2]

/-- Something that is not spoken of is laid. -/
theorem Rel.newRaw (h : Rel X G ph w) (o : Obj) (dr : Nat) : Rel X G ph { w with heap := w.heap.push o, drawn := dr } := by
  have old : ∀ k, k < w.heap.size → (w.heap.push o)[k]? = w.heap[k]? := fun k hk => by rw [Array.getElem?_push, if_neg (by omega)]
  have cl : ∀ a v, w.cell? a = some v → ({ w with heap := w.heap.push o, drawn := dr } : World).cell? a = some v := by
    intro a v h
    have hlt : a.block < w.heap.size := by
      by_cases hlt : a.block < w.heap.size
      · exact hlt
      · simp [World.cell?, Array.getElem?_eq_none (show w.heap.size ≤ a.block by omega)] at h
    simp only [World.cell?] at *
    rw [old _ hlt]; exact h
  refine ⟨h.len, ?_, ?_, h.disj, fun a v e => ⟨(h.fz a v e).1, cl _ _ (h.fz a v e).2⟩, h.fdisj, ?_, ?_, ?_⟩
  · exact h.below.trans ⟨rfl, rfl, rfl, by simp, fun k hk => old k (by have := h.size; omega)⟩
  · intro p c hc
    obtain ⟨L, vals, cs, e, fz, hL, o'⟩ := h.own p c hc
    exact ⟨L, vals, cs, e, fz, hL, ⟨o'.rv, o'.lt, o'.ge, (old _ (Array.getElem?_eq_some_iff.1 o'.hb).1).trans o'.hb, o'.sz, o'.fr, o'.at_, o'.one⟩⟩
  · intro r y e
    obtain ⟨h1, h2⟩ := h.ob r y e
    refine ⟨h1, h2.mono (.refl _) (old _ ?_)⟩
    cases y with
    | loop l => obtain ⟨rt, _, h2⟩ := h2; exact (Array.getElem?_eq_some_iff.1 h2).1
    | defd => exact (Array.getElem?_eq_some_iff.1 h2).1
  · exact h.ty.step (.refl _) (fun b cs e fz hb => ⟨cs, fz, (old _ (Array.getElem?_eq_some_iff.1 hb).1).trans hb⟩) rfl
  · exact h.grow.step rfl (Nat.le_refl _) (fun _ _ h => h) (fun b hb => old _ (h.grow.lt hb)) (fun c v h => .inl h) fun q c L hc hL => .inl ⟨c, hc, hL⟩

/-- The row of a length more. -/
noncomputable def Ghost.ver (G : Ghost) (p m : Nat) (a : Addr) (rcap : Nat) (vals : List Value) : Ghost :=
  { G with
    g := fun q k => if q = p ∧ k = m then some (some (a, rcap)) else G.g q k
    f := fun c => match G.f c with
      | some v => some v
      | none => open Classical in if c.spot = none ∧ c.block = a.block then vals[c.off]? else none }

theorem ver_f {p m rcap : Nat} {a : Addr} {vals : List Value} {c : Addr} {v : Value} (h : (G.ver p m a rcap vals).f c = some v) : G.f c = some v ∨ (G.f c = none ∧ c.spot = none ∧ c.block = a.block ∧ vals[c.off]? = some v) := by
  simp only [Ghost.ver] at h
  split at h
  · rename_i e; cases h; exact .inl e
  · rename_i e
    split at h
    · rename_i h1; exact .inr ⟨e, h1.1, h1.2, h⟩
    · cases h

theorem Rel.newVersion (h : Rel X G ph w) {p sz top n rcap : Nat} {e : TypeId} {a : Addr} {vals : List Value} {cells : List PV} {cs : Array Value} {fz : Nat × Nat} (hp : ph.gro p = some (sz, top, e)) (hn : top < n) (hv : RVs G cells vals) (hok : cells.all cellOk = true) (hl : cells.length = n * sz)
    (hsp : a.spot = none) (hoff : a.off = 0) (hge : X.B ≤ a.block) (hle : n ≤ rcap) (hb : w.heap[a.block]? = some (.cells cs e fz)) (hsz : rcap * sz ≤ cs.size) (hfr : fz.2 ≤ n * sz)
    (hat : ∀ (j : Nat) (v : Value), vals[j]? = some v → cs[j]? = some v) (hno : ∀ q c L, ph.get q = some c → G.l[q]? = some L → L.b ≠ a.block) (hff : ∀ c v, G.f c = some v → c.block = a.block → c.off < n * sz)
    (hoth : ∀ q s t e' b rb, q ≠ p → ph.gro q = some (s, t, e') → G.g q t = some (some (b, rb)) → b.block ≠ a.block) :
    Le G (G.ver p n a rcap vals) ∧ Rel X (G.ver p n a rcap vals) (ph.putG p sz n e) w ∧ RV (G.ver p n a rcap vals) (.gsl p sz n cells) (.slice (some a) n rcap) := by
  obtain ⟨x, g1, g2, g3, g4⟩ := h.grow.own p sz top e hp
  have hlt := PH.gro_lt hp
  have hvl := hv.length
  have hLe : Le G (G.ver p n a rcap vals) := by
    refine ⟨fun _ _ h => h, fun c v hc => by simp only [Ghost.ver, hc], fun q m y hy => ?_⟩
    simp only [Ghost.ver]
    split
    · rename_i e1; obtain ⟨rfl, rfl⟩ := e1; rw [g2 _ hn] at hy; cases hy
    · exact hy
  have hcell : ∀ c v, c.spot = none → c.block = a.block → vals[c.off]? = some v → w.cell? c = some v := by
    intro c v h1 h2 h3
    simp only [World.cell?, h2, hb, h1]; simpa using hat _ _ h3
  obtain ⟨L, hL⟩ : ∃ L, G.l[p]? = some L := ⟨_, List.getElem?_eq_getElem (by rw [h.lenN]; exact hlt)⟩
  refine ⟨hLe, ?_, ?_⟩
  · refine ⟨?_, h.below, ?_, ?_, ?_, ?_, ?_, ?_, ?_⟩
    · simpa [PH.putG, Ghost.ver] using h.len
    · intro q c hc
      rw [PH.get_putG] at hc
      split at hc
      · cases hc
      · obtain ⟨M, vals', cs', e', fz', hM, o⟩ := h.own q c hc
        exact ⟨M, vals', cs', e', fz', hM, ⟨o.rv.mono hLe, o.lt, o.ge, o.hb, o.sz, o.fr, o.at_, o.one⟩⟩
    · intro q r c d M N hqr hq hr hM hN
      rw [PH.get_putG] at hq hr
      split at hq
      · cases hq
      · split at hr
        · cases hr
        · exact h.disj q r c d M N hqr hq hr hM hN
    · intro c v hc
      rcases ver_f hc with h1 | ⟨h0, h1, h2, h3⟩
      · exact h.fz c v h1
      · exact ⟨h1, hcell c v h1 h2 h3⟩
    · intro c v q d M hc hq hM
      rw [PH.get_putG] at hq
      split at hq
      · cases hq
      · rcases ver_f hc with h1 | ⟨h0, h1, h2, h3⟩
        · exact h.fdisj c v q d M h1 hq hM
        · rw [h2]; exact fun e => hno q d M hq hM e.symm
    · intro r o hr
      exact ⟨(h.ob r o hr).1, (h.ob r o hr).2.mono hLe rfl⟩
    · exact h.ty.step hLe (fun b cs e fz hb => ⟨cs, fz, hb⟩) rfl
    · refine ⟨?_, ?_, ?_⟩
      · intro q s t e' hq
        rw [PH.gro_putG hlt] at hq
        split at hq
        · rename_i hqp; subst hqp; cases hq
          refine ⟨some (a, rcap), by simp [Ghost.ver], fun m hm => ?_, (fun e => by cases e), ?_⟩
          · simp only [Ghost.ver]; rw [if_neg (by omega)]; exact g2 m (by omega)
          · intro a' rcap' hx; cases hx
            refine ⟨hsp, hge, hle, hoff, ⟨cs, fz, hb, hsz, hfr⟩, ?_, ?_⟩
            · intro c v hc hcb
              rcases ver_f hc with h1 | ⟨h0, h1, h2, h3⟩
              · exact hff c v h1 hcb
              · have := (List.getElem?_eq_some_iff.1 h3).1; omega
            · intro r d M hr hM
              rw [PH.get_putG] at hr
              split at hr
              · cases hr
              · exact hno r d M hr hM
        · rename_i hqp
          obtain ⟨y, k1, k2, k3, k4⟩ := h.grow.own q s t e' hq
          have hgq : ∀ m, (G.ver p n a rcap vals).g q m = G.g q m := fun m => by simp only [Ghost.ver]; rw [if_neg (fun e => hqp e.1)]
          refine ⟨y, by rw [hgq]; exact k1, fun m hm => by rw [hgq]; exact k2 m hm, k3, ?_⟩
          intro b rb hy
          obtain ⟨q1, q2, q3, q4, q5, q6, q7⟩ := k4 b rb hy
          refine ⟨q1, q2, q3, q4, q5, ?_, ?_⟩
          · intro c v hc hcb
            rcases ver_f hc with h1 | ⟨h0, h1, h2, h3⟩
            · exact q6 c v h1 hcb
            · exact absurd (hcb.symm.trans h2) (hoth q s t e' b rb hqp hq (by rw [k1, hy]))
          · intro r d M hr hM
            rw [PH.get_putG] at hr
            split at hr
            · cases hr
            · exact q7 r d M hr hM
      · intro q r s t e1 s' t' e2 b rb c rc hqr hq hr hb' hc'
        rw [PH.gro_putG hlt] at hq hr
        simp only [Ghost.ver] at hb' hc'
        split at hq
        · rename_i hqp; subst hqp; cases hq
          rw [if_neg (fun e => hqr e.symm)] at hr
          rw [if_pos ⟨rfl, rfl⟩] at hb'; cases hb'
          rw [if_neg (fun e => hqr e.1.symm)] at hc'
          exact fun e => hoth r _ _ _ _ _ (fun e => hqr e.symm) hr hc' e.symm
        · rename_i hqp
          rw [if_neg (fun e => hqp e.1)] at hb'
          split at hr
          · rename_i hrp; subst hrp; cases hr
            rw [if_pos ⟨rfl, rfl⟩] at hc'; cases hc'
            exact hoth q _ _ _ _ _ hqp hq hb'
          · rename_i hrp
            rw [if_neg (fun e => hrp e.1)] at hc'
            exact h.grow.disj q r _ _ _ _ _ _ _ _ _ _ hqr hq hr hb' hc'
      · intro q m y hy
        simp only [Ghost.ver] at hy
        split at hy
        · rename_i e1; obtain ⟨rfl, rfl⟩ := e1
          have := (List.getElem?_eq_some_iff.1 hL).1; simpa [Ghost.ver] using this
        · exact h.grow.new q m y hy
  · refine .gsl p sz n cells vals a rcap L hL (by simp [Ghost.ver]) (hv.mono hLe) hle hl hsp (all_cells.1 hok) (by omega) ?_
    intro j v hj
    simp only [Ghost.ver]
    split
    · rename_i u hu
      have h1 := (h.fz _ _ hu).2
      have h2 := hcell ⟨a.block, a.off + j, none⟩ v rfl rfl (by simp [hoff, hj])
      rw [h2] at h1; exact h1.symm
    · simp [hoff, hj]

/-- Beyond a growing row's end something is written. -/
theorem Rel.wroteG (h : Rel X G ph w) {w' : World} {p sz top rcap : Nat} {e : TypeId} {a : Addr} {cs cs' : Array Value} {fz : Nat × Nat} (hp : ph.gro p = some (sz, top, e)) (hg : G.g p top = some (some (a, rcap)))
    (hb : w.heap[a.block]? = some (.cells cs e fz)) (hb' : w'.heap[a.block]? = some (.cells cs' e fz)) (hsz : cs'.size = cs.size) (hsame : ∀ j, j < top * sz → cs'[j]? = cs[j]?)
    (hk : ∀ k, k ≠ a.block → w'.heap[k]? = w.heap[k]?) (hs : w'.heap.size = w.heap.size) (ht : w'.tape = w.tape) (ho : w'.os = w.os) (hout : w'.output = w.output) : Rel X G ph w' := by
  obtain ⟨x, g1, g2, g3, g4⟩ := h.grow.own p sz top e hp
  rw [g1] at hg; cases hg
  obtain ⟨q1, q2, q3, q4, q5, q6, q7⟩ := g4 a rcap rfl
  have hG : Grows G ph a.block := ⟨p, sz, top, e, a, rcap, hp, g1, rfl⟩
  refine ⟨h.len, ?_, ?_, h.disj, ?_, h.fdisj, ?_, ?_, ?_⟩
  · exact h.below.trans ⟨ho, ht, hout, by omega, fun k hkB => hk k (by omega)⟩
  · intro q c hc
    obtain ⟨L, vals, cs1, e1, fz1, hL, o⟩ := h.own q c hc
    exact ⟨L, vals, cs1, e1, fz1, hL, ⟨o.rv, o.lt, o.ge, (hk _ (q7 q c L hc hL)).trans o.hb, o.sz, o.fr, o.at_, o.one⟩⟩
  · intro c v hc
    obtain ⟨h1, h2⟩ := h.fz c v hc
    refine ⟨h1, ?_⟩
    by_cases hcb : c.block = a.block
    · have hlt := q6 c v hc hcb
      simp only [World.cell?, hcb, hb, h1] at h2
      simp only [World.cell?, hcb, hb', h1]
      rw [hsame _ hlt]; exact h2
    · simp only [World.cell?] at h2 ⊢
      rw [hk _ hcb]; exact h2
  · intro r o hr
    obtain ⟨h1, h2⟩ := h.ob r o hr
    refine ⟨h1, h2.mono (.refl _) (hk _ ?_)⟩
    rintro rfl
    cases o with
    | loop l => obtain ⟨rt, _, h2⟩ := h2; rw [hb] at h2; cases h2
    | defd => have : w.heap[a.block]? = _ := h2; rw [hb] at this; cases this
  · refine h.ty.step (.refl _) (fun b cs1 e1 fz1 hb1 => ?_) rfl
    by_cases hbb : b = a.block
    · subst hbb; rw [hb] at hb1; cases hb1; exact ⟨_, _, hb'⟩
    · exact ⟨_, _, (hk _ hbb).trans hb1⟩
  · refine ⟨?_, h.grow.disj, h.grow.new⟩
    intro q s t e' hq
    by_cases hqp : q = p
    · subst hqp; rw [hp] at hq; cases hq
      refine ⟨some (a, rcap), g1, g2, g3, ?_⟩
      intro a' r' hx; cases hx
      refine ⟨q1, q2, q3, q4, ?_, q6, q7⟩
      obtain ⟨cs2, fz2, k1, k2, k3⟩ := q5
      rw [hb] at k1; cases k1
      exact ⟨cs', fz, hb', by omega, k3⟩
    · obtain ⟨y, k1, k2, k3, k4⟩ := h.grow.own q s t e' hq
      refine ⟨y, k1, k2, k3, ?_⟩
      intro b rb hy
      obtain ⟨r1, r2, r3, r4, ⟨cs2, fz2, k5, k6, k7⟩, r6, r7⟩ := k4 b rb hy
      refine ⟨r1, r2, r3, r4, ⟨cs2, fz2, ?_, k6, k7⟩, r6, r7⟩
      rw [hk _ (h.grow.disj q p _ _ _ _ _ _ _ _ _ _ hqp hq hp (by rw [k1, hy]) g1)]; exact k5

/-- What append does to a row that is full. -/
theorem run_append_growR {sT xT e : TypeId} {sz n sLen sCap by_ : Nat} {z : PV} {d2 : TypeDesc} {base : Option Addr} {x : Value} {old new : List PV} (h : Rel X G ph w) (A : AppX X G ph sT xT e sz by_ z d2 x n new) (hlim : (sLen + n) * by_ ≤ 2 ^ 47) (hgrow : sCap < sLen + n)
    (hold : ∀ w, Rel X G ph w → ∃ ov, (Builtin.firstCells sz sLen (.slice base sLen sCap)).run X.P w = .ok ov.toArray w ∧ RVs G old ov) (hol : old.length = sLen * sz) (t : TypeId) :
    ∃ (ov nv rest : List Value) (nc : Nat), RVs G old ov ∧ RVs G new nv ∧ sLen + n ≤ nc ∧ nc * sz = (ov ++ nv ++ rest).length ∧
      (Builtin.append_ #[sT, xT] t #[.slice base sLen sCap, x]).run X.P w = .ok (.slice (some ⟨w.heap.size, 0, none⟩) (sLen + n) nc) { w with heap := w.heap.push (.cells (ov ++ nv ++ rest).toArray e (0, 0)), drawn := w.drawn + 1 } := by
  obtain ⟨zv, ez, hz', hzc⟩ := run_zero_k (G := G) A.hz { w with drawn := w.drawn + 1 }
  obtain ⟨i, hi, hib⟩ := byP_some A.hby
  have hd := h.drew
  obtain ⟨nv0, el, -, -⟩ := A.src w h
  obtain ⟨ov, eo, ro⟩ := hold _ hd
  obtain ⟨nv, -, en, rn⟩ := A.src _ hd
  let need := sLen + n
  let nc := need + w.tape w.drawn (.appendCap need sCap e) % (2 ^ 63 - need)
  let rest := Builtin.zeroCells zv.cells (nc - need)
  have e1 : (newRow e (ov.toArray ++ nv.toArray ++ rest)).run X.P { w with drawn := w.drawn + 1 } = .ok ⟨w.heap.size, 0, none⟩ { w with heap := w.heap.push (.cells (ov.toArray ++ nv.toArray ++ rest) e (0, 0)), drawn := w.drawn + 1 } := by simp [newRow]; rfl
  have hb0 := A.hb0
  have hgf : ¬ (Builtin.nextslicecap (sLen + n) sCap * i.bytes > 2 ^ 48) := by
    have := growslice_fits (bytes := by_) hgrow (by omega); rw [hib]; omega
  have hib0 : i.bytes ≠ 0 := by omega
  have hng : ¬ (sLen + n ≤ sCap) := by omega
  refine ⟨ov, nv, rest.toList, nc, ro, rn, Nat.le_add_right _ _, ?_, ?_⟩
  · have r1 := ro.length; have r2 := rn.length
    have hzl' : rest.size = (nc - need) * zv.cells.size := by simp [rest, Builtin.zeroCells]
    have hnc : need ≤ nc := Nat.le_add_right _ _
    have hzs : zv.cells.size = sz := by rw [← A.hzl, (hz'.cells hzc).1.length]; simp
    have hnl := A.len
    simp only [List.length_append, Array.length_toList]
    rw [hzl', hzs, ← r1, ← r2, hol, hnl, ← Nat.add_mul, ← Nat.add_mul]
    congr 1; show nc = need + (nc - need); omega
  · have hch : (choose (.appendCap (sLen + n) sCap e)).run X.P w = .ok nc { w with drawn := w.drawn + 1 } := by simp [Question.forced, Question.cut, nc, need]
    have e2 : (newRow e (ov.toArray ++ nv.toArray ++ Builtin.zeroCells zv.cells (nc - (sLen + n)))).run X.P { w with drawn := w.drawn + 1 } = .ok ⟨w.heap.size, 0, none⟩ { w with heap := w.heap.push (.cells (ov.toArray ++ nv.toArray ++ rest) e (0, 0)), drawn := w.drawn + 1 } := e1
    have hun : (underlying xT).run X.P w = .ok d2 w := run_underlying_k A.hk2 w
    have e3 : (ov ++ nv ++ rest.toList).toArray = ov.toArray ++ nv.toArray ++ rest := by simp
    rw [e3]
    rcases A.hd2 with ⟨e4, rfl⟩ | rfl
    all_goals
      simp only [Builtin.append_, List.getElem?_toArray, List.getElem?_cons_zero, List.getElem?_cons_succ, Sem.run_bind, run_underlying_k (kSl_some A.hk), Result.andThen_ok, run_sizeOf_k A.hs, hun, Sem.run_pure,
        Bool.false_eq_true, if_false, el, if_neg hng, run_typeInfo_k hi, hib0, or_self, and_false, if_neg hgf, Bool.not_false, if_true, hch, run_askRoom, eo, en, ez, e2]
      try rfl

/-- 'append' onto a row that grows. -/
theorem gives_appendG {sT xT e : TypeId} {sz n p len by_ : Nat} {z : PV} {d2 : TypeDesc} {s x : Value} {cells new : List PV} (h : Rel X G ph w) (hs : RV G (.gsl p sz len cells) s) (hp : ph.gro p = some (sz, len, e)) (A : AppX X G ph sT xT e sz by_ z d2 x n new)
    (hlim : (len + n) * by_ ≤ 2 ^ 47) (t : TypeId) :
    Gives X G ((Builtin.append_ #[sT, xT] t #[s, x]).run X.P w) (.gsl p sz (len + n) (cells ++ new)) (ph.putG p sz (len + n) e) := by
  obtain ⟨y, g1, g2, g3, g4⟩ := h.grow.own p sz len e hp
  have hAl := A.len
  have hok : cells.all cellOk = true := by
    cases hs with
    | gslnil _ _ L hL hg => rfl
    | gsl _ _ _ _ vals a rcap L hL hg h h1 h2 h3 h4 h5 hf => exact all_cells.2 h4
  have fin : ∀ (base : Option Addr) (sCap : Nat) (hgrow : sCap < len + n) (hcl : cells.length = len * sz) (h0 : 0 < n)
      (hold : ∀ w, Rel X G ph w → ∃ ov, (Builtin.firstCells sz len (.slice base len sCap)).run X.P w = .ok ov.toArray w ∧ RVs G cells ov),
      Gives X G ((Builtin.append_ #[sT, xT] t #[.slice base len sCap, x]).run X.P w) (.gsl p sz (len + n) (cells ++ new)) (ph.putG p sz (len + n) e) := by
    intro base sCap hgrow hcl h0 hold
    obtain ⟨ov, nv, rest, nc, ro, rn, h1, h2, h3⟩ := run_append_growR h A hlim hgrow hold hcl t
    have hr := h.newRaw (.cells (ov ++ nv ++ rest).toArray e (0, 0)) (w.drawn + 1)
    obtain ⟨k1, k2, k3⟩ := hr.newVersion (n := len + n) (rcap := nc) (a := ⟨w.heap.size, 0, none⟩) (vals := ov ++ nv) (cells := cells ++ new) (cs := (ov ++ nv ++ rest).toArray) (fz := (0, 0)) hp (by omega) (ro.append rn) (by rw [List.all_append, hok, A.ok]; rfl) (by simp [hcl, hAl, Nat.add_mul]) rfl rfl h.size h1 (by simp)
      (by rw [h2]; simp) (Nat.zero_le _) (fun j v hj => by rw [List.getElem?_toArray, List.getElem?_append_left (List.getElem?_eq_some_iff.1 hj).1]; exact hj)
      (fun q c L hc hL => by
        obtain ⟨L', _, _, _, _, hL', o⟩ := h.own q c hc
        rw [hL] at hL'; cases hL'
        have := (Array.getElem?_eq_some_iff.1 o.hb).1; simp only; omega)
      (fun c v hc hcb => by
        have := (h.fz c v hc).2
        simp only at hcb
        simp [World.cell?, hcb] at this)
      (fun q s t e' b rb hqp hq hg => by
        have := h.grow.lt ⟨q, s, t, e', b, rb, hq, hg, rfl⟩; simp only; omega)
    exact ⟨_, _, _, h3, k1, k2, k3⟩
  cases hs with
  | gslnil _ _ L hL hg =>
    by_cases h0 : n = 0
    · subst h0
      obtain ⟨nv, el, en, rn⟩ := A.src w h
      have hun : (underlying xT).run X.P w = .ok d2 w := run_underlying_k A.hk2 w
      have hnn : new = [] := List.length_eq_zero_iff.1 (by simpa using hAl)
      subst hnn
      rw [putG_self hp]
      refine .pure h (v := .slice none 0 0) ?_ (.gslnil p sz L hL hg)
      rcases A.hd2 with ⟨e3, rfl⟩ | rfl
      all_goals
        simp only [Builtin.append_, List.getElem?_toArray, List.getElem?_cons_zero, List.getElem?_cons_succ, Sem.run_bind, run_underlying_k (kSl_some A.hk), Result.andThen_ok, run_sizeOf_k A.hs, hun, Sem.run_pure,
          Bool.false_eq_true, if_false, el, Nat.add_zero, Nat.le_refl, Bool.not_false, if_true, en]
    · exact fin none 0 (by omega) (by simp) (by omega) (fun w _ => ⟨[], by simp [Builtin.firstCells, loadCells, loadCellsFrom], .nil⟩)
  | gsl _ _ _ _ vals a rcap L hL hg hv h1 h2 h3 h4 h5 hf =>
    rw [g1] at hg; cases hg
    obtain ⟨q1, q2, q3, q4, ⟨cs, fz, q5, q6, q7⟩, q8, q9⟩ := g4 a rcap rfl
    have hvl := hv.length
    by_cases hfit : len + n ≤ rcap
    · obtain ⟨nv, rn, er⟩ := run_append_fit (a := a) h A hfit t
      have hnl := rn.length
      by_cases h0 : n = 0
      · subst h0
        have hnn : new = [] := List.length_eq_zero_iff.1 (by simpa using hAl)
        subst hnn
        have : nv = [] := List.length_eq_zero_iff.1 (by simpa using hnl.symm)
        subst this
        rw [Nat.add_zero, putG_self hp]
        refine .pure h (v := .slice (some a) len rcap) (by rw [er]; rfl) ?_
        rw [List.append_nil]
        exact .gsl p sz len cells vals a rcap L hL g1 hv h1 h2 h3 h4 h5 hf
      · have ha : a = ⟨a.block, 0, none⟩ := by cases a; simp at q1 q4; subst q1; subst q4; rfl
        have hneed : (len + n) * sz ≤ rcap * sz := Nat.mul_le_mul_right _ hfit
        rw [Nat.add_mul] at hneed
        obtain ⟨w', cs', e1, e2, e3, e4, e5, e6, e7, e8⟩ := run_stores (P := X.P) (b := a.block) (o := len * sz) nv 0 w cs q5 (by omega) (fun j _ hj => by omega) (rn.ones A.ok)
        have hcs : cs'.size = cs.size := by rw [← Array.length_toList, e3, setLV_len]; simp
        have hget : ∀ j, cs'[j]? = if len * sz ≤ j ∧ j < len * sz + nv.length then nv[j - len * sz]? else cs[j]? := by
          intro j
          rw [← Array.getElem?_toList, e3, setLV_get _ _ _ _ (by simp; omega)]
          simp only [Nat.add_zero, Array.getElem?_toList]
        have hw := h.wroteG (w' := w') hp g1 q5 e2 hcs (fun j hj => by rw [hget, if_neg (by omega)]) e4 e5 e6 e7 e8
        obtain ⟨k1, k2, k3⟩ := hw.newVersion (n := len + n) (rcap := rcap) (a := a) (vals := vals ++ nv) (cells := cells ++ new) (cs := cs') (fz := fz) hp (by omega) (hv.append rn) (by rw [List.all_append, hok, A.ok]; rfl) (by simp [h2, hAl, Nat.add_mul]) q1 q4 q2 hfit e2 (by omega)
          (Nat.le_trans q7 (Nat.mul_le_mul_right _ (Nat.le_add_right _ _)))
          (fun j v hj => by
            rw [hget]
            rw [List.getElem?_append] at hj
            split at hj
            · rename_i hlt
              rw [if_neg (by omega)]
              have h5 := (h.fz _ _ (hf j v hj)).2
              simp only [World.cell?, q5] at h5
              simpa [q4] using h5
            · have := (List.getElem?_eq_some_iff.1 hj).1
              rw [if_pos (by omega), show j - len * sz = j - vals.length by omega]; exact hj)
          q9 (fun c v hc hcb => by have := q8 c v hc hcb; rw [Nat.add_mul]; omega)
          (fun q s t e' b rb hqp hq hg => h.grow.disj q p _ _ _ _ _ _ _ _ _ _ hqp hq hp hg g1)
        refine ⟨_, w', _, ?_, k1, k2, k3⟩
        rw [er]
        rw [ha] at e1 ⊢
        rw [add_plain, Nat.zero_add]
        simp only at e1 ⊢
        rw [e1]; rfl
    · refine fin (some a) rcap (by omega) h2 (by omega) ?_
      intro w h'
      refine ⟨vals, ?_, hv⟩
      have ha : a = ⟨a.block, 0, none⟩ := by cases a; simp at q1 q4; subst q1; subst q4; rfl
      have := first_take (P := X.P) (w := w) (cells := cells) (vals := vals) (b := a.block) (o := 0) (off := 0) (sz := sz) (m := len) (rcap := rcap) (len := len) (fun j v hj => by
        have h5 := (h'.fz _ _ (hf j v hj)).2
        rw [q4] at h5; exact h5) (by omega)
      rw [ha]
      simp only [Nat.add_zero, List.drop_zero] at this
      rw [this, List.take_of_length_le (by omega)]

/-- A row of no element that grows. -/
def Ghost.pushG (G : Ghost) : Ghost :=
  { G with l := G.l ++ [⟨0, 0, 0⟩], g := fun q k => if q = G.l.length then (if k = 0 then some none else none) else G.g q k }

theorem Rel.leG (h : Rel X G ph w) : Le G G.pushG := by
  refine ⟨fun i M h => by simp only [Ghost.pushG]; rw [List.getElem?_append_left (List.getElem?_eq_some_iff.1 h).1]; exact h, fun _ _ h => h, fun p m x hx => ?_⟩
  have := h.grow.new p m x hx
  simp only [Ghost.pushG]
  rw [if_neg (by omega)]; exact hx

theorem Rel.pushG (h : Rel X G ph w) (sz : Nat) (e : TypeId) : Rel X G.pushG (ph.pushG sz 0 e) w := by
  have hle := h.leG
  have hl : ∀ q c L, ph.get q = some c → G.pushG.l[q]? = some L → G.l[q]? = some L := by
    intro q c L hc hL
    obtain ⟨L', _, _, _, _, hL', o⟩ := h.own q c hc
    have e2 := hle.l _ _ hL'
    rw [hL] at e2; cases e2; exact hL'
  have hgn : ∀ q m, q ≠ ph.n → G.pushG.g q m = G.g q m := by
    intro q m hq
    simp only [Ghost.pushG]; rw [if_neg (by rw [h.lenN]; exact hq)]
  refine ⟨by simp [Ghost.pushG, PH.pushG, h.len], h.below, ?_, ?_, h.fz, ?_, ?_, ?_, ?_⟩
  · intro q c hc
    rw [PH.get_pushG] at hc
    obtain ⟨L, vals, cs, e, fz, hL, o⟩ := h.own q c hc
    exact ⟨L, vals, cs, e, fz, hle.l _ _ hL, ⟨o.rv.mono hle, o.lt, o.ge, o.hb, o.sz, o.fr, o.at_, o.one⟩⟩
  · intro p q c d L M hpq hp hq hL hM
    rw [PH.get_pushG] at hp hq
    exact h.disj p q c d L M hpq hp hq (hl _ _ _ hp hL) (hl _ _ _ hq hM)
  · intro a v p c L hv hp hL
    rw [PH.get_pushG] at hp
    exact h.fdisj a v p c L hv hp (hl _ _ _ hp hL)
  · intro r o hr
    exact ⟨(h.ob r o hr).1, (h.ob r o hr).2.mono hle rfl⟩
  · exact h.ty.step hle (fun b cs e fz hb => ⟨cs, fz, hb⟩) rfl
  · refine ⟨?_, ?_, ?_⟩
    · intro q s t e' hq
      rw [PH.gro_pushG] at hq
      split at hq
      · rename_i e1; cases hq
        refine ⟨none, by simp only [Ghost.pushG]; rw [if_pos (by rw [e1, h.lenN]), if_pos trivial], fun m hm => ?_, fun _ => rfl, fun a r e => by cases e⟩
        simp only [Ghost.pushG]; rw [if_pos (by rw [e1, h.lenN]), if_neg (by omega)]
      · rename_i e1
        obtain ⟨x, k1, k2, k3, k4⟩ := h.grow.own q s t e' hq
        refine ⟨x, by rw [hgn _ _ e1]; exact k1, fun m hm => by rw [hgn _ _ e1]; exact k2 m hm, k3, ?_⟩
        intro a r hx
        obtain ⟨q1, q2, q3, q4, q5, q6, q7⟩ := k4 a r hx
        exact ⟨q1, q2, q3, q4, q5, q6, fun r c L hc hL => by rw [PH.get_pushG] at hc; exact q7 r c L hc (hl _ _ _ hc hL)⟩
    · intro p q s t e1 s' t' e2 a ra b rb hpq hp hq ha hb
      rw [PH.gro_pushG] at hp hq
      split at hp
      · rename_i h1; cases hp; simp only [Ghost.pushG] at ha; rw [if_pos (by rw [h1, h.lenN])] at ha; simp at ha
      · rename_i h1
        split at hq
        · rename_i h2; cases hq; simp only [Ghost.pushG] at hb; rw [if_pos (by rw [h2, h.lenN])] at hb; simp at hb
        · rename_i h2
          rw [hgn _ _ h1] at ha; rw [hgn _ _ h2] at hb
          exact h.grow.disj p q _ _ _ _ _ _ _ _ _ _ hpq hp hq ha hb
    · intro p m x hx
      simp only [Ghost.pushG] at hx ⊢
      split at hx
      · rename_i h1; simp; omega
      · have := h.grow.new p m x hx; simp; omega

theorem rv_newG (h : Rel X G ph w) (sz : Nat) {v : Value} (hv : RV G .nilsl v) : RV G.pushG (.gsl ph.n sz 0 []) v := by
  cases hv
  exact .gslnil _ _ ⟨0, 0, 0⟩ (by simp only [Ghost.pushG]; rw [← h.lenN]; simp) (by simp only [Ghost.pushG]; rw [if_pos h.lenN.symm, if_pos trivial])

/-- A growing row's cells may be frozen. -/
theorem Rel.froze (h : Rel X G ph w) {w' : World} {p sz top rcap : Nat} {e : TypeId} {a : Addr} {cs : Array Value} {fz fz' : Nat × Nat} (hp : ph.gro p = some (sz, top, e)) (hg : G.g p top = some (some (a, rcap))) (hb : w.heap[a.block]? = some (.cells cs e fz)) (hb' : w'.heap[a.block]? = some (.cells cs e fz')) (hfz : fz'.2 ≤ top * sz)
    (hk : ∀ k, k ≠ a.block → w'.heap[k]? = w.heap[k]?) (hs : w'.heap.size = w.heap.size) (ht : w'.tape = w.tape) (ho : w'.os = w.os) (hout : w'.output = w.output) : Rel X G ph w' := by
  obtain ⟨x, g1, g2, g3, g4⟩ := h.grow.own p sz top e hp
  rw [g1] at hg; cases hg
  obtain ⟨q1, q2, q3, q4, q5, q6, q7⟩ := g4 a rcap rfl
  refine ⟨h.len, ?_, ?_, h.disj, ?_, h.fdisj, ?_, ?_, ?_⟩
  · exact h.below.trans ⟨ho, ht, hout, by omega, fun k hkB => hk k (by omega)⟩
  · intro q c hc
    obtain ⟨L, vals, cs1, e1, fz1, hL, o⟩ := h.own q c hc
    exact ⟨L, vals, cs1, e1, fz1, hL, ⟨o.rv, o.lt, o.ge, (hk _ (q7 q c L hc hL)).trans o.hb, o.sz, o.fr, o.at_, o.one⟩⟩
  · intro c v hc
    obtain ⟨h1, h2⟩ := h.fz c v hc
    refine ⟨h1, ?_⟩
    by_cases hcb : c.block = a.block
    · simp only [World.cell?, hcb, hb, h1] at h2
      simp only [World.cell?, hcb, hb', h1]; exact h2
    · simp only [World.cell?] at h2 ⊢
      rw [hk _ hcb]; exact h2
  · intro r o hr
    obtain ⟨h1, h2⟩ := h.ob r o hr
    refine ⟨h1, h2.mono (.refl _) (hk _ ?_)⟩
    rintro rfl
    cases o with
    | loop l => obtain ⟨rt, _, h2⟩ := h2; rw [hb] at h2; cases h2
    | defd => have : w.heap[a.block]? = _ := h2; rw [hb] at this; cases this
  · refine h.ty.step (.refl _) (fun b1 cs1 e1 fz1 hb1 => ?_) rfl
    by_cases hbb : b1 = a.block
    · subst hbb; rw [hb] at hb1; cases hb1; exact ⟨_, _, hb'⟩
    · exact ⟨_, _, (hk _ hbb).trans hb1⟩
  · refine ⟨?_, h.grow.disj, h.grow.new⟩
    intro q s t e' hq
    by_cases hqp : q = p
    · subst hqp; rw [hp] at hq; cases hq
      refine ⟨some (a, rcap), g1, g2, g3, ?_⟩
      intro a' r' hx; cases hx
      refine ⟨q1, q2, q3, q4, ?_, q6, q7⟩
      obtain ⟨cs2, fz2, k1, k2, k3⟩ := q5
      rw [hb] at k1; cases k1
      exact ⟨cs, fz', hb', k2, hfz⟩
    · obtain ⟨y, k1, k2, k3, k4⟩ := h.grow.own q s t e' hq
      refine ⟨y, k1, k2, k3, ?_⟩
      intro b rb hy
      obtain ⟨r1, r2, r3, r4, ⟨cs2, fz2, k5, k6, k7⟩, r6, r7⟩ := k4 b rb hy
      refine ⟨r1, r2, r3, r4, ⟨cs2, fz2, ?_, k6, k7⟩, r6, r7⟩
      rw [hk _ (h.grow.disj q p _ _ _ _ _ _ _ _ _ _ hqp hq hp (by rw [k1, hy]) g1)]; exact k5
end Pv
