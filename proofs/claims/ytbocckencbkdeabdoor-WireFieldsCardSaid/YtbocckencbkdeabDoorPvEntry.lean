/- Part of the proof: the layer of pure values, or walks through functions (PvEntry, PvEntry2, PvEntry3, PvH2, PvWr15, PvWr10). -/
import Derived.Test.YtbocckencbkdeabDoorPvNum
import Derived.ProofKit
import Derived.Carry
import Derived.SizedLaws
import Derived.ChangeArms
import Derived.Test.YtbocckencbkdeabDoorPvH
import Derived.Test.YtbocckencbkdeabDoorPvWr7
import Derived.Test.YtbocckencbkdeabDoorPvWr8
import Derived.Test.YtbocckencbkdeabDoorPvWr14
import Derived.Test.YtbocckencbkdeabDoorPvWrP
set_option linter.all false
namespace Pv
open Go Go.RowKit

/-! ### What an argument reads as -/
inductive FK where
  | int (k : IntKind)
  | bool
  | str
  | sl (row : List FK)

mutual
inductive OkC : FK → PV → Prop
  | int (k : IntKind) (n : Int) (h : (Lit.int k n).wf = true) : OkC (.int k) (.int k n)
  | bool (b : Bool) : OkC .bool (.bool b)
  | str (l : List UInt8) (h : l.length ≤ maxLen) : OkC .str (.str l)
  | sl (row : List FK) (len : Nat) (cells : List PV) (h : len ≤ maxLen) (hc : OkR row len cells) : OkC (.sl row) (.fsl row.length len cells)
inductive OkL : List FK → List PV → Prop
  | nil : OkL [] []
  | cons (k : FK) (ks : List FK) (p : PV) (ps : List PV) (h : OkC k p) (hs : OkL ks ps) : OkL (k :: ks) (p :: ps)
inductive OkR : List FK → Nat → List PV → Prop
  | nil (row : List FK) : OkR row 0 []
  | cons (row : List FK) (n : Nat) (c r : List PV) (h : OkL row c) (hr : OkR row n r) : OkR row (n + 1) (c ++ r)
end

theorem OkL.length {ks : List FK} {ps : List PV} (h : OkL ks ps) : ps.length = ks.length := by
  induction ks generalizing ps with
  | nil => cases h; rfl
  | cons k ks ih => cases h with | cons _ _ _ _ _ hs => simp [ih hs]

theorem OkR.length {row : List FK} {n : Nat} {ps : List PV} (h : OkR row n ps) : ps.length = n * row.length := by
  induction n generalizing ps with
  | zero => cases h; simp
  | succ n ih => cases h with | cons _ _ c r hc hr => rw [List.length_append, ih hr, hc.length, Nat.succ_mul, Nat.add_comm]

theorem OkL.append {a b : List FK} {ps qs : List PV} (h : OkL a ps) (k : OkL b qs) : OkL (a ++ b) (ps ++ qs) := by
  induction a generalizing ps with
  | nil => cases h; exact k
  | cons x a ih => cases h with | cons _ _ _ _ h1 h2 => exact .cons _ _ _ _ h1 (ih h2)

/-- The cells of a type, one by one. -/
def shGo (P : Program) (rc : TypeId → Option (List FK)) : List Field → Nat → Option (List FK)
  | [], _ => some []
  | f :: fs, off => if f.offset = off then
      match rc f.type with
      | some ks => if ks.length = P.cellsOf f.type then (shGo P rc fs (off + ks.length)).map (ks ++ ·) else none
      | none => none
    else none

def shP (P : Program) : Nat → TypeId → Option (List FK)
  | 0, _ => none
  | d + 1, t =>
    match P.underlying t with
    | some .bool => some [.bool]
    | some (.int k) => some [.int k]
    | some .string => some [.str]
    | some (.slice e) => match shP P d e with
      | some ks => if ks.length = P.cellsOf e ∧ 0 < ks.length then some [.sl ks] else none
      | none => none
    | some (.struct fs) => match shGo P (shP P d) fs.toList 0 with
      | some ks => if ks.length = P.cellsOf t then some ks else none
      | none => none
    | some (.array n e) => match shP P d e with
      | some ks => if ks.length = P.cellsOf e ∧ n * ks.length = P.cellsOf t then some ((List.replicate n ks).flatten) else none
      | none => none
    | _ => none

/-- All that there was, as it is. -/
noncomputable def G0 (w : World) : Ghost := { l := [], f := fun a => if a.spot = none then w.cell? a else none }

def PH0 : PH := { bl := [], ob := fun _ => none }

theorem rel0 {P : Program} (w : World) : Rel ⟨P, w⟩ (G0 w) PH0 w := by
  refine ⟨rfl, .refl _ _, fun p c h => by simp [PH0, PH.get] at h, fun p q c d L M _ h => by simp [PH0, PH.get] at h, ?_, fun a v p c L _ h => by simp [PH0, PH.get] at h, fun r o h => by simp [PH0] at h, fun p e h => by simp [PH0] at h, ⟨fun p s t e h => by simp [PH0, PH.gro] at h, fun p q s t e s' t' e' a ra b rb _ h => by simp [PH0, PH.gro] at h, fun p m x h => by simp [G0] at h⟩⟩
  intro a v h
  simp only [G0] at h
  split at h
  · rename_i hs; exact ⟨hs, h⟩
  · cases h

section
variable {H : Type} {enc : TypeId × Value → H} {P : Program} {w : World} {base : Nat} {spare : Nat → Bool} {held : Bool}

theorem cell_spot {a : Addr} {v : Value} (h : w.cell? a = some v) : a.spot = none := by
  cases e : a.spot with
  | none => rfl
  | some s =>
    unfold World.cell? at h
    split at h
    · simp [e] at h
    · cases h

theorem add_none {a : Addr} (h : a.spot = none) (j : Nat) : a.add j = ⟨a.block, a.off + j, none⟩ := by
  unfold Addr.add
  split
  · rename_i hj; subst hj; cases a; simp at h; subst h; simp
  · rfl

theorem cells_f {a : Addr} {n : Nat} {cs : List Value} (h : w.cells? base a n = some cs) : ∀ j v, cs[j]? = some v → (G0 w).f ⟨a.block, a.off + j, none⟩ = some v ∧ a.spot = none := by
  obtain ⟨-, hl, hc⟩ := World.cells?_some h
  intro j v hv
  have hj : j < n := by rw [← hl]; exact (List.getElem?_eq_some_iff.1 hv).1
  have h0 := hc 0 (by omega)
  rw [List.getElem?_eq_getElem (by omega)] at h0
  have hs : a.spot = none := by
    have := cell_spot h0
    simpa [Addr.add] using this
  have := hc j hj
  rw [hv, add_none hs] at this
  refine ⟨?_, hs⟩
  simp only [G0, if_true]
  exact this

theorem trod_struct' {fuel : Nat} {t : TypeId} {fs : Array Field} {cs : List Value} {x : DataW H × List MemPlace} (hu : P.underlying t = some (.struct fs)) (h : DataW.trod enc P w base spare held fuel t cs = some x) :
    ∃ m xs, fuel = m + 1 ∧ cs.length = P.cellsOf t ∧ (fs.toList.mapM fun f => DataW.trod enc P w base spare held m f.type ((cs.drop f.offset).take (P.cellsOf f.type))) = some xs := by
  cases fuel with
  | zero => simp [DataW.trod] at h
  | succ m =>
    unfold DataW.trod at h
    rw [hu] at h
    split at h <;> simp_all
    obtain ⟨hl, xs, hp, hd⟩ := h
    exact ⟨xs, hp⟩

theorem trod_arr' {fuel n : Nat} {t e : TypeId} {cs : List Value} {x : DataW H × List MemPlace} (hu : P.underlying t = some (.array n e)) (h : DataW.trod enc P w base spare held fuel t cs = some x) :
    ∃ (xs : List (DataW H × List MemPlace)) (m : Nat), fuel = m + 1 ∧ cs.length = P.cellsOf t ∧ xs.length = n ∧ ∀ (i : Nat), i < n → DataW.trod enc P w base spare held m e ((cs.drop (i * P.cellsOf e)).take (P.cellsOf e)) = xs[i]? := by
  cases fuel with
  | zero => simp [DataW.trod] at h
  | succ m =>
    unfold DataW.trod at h
    rw [hu] at h
    split at h <;> simp_all
    obtain ⟨hl, xs, hp, hd⟩ := h
    exact ⟨xs, by simpa using mapM_some_length hp, fun i hi => mapM_some_get hp i i (by simp [hi])⟩

theorem trod_rv : ∀ (d fuel : Nat) (t : TypeId) (cs : List Value) (x : DataW H × List MemPlace) (ks : List FK), DataW.trod enc P w base spare held fuel t cs = some x → shP P d t = some ks →
    ∃ ps, RVs (G0 w) ps cs ∧ OkL ks ps := by
  intro d
  induction d with
  | zero => intro fuel t cs x ks _ h; simp [shP] at h
  | succ d ih =>
    intro fuel t cs x ks hx hk
    unfold shP at hk
    split at hk
    · rename_i hu; cases hk
      cases fuel with
      | zero => simp [DataW.trod] at hx
      | succ fuel =>
        unfold DataW.trod at hx; rw [hu] at hx
        split at hx <;> simp_all
        exact ⟨_, .cons _ _ _ _ (.bool _) .nil, .cons _ _ _ _ (.bool _) .nil⟩
    · rename_i k hu; cases hk
      cases fuel with
      | zero => simp [DataW.trod] at hx
      | succ fuel =>
        unfold DataW.trod at hx; rw [hu] at hx
        split at hx <;> simp_all
        obtain ⟨⟨h1, h2⟩, h3⟩ := hx
        subst h1
        exact ⟨_, .cons _ _ _ _ (.int _ _) .nil, .cons _ _ _ _ (.int _ _ h2) .nil⟩
    · rename_i hu; cases hk
      cases fuel with
      | zero => simp [DataW.trod] at hx
      | succ fuel =>
        unfold DataW.trod at hx; rw [hu] at hx
        split at hx <;> simp_all
        rename_i s _
        exact ⟨_, .cons _ _ _ _ (.str _ _ rfl) .nil, .cons _ _ _ _ (.str _ (by have := hx.1; simpa using this)) .nil⟩
    · rename_i e hu
      split at hk
      · rename_i row hrow
        split at hk
        · rename_i hc; cases hk
          rcases DataW.trod_slice hu hx with ⟨rfl, -⟩ | ⟨a, len, cap, elems, rest, n, -, rfl, -, -, hlc, hcm, hel, heach, -, -⟩
          · exact ⟨_, .cons _ _ _ _ (.fslnil _) .nil, .cons _ _ _ _ (.sl row 0 [] (by decide) (.nil _)) .nil⟩
          · have hsp : 0 < len → a.spot = none := by
              intro hl
              have h0 := heach 0 hl
              rw [List.getElem?_eq_getElem (by omega)] at h0
              obtain ⟨cs', hcs, -⟩ := Option.bind_eq_some_iff.1 h0
              have hl' := (World.cells?_some hcs).2.1
              have := (cells_f hcs 0 _ (List.getElem?_eq_getElem (by omega))).2
              simpa [Addr.add] using this
            have key : ∀ m, m ≤ len → ∃ (ps : List PV) (vs : List Value), RVs (G0 w) ps vs ∧ (∀ j v, vs[j]? = some v → (G0 w).f ⟨a.block, a.off + j, none⟩ = some v ∧ a.spot = none) ∧ vs.length = m * row.length ∧ ∃ rows : List (List PV), rows.length = m ∧ (∀ c ∈ rows, OkL row c) ∧ rows.flatten = ps := by
              intro m
              induction m with
              | zero => intro _; exact ⟨[], [], .nil, by simp, by simp, [], rfl, by simp, rfl⟩
              | succ m ihm =>
                intro hm
                obtain ⟨ps, vs, h1, h2, h3, rows, h4, h5, h6⟩ := ihm (by omega)
                have hme := heach m (by omega)
                have : m < elems.length := by omega
                rw [List.getElem?_eq_getElem this] at hme
                obtain ⟨cs', hcs, ht⟩ := Option.bind_eq_some_iff.1 hme
                obtain ⟨qs, g1, g2⟩ := ih _ _ _ _ _ ht hrow
                have hf := cells_f hcs
                refine ⟨ps ++ qs, vs ++ cs', h1.append g1, ?_, ?_, rows ++ [qs], by simp [h4], ?_, by simp [h6]⟩
                · intro j v hj
                  by_cases hlt : j < vs.length
                  · rw [List.getElem?_append_left hlt] at hj; exact h2 j v hj
                  · rw [List.getElem?_append_right (by omega)] at hj
                    have := hf _ _ hj
                    rw [add_none (hsp (by omega))] at this
                    refine ⟨?_, hsp (by omega)⟩
                    rw [← this.1]
                    have e1 : a.off + j = a.off + m * P.cellsOf e + (j - vs.length) := by rw [← hc.1]; omega
                    rw [e1]
                · have := (World.cells?_some hcs).2.1
                  simp [h3, this, ← hc.1, Nat.succ_mul]
                · intro c hcm'
                  rcases List.mem_append.1 hcm' with h | h
                  · exact h5 c h
                  · simp at h; subst h; exact g2
            obtain ⟨ps, vs, h1, h2, h3, rows, h4, h5, h6⟩ := key len (Nat.le_refl _)
            have hR : OkR row len ps := by
              rw [← h6, ← h4]
              clear h4 h6 h1 h3 heach key
              induction rows with
              | nil => exact .nil _
              | cons c rows ihr => exact .cons _ _ _ _ (h5 c (by simp)) (ihr fun c' h => h5 c' (List.mem_cons_of_mem _ h))
            refine ⟨_, .cons _ _ _ _ (.fsl row.length len ps vs a cap h1 hlc hR.length ?_ fun j v hj => (h2 j v hj).1) .nil, .cons _ _ _ _ (.sl row len ps (by omega) hR) .nil⟩
            intro hl
            have : 0 < vs.length := by rw [h3]; exact Nat.mul_pos hl hc.2
            exact (h2 0 _ (List.getElem?_eq_getElem this)).2
        · cases hk
      · cases hk
    · rename_i fs hu
      split at hk
      · rename_i ks' hgo
        split at hk
        · rename_i hlen; cases hk
          obtain ⟨fuel, xs, -, hcl, hm⟩ := trod_struct' hu hx
          have go : ∀ (fl : List Field) (off : Nat) (ks : List FK) (xs : List (DataW H × List MemPlace)), shGo P (shP P d) fl off = some ks → (fl.mapM fun f => DataW.trod enc P w base spare held fuel f.type ((cs.drop f.offset).take (P.cellsOf f.type))) = some xs → off + ks.length ≤ cs.length →
              ∃ ps, RVs (G0 w) ps ((cs.drop off).take ks.length) ∧ OkL ks ps := by
            intro fl
            induction fl with
            | nil =>
              intro off ks xs hg _ _
              simp only [shGo, Option.some.injEq] at hg
              subst hg
              exact ⟨[], by simpa using RVs.nil, .nil⟩
            | cons f fl ihf =>
              intro off ks xs hg hmm hle
              unfold shGo at hg
              split at hg
              · rename_i hoff
                split at hg
                · rename_i k1 hk1
                  split at hg
                  · rename_i hk1l
                    simp only [Option.map_eq_some_iff] at hg
                    obtain ⟨k2, hk2, rfl⟩ := hg
                    rw [List.mapM_cons] at hmm
                    simp only [Option.bind_eq_bind, Option.bind_eq_some_iff, Option.pure_def, Option.some.injEq] at hmm
                    obtain ⟨y, hy, ys, hys, -⟩ := hmm
                    obtain ⟨p1, r1, o1⟩ := ih _ _ _ _ _ hy hk1
                    simp only [List.length_append] at hle
                    obtain ⟨p2, r2, o2⟩ := ihf _ _ _ hk2 hys (by omega)
                    refine ⟨p1 ++ p2, ?_, o1.append o2⟩
                    rw [List.length_append, List.take_add, List.drop_drop]
                    rw [hoff, ← hk1l] at r1
                    exact r1.append r2
                  · cases hg
                · cases hg
              · cases hg
          obtain ⟨ps, r, o⟩ := go _ _ _ _ hgo hm (by omega)
          refine ⟨ps, ?_, o⟩
          rw [List.drop_zero, List.take_of_length_le (by omega)] at r
          exact r
        · cases hk
      · cases hk
    · rename_i n e hu
      split at hk
      · rename_i row hrow
        split at hk
        · rename_i hc; cases hk
          obtain ⟨xs, m, -, hcl, hxl, heach⟩ := trod_arr' hu hx
          have key : ∀ i, i ≤ n → ∃ ps, RVs (G0 w) ps (cs.take (i * row.length)) ∧ OkL ((List.replicate i row).flatten) ps := by
            intro i
            induction i with
            | zero => intro _; exact ⟨[], by simpa using RVs.nil, .nil⟩
            | succ i ihi =>
              intro hi
              obtain ⟨ps, h1, h2⟩ := ihi (by omega)
              have he := heach i (by omega)
              rw [List.getElem?_eq_getElem (by omega)] at he
              obtain ⟨qs, g1, g2⟩ := ih _ _ _ _ _ he hrow
              rw [← hc.1] at g1
              refine ⟨ps ++ qs, ?_, ?_⟩
              · rw [Nat.succ_mul, List.take_add]; exact h1.append g1
              · rw [List.replicate_succ', List.flatten_append]; simpa using h2.append g2
          obtain ⟨ps, h1, h2⟩ := key n (Nat.le_refl _)
          refine ⟨ps, ?_, h2⟩
          rw [List.take_of_length_le (by rw [hcl, ← hc.2]; exact Nat.le_refl _)] at h1
          exact h1
        · cases hk
      · cases hk
    · cases hk
end

section
variable {H : Type} {enc : TypeId × Value → H} {P : Program} {w : World} {spare : Nat → Bool} {held : Bool} {t : TypeId} {v : Value} {d : DataW H} {ps : List MemPlace} {base : Nat} {ks : List FK}

theorem open_cell {k : FK} (hc : v.cells = #[v]) (h : DataW.Trod enc P w 0 spare held t v d ps) (hs : shP P 20 t = some [k]) : ∃ p, OkC k p ∧ RV (G0 w) p v := by
  obtain ⟨fuel, hf⟩ := h
  obtain ⟨cells, hr, ho⟩ := trod_rv _ _ _ _ _ _ hf hs
  rw [hc] at hr
  cases ho with
  | cons _ _ p ps h1 h2 =>
    cases h2
    cases hr with
    | cons _ _ _ _ r _ => exact ⟨p, h1, r⟩

theorem open_i {k : IntKind} (hu : P.underlying t = some (.int k)) (hv : Value.okWide P w .any base t v) (h : DataW.Trod enc P w 0 spare held t v d ps) : ∃ n, (Lit.int k n).wf = true ∧ RV (G0 w) (.int k n) v := by
  obtain ⟨p, ho, r⟩ := open_cell (k := .int k) (by obtain ⟨s, rfl⟩ := Go.WideShapes.okWide_int hu hv; rfl) h (by unfold shP; rw [hu])
  cases ho with | int k n hn => exact ⟨n, hn, r⟩

end

/-- From what the body does to what the row asks for. -/
theorem enter {P : Program} {f : FuncId} {args : List PV} {W : World} {rargs : List Value} {b : Bool} {fn : Func} (hf : P.funcs[f]? = some fn) (hb : fn.body.isSome = true) (hnm : (fn.name == "runtime.NumGoroutine") = false) (h : Fn ⟨P, W⟩ f args (.bool b)) (ha : RVs (G0 W) args rargs) :
    Calls P f rargs.toArray W fun e W' => e = .returned (.bool b) ∧ Below W.heap.size W W' := by
  have hp := h PH0 (G0 W) W rargs (rel0 W) ha
  have hent := run_enter (P := P) (w := W) (args := rargs.toArray) hf hb hnm
  rw [hent] at hp
  rcases hp with ⟨v, w', e, -⟩ | ⟨w', e, hc⟩
  · cases e
  · cases e
    refine Calls.mono hc fun e W' he => ?_
    cases e with
    | returned u =>
      obtain ⟨G', pv, ph', -, hr, hv, -, rfl, rfl⟩ := he
      refine ⟨?_, hr.below⟩
      cases hv; rfl
    | panicked _ => exact he.elim
    | outgrown => exact he.elim
end Pv

namespace Pv
open Go Go.RowKit
variable {H : Type} {enc : TypeId × Value → H} {P : Program} {w : World} {spare : Nat → Bool} {held : Bool} {t : TypeId} {v : Value} {d : DataW H} {ps : List MemPlace} {base : Nat}

/-- A text among the arguments, with the bound that the form itself gives. -/
theorem open_str2 {ts : List TypeId} {ds : List (DataW H)} (hu : P.underlying t = some .string) (hv : Value.okWide P w .any base t v) (h : DataW.Trod enc P w 0 spare held t v d ps) (hsz : (DataW.weightsEach P ts ds).all (· ≤ reachBytes) = true) {j : Nat} (ht : ts[j]? = some t) (hd : ds[j]? = some d) :
    ∃ l, l.length < 2 ^ 47 ∧ RV (G0 w) (.str l) v := by
  obtain ⟨fuel, hf⟩ := h
  obtain ⟨s, rfl⟩ := Go.WideShapes.okWide_string hu hv
  obtain ⟨s', e1, e2, -⟩ := DataW.trod_string hu hf
  have e3 : s = s' := by simpa [Value.cells] using e1
  subst e3
  cases e2
  have := sized_string hsz ht hd
  exact ⟨s.data.toList, by have := reachBytes_lt; omega, .str _ _ rfl⟩
end Pv

namespace Pv
open Go Go.RowKit

section
variable {H : Type} {enc : TypeId × Value → H} {P : Program} {w : World} {spare : Nat → Bool} {held : Bool} {t : TypeId} {v : Value} {d : DataW H} {ps : List MemPlace} {base : Nat} {ks : List FK}
end

end Pv

namespace Pv
open Go Go.RowKit
variable {X : Ctx} {G : Ghost} {ph : PH} {w : World} {ρ : Option Nat} {n0 : Nat} {Q : Exit → PSt → PH → Prop}

theorem PCalls.args {f : FuncId} {args args' : List PV} {K : PV → PH → Prop} (h : NWs args args') (hc : PCalls X f args' ph K) : PCalls X f args ph K :=
  fun G w rargs hr ha => hc G w rargs hr (h G rargs ha)

theorem w_pureN {f : FuncId} {args args' : List PV} {v : PV} {K : PV → PH → Prop} (h : Fn X f args' v) (hn : NWs args args') (k : K v ph) : PCalls X f args ph K := PCalls.args hn (w_pure h k)

/-- All cells of a block are frozen. -/
noncomputable def Ghost.frzB (G : Ghost) (w : World) (b : Nat) : Ghost :=
  { G with f := fun a => match G.f a with
      | some v => some v
      | none => open Classical in if a.spot = none ∧ a.block = b then w.cell? a else none }

theorem le_frzB (G : Ghost) (w : World) (b : Nat) : Le G (G.frzB w b) := ⟨fun _ _ h => h, fun a v h => by simp only [Ghost.frzB, h], fun _ _ _ h => h⟩

theorem Rel.frzB (h : Rel X G ph w) {p : Nat} {cells : List PV} {L : Loc} (hp : ph.get p = some cells) (hL : G.l[p]? = some L) : Rel X (G.frzB w L.b) (ph.kill p) w := by
  have hle := le_frzB G w L.b
  have hk := h.kill p
  have hf : ∀ a v, (G.frzB w L.b).f a = some v → G.f a = some v ∨ (a.spot = none ∧ a.block = L.b ∧ w.cell? a = some v) := by
    intro a v ha
    simp only [Ghost.frzB] at ha
    split at ha
    · rename_i e; cases ha; exact .inl e
    · split at ha
      · rename_i e; exact .inr ⟨e.1, e.2, ha⟩
      · cases ha
  refine ⟨hk.len, hk.below, ?_, hk.disj, ?_, ?_, ?_, ?_, ?_⟩
  · intro q c hc
    obtain ⟨M, vals, cs, e, fz, hM, o⟩ := hk.own q c hc
    exact ⟨M, vals, cs, e, fz, hM, ⟨o.rv.mono hle, o.lt, o.ge, o.hb, o.sz, o.fr, o.at_, o.one⟩⟩
  · intro a v ha
    rcases hf a v ha with h1 | ⟨h1, h2, h3⟩
    · exact h.fz a v h1
    · exact ⟨h1, h3⟩
  · intro a v q c M ha hq hM
    rw [PH.get_kill] at hq
    split at hq
    · cases hq
    · rename_i hne
      rcases hf a v ha with h1 | ⟨h1, h2, h3⟩
      · exact h.fdisj a v q c M h1 hq hM
      · rw [h2]; exact fun e => h.disj q p c cells M L hne hq hp hM hL e.symm
  · intro r o hr
    exact ⟨(hk.ob r o hr).1, (hk.ob r o hr).2.mono hle rfl⟩
  · exact hk.ty.step hle (fun b cs e fz hb => ⟨cs, fz, hb⟩) rfl
  · refine hk.grow.step rfl (Nat.le_refl _) (fun _ _ h => h) (fun _ _ => rfl) (fun a v ha => ?_) fun q c L hc hL => .inl ⟨c, hc, hL⟩
    rcases hf a v ha with h1 | ⟨h1, h2, h3⟩
    · exact .inl h1
    · exact .inr fun hG => h.noGrow hp hL (h2 ▸ hG.kill)

/-- Arguments, of which those that lie in block p are told with their cells. -/
def FA (p : Nat) (cells : List PV) : List PV → List PV → Prop
  | [], [] => True
  | a :: az, b :: bs => (b = a ∨ ∃ off esz len cap, a = .sl p off esz len cap ∧ b = .fsl esz len (seg cells off (len * esz)) ∧ off + len * esz ≤ cells.length) ∧ FA p cells az bs
  | _, _ => False

theorem rv_frz (h : Rel X G ph w) {p : Nat} {cells : List PV} {L : Loc} (hp : ph.get p = some cells) (hL : G.l[p]? = some L) {off esz len : Nat} {cap : Option Nat} {v : Value} (hr : RV G (.sl p off esz len cap) v) (hle : off + len * esz ≤ cells.length) :
    RV (G.frzB w L.b) (.fsl esz len (seg cells off (len * esz))) v := by
  obtain ⟨L2, vals, cs, e, fz, hL2, o⟩ := h.own p cells hp
  rw [hL] at hL2
  obtain rfl : L = L2 := by simpa using hL2
  cases hr with
  | sl _ _ _ _ _ L' a rcap hL' h1 h2 h3 h4 =>
    rw [hL] at hL'
    obtain rfl : L = L' := by simpa using hL'
    refine .fsl _ _ _ ((vals.drop off).take (len * esz)) _ _ (((o.rv.drop off).take _).mono (le_frzB _ _ _)) h1 (by simp [seg]; omega) ?_ ?_
    · intro h0; rw [h4 (by omega)]
    · intro j u hj
      have h0 : 0 < rcap := by
        by_cases hz : rcap = 0
        · have : len = 0 := by omega
          subst this; simp at hj
        · omega
      rw [h4 h0]
      rw [List.getElem?_take] at hj
      split at hj
      · rw [List.getElem?_drop] at hj
        have hc := o.cell hj
        have hn : G.f ⟨L.b, L.o + (off + j), none⟩ = none := by
          cases e : G.f ⟨L.b, L.o + (off + j), none⟩ with
          | none => rfl
          | some u => exact absurd rfl (h.fdisj _ _ p cells L e hp hL)
        simp only [Ghost.frzB, Nat.add_assoc, hn]
        rw [if_pos (by simp)]; exact hc
      · cases hj

theorem FA.rvs (h : Rel X G ph w) {p : Nat} {cells : List PV} {L : Loc} (hp : ph.get p = some cells) (hL : G.l[p]? = some L) : ∀ {az bs : List PV} {rs : List Value}, FA p cells az bs → RVs G az rs → RVs (G.frzB w L.b) bs rs
  | [], [], _, _, hr => by cases hr; exact .nil
  | a :: az, b :: bs, _, hf, hr => by
    obtain ⟨h1, h2⟩ := hf
    cases hr with
    | cons _ r _ rs ha hs =>
      refine .cons _ _ _ _ ?_ (FA.rvs h hp hL h2 hs)
      rcases h1 with rfl | ⟨off, esz, len, cap, rfl, rfl, hle⟩
      · exact ha.mono (le_frzB _ _ _)
      · exact rv_frz h hp hL ha hle
  | [], _ :: _, _, hf, _ => hf.elim
  | _ :: _, [], _, hf, _ => hf.elim

end Pv

--nosplit
--keep2
namespace Pv
set_option maxRecDepth 20000
set_option maxHeartbeats 4000000
open Go Go.Proofs Go.RowKit
variable {w0 : World}

theorem few_ok (l : List FR) : Fn (Cx w0) 7 [.fsl 2 l.length (frsC l)] (.bool (decide (l.length ≤ 300))) := by
  rw [show decide (l.length ≤ 300) = decide ((l.length : Int) ≤ 300) from decide_eq_decide.2 (by omega)]
  refine fn_H ([Go.ResultVar.tmp 2]) Tryd.func7 rfl rfl (by decide) fun ph hW Q hQ => ?_
  simp only [start, List.length_cons, List.length_nil, List.cons_append, List.nil_append, Nat.reduceAdd, Nat.reduceSub, List.replicate_succ, List.replicate_zero, Tryd.ntmps7]
  repeat' first | simp -implicitDefEqProofs (maxSteps := 400000) (disch := first | with_reducible rfl | omega | (simp only [wkH] <;> omega) | decide) only [wkAll, wkL, popO, wantedP, if_true, if_false, reduceIte, ne_eq, Nat.reduceAdd, Nat.reduceSub, Nat.reduceMul, Nat.reduceLeDiff, Nat.reduceLT, ofCells, ofCell, reduceCtorEq, Int.reduceLE, Int.reduceLT, Int.reduceToNat, Int.reduceAdd, Int.reduceSub, Int.reduceMul, Int.reduceNeg, Int.reduceBEq, Int.reduceBNe, Int.reduceEq, eqCell, eqCells, binP, unP, convP, lenP, builtinP, sliceDataP, unsafeStringP, appendT, appendS, appendP, copyP, srcP, mmsP, mmP, indexOp, indexAddrOp, sliceOp, bndsP, bndP, capw, capCut, loadOp, storeOp, loadP, fieldOp, fieldAddrOp, arrayAtOp, buildP, buildSliceP, makeSliceP, placeF, fillP, setL, PK.agg, isZero, gt_iff_lt, Nat.reducePow, Nat.reduceGT, reps, seg, wkN, if_pos, if_neg, tf3, Tryd.ze3, tf9, Tryd.ze9, tf24, Tryd.ze24, tf72, Tryd.ze72]
  refine hQ (by first | exact .inr rfl | exact .inl rfl) (by first | exact trivial | exact marks1) (by first | (simp -implicitDefEqProofs (maxSteps := 400000) (disch := first | with_reducible rfl | omega | (simp only [wkH] <;> omega) | decide) only [wkAll, wkL, popO, wantedP, if_true, if_false, reduceIte, ne_eq, Nat.reduceAdd, Nat.reduceSub, Nat.reduceMul, Nat.reduceLeDiff, Nat.reduceLT, ofCells, ofCell, reduceCtorEq, Int.reduceLE, Int.reduceLT, Int.reduceToNat, Int.reduceAdd, Int.reduceSub, Int.reduceMul, Int.reduceNeg, Int.reduceBEq, Int.reduceBNe, Int.reduceEq, eqCell, eqCells, loadOp, storeOp, loadP, setL, PK.agg, isZero, gt_iff_lt, Nat.reducePow, Nat.reduceGT, reps, seg, wkN, if_pos, if_neg, tf3, Tryd.ze3, tf9, Tryd.ze9, tf24, Tryd.ze24, tf72, Tryd.ze72, resP, resPs, resP1]; rfl) | rfl) ⟨6, by repeat' first | exact frz_scalar rfl | apply frz_tuple | apply frz_agg | apply frz_fsl | apply frz_gsl (by omega) | exact frzs_nil | apply frzs_cons⟩ (by first | exact keepsH0 | exact keeps1 (by assumption)) (nw_eq ?_)
  rfl
def awP : PKT := ⟨0, 4, 3, 0, 0, 0, 0, 0, 0, 0, 0, 0, 0, []⟩
def awK : PKT := ⟨0, 0, 0, 0, 0, 0, 0, 0, 1314149198, 0, 0, 0, 0, []⟩
def awW : List UInt8 := 35 :: 0 :: 0 :: 0 :: List.replicate 44 0
def ntsn : List UInt8 := [78, 84, 83, 78]
theorem aw_write : writeP awP = (awW, 0) := by decide +kernel
theorem aw_kiss : kissL ntsn = 1314149198 := by decide +kernel
theorem aw_to : toKissL awK = ntsn := by decide +kernel
theorem nw_pk {a b c d e f g h i j k l m : PV} : NW (.agg [a, b, c, d, e, f, g, h, i, j, k, l, m, .nilsl]) (.agg [a, b, c, d, e, f, g, h, i, j, k, l, m, .fsl 2 0 []]) :=
  nw_agg (nws_cons (nw_eq rfl) (nws_cons (nw_eq rfl) (nws_cons (nw_eq rfl) (nws_cons (nw_eq rfl) (nws_cons (nw_eq rfl) (nws_cons (nw_eq rfl) (nws_cons (nw_eq rfl) (nws_cons (nw_eq rfl) (nws_cons (nw_eq rfl) (nws_cons (nw_eq rfl) (nws_cons (nw_eq rfl) (nws_cons (nw_eq rfl) (nws_cons (nw_eq rfl) (nws_cons nw_nil nws_nil))))))))))))))
theorem awake21_ok : Fn (Cx w0) 8 [] (.bool true) := by
  have t1 := wireWrite_ok (w0 := w0) awP (by simp [inP, awP]) (by decide) (by simp [awP])
  rw [aw_write] at t1
  have t2 := wireRead_ok (w0 := w0) [] (by decide)
  rw [show readP [] = (pk0, 11) from rfl] at t2
  have t3 := wireKiss_ok (w0 := w0) ntsn (by decide)
  rw [aw_kiss] at t3
  have t4 := wireToKiss_ok (w0 := w0) awK (by simp [inP, awK])
  rw [aw_to] at t4
  have hl : awW.length = 48 := rfl
  have h0 : awW[0]? = some 35 := rfl
  have h1 : (awW.drop 1).take 3 = [0, 0, 0] := rfl
  have h35 : UInt8.toNat 35 = 35 := rfl
  have hc : ((35 : Nat) : Int) = 35 := rfl
  generalize awW = W at *
  unfold ntsn at t3 t4
  refine fn_H ([Go.ResultVar.tmp 0]) Tryd.func8 rfl rfl (by decide) fun ph hW Q hQ => ?_
  simp only [start, List.length_cons, List.length_nil, List.cons_append, List.nil_append, Nat.reduceAdd, Nat.reduceSub, List.replicate_succ, List.replicate_zero, Tryd.ntmps8]
  repeat' first | simp -implicitDefEqProofs (maxSteps := 400000) (disch := first | with_reducible rfl | omega | (simp only [wkH] <;> omega) | decide) only [wkAll, wkL, popO, wantedP, if_true, if_false, reduceIte, ne_eq, Nat.reduceAdd, Nat.reduceSub, Nat.reduceMul, Nat.reduceLeDiff, Nat.reduceLT, ofCells, ofCell, reduceCtorEq, Int.reduceLE, Int.reduceLT, Int.reduceToNat, Int.reduceAdd, Int.reduceSub, Int.reduceMul, Int.reduceNeg, Int.reduceBEq, Int.reduceBNe, Int.reduceEq, eqCell, eqCells, binP, unP, convP, lenP, builtinP, sliceDataP, unsafeStringP, appendT, appendS, appendP, copyP, srcP, mmsP, mmP, indexOp, indexAddrOp, sliceOp, bndsP, bndP, capw, capCut, loadOp, storeOp, loadP, fieldOp, fieldAddrOp, arrayAtOp, buildP, buildSliceP, makeSliceP, placeF, fillP, setL, PK.agg, isZero, gt_iff_lt, Nat.reducePow, Nat.reduceGT, reps, seg, wkN, if_pos, if_neg, tf3, Tryd.ze3, tf5, Tryd.ze5, tf9, Tryd.ze9, tf22, Tryd.ze22, tf23, Tryd.ze23, tf24, Tryd.ze24, tf26, Tryd.ze26, tf29, Tryd.ze29, tf72, Tryd.ze72, hl, h0, h1, h35, hc, pkC, pk0] | refine w_pureN t1 (nws_cons nw_pk nws_nil) ?_ | refine w_pureN t4 (nws_cons nw_pk nws_nil) ?_ | refine w_pure (t2) ?_ | refine w_pure (t3) ?_
  refine hQ (by first | exact .inr rfl | exact .inl rfl) (by first | exact trivial | exact marks1) (by first | (simp -implicitDefEqProofs (maxSteps := 400000) (disch := first | with_reducible rfl | omega | (simp only [wkH] <;> omega) | decide) only [wkAll, wkL, popO, wantedP, if_true, if_false, reduceIte, ne_eq, Nat.reduceAdd, Nat.reduceSub, Nat.reduceMul, Nat.reduceLeDiff, Nat.reduceLT, ofCells, ofCell, reduceCtorEq, Int.reduceLE, Int.reduceLT, Int.reduceToNat, Int.reduceAdd, Int.reduceSub, Int.reduceMul, Int.reduceNeg, Int.reduceBEq, Int.reduceBNe, Int.reduceEq, eqCell, eqCells, loadOp, storeOp, loadP, setL, PK.agg, isZero, gt_iff_lt, Nat.reducePow, Nat.reduceGT, reps, seg, wkN, if_pos, if_neg, tf3, Tryd.ze3, tf5, Tryd.ze5, tf9, Tryd.ze9, tf22, Tryd.ze22, tf23, Tryd.ze23, tf24, Tryd.ze24, tf26, Tryd.ze26, tf29, Tryd.ze29, tf72, Tryd.ze72, resP, resPs, resP1]; rfl) | rfl) ⟨6, by repeat' first | exact frz_scalar rfl | apply frz_tuple | apply frz_agg | apply frz_fsl | apply frz_gsl (by omega) | exact frzs_nil | apply frzs_cons⟩ (by first | exact keepsH0 | exact keeps1 (by assumption)) (nw_eq ?_)
  rfl
end Pv

--nosplit
--keep2
namespace Pv
set_option maxRecDepth 20000
set_option maxHeartbeats 4000000
open Go Go.Proofs Go.RowKit
def tb13_6Wr10 : Tab := [[], [], [0, 1], [0, 1, 2], [], [], [4, 5], [4, 5, 6], [0, 1, 2, 3, 4, 5, 6, 7]]
def pl13_6Wr10 : Plan := [(0, true, []), (1, true, []), (2, true, []), (3, true, []), (4, true, []), (5, true, []), (6, true, []), (7, true, []), (8, true, [])]
variable {w0 : World}

theorem take_dif {α : Type} {a b : List α} {i : Nat} {x y : α} (hx : a[i]? = some x) (hy : b[i]? = some y) (h : x ≠ y) : a ≠ b := by
  rintro rfl; rw [hx] at hy; exact h (Option.some.inj hy)
theorem fr_dif {f g : FR} (h : ((f.k == g.k) && (f.b == g.b)) = false) : f ≠ g := by
  rintro rfl; simp at h
theorem fr_eq {f g : FR} (h : ((f.k == g.k) && (f.b == g.b)) = true) : f = g := by
  obtain ⟨k, b⟩ := f; obtain ⟨k', b'⟩ := g; simp at h; simp [h]
theorem refRows21_ok (a b : List FR) (ha : a.length < 2 ^ 40) (hb : b.length < 2 ^ 40) : Fn (Cx w0) 13 [.fsl 2 a.length (frsC a), .fsl 2 b.length (frsC b)] (.bool (decide (a = b))) := by
  have hla := frsC_len a
  have hlb := frsC_len b
  by_cases hn : a.length = b.length
  · have hn' : ((a.length : Int) != (b.length : Int)) = false := by rw [hn]; exact bne_self_eq_false _
    refine fn_H ([Go.ResultVar.tmp 4]) Tryd.func13 rfl rfl (by decide) fun ph hW Q hQ => ?_
    simp only [start, List.length_cons, List.length_nil, List.cons_append, List.nil_append, Nat.reduceAdd, Nat.reduceSub, List.replicate_succ, List.replicate_zero, Tryd.ntmps13]
    repeat' first | simp -implicitDefEqProofs (maxSteps := 400000) (disch := first | with_reducible rfl | omega | (simp only [wkH] <;> omega) | decide) only [wkAll, wkL, popO, wantedP, if_true, if_false, reduceIte, ne_eq, Nat.reduceAdd, Nat.reduceSub, Nat.reduceMul, Nat.reduceLeDiff, Nat.reduceLT, ofCells, ofCell, reduceCtorEq, Int.reduceLE, Int.reduceLT, Int.reduceToNat, Int.reduceAdd, Int.reduceSub, Int.reduceMul, Int.reduceNeg, Int.reduceBEq, Int.reduceBNe, Int.reduceEq, eqCell, eqCells, binP, unP, convP, lenP, builtinP, sliceDataP, unsafeStringP, appendT, appendS, appendP, copyP, srcP, mmsP, mmP, indexOp, indexAddrOp, sliceOp, bndsP, bndP, capw, capCut, loadOp, storeOp, loadP, fieldOp, fieldAddrOp, arrayAtOp, buildP, buildSliceP, makeSliceP, placeF, fillP, setL, PK.agg, isZero, gt_iff_lt, Nat.reducePow, Nat.reduceGT, reps, seg, wkN, if_pos, if_neg, tf3, Tryd.ze3, tf9, Tryd.ze9, tf24, Tryd.ze24, tf72, Tryd.ze72, pl13_6Wr10, hn'] | refine w_drawnF (id := 6) tb13_6Wr10 pl13_6Wr10 26 (by kernel_rfl) (by kernel_rfl) (by simp) ?_
    refine w_loopH (α := Nat) ph ph.ob ph.ty (fun i => [.fsl 2 a.length (frsC a), .fsl 2 b.length (frsC b), .undef, .undef, .undef, .int .i64 i, .undef, .undef, .undef, .undef, .undef, .undef, .undef, .undef, .undef, .undef, .undef, .undef, .undef, .undef, .undef, .undef, .undef, .undef, .undef, .undef]) (fun i => []) (fun i => i ≤ a.length ∧ a.take i = b.take i) (fun i => a.length - i) 0 ⟨by omega, by simp⟩ (fun _ _ => by simp) (.eq (by simp [FadeTo]) rfl) ?_
    rintro i ⟨hi, ht⟩ K hK
    rcases Nat.lt_or_ge i a.length with hlt | hge
    · have hlt' : (i : Int) < (a.length : Int) := by omega
      obtain ⟨f, hf⟩ := getW hlt
      obtain ⟨g, hg⟩ := getW (l := b) (i := i) (by omega)
      have hda := frsC_drop a i f hf
      have hdb := frsC_drop b i g hg
      have hl1 : i * 2 + 2 ≤ (frsC a).length := by omega
      have hl2 : i * 2 + 2 ≤ (frsC b).length := by omega
      cases hc : ((f.k == g.k) && (f.b == g.b)) with
      | true =>
        repeat' first | simp -implicitDefEqProofs (maxSteps := 400000) (disch := first | with_reducible rfl | omega | (simp only [wkH] <;> omega) | decide) only [wkAll, wkL, popO, wantedP, if_true, if_false, reduceIte, ne_eq, Nat.reduceAdd, Nat.reduceSub, Nat.reduceMul, Nat.reduceLeDiff, Nat.reduceLT, ofCells, ofCell, reduceCtorEq, Int.reduceLE, Int.reduceLT, Int.reduceToNat, Int.reduceAdd, Int.reduceSub, Int.reduceMul, Int.reduceNeg, Int.reduceBEq, Int.reduceBNe, Int.reduceEq, eqCell, eqCells, binP, unP, convP, lenP, builtinP, sliceDataP, unsafeStringP, appendT, appendS, appendP, copyP, srcP, mmsP, mmP, indexOp, indexAddrOp, sliceOp, bndsP, bndP, capw, capCut, loadOp, storeOp, loadP, fieldOp, fieldAddrOp, arrayAtOp, buildP, buildSliceP, makeSliceP, placeF, fillP, setL, PK.agg, isZero, gt_iff_lt, Nat.reducePow, Nat.reduceGT, reps, seg, wkN, if_pos, if_neg, tf3, Tryd.ze3, tf9, Tryd.ze9, tf24, Tryd.ze24, tf72, Tryd.ze72, pl13_6Wr10, hlt', hda, hdb, hl1, hl2, hla, hlb, hc] | refine w_drawnF (id := 6) tb13_6Wr10 pl13_6Wr10 26 (by kernel_rfl) (by kernel_rfl) (by simp) ?_
        have hfg := fr_eq hc
        exact hK (i + 1) _ _ ⟨by omega, by rw [takeW hf, takeW hg, ht, hfg]⟩ (by show a.length - (i + 1) < a.length - i; omega) (.eq (by simp [FadeTo]) rfl)
      | false =>
        rw [show decide (a = b) = false from decide_eq_false (take_dif hf hg (fr_dif hc))] at hQ
        repeat' first | simp -implicitDefEqProofs (maxSteps := 400000) (disch := first | with_reducible rfl | omega | (simp only [wkH] <;> omega) | decide) only [wkAll, wkL, popO, wantedP, if_true, if_false, reduceIte, ne_eq, Nat.reduceAdd, Nat.reduceSub, Nat.reduceMul, Nat.reduceLeDiff, Nat.reduceLT, ofCells, ofCell, reduceCtorEq, Int.reduceLE, Int.reduceLT, Int.reduceToNat, Int.reduceAdd, Int.reduceSub, Int.reduceMul, Int.reduceNeg, Int.reduceBEq, Int.reduceBNe, Int.reduceEq, eqCell, eqCells, binP, unP, convP, lenP, builtinP, sliceDataP, unsafeStringP, appendT, appendS, appendP, copyP, srcP, mmsP, mmP, indexOp, indexAddrOp, sliceOp, bndsP, bndP, capw, capCut, loadOp, storeOp, loadP, fieldOp, fieldAddrOp, arrayAtOp, buildP, buildSliceP, makeSliceP, placeF, fillP, setL, PK.agg, isZero, gt_iff_lt, Nat.reducePow, Nat.reduceGT, reps, seg, wkN, if_pos, if_neg, tf3, Tryd.ze3, tf9, Tryd.ze9, tf24, Tryd.ze24, tf72, Tryd.ze72, pl13_6Wr10, hlt', hda, hdb, hl1, hl2, hla, hlb, hc] | refine w_drawnF (id := 6) tb13_6Wr10 pl13_6Wr10 26 (by kernel_rfl) (by kernel_rfl) (by simp) ?_
        refine hQ (by first | exact .inr rfl | exact .inl rfl) (by first | exact trivial | exact marks1) (by first | (simp -implicitDefEqProofs (maxSteps := 400000) (disch := first | with_reducible rfl | omega | (simp only [wkH] <;> omega) | decide) only [wkAll, wkL, popO, wantedP, if_true, if_false, reduceIte, ne_eq, Nat.reduceAdd, Nat.reduceSub, Nat.reduceMul, Nat.reduceLeDiff, Nat.reduceLT, ofCells, ofCell, reduceCtorEq, Int.reduceLE, Int.reduceLT, Int.reduceToNat, Int.reduceAdd, Int.reduceSub, Int.reduceMul, Int.reduceNeg, Int.reduceBEq, Int.reduceBNe, Int.reduceEq, eqCell, eqCells, loadOp, storeOp, loadP, setL, PK.agg, isZero, gt_iff_lt, Nat.reducePow, Nat.reduceGT, reps, seg, wkN, if_pos, if_neg, tf3, Tryd.ze3, tf9, Tryd.ze9, tf24, Tryd.ze24, tf72, Tryd.ze72, pl13_6Wr10, resP, resPs, resP1]; rfl) | rfl) ⟨6, by repeat' first | exact frz_scalar rfl | apply frz_tuple | apply frz_agg | apply frz_fsl | apply frz_gsl (by omega) | exact frzs_nil | apply frzs_cons⟩ (by first | exact keepsH0 | exact keeps1 (by assumption)) (nw_eq ?_)
        rfl
    · have hge' : ¬ (i : Int) < (a.length : Int) := by omega
      rw [show decide (a = b) = true from decide_eq_true (by rw [← List.take_of_length_le hge, ht, List.take_of_length_le (by omega)])] at hQ
      repeat' first | simp -implicitDefEqProofs (maxSteps := 400000) (disch := first | with_reducible rfl | omega | (simp only [wkH] <;> omega) | decide) only [wkAll, wkL, popO, wantedP, if_true, if_false, reduceIte, ne_eq, Nat.reduceAdd, Nat.reduceSub, Nat.reduceMul, Nat.reduceLeDiff, Nat.reduceLT, ofCells, ofCell, reduceCtorEq, Int.reduceLE, Int.reduceLT, Int.reduceToNat, Int.reduceAdd, Int.reduceSub, Int.reduceMul, Int.reduceNeg, Int.reduceBEq, Int.reduceBNe, Int.reduceEq, eqCell, eqCells, binP, unP, convP, lenP, builtinP, sliceDataP, unsafeStringP, appendT, appendS, appendP, copyP, srcP, mmsP, mmP, indexOp, indexAddrOp, sliceOp, bndsP, bndP, capw, capCut, loadOp, storeOp, loadP, fieldOp, fieldAddrOp, arrayAtOp, buildP, buildSliceP, makeSliceP, placeF, fillP, setL, PK.agg, isZero, gt_iff_lt, Nat.reducePow, Nat.reduceGT, reps, seg, wkN, if_pos, if_neg, tf3, Tryd.ze3, tf9, Tryd.ze9, tf24, Tryd.ze24, tf72, Tryd.ze72, pl13_6Wr10, hge'] | refine w_drawnF (id := 6) tb13_6Wr10 pl13_6Wr10 26 (by kernel_rfl) (by kernel_rfl) (by simp) ?_
      refine hQ (by first | exact .inr rfl | exact .inl rfl) (by first | exact trivial | exact marks1) (by first | (simp -implicitDefEqProofs (maxSteps := 400000) (disch := first | with_reducible rfl | omega | (simp only [wkH] <;> omega) | decide) only [wkAll, wkL, popO, wantedP, if_true, if_false, reduceIte, ne_eq, Nat.reduceAdd, Nat.reduceSub, Nat.reduceMul, Nat.reduceLeDiff, Nat.reduceLT, ofCells, ofCell, reduceCtorEq, Int.reduceLE, Int.reduceLT, Int.reduceToNat, Int.reduceAdd, Int.reduceSub, Int.reduceMul, Int.reduceNeg, Int.reduceBEq, Int.reduceBNe, Int.reduceEq, eqCell, eqCells, loadOp, storeOp, loadP, setL, PK.agg, isZero, gt_iff_lt, Nat.reducePow, Nat.reduceGT, reps, seg, wkN, if_pos, if_neg, tf3, Tryd.ze3, tf9, Tryd.ze9, tf24, Tryd.ze24, tf72, Tryd.ze72, pl13_6Wr10, resP, resPs, resP1]; rfl) | rfl) ⟨6, by repeat' first | exact frz_scalar rfl | apply frz_tuple | apply frz_agg | apply frz_fsl | apply frz_gsl (by omega) | exact frzs_nil | apply frzs_cons⟩ (by first | exact keepsH0 | exact keeps1 (by assumption)) (nw_eq ?_)
      rfl
  · have hn' : ((a.length : Int) != (b.length : Int)) = true := by rw [bne_iff_ne]; omega
    rw [show decide (a = b) = false from decide_eq_false (fun h => hn (by rw [h]))]
    refine fn_H ([Go.ResultVar.tmp 4]) Tryd.func13 rfl rfl (by decide) fun ph hW Q hQ => ?_
    simp only [start, List.length_cons, List.length_nil, List.cons_append, List.nil_append, Nat.reduceAdd, Nat.reduceSub, List.replicate_succ, List.replicate_zero, Tryd.ntmps13]
    repeat' first | simp -implicitDefEqProofs (maxSteps := 400000) (disch := first | with_reducible rfl | omega | (simp only [wkH] <;> omega) | decide) only [wkAll, wkL, popO, wantedP, if_true, if_false, reduceIte, ne_eq, Nat.reduceAdd, Nat.reduceSub, Nat.reduceMul, Nat.reduceLeDiff, Nat.reduceLT, ofCells, ofCell, reduceCtorEq, Int.reduceLE, Int.reduceLT, Int.reduceToNat, Int.reduceAdd, Int.reduceSub, Int.reduceMul, Int.reduceNeg, Int.reduceBEq, Int.reduceBNe, Int.reduceEq, eqCell, eqCells, binP, unP, convP, lenP, builtinP, sliceDataP, unsafeStringP, appendT, appendS, appendP, copyP, srcP, mmsP, mmP, indexOp, indexAddrOp, sliceOp, bndsP, bndP, capw, capCut, loadOp, storeOp, loadP, fieldOp, fieldAddrOp, arrayAtOp, buildP, buildSliceP, makeSliceP, placeF, fillP, setL, PK.agg, isZero, gt_iff_lt, Nat.reducePow, Nat.reduceGT, reps, seg, wkN, if_pos, if_neg, tf3, Tryd.ze3, tf9, Tryd.ze9, tf24, Tryd.ze24, tf72, Tryd.ze72, pl13_6Wr10, hn'] | refine w_drawnF (id := 6) tb13_6Wr10 pl13_6Wr10 26 (by kernel_rfl) (by kernel_rfl) (by simp) ?_
    refine hQ (by first | exact .inr rfl | exact .inl rfl) (by first | exact trivial | exact marks1) (by first | (simp -implicitDefEqProofs (maxSteps := 400000) (disch := first | with_reducible rfl | omega | (simp only [wkH] <;> omega) | decide) only [wkAll, wkL, popO, wantedP, if_true, if_false, reduceIte, ne_eq, Nat.reduceAdd, Nat.reduceSub, Nat.reduceMul, Nat.reduceLeDiff, Nat.reduceLT, ofCells, ofCell, reduceCtorEq, Int.reduceLE, Int.reduceLT, Int.reduceToNat, Int.reduceAdd, Int.reduceSub, Int.reduceMul, Int.reduceNeg, Int.reduceBEq, Int.reduceBNe, Int.reduceEq, eqCell, eqCells, loadOp, storeOp, loadP, setL, PK.agg, isZero, gt_iff_lt, Nat.reducePow, Nat.reduceGT, reps, seg, wkN, if_pos, if_neg, tf3, Tryd.ze3, tf9, Tryd.ze9, tf24, Tryd.ze24, tf72, Tryd.ze72, pl13_6Wr10, resP, resPs, resP1]; rfl) | rfl) ⟨6, by repeat' first | exact frz_scalar rfl | apply frz_tuple | apply frz_agg | apply frz_fsl | apply frz_gsl (by omega) | exact frzs_nil | apply frzs_cons⟩ (by first | exact keepsH0 | exact keeps1 (by assumption)) (nw_eq ?_)
    rfl
end Pv
