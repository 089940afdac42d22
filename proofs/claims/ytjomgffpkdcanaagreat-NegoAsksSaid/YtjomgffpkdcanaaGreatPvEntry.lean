/- Part of the proof: the layer of pure values, or walks through functions (PvEntry, PvEntry2, PvEntry3, PvSha10, PvHkH, PvHk1). -/
import Derived.Test.YtjomgffpkdcanaaGreatPvNum
import Derived.ProofKit
import Derived.Carry
import Derived.SizedLaws
import Derived.ChangeArms
import Derived.Test.YtjomgffpkdcanaaGreatPvSha9
import Derived.Test.YtjomgffpkdcanaaGreatPvSha5
import Derived.Test.YtjomgffpkdcanaaGreatPvBldX
set_option linter.all false
namespace Pv
open Go Go.RowKit

/-! ### What an argument reads as -/
inductive FK where
  | int (k : IntKind)
  | bool
  | str
  | sl (row : List FK)

mutual
inductive OkC : FK → PV → Prop
  | int (k : IntKind) (n : Int) (h : (Lit.int k n).wf = true) : OkC (.int k) (.int k n)
  | bool (b : Bool) : OkC .bool (.bool b)
  | str (l : List UInt8) (h : l.length ≤ maxLen) : OkC .str (.str l)
  | sl (row : List FK) (len : Nat) (cells : List PV) (h : len ≤ maxLen) (hc : OkR row len cells) : OkC (.sl row) (.fsl row.length len cells)
inductive OkL : List FK → List PV → Prop
  | nil : OkL [] []
  | cons (k : FK) (ks : List FK) (p : PV) (ps : List PV) (h : OkC k p) (hs : OkL ks ps) : OkL (k :: ks) (p :: ps)
inductive OkR : List FK → Nat → List PV → Prop
  | nil (row : List FK) : OkR row 0 []
  | cons (row : List FK) (n : Nat) (c r : List PV) (h : OkL row c) (hr : OkR row n r) : OkR row (n + 1) (c ++ r)
end

theorem OkL.length {ks : List FK} {ps : List PV} (h : OkL ks ps) : ps.length = ks.length := by
  induction ks generalizing ps with
  | nil => cases h; rfl
  | cons k ks ih => cases h with | cons _ _ _ _ _ hs => simp [ih hs]

theorem OkR.length {row : List FK} {n : Nat} {ps : List PV} (h : OkR row n ps) : ps.length = n * row.length := by
  induction n generalizing ps with
  | zero => cases h; simp
  | succ n ih => cases h with | cons _ _ c r hc hr => rw [List.length_append, ih hr, hc.length, Nat.succ_mul, Nat.add_comm]

theorem OkL.append {a b : List FK} {ps qs : List PV} (h : OkL a ps) (k : OkL b qs) : OkL (a ++ b) (ps ++ qs) := by
  induction a generalizing ps with
  | nil => cases h; exact k
  | cons x a ih => cases h with | cons _ _ _ _ h1 h2 => exact .cons _ _ _ _ h1 (ih h2)

/-- The cells of a type, one by one. -/
def shGo (P : Program) (rc : TypeId → Option (List FK)) : List Field → Nat → Option (List FK)
  | [], _ => some []
  | f :: fs, off => if f.offset = off then
      match rc f.type with
      | some ks => if ks.length = P.cellsOf f.type then (shGo P rc fs (off + ks.length)).map (ks ++ ·) else none
      | none => none
    else none

def shP (P : Program) : Nat → TypeId → Option (List FK)
  | 0, _ => none
  | d + 1, t =>
    match P.underlying t with
    | some .bool => some [.bool]
    | some (.int k) => some [.int k]
    | some .string => some [.str]
    | some (.slice e) => match shP P d e with
      | some ks => if ks.length = P.cellsOf e ∧ 0 < ks.length then some [.sl ks] else none
      | none => none
    | some (.struct fs) => match shGo P (shP P d) fs.toList 0 with
      | some ks => if ks.length = P.cellsOf t then some ks else none
      | none => none
    | some (.array n e) => match shP P d e with
      | some ks => if ks.length = P.cellsOf e ∧ n * ks.length = P.cellsOf t then some ((List.replicate n ks).flatten) else none
      | none => none
    | _ => none

/-- All that there was, as it is. -/
noncomputable def G0 (w : World) : Ghost := { l := [], f := fun a => if a.spot = none then w.cell? a else none }

def PH0 : PH := { bl := [], ob := fun _ => none }

theorem rel0 {P : Program} (w : World) : Rel ⟨P, w⟩ (G0 w) PH0 w := by
  refine ⟨rfl, .refl _ _, fun p c h => by simp [PH0, PH.get] at h, fun p q c d L M _ h => by simp [PH0, PH.get] at h, ?_, fun a v p c L _ h => by simp [PH0, PH.get] at h, fun r o h => by simp [PH0] at h, fun p e h => by simp [PH0] at h, ⟨fun p s t e h => by simp [PH0, PH.gro] at h, fun p q s t e s' t' e' a ra b rb _ h => by simp [PH0, PH.gro] at h, fun p m x h => by simp [G0] at h⟩⟩
  intro a v h
  simp only [G0] at h
  split at h
  · rename_i hs; exact ⟨hs, h⟩
  · cases h

section
variable {H : Type} {enc : TypeId × Value → H} {P : Program} {w : World} {base : Nat} {spare : Nat → Bool} {held : Bool}

theorem cell_spot {a : Addr} {v : Value} (h : w.cell? a = some v) : a.spot = none := by
  cases e : a.spot with
  | none => rfl
  | some s =>
    unfold World.cell? at h
    split at h
    · simp [e] at h
    · cases h

theorem add_none {a : Addr} (h : a.spot = none) (j : Nat) : a.add j = ⟨a.block, a.off + j, none⟩ := by
  unfold Addr.add
  split
  · rename_i hj; subst hj; cases a; simp at h; subst h; simp
  · rfl

theorem cells_f {a : Addr} {n : Nat} {cs : List Value} (h : w.cells? base a n = some cs) : ∀ j v, cs[j]? = some v → (G0 w).f ⟨a.block, a.off + j, none⟩ = some v ∧ a.spot = none := by
  obtain ⟨-, hl, hc⟩ := World.cells?_some h
  intro j v hv
  have hj : j < n := by rw [← hl]; exact (List.getElem?_eq_some_iff.1 hv).1
  have h0 := hc 0 (by omega)
  rw [List.getElem?_eq_getElem (by omega)] at h0
  have hs : a.spot = none := by
    have := cell_spot h0
    simpa [Addr.add] using this
  have := hc j hj
  rw [hv, add_none hs] at this
  refine ⟨?_, hs⟩
  simp only [G0, if_true]
  exact this

theorem trod_struct' {fuel : Nat} {t : TypeId} {fs : Array Field} {cs : List Value} {x : DataW H × List MemPlace} (hu : P.underlying t = some (.struct fs)) (h : DataW.trod enc P w base spare held fuel t cs = some x) :
    ∃ m xs, fuel = m + 1 ∧ cs.length = P.cellsOf t ∧ (fs.toList.mapM fun f => DataW.trod enc P w base spare held m f.type ((cs.drop f.offset).take (P.cellsOf f.type))) = some xs := by
  cases fuel with
  | zero => simp [DataW.trod] at h
  | succ m =>
    unfold DataW.trod at h
    rw [hu] at h
    split at h <;> simp_all
    obtain ⟨hl, xs, hp, hd⟩ := h
    exact ⟨xs, hp⟩

theorem trod_arr' {fuel n : Nat} {t e : TypeId} {cs : List Value} {x : DataW H × List MemPlace} (hu : P.underlying t = some (.array n e)) (h : DataW.trod enc P w base spare held fuel t cs = some x) :
    ∃ (xs : List (DataW H × List MemPlace)) (m : Nat), fuel = m + 1 ∧ cs.length = P.cellsOf t ∧ xs.length = n ∧ ∀ (i : Nat), i < n → DataW.trod enc P w base spare held m e ((cs.drop (i * P.cellsOf e)).take (P.cellsOf e)) = xs[i]? := by
  cases fuel with
  | zero => simp [DataW.trod] at h
  | succ m =>
    unfold DataW.trod at h
    rw [hu] at h
    split at h <;> simp_all
    obtain ⟨hl, xs, hp, hd⟩ := h
    exact ⟨xs, by simpa using mapM_some_length hp, fun i hi => mapM_some_get hp i i (by simp [hi])⟩

theorem trod_rv : ∀ (d fuel : Nat) (t : TypeId) (cs : List Value) (x : DataW H × List MemPlace) (ks : List FK), DataW.trod enc P w base spare held fuel t cs = some x → shP P d t = some ks →
    ∃ ps, RVs (G0 w) ps cs ∧ OkL ks ps := by
  intro d
  induction d with
  | zero => intro fuel t cs x ks _ h; simp [shP] at h
  | succ d ih =>
    intro fuel t cs x ks hx hk
    unfold shP at hk
    split at hk
    · rename_i hu; cases hk
      cases fuel with
      | zero => simp [DataW.trod] at hx
      | succ fuel =>
        unfold DataW.trod at hx; rw [hu] at hx
        split at hx <;> simp_all
        exact ⟨_, .cons _ _ _ _ (.bool _) .nil, .cons _ _ _ _ (.bool _) .nil⟩
    · rename_i k hu; cases hk
      cases fuel with
      | zero => simp [DataW.trod] at hx
      | succ fuel =>
        unfold DataW.trod at hx; rw [hu] at hx
        split at hx <;> simp_all
        obtain ⟨⟨h1, h2⟩, h3⟩ := hx
        subst h1
        exact ⟨_, .cons _ _ _ _ (.int _ _) .nil, .cons _ _ _ _ (.int _ _ h2) .nil⟩
    · rename_i hu; cases hk
      cases fuel with
      | zero => simp [DataW.trod] at hx
      | succ fuel =>
        unfold DataW.trod at hx; rw [hu] at hx
        split at hx <;> simp_all
        rename_i s _
        exact ⟨_, .cons _ _ _ _ (.str _ _ rfl) .nil, .cons _ _ _ _ (.str _ (by have := hx.1; simpa using this)) .nil⟩
    · rename_i e hu
      split at hk
      · rename_i row hrow
        split at hk
        · rename_i hc; cases hk
          rcases DataW.trod_slice hu hx with ⟨rfl, -⟩ | ⟨a, len, cap, elems, rest, n, -, rfl, -, -, hlc, hcm, hel, heach, -, -⟩
          · exact ⟨_, .cons _ _ _ _ (.fslnil _) .nil, .cons _ _ _ _ (.sl row 0 [] (by decide) (.nil _)) .nil⟩
          · have hsp : 0 < len → a.spot = none := by
              intro hl
              have h0 := heach 0 hl
              rw [List.getElem?_eq_getElem (by omega)] at h0
              obtain ⟨cs', hcs, -⟩ := Option.bind_eq_some_iff.1 h0
              have hl' := (World.cells?_some hcs).2.1
              have := (cells_f hcs 0 _ (List.getElem?_eq_getElem (by omega))).2
              simpa [Addr.add] using this
            have key : ∀ m, m ≤ len → ∃ (ps : List PV) (vs : List Value), RVs (G0 w) ps vs ∧ (∀ j v, vs[j]? = some v → (G0 w).f ⟨a.block, a.off + j, none⟩ = some v ∧ a.spot = none) ∧ vs.length = m * row.length ∧ ∃ rows : List (List PV), rows.length = m ∧ (∀ c ∈ rows, OkL row c) ∧ rows.flatten = ps := by
              intro m
              induction m with
              | zero => intro _; exact ⟨[], [], .nil, by simp, by simp, [], rfl, by simp, rfl⟩
              | succ m ihm =>
                intro hm
                obtain ⟨ps, vs, h1, h2, h3, rows, h4, h5, h6⟩ := ihm (by omega)
                have hme := heach m (by omega)
                have : m < elems.length := by omega
                rw [List.getElem?_eq_getElem this] at hme
                obtain ⟨cs', hcs, ht⟩ := Option.bind_eq_some_iff.1 hme
                obtain ⟨qs, g1, g2⟩ := ih _ _ _ _ _ ht hrow
                have hf := cells_f hcs
                refine ⟨ps ++ qs, vs ++ cs', h1.append g1, ?_, ?_, rows ++ [qs], by simp [h4], ?_, by simp [h6]⟩
                · intro j v hj
                  by_cases hlt : j < vs.length
                  · rw [List.getElem?_append_left hlt] at hj; exact h2 j v hj
                  · rw [List.getElem?_append_right (by omega)] at hj
                    have := hf _ _ hj
                    rw [add_none (hsp (by omega))] at this
                    refine ⟨?_, hsp (by omega)⟩
                    rw [← this.1]
                    have e1 : a.off + j = a.off + m * P.cellsOf e + (j - vs.length) := by rw [← hc.1]; omega
                    rw [e1]
                · have := (World.cells?_some hcs).2.1
                  simp [h3, this, ← hc.1, Nat.succ_mul]
                · intro c hcm'
                  rcases List.mem_append.1 hcm' with h | h
                  · exact h5 c h
                  · simp at h; subst h; exact g2
            obtain ⟨ps, vs, h1, h2, h3, rows, h4, h5, h6⟩ := key len (Nat.le_refl _)
            have hR : OkR row len ps := by
              rw [← h6, ← h4]
              clear h4 h6 h1 h3 heach key
              induction rows with
              | nil => exact .nil _
              | cons c rows ihr => exact .cons _ _ _ _ (h5 c (by simp)) (ihr fun c' h => h5 c' (List.mem_cons_of_mem _ h))
            refine ⟨_, .cons _ _ _ _ (.fsl row.length len ps vs a cap h1 hlc hR.length ?_ fun j v hj => (h2 j v hj).1) .nil, .cons _ _ _ _ (.sl row len ps (by omega) hR) .nil⟩
            intro hl
            have : 0 < vs.length := by rw [h3]; exact Nat.mul_pos hl hc.2
            exact (h2 0 _ (List.getElem?_eq_getElem this)).2
        · cases hk
      · cases hk
    · rename_i fs hu
      split at hk
      · rename_i ks' hgo
        split at hk
        · rename_i hlen; cases hk
          obtain ⟨fuel, xs, -, hcl, hm⟩ := trod_struct' hu hx
          have go : ∀ (fl : List Field) (off : Nat) (ks : List FK) (xs : List (DataW H × List MemPlace)), shGo P (shP P d) fl off = some ks → (fl.mapM fun f => DataW.trod enc P w base spare held fuel f.type ((cs.drop f.offset).take (P.cellsOf f.type))) = some xs → off + ks.length ≤ cs.length →
              ∃ ps, RVs (G0 w) ps ((cs.drop off).take ks.length) ∧ OkL ks ps := by
            intro fl
            induction fl with
            | nil =>
              intro off ks xs hg _ _
              simp only [shGo, Option.some.injEq] at hg
              subst hg
              exact ⟨[], by simpa using RVs.nil, .nil⟩
            | cons f fl ihf =>
              intro off ks xs hg hmm hle
              unfold shGo at hg
              split at hg
              · rename_i hoff
                split at hg
                · rename_i k1 hk1
                  split at hg
                  · rename_i hk1l
                    simp only [Option.map_eq_some_iff] at hg
                    obtain ⟨k2, hk2, rfl⟩ := hg
                    rw [List.mapM_cons] at hmm
                    simp only [Option.bind_eq_bind, Option.bind_eq_some_iff, Option.pure_def, Option.some.injEq] at hmm
                    obtain ⟨y, hy, ys, hys, -⟩ := hmm
                    obtain ⟨p1, r1, o1⟩ := ih _ _ _ _ _ hy hk1
                    simp only [List.length_append] at hle
                    obtain ⟨p2, r2, o2⟩ := ihf _ _ _ hk2 hys (by omega)
                    refine ⟨p1 ++ p2, ?_, o1.append o2⟩
                    rw [List.length_append, List.take_add, List.drop_drop]
                    rw [hoff, ← hk1l] at r1
                    exact r1.append r2
                  · cases hg
                · cases hg
              · cases hg
          obtain ⟨ps, r, o⟩ := go _ _ _ _ hgo hm (by omega)
          refine ⟨ps, ?_, o⟩
          rw [List.drop_zero, List.take_of_length_le (by omega)] at r
          exact r
        · cases hk
      · cases hk
    · rename_i n e hu
      split at hk
      · rename_i row hrow
        split at hk
        · rename_i hc; cases hk
          obtain ⟨xs, m, -, hcl, hxl, heach⟩ := trod_arr' hu hx
          have key : ∀ i, i ≤ n → ∃ ps, RVs (G0 w) ps (cs.take (i * row.length)) ∧ OkL ((List.replicate i row).flatten) ps := by
            intro i
            induction i with
            | zero => intro _; exact ⟨[], by simpa using RVs.nil, .nil⟩
            | succ i ihi =>
              intro hi
              obtain ⟨ps, h1, h2⟩ := ihi (by omega)
              have he := heach i (by omega)
              rw [List.getElem?_eq_getElem (by omega)] at he
              obtain ⟨qs, g1, g2⟩ := ih _ _ _ _ _ he hrow
              rw [← hc.1] at g1
              refine ⟨ps ++ qs, ?_, ?_⟩
              · rw [Nat.succ_mul, List.take_add]; exact h1.append g1
              · rw [List.replicate_succ', List.flatten_append]; simpa using h2.append g2
          obtain ⟨ps, h1, h2⟩ := key n (Nat.le_refl _)
          refine ⟨ps, ?_, h2⟩
          rw [List.take_of_length_le (by rw [hcl, ← hc.2]; exact Nat.le_refl _)] at h1
          exact h1
        · cases hk
      · cases hk
    · cases hk
end

section
variable {H : Type} {enc : TypeId × Value → H} {P : Program} {w : World} {spare : Nat → Bool} {held : Bool} {t : TypeId} {v : Value} {d : DataW H} {ps : List MemPlace} {base : Nat} {ks : List FK}

theorem open_cell {k : FK} (hc : v.cells = #[v]) (h : DataW.Trod enc P w 0 spare held t v d ps) (hs : shP P 20 t = some [k]) : ∃ p, OkC k p ∧ RV (G0 w) p v := by
  obtain ⟨fuel, hf⟩ := h
  obtain ⟨cells, hr, ho⟩ := trod_rv _ _ _ _ _ _ hf hs
  rw [hc] at hr
  cases ho with
  | cons _ _ p ps h1 h2 =>
    cases h2
    cases hr with
    | cons _ _ _ _ r _ => exact ⟨p, h1, r⟩

theorem open_i {k : IntKind} (hu : P.underlying t = some (.int k)) (hv : Value.okWide P w .any base t v) (h : DataW.Trod enc P w 0 spare held t v d ps) : ∃ n, (Lit.int k n).wf = true ∧ RV (G0 w) (.int k n) v := by
  obtain ⟨p, ho, r⟩ := open_cell (k := .int k) (by obtain ⟨s, rfl⟩ := Go.WideShapes.okWide_int hu hv; rfl) h (by unfold shP; rw [hu])
  cases ho with | int k n hn => exact ⟨n, hn, r⟩

end

/-- From what the body does to what the row asks for. -/
theorem enter {P : Program} {f : FuncId} {args : List PV} {W : World} {rargs : List Value} {b : Bool} {fn : Func} (hf : P.funcs[f]? = some fn) (hb : fn.body.isSome = true) (hnm : (fn.name == "runtime.NumGoroutine") = false) (h : Fn ⟨P, W⟩ f args (.bool b)) (ha : RVs (G0 W) args rargs) :
    Calls P f rargs.toArray W fun e W' => e = .returned (.bool b) ∧ Below W.heap.size W W' := by
  have hp := h PH0 (G0 W) W rargs (rel0 W) ha
  have hent := run_enter (P := P) (w := W) (args := rargs.toArray) hf hb hnm
  rw [hent] at hp
  rcases hp with ⟨v, w', e, -⟩ | ⟨w', e, hc⟩
  · cases e
  · cases e
    refine Calls.mono hc fun e W' he => ?_
    cases e with
    | returned u =>
      obtain ⟨G', pv, ph', -, hr, hv, -, rfl, rfl⟩ := he
      refine ⟨?_, hr.below⟩
      cases hv; rfl
    | panicked _ => exact he.elim
    | outgrown => exact he.elim
end Pv

namespace Pv
open Go Go.RowKit
variable {H : Type} {enc : TypeId × Value → H} {P : Program} {w : World} {spare : Nat → Bool} {held : Bool} {t : TypeId} {v : Value} {d : DataW H} {ps : List MemPlace} {base : Nat}

/-- A text among the arguments, with the bound that the form itself gives. -/
theorem open_str2 {ts : List TypeId} {ds : List (DataW H)} (hu : P.underlying t = some .string) (hv : Value.okWide P w .any base t v) (h : DataW.Trod enc P w 0 spare held t v d ps) (hsz : (DataW.weightsEach P ts ds).all (· ≤ reachBytes) = true) {j : Nat} (ht : ts[j]? = some t) (hd : ds[j]? = some d) :
    ∃ l, l.length < 2 ^ 47 ∧ RV (G0 w) (.str l) v := by
  obtain ⟨fuel, hf⟩ := h
  obtain ⟨s, rfl⟩ := Go.WideShapes.okWide_string hu hv
  obtain ⟨s', e1, e2, -⟩ := DataW.trod_string hu hf
  have e3 : s = s' := by simpa [Value.cells] using e1
  subst e3
  cases e2
  have := sized_string hsz ht hd
  exact ⟨s.data.toList, by have := reachBytes_lt; omega, .str _ _ rfl⟩
end Pv

namespace Pv
open Go Go.RowKit

section
variable {H : Type} {enc : TypeId × Value → H} {P : Program} {w : World} {spare : Nat → Bool} {held : Bool} {t : TypeId} {v : Value} {d : DataW H} {ps : List MemPlace} {base : Nat} {ks : List FK}
end

end Pv

namespace Pv
set_option maxRecDepth 20000
set_option maxHeartbeats 4000000
open Go Go.Proofs Go.RowKit
variable {w0 : World}

end Pv

namespace Pv
open Go

/-! ### Chapter 7: keys of keys, in plain Lean -/
def tK (prk info : List UInt8) : Nat → List UInt8
  | 0 => []
  | k + 1 => macL prk (tK prk info k ++ info ++ [UInt8.ofNat (k + 1)])
def okm (prk info : List UInt8) : Nat → List UInt8
  | 0 => []
  | k + 1 => okm prk info k ++ tK prk info (k + 1)
theorem tK_le (prk info : List UInt8) : ∀ k, (tK prk info k).length ≤ 32
  | 0 => Nat.zero_le _
  | k + 1 => by rw [tK, mac_len]; exact Nat.le_refl _
theorem tK_len (prk info : List UInt8) (k : Nat) : (tK prk info (k + 1)).length = 32 := by rw [tK, mac_len]
theorem okm_len (prk info : List UInt8) : ∀ k, (okm prk info k).length = 32 * k
  | 0 => rfl
  | k + 1 => by rw [okm, List.length_append, okm_len prk info k, tK_len]; omega
theorem okm_take (prk info : List UInt8) (n i : Nat) (h : n ≤ 32 * i) : ∀ j, (okm prk info (i + j)).take n = (okm prk info i).take n
  | 0 => rfl
  | j + 1 => by
    rw [← Nat.add_assoc, okm, List.take_append_of_le_length (by rw [okm_len]; omega)]
    exact okm_take prk info n i h j
def expandL (prk info : List UInt8) (n : Int) : List UInt8 × Int :=
  if n < 0 ∨ 8160 < n then ([], 13) else ((okm prk info ((n.toNat + 31) / 32)).take n.toNat, 0)
theorem expand_of (prk info : List UInt8) (m i : Nat) (hm : m ≤ 8160) (h : m ≤ 32 * i) : expandL prk info (m : Int) = ((okm prk info i).take m, 0) := by
  have e : (m + 31) / 32 ≤ i := by omega
  obtain ⟨j, rfl⟩ : ∃ j, i = (m + 31) / 32 + j := ⟨i - (m + 31) / 32, by omega⟩
  rw [expandL, if_neg (by omega), Int.toNat_natCast, okm_take prk info m _ (by omega) j]
def tls13 : List UInt8 := [116, 108, 115, 49, 51, 32]
def infoB (label ctx : List UInt8) (m : Nat) : List UInt8 := [UInt8.ofNat (m / 256), UInt8.ofNat m, UInt8.ofNat (label.length + 6)] ++ (tls13 ++ label) ++ [UInt8.ofNat ctx.length] ++ ctx
def infoL (label ctx : List UInt8) (n : Int) : List UInt8 × Int :=
  if n < 0 ∨ 65535 < n then ([], 13) else if 249 < label.length ∨ 255 < ctx.length then ([], 12) else (infoB label ctx n.toNat, 0)
theorem infoB_len (label ctx : List UInt8) (m : Nat) : (infoB label ctx m).length = label.length + ctx.length + 10 := by simp [infoB, tls13]; omega
def labelL (secret label ctx : List UInt8) (n : Int) : List UInt8 × Int :=
  if (infoL label ctx n).2 ≠ 0 then ([], (infoL label ctx n).2) else expandL secret (infoL label ctx n).1 n
theorem wrapb (n : Nat) : IntKind.wrap .u8 (n : Int) = ((UInt8.ofNat n).toNat : Int) := by
  rw [UInt8.toNat_ofNat']
  simp [IntKind.wrap, IntKind.bits, IntKind.signed]
end Pv

namespace Pv
set_option maxRecDepth 20000
set_option maxHeartbeats 4000000
open Go Go.Proofs Go.RowKit
variable {w0 : World}

theorem ty_none {ph : PH} (hW : WF ph) (k : Nat) : ph.ty (ph.n + k) = none := by
  cases h : ph.ty (ph.n + k) with
  | none => rfl
  | some e => have := hW.ty _ _ h; omega
theorem appT_some {P : Program} {sT xT : TypeId} {x : PV} {ph : PH} {p o e l c : Nat} : appendT P sT xT (.sl p o e l (some c)) x ph = appendP P sT xT (.sl p o e l (some c)) x ph := by
  unfold appendT
  split
  · unfold appendS
    cases kSl P sT with
    | none => rfl
    | some e => cases o <;> rfl
  · rfl
theorem info_ok (label ctx : List UInt8) (n : Int) (hl : label.length < 2 ^ 48) (hc : ctx.length < 2 ^ 48) : Fn (Cx w0) 90 [.str label, .str ctx, .int .i64 n] (.tuple [.str (infoL label ctx n).1, .int .i64 (infoL label ctx n).2]) := by
  by_cases h1 : n < 0
  · rw [infoL, if_pos (.inl h1)]
    refine fn_H ([Go.ResultVar.tmp 6, Go.ResultVar.tmp 7]) Tryz.func90 rfl rfl (by decide) fun ph hW Q hQ => ?_
    simp only [start, List.length_cons, List.length_nil, List.cons_append, List.nil_append, Nat.reduceAdd, Nat.reduceSub, List.replicate_succ, List.replicate_zero, Tryz.ntmps90]
    repeat' first | simp -implicitDefEqProofs (maxSteps := 400000) (disch := first | with_reducible rfl | omega | (simp only [wkH] <;> omega) | decide) only [wkAll, wkL, popO, wantedP, binP, if_pos, h1] | refine w_dec (fun _ => ?_) (fun _ => ?_) | refine w_eqc (fun _ => ?_) (fun _ => ?_) | refine w_neqc (fun _ => ?_) (fun _ => ?_) | refine w_nneqc (fun _ => ?_) (fun _ => ?_) | ((first | refine w_split (fun h => ?_) (fun h => ?_) | refine d_split (fun h => ?_) (fun h => ?_) | refine w_csplit (fun h => ?_) (fun h => ?_)) <;> (try simp only [wkS] at h) <;> (have h2 := h) <;> (try simp only [wkT, ne_eq] at h2) <;> (try simp only [h]))
    refine hQ (by first | exact .inr rfl | exact .inl rfl) (by first | exact trivial | exact marks1) (by first | (simp -implicitDefEqProofs (maxSteps := 400000) (disch := first | with_reducible rfl | omega | (simp only [wkH] <;> omega) | decide) only [wkL, resP, resPs, resP1]; rfl) | rfl) ⟨6, by repeat' first | exact frz_scalar rfl | apply frz_tuple | apply frz_agg | apply frz_fsl | apply frz_gsl (by omega) | exact frzs_nil | apply frzs_cons⟩ (by first | exact keepsH0 | exact keeps1 (by assumption) | exact keepsH (fun _ _ h => h) (fun p hp => by simp only [upF]; (repeat rw [if_neg (by omega)])) | exact keeps1t (by assumption) (fun p hp => by simp only [upF]; (repeat rw [if_neg (by omega)])) | (subst hT; exact keepsH (fun _ _ h => h) fun _ _ => rfl)) (nw_eq ?_)
    rfl
  by_cases h2 : 65536 ≤ n
  · rw [infoL, if_pos (.inr (by omega))]
    refine fn_H ([Go.ResultVar.tmp 6, Go.ResultVar.tmp 7]) Tryz.func90 rfl rfl (by decide) fun ph hW Q hQ => ?_
    simp only [start, List.length_cons, List.length_nil, List.cons_append, List.nil_append, Nat.reduceAdd, Nat.reduceSub, List.replicate_succ, List.replicate_zero, Tryz.ntmps90]
    repeat' first | simp -implicitDefEqProofs (maxSteps := 400000) (disch := first | with_reducible rfl | omega | (simp only [wkH] <;> omega) | decide) only [wkAll, wkL, popO, wantedP, binP, if_pos, if_neg, h1, ge_iff_le, h2] | refine w_dec (fun _ => ?_) (fun _ => ?_) | refine w_eqc (fun _ => ?_) (fun _ => ?_) | refine w_neqc (fun _ => ?_) (fun _ => ?_) | refine w_nneqc (fun _ => ?_) (fun _ => ?_) | ((first | refine w_split (fun h => ?_) (fun h => ?_) | refine d_split (fun h => ?_) (fun h => ?_) | refine w_csplit (fun h => ?_) (fun h => ?_)) <;> (try simp only [wkS] at h) <;> (have h2 := h) <;> (try simp only [wkT, ne_eq] at h2) <;> (try simp only [h]))
    refine hQ (by first | exact .inr rfl | exact .inl rfl) (by first | exact trivial | exact marks1) (by first | (simp -implicitDefEqProofs (maxSteps := 400000) (disch := first | with_reducible rfl | omega | (simp only [wkH] <;> omega) | decide) only [wkL, resP, resPs, resP1]; rfl) | rfl) ⟨6, by repeat' first | exact frz_scalar rfl | apply frz_tuple | apply frz_agg | apply frz_fsl | apply frz_gsl (by omega) | exact frzs_nil | apply frzs_cons⟩ (by first | exact keepsH0 | exact keeps1 (by assumption) | exact keepsH (fun _ _ h => h) (fun p hp => by simp only [upF]; (repeat rw [if_neg (by omega)])) | exact keeps1t (by assumption) (fun p hp => by simp only [upF]; (repeat rw [if_neg (by omega)])) | (subst hT; exact keepsH (fun _ _ h => h) fun _ _ => rfl)) (nw_eq ?_)
    rfl
  obtain ⟨m, rfl⟩ : ∃ m : Nat, n = (m : Int) := ⟨n.toNat, by omega⟩
  obtain ⟨p, hp⟩ : ∃ p, p = tls13 ++ label := ⟨_, rfl⟩
  have hp' : 116 :: 108 :: 115 :: 49 :: 51 :: 32 :: label = p := hp.symm
  have hpl : p.length = label.length + 6 := by rw [hp]; simp [tls13]
  by_cases h3 : 249 < label.length
  · rw [infoL, if_neg (by omega), if_pos (.inl h3)]
    have h3' : (255 : Int) < (p.length : Int) := by omega
    refine fn_H ([Go.ResultVar.tmp 6, Go.ResultVar.tmp 7]) Tryz.func90 rfl rfl (by decide) fun ph hW Q hQ => ?_
    simp only [start, List.length_cons, List.length_nil, List.cons_append, List.nil_append, Nat.reduceAdd, Nat.reduceSub, List.replicate_succ, List.replicate_zero, Tryz.ntmps90]
    repeat' first | simp -implicitDefEqProofs (maxSteps := 400000) (disch := first | with_reducible rfl | omega | (simp only [wkH] <;> omega) | decide) only [wkAll, wkL, popO, wantedP, Nat.reduceAdd, binP, lenP, builtinP, gt_iff_lt, if_pos, if_neg, tf9, h1, ge_iff_le, h2, hp', h3'] | refine w_dec (fun _ => ?_) (fun _ => ?_) | refine w_eqc (fun _ => ?_) (fun _ => ?_) | refine w_neqc (fun _ => ?_) (fun _ => ?_) | refine w_nneqc (fun _ => ?_) (fun _ => ?_) | ((first | refine w_split (fun h => ?_) (fun h => ?_) | refine d_split (fun h => ?_) (fun h => ?_) | refine w_csplit (fun h => ?_) (fun h => ?_)) <;> (try simp only [wkS] at h) <;> (have h2 := h) <;> (try simp only [wkT, ne_eq] at h2) <;> (try simp only [h]))
    refine hQ (by first | exact .inr rfl | exact .inl rfl) (by first | exact trivial | exact marks1) (by first | (simp -implicitDefEqProofs (maxSteps := 400000) (disch := first | with_reducible rfl | omega | (simp only [wkH] <;> omega) | decide) only [wkL, resP, resPs, resP1]; rfl) | rfl) ⟨6, by repeat' first | exact frz_scalar rfl | apply frz_tuple | apply frz_agg | apply frz_fsl | apply frz_gsl (by omega) | exact frzs_nil | apply frzs_cons⟩ (by first | exact keepsH0 | exact keeps1 (by assumption) | exact keepsH (fun _ _ h => h) (fun p hp => by simp only [upF]; (repeat rw [if_neg (by omega)])) | exact keeps1t (by assumption) (fun p hp => by simp only [upF]; (repeat rw [if_neg (by omega)])) | (subst hT; exact keepsH (fun _ _ h => h) fun _ _ => rfl)) (nw_eq ?_)
    rfl
  have h3' : ¬ (255 : Int) < (p.length : Int) := by omega
  by_cases h4 : 255 < ctx.length
  · rw [infoL, if_neg (by omega), if_pos (.inr h4)]
    have h4' : (255 : Int) < (ctx.length : Int) := by omega
    refine fn_H ([Go.ResultVar.tmp 6, Go.ResultVar.tmp 7]) Tryz.func90 rfl rfl (by decide) fun ph hW Q hQ => ?_
    simp only [start, List.length_cons, List.length_nil, List.cons_append, List.nil_append, Nat.reduceAdd, Nat.reduceSub, List.replicate_succ, List.replicate_zero, Tryz.ntmps90]
    repeat' first | simp -implicitDefEqProofs (maxSteps := 400000) (disch := first | with_reducible rfl | omega | (simp only [wkH] <;> omega) | decide) only [wkAll, wkL, popO, wantedP, Nat.reduceAdd, binP, lenP, builtinP, gt_iff_lt, if_pos, if_neg, tf9, h1, ge_iff_le, h2, hp', h3', h4'] | refine w_dec (fun _ => ?_) (fun _ => ?_) | refine w_eqc (fun _ => ?_) (fun _ => ?_) | refine w_neqc (fun _ => ?_) (fun _ => ?_) | refine w_nneqc (fun _ => ?_) (fun _ => ?_) | ((first | refine w_split (fun h => ?_) (fun h => ?_) | refine d_split (fun h => ?_) (fun h => ?_) | refine w_csplit (fun h => ?_) (fun h => ?_)) <;> (try simp only [wkS] at h) <;> (have h2 := h) <;> (try simp only [wkT, ne_eq] at h2) <;> (try simp only [h]))
    refine hQ (by first | exact .inr rfl | exact .inl rfl) (by first | exact trivial | exact marks1) (by first | (simp -implicitDefEqProofs (maxSteps := 400000) (disch := first | with_reducible rfl | omega | (simp only [wkH] <;> omega) | decide) only [wkL, resP, resPs, resP1]; rfl) | rfl) ⟨6, by repeat' first | exact frz_scalar rfl | apply frz_tuple | apply frz_agg | apply frz_fsl | apply frz_gsl (by omega) | exact frzs_nil | apply frzs_cons⟩ (by first | exact keepsH0 | exact keeps1 (by assumption) | exact keepsH (fun _ _ h => h) (fun p hp => by simp only [upF]; (repeat rw [if_neg (by omega)])) | exact keeps1t (by assumption) (fun p hp => by simp only [upF]; (repeat rw [if_neg (by omega)])) | (subst hT; exact keepsH (fun _ _ h => h) fun _ _ => rfl)) (nw_eq ?_)
    rfl
  have h4' : ¬ (255 : Int) < (ctx.length : Int) := by omega
  rw [infoL, if_neg (by omega), if_neg (by omega), Int.toNat_natCast]
  have e1 : shrP .i64 (m : Int) 8 = ((m / 256 : Nat) : Int) := by
    simp only [shrP, IntKind.bits]
    rw [show (min (8 : Int).toNat 64) = 8 from rfl, Int.fdiv_eq_ediv_of_nonneg _ (by decide)]; rfl
  have w1 := wrapb (m / 256)
  have w2 := wrapb m
  have w3 := wrapb p.length
  have w4 := wrapb ctx.length
  have hB : infoB label ctx m = [UInt8.ofNat (m / 256), UInt8.ofNat m, UInt8.ofNat p.length] ++ p ++ [UInt8.ofNat ctx.length] ++ ctx := by rw [infoB, hpl, hp]
  rw [hB]
  generalize UInt8.ofNat (m / 256) = b1 at *
  generalize UInt8.ofNat m = b2 at *
  generalize UInt8.ofNat p.length = b3 at *
  generalize UInt8.ofNat ctx.length = b4 at *
  refine fn_H ([Go.ResultVar.tmp 6, Go.ResultVar.tmp 7]) Tryz.func90 rfl rfl (by decide) fun ph hW Q hQ => ?_
  simp only [start, List.length_cons, List.length_nil, List.cons_append, List.nil_append, Nat.reduceAdd, Nat.reduceSub, List.replicate_succ, List.replicate_zero, Tryz.ntmps90]
  have t1 := ty_none hW 1
  have t3 := ty_none hW 3
  have ea : bytesPV ([b1, b2, b3] ++ p ++ [b4] ++ ctx) = .int .u8 b1.toNat :: .int .u8 b2.toNat :: .int .u8 b3.toNat :: ((bytesPV p ++ [.int .u8 b4.toNat]) ++ bytesPV ctx) := by simp [bytesPV]
  have hbo : bytesOf (List.take (3 + p.length + 1 + ctx.length) (.int .u8 b1.toNat :: .int .u8 b2.toNat :: .int .u8 b3.toNat :: ((bytesPV p ++ [.int .u8 b4.toNat]) ++ bytesPV ctx))) = some ([b1, b2, b3] ++ p ++ [b4] ++ ctx) := by
    rw [← ea, List.take_of_length_le (by rw [bytesPV_len]; simp; omega), bytesOf_bytesPV]
  have hco : (bytesPV p ++ [PV.int .u8 (b4.toNat : Int)]).all cellOk = true := by rw [List.all_append, bytesPV_cok]; rfl
  repeat' first | simp -implicitDefEqProofs (maxSteps := 400000) (disch := first | with_reducible rfl | omega | (simp only [wkH] <;> omega) | decide) only [wkAll, wkL, popO, wantedP, ne_eq, Nat.reduceAdd, Nat.reduceLeDiff, Nat.reduceLT, reduceCtorEq, Int.reduceLE, binP, convP, lenP, builtinP, appendT, appendS, appendP, srcP, buildSliceP, fillP, setL, gt_iff_lt, Nat.reducePow, reps, seg, wkN, if_pos, if_neg, tf3, tf5, Tryz.ze5, tf9, tf92, h1, ge_iff_le, h2, hp', h3', h4', e1, w1, w2, w3, w4, -appendT, appT_some, t3, bytesPV_cok, hco, hbo] | refine w_dec (fun _ => ?_) (fun _ => ?_) | refine w_eqc (fun _ => ?_) (fun _ => ?_) | refine w_neqc (fun _ => ?_) (fun _ => ?_) | refine w_nneqc (fun _ => ?_) (fun _ => ?_) | ((first | refine w_split (fun h => ?_) (fun h => ?_) | refine d_split (fun h => ?_) (fun h => ?_) | refine w_csplit (fun h => ?_) (fun h => ?_)) <;> (try simp only [wkS] at h) <;> (have h2 := h) <;> (try simp only [wkT, ne_eq] at h2) <;> (try simp only [h]))
  refine hQ (by first | exact .inr rfl | exact .inl rfl) (by first | exact trivial | exact marks1) (by first | (simp -implicitDefEqProofs (maxSteps := 400000) (disch := first | with_reducible rfl | omega | (simp only [wkH] <;> omega) | decide) only [wkL, resP, resPs, resP1]; rfl) | rfl) ⟨6, by repeat' first | exact frz_scalar rfl | apply frz_tuple | apply frz_agg | apply frz_fsl | apply frz_gsl (by omega) | exact frzs_nil | apply frzs_cons⟩ (by first | exact keepsH0 | exact keeps1 (by assumption) | exact keepsH (fun _ _ h => h) (fun p hp => by simp only [upF]; (repeat rw [if_neg (by omega)])) | exact keeps1t (by assumption) (fun p hp => by simp only [upF]; (repeat rw [if_neg (by omega)])) | (subst hT; exact keepsH (fun _ _ h => h) fun _ _ => rfl)) (nw_eq ?_)
  rfl

theorem refInfo_ok (label ctx : List UInt8) (n : Int) (hl : label.length < 2 ^ 48) (hc : ctx.length < 2 ^ 48) : Fn (Cx w0) 83 [.str label, .str ctx, .int .i64 n] (.tuple [.str (infoL label ctx n).1, .int .i64 (infoL label ctx n).2]) := by
  by_cases h1 : n < 0
  · rw [infoL, if_pos (.inl h1)]
    refine fn_H ([Go.ResultVar.tmp 6, Go.ResultVar.tmp 7]) Tryz.func83 rfl rfl (by decide) fun ph hW Q hQ => ?_
    simp only [start, List.length_cons, List.length_nil, List.cons_append, List.nil_append, Nat.reduceAdd, Nat.reduceSub, List.replicate_succ, List.replicate_zero, Tryz.ntmps83]
    repeat' first | simp -implicitDefEqProofs (maxSteps := 400000) (disch := first | with_reducible rfl | omega | (simp only [wkH] <;> omega) | decide) only [wkAll, wkL, popO, wantedP, binP, if_pos, h1] | refine w_dec (fun _ => ?_) (fun _ => ?_) | refine w_eqc (fun _ => ?_) (fun _ => ?_) | refine w_neqc (fun _ => ?_) (fun _ => ?_) | refine w_nneqc (fun _ => ?_) (fun _ => ?_) | ((first | refine w_split (fun h => ?_) (fun h => ?_) | refine d_split (fun h => ?_) (fun h => ?_) | refine w_csplit (fun h => ?_) (fun h => ?_)) <;> (try simp only [wkS] at h) <;> (have h2 := h) <;> (try simp only [wkT, ne_eq] at h2) <;> (try simp only [h]))
    refine hQ (by first | exact .inr rfl | exact .inl rfl) (by first | exact trivial | exact marks1) (by first | (simp -implicitDefEqProofs (maxSteps := 400000) (disch := first | with_reducible rfl | omega | (simp only [wkH] <;> omega) | decide) only [wkL, resP, resPs, resP1]; rfl) | rfl) ⟨6, by repeat' first | exact frz_scalar rfl | apply frz_tuple | apply frz_agg | apply frz_fsl | apply frz_gsl (by omega) | exact frzs_nil | apply frzs_cons⟩ (by first | exact keepsH0 | exact keeps1 (by assumption) | exact keepsH (fun _ _ h => h) (fun p hp => by simp only [upF]; (repeat rw [if_neg (by omega)])) | exact keeps1t (by assumption) (fun p hp => by simp only [upF]; (repeat rw [if_neg (by omega)])) | (subst hT; exact keepsH (fun _ _ h => h) fun _ _ => rfl)) (nw_eq ?_)
    rfl
  by_cases h2 : 65535 < n
  · rw [infoL, if_pos (.inr (by omega))]
    refine fn_H ([Go.ResultVar.tmp 6, Go.ResultVar.tmp 7]) Tryz.func83 rfl rfl (by decide) fun ph hW Q hQ => ?_
    simp only [start, List.length_cons, List.length_nil, List.cons_append, List.nil_append, Nat.reduceAdd, Nat.reduceSub, List.replicate_succ, List.replicate_zero, Tryz.ntmps83]
    repeat' first | simp -implicitDefEqProofs (maxSteps := 400000) (disch := first | with_reducible rfl | omega | (simp only [wkH] <;> omega) | decide) only [wkAll, wkL, popO, wantedP, binP, gt_iff_lt, if_pos, if_neg, h1, h2] | refine w_dec (fun _ => ?_) (fun _ => ?_) | refine w_eqc (fun _ => ?_) (fun _ => ?_) | refine w_neqc (fun _ => ?_) (fun _ => ?_) | refine w_nneqc (fun _ => ?_) (fun _ => ?_) | ((first | refine w_split (fun h => ?_) (fun h => ?_) | refine d_split (fun h => ?_) (fun h => ?_) | refine w_csplit (fun h => ?_) (fun h => ?_)) <;> (try simp only [wkS] at h) <;> (have h2 := h) <;> (try simp only [wkT, ne_eq] at h2) <;> (try simp only [h]))
    refine hQ (by first | exact .inr rfl | exact .inl rfl) (by first | exact trivial | exact marks1) (by first | (simp -implicitDefEqProofs (maxSteps := 400000) (disch := first | with_reducible rfl | omega | (simp only [wkH] <;> omega) | decide) only [wkL, resP, resPs, resP1]; rfl) | rfl) ⟨6, by repeat' first | exact frz_scalar rfl | apply frz_tuple | apply frz_agg | apply frz_fsl | apply frz_gsl (by omega) | exact frzs_nil | apply frzs_cons⟩ (by first | exact keepsH0 | exact keeps1 (by assumption) | exact keepsH (fun _ _ h => h) (fun p hp => by simp only [upF]; (repeat rw [if_neg (by omega)])) | exact keeps1t (by assumption) (fun p hp => by simp only [upF]; (repeat rw [if_neg (by omega)])) | (subst hT; exact keepsH (fun _ _ h => h) fun _ _ => rfl)) (nw_eq ?_)
    rfl
  obtain ⟨m, rfl⟩ : ∃ m : Nat, n = (m : Int) := ⟨n.toNat, by omega⟩
  by_cases h3 : 249 < label.length
  · rw [infoL, if_neg (by omega), if_pos (.inl h3)]
    have h3' : (249 : Int) < (label.length : Int) := by omega
    refine fn_H ([Go.ResultVar.tmp 6, Go.ResultVar.tmp 7]) Tryz.func83 rfl rfl (by decide) fun ph hW Q hQ => ?_
    simp only [start, List.length_cons, List.length_nil, List.cons_append, List.nil_append, Nat.reduceAdd, Nat.reduceSub, List.replicate_succ, List.replicate_zero, Tryz.ntmps83]
    repeat' first | simp -implicitDefEqProofs (maxSteps := 400000) (disch := first | with_reducible rfl | omega | (simp only [wkH] <;> omega) | decide) only [wkAll, wkL, popO, wantedP, binP, lenP, builtinP, gt_iff_lt, if_pos, if_neg, tf9, h1, h2, h3'] | refine w_dec (fun _ => ?_) (fun _ => ?_) | refine w_eqc (fun _ => ?_) (fun _ => ?_) | refine w_neqc (fun _ => ?_) (fun _ => ?_) | refine w_nneqc (fun _ => ?_) (fun _ => ?_) | ((first | refine w_split (fun h => ?_) (fun h => ?_) | refine d_split (fun h => ?_) (fun h => ?_) | refine w_csplit (fun h => ?_) (fun h => ?_)) <;> (try simp only [wkS] at h) <;> (have h2 := h) <;> (try simp only [wkT, ne_eq] at h2) <;> (try simp only [h]))
    refine hQ (by first | exact .inr rfl | exact .inl rfl) (by first | exact trivial | exact marks1) (by first | (simp -implicitDefEqProofs (maxSteps := 400000) (disch := first | with_reducible rfl | omega | (simp only [wkH] <;> omega) | decide) only [wkL, resP, resPs, resP1]; rfl) | rfl) ⟨6, by repeat' first | exact frz_scalar rfl | apply frz_tuple | apply frz_agg | apply frz_fsl | apply frz_gsl (by omega) | exact frzs_nil | apply frzs_cons⟩ (by first | exact keepsH0 | exact keeps1 (by assumption) | exact keepsH (fun _ _ h => h) (fun p hp => by simp only [upF]; (repeat rw [if_neg (by omega)])) | exact keeps1t (by assumption) (fun p hp => by simp only [upF]; (repeat rw [if_neg (by omega)])) | (subst hT; exact keepsH (fun _ _ h => h) fun _ _ => rfl)) (nw_eq ?_)
    rfl
  have h3' : ¬ (249 : Int) < (label.length : Int) := by omega
  by_cases h4 : 255 < ctx.length
  · rw [infoL, if_neg (by omega), if_pos (.inr h4)]
    have h4' : (255 : Int) < (ctx.length : Int) := by omega
    refine fn_H ([Go.ResultVar.tmp 6, Go.ResultVar.tmp 7]) Tryz.func83 rfl rfl (by decide) fun ph hW Q hQ => ?_
    simp only [start, List.length_cons, List.length_nil, List.cons_append, List.nil_append, Nat.reduceAdd, Nat.reduceSub, List.replicate_succ, List.replicate_zero, Tryz.ntmps83]
    repeat' first | simp -implicitDefEqProofs (maxSteps := 400000) (disch := first | with_reducible rfl | omega | (simp only [wkH] <;> omega) | decide) only [wkAll, wkL, popO, wantedP, binP, lenP, builtinP, gt_iff_lt, if_pos, if_neg, tf9, h1, h2, h3', h4'] | refine w_dec (fun _ => ?_) (fun _ => ?_) | refine w_eqc (fun _ => ?_) (fun _ => ?_) | refine w_neqc (fun _ => ?_) (fun _ => ?_) | refine w_nneqc (fun _ => ?_) (fun _ => ?_) | ((first | refine w_split (fun h => ?_) (fun h => ?_) | refine d_split (fun h => ?_) (fun h => ?_) | refine w_csplit (fun h => ?_) (fun h => ?_)) <;> (try simp only [wkS] at h) <;> (have h2 := h) <;> (try simp only [wkT, ne_eq] at h2) <;> (try simp only [h]))
    refine hQ (by first | exact .inr rfl | exact .inl rfl) (by first | exact trivial | exact marks1) (by first | (simp -implicitDefEqProofs (maxSteps := 400000) (disch := first | with_reducible rfl | omega | (simp only [wkH] <;> omega) | decide) only [wkL, resP, resPs, resP1]; rfl) | rfl) ⟨6, by repeat' first | exact frz_scalar rfl | apply frz_tuple | apply frz_agg | apply frz_fsl | apply frz_gsl (by omega) | exact frzs_nil | apply frzs_cons⟩ (by first | exact keepsH0 | exact keeps1 (by assumption) | exact keepsH (fun _ _ h => h) (fun p hp => by simp only [upF]; (repeat rw [if_neg (by omega)])) | exact keeps1t (by assumption) (fun p hp => by simp only [upF]; (repeat rw [if_neg (by omega)])) | (subst hT; exact keepsH (fun _ _ h => h) fun _ _ => rfl)) (nw_eq ?_)
    rfl
  have h4' : ¬ (255 : Int) < (ctx.length : Int) := by omega
  rw [infoL, if_neg (by omega), if_neg (by omega), Int.toNat_natCast]
  have e1 : Int.tdiv (m : Int) 256 = ((m / 256 : Nat) : Int) := by rw [Int.tdiv_eq_ediv_of_nonneg (by omega)]; rfl
  have e2 : Int.tmod (m : Int) 256 = ((m % 256 : Nat) : Int) := by rw [Int.tmod_eq_emod_of_nonneg (by omega)]; rfl
  have e3 : (label.length : Int) + 6 = ((label.length + 6 : Nat) : Int) := by omega
  have w1 := wrapb (m / 256)
  have w2 : IntKind.wrap .u8 ((m % 256 : Nat) : Int) = ((UInt8.ofNat m).toNat : Int) := by
    rw [wrapb]; congr 2; apply UInt8.toNat_inj.1; rw [UInt8.toNat_ofNat', UInt8.toNat_ofNat']; omega
  have w3 := wrapb (label.length + 6)
  have w4 := wrapb ctx.length
  have hB : infoB label ctx m = [UInt8.ofNat (m / 256), UInt8.ofNat m, UInt8.ofNat (label.length + 6)] ++ tls13 ++ label ++ [UInt8.ofNat ctx.length] ++ ctx := by rw [infoB]; simp
  rw [hB]
  generalize UInt8.ofNat (m / 256) = b1 at *
  generalize UInt8.ofNat m = b2 at *
  generalize UInt8.ofNat (label.length + 6) = b3 at *
  generalize UInt8.ofNat ctx.length = b4 at *
  have hbx : ∀ b : UInt8, bytesX [PV.int .u8 (b.toNat : Int)] = some [b] := fun b => bytesX_bytesPV [b]
  have hbx3 : ∀ b c d : UInt8, bytesX [PV.int .u8 (b.toNat : Int), PV.int .u8 (c.toNat : Int), PV.int .u8 (d.toNat : Int)] = some [b, c, d] := fun b c d => bytesX_bytesPV [b, c, d]
  refine fn_H ([Go.ResultVar.tmp 6, Go.ResultVar.tmp 7]) Tryz.func83 rfl rfl (by decide) fun ph hW Q hQ => ?_
  simp only [start, List.length_cons, List.length_nil, List.cons_append, List.nil_append, Nat.reduceAdd, Nat.reduceSub, List.replicate_succ, List.replicate_zero, Tryz.ntmps83]
  repeat' first | simp -implicitDefEqProofs (maxSteps := 400000) (disch := first | with_reducible rfl | omega | (simp only [wkH] <;> omega) | decide) only [wkAll, wkL, popO, wantedP, ne_eq, Nat.reduceAdd, Nat.reduceLeDiff, Nat.reduceLT, Int.reduceEq, binP, convP, lenP, builtinP, buildSliceP, fillP, setL, gt_iff_lt, Nat.reducePow, reps, seg, wkN, if_pos, if_neg, tf3, tf5, Tryz.ze5, tf9, tf92, h1, h2, h3', h4', e1, e2, e3, w1, w2, w3, w4, UInt8.ofNat_toNat] | refine w_dec (fun _ => ?_) (fun _ => ?_) | refine w_eqc (fun _ => ?_) (fun _ => ?_) | refine w_neqc (fun _ => ?_) (fun _ => ?_) | refine w_nneqc (fun _ => ?_) (fun _ => ?_) | ((first | refine w_split (fun h => ?_) (fun h => ?_) | refine d_split (fun h => ?_) (fun h => ?_) | refine w_csplit (fun h => ?_) (fun h => ?_)) <;> (try simp only [wkS] at h) <;> (have h2 := h) <;> (try simp only [wkT, ne_eq] at h2) <;> (try simp only [h]))
  refine hQ (by first | exact .inr rfl | exact .inl rfl) (by first | exact trivial | exact marks1) (by first | (simp -implicitDefEqProofs (maxSteps := 400000) (disch := first | with_reducible rfl | omega | (simp only [wkH] <;> omega) | decide) only [wkL, resP, resPs, resP1]; rfl) | rfl) ⟨6, by repeat' first | exact frz_scalar rfl | apply frz_tuple | apply frz_agg | apply frz_fsl | apply frz_gsl (by omega) | exact frzs_nil | apply frzs_cons⟩ (by first | exact keepsH0 | exact keeps1 (by assumption) | exact keepsH (fun _ _ h => h) (fun p hp => by simp only [upF]; (repeat rw [if_neg (by omega)])) | exact keeps1t (by assumption) (fun p hp => by simp only [upF]; (repeat rw [if_neg (by omega)])) | (subst hT; exact keepsH (fun _ _ h => h) fun _ _ => rfl)) (nw_eq ?_)
  simp [tls13]
end Pv
