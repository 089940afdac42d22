/- Part of the proof: the layer of pure values, or walks through functions (PvOpsC). -/
import Derived.Test.YtjomgffpkdcanaaGreatPvOpsB
import Derived.Laws.BytesString
import Derived.Laws.Append
import Derived.Laws.StructEq
set_option linter.all false
namespace Pv
open Go Go.RowKit
variable {X : Ctx} {G : Ghost} {ph : PH} {w : World}

/-! ### Equality of flat values -/
inductive CK where | b | i | s
  deriving DecidableEq

/-- The kinds of the cells of a flat type, one by one. -/
def flatGo (P : Program) (rc : TypeId → Option (List CK)) : List Field → Nat → Option (List CK)
  | [], _ => some []
  | f :: fs, off => if (f.name != "_") = true ∧ f.offset = off then
      match rc f.type, szP P f.type with
      | some ks, some m => if ks.length = m then (flatGo P rc fs (off + m)).map (ks ++ ·) else none
      | _, _ => none
    else none

def flatL (P : Program) : Nat → TypeId → Option (List CK)
  | 0, _ => none
  | d + 1, t =>
    match P.underlying t with
    | some .bool => some [.b]
    | some (.int _) => some [.i]
    | some .string => some [.s]
    | some (.struct fs) => if P.stoodInHeld t = true then none else flatGo P (flatL P d) fs.toList 0
    | some (.array n e) => match flatL P d e, szP P e with
      | some ks, some m => if ks.length = m then some ((List.replicate n ks).flatten) else none
      | _, _ => none
    | _ => none

def eqCell : CK → PV → PV → Option Bool
  | .b, .bool a, .bool b => some (a == b)
  | .i, .int k a, .int k' b => if k = k' then some (a == b) else none
  | .s, .str a, .str b => some (a == b)
  | _, _, _ => none

def eqCells : List CK → List PV → List PV → Option Bool
  | [], _, _ => some true
  | k :: ks, x :: xs, y :: ys => match eqCell k x y, eqCells ks xs ys with
    | some a, some b => some (a && b)
    | _, _ => none
  | _, _, _ => none

theorem eqCells_append : ∀ {ks ks' : List CK} {xs ys : List PV} {r : Bool}, eqCells (ks ++ ks') xs ys = some r → ∃ a b, eqCells ks xs ys = some a ∧ eqCells ks' (xs.drop ks.length) (ys.drop ks.length) = some b ∧ r = (a && b)
  | [], ks', xs, ys, r, h => ⟨true, r, by unfold eqCells; rfl, by simpa using h, by simp⟩
  | k :: ks, ks', [], ys, r, h => by simp [eqCells] at h
  | k :: ks, ks', x :: xs, [], r, h => by simp [eqCells] at h
  | k :: ks, ks', x :: xs, y :: ys, r, h => by
    simp only [List.cons_append, eqCells] at h
    split at h
    · rename_i a b h1 h2
      cases h
      obtain ⟨a', b', e1, e2, rfl⟩ := eqCells_append h2
      exact ⟨a && a', b', by simp [eqCells, h1, e1], by simpa using e2, by simp [Bool.and_assoc]⟩
    · cases h

theorem eqCells_take {ks : List CK} {xs ys : List PV} {r : Bool} (h : eqCells ks xs ys = some r) : ∀ n, ks.length ≤ n → eqCells ks (xs.take n) (ys.take n) = some r := by
  induction ks generalizing xs ys r with
  | nil => intro n _; simpa [eqCells] using h
  | cons k ks ih =>
    intro n hn
    cases n with
    | zero => simp at hn
    | succ n =>
      cases xs with
      | nil => simp [eqCells] at h
      | cons x xs =>
        cases ys with
        | nil => simp [eqCells] at h
        | cons y ys =>
          simp only [eqCells] at h
          split at h
          · rename_i a b h1 h2
            cases h
            simp [eqCells, h1, ih h2 n (by simpa using hn)]
          · cases h

/-- A part of cells, as the machine takes it. -/
theorem run_part' {P : Program} {t : TypeId} {k : PK} {m : Nat} {vals : List Value} {off : Nat} (hk : kP P t = some k) (hm : szP P t = some m) (hl : off + m ≤ vals.length) (h1 : k.agg = false → m = 1) :
    (part t vals.toArray off).run P w = .ok (if k.agg then .agg ((vals.drop off).take m).toArray else ((vals.drop off).take m).getD 0 undef) w := by
  cases ha : k.agg with
  | true =>
    simp only [part, Sem.run_bind, run_isAgg_k hk, Result.andThen_ok, ha, if_true, run_sizeOf_k hm, Sem.run_pure]
    congr 2
    apply Array.toList_inj.1
    simp [List.extract]
  | false =>
    have := h1 ha; subst this
    have e : vals.toArray[off]? = some vals[off] := by simp
    simp only [part, Sem.run_bind, run_isAgg_k hk, Result.andThen_ok, ha, Bool.false_eq_true, if_false, e, Sem.run_pure]
    congr 1
    simp [List.getD, List.getElem?_take, List.getElem?_drop, show off < vals.length by omega]

def eqElems (d : Nat) (e : TypeId) (n : Nat) (xs ys : Array Value) : List Nat → Sem Bool
  | [] => pure true
  | i :: is => do
    let a ← part e xs (i * n)
    let b ← part e ys (i * n)
    let r ← Op.equalIn d e a b
    if (!r) = true then pure false else eqElems d e n xs ys is

theorem run_equalIn_array {P : Program} (d : Nat) (t e : TypeId) (n m : Nat) (xs ys : Array Value) (ht : P.underlying t = some (.array n e)) (hm : szP P e = some m) (w : World) :
    (Op.equalIn (d + 1) t (.agg xs) (.agg ys)).run P w = (eqElems d e m xs ys (List.range n)).run P w := by
  simp only [Op.equalIn, Sem.run_bind, run_underlying_k ht, Result.andThen_ok, run_sizeOf_k hm]
  rw [Std.Legacy.Range.forIn_eq_forIn_range']
  have hr : List.range' 0 (Std.Legacy.Range.size { start := 0, stop := n, step := 1, step_pos := Nat.one_pos }) 1 = List.range n := by
    simp [Std.Legacy.Range.size, List.range_eq_range']
  rw [hr]
  generalize List.range n = is
  induction is generalizing w with
  | nil => simp [eqElems]
  | cons i is ih =>
    simp only [List.forIn_cons, eqElems, Sem.run_bind, Sem.run_ite]
    generalize (part e xs (i * m)).run P w = r1
    cases r1 with
    | ok a w1 =>
      simp only [Result.andThen_ok]
      generalize (part e ys (i * m)).run P w1 = r2
      cases r2 with
      | ok b w2 =>
        simp only [Result.andThen_ok]
        generalize (Op.equalIn d e a b).run P w2 = r3
        cases r3 with
        | ok r w3 =>
          cases r
          · simp only [Result.andThen_ok, Bool.not_false, if_true, Sem.run_pure]
          · simp only [Result.andThen_ok, Bool.not_true, Bool.false_eq_true, if_false, Sem.run_pure]
            exact ih w3
        | halt x w3 => simp [Result.andThen]
      | halt x w2 => simp [Result.andThen]
    | halt x w1 => simp [Result.andThen]

/-- A flat type's value of these cells. -/
def wrapV (agg : Bool) (vals : List Value) : Value := if agg then .agg vals.toArray else vals.getD 0 undef

theorem flat_kind {P : Program} {d : Nat} {t : TypeId} {ks : List CK} (h : flatL P d t = some ks) : ∃ k, kP P t = some k ∧ (k.agg = false → ks.length = 1) := by
  cases d with
  | zero => simp [flatL] at h
  | succ d =>
    unfold flatL at h
    split at h <;> rename_i hu
    · cases h; exact ⟨kOf _, by unfold kP; rw [hu]; rfl, fun _ => rfl⟩
    · cases h; exact ⟨kOf _, by unfold kP; rw [hu]; rfl, fun _ => rfl⟩
    · cases h; exact ⟨kOf _, by unfold kP; rw [hu]; rfl, fun _ => rfl⟩
    · exact ⟨_, by simp [kP, hu, kOf]; rfl, by simp [PK.agg]⟩
    · exact ⟨_, by simp [kP, hu, kOf]; rfl, by simp [PK.agg]⟩
    · cases h

theorem flat_eq {P : Program} : ∀ (d : Nat) (t : TypeId) (ks : List CK) (k : PK) (xs ys : List PV) (vs us : List Value) (r : Bool) (D : Nat), flatL P d t = some ks → kP P t = some k → d ≤ D → RVs G xs vs → RVs G ys us →
    eqCells ks xs ys = some r → xs.length = ks.length → ys.length = ks.length → (Op.equalIn D t (wrapV k.agg vs) (wrapV k.agg us)).run P w = .ok r w := by
  intro d
  induction d with
  | zero => intro t ks k xs ys vs us r D h; simp [flatL] at h
  | succ d ih =>
    intro t ks k xs ys vs us r D h hk hD hx hy he hlx hly
    obtain ⟨D, rfl⟩ : ∃ D', D = D' + 1 := ⟨D - 1, by omega⟩
    have hD : d ≤ D := by omega
    obtain ⟨dd, hdd, rfl⟩ := kP_some hk
    have single : ks.length = 1 → ∃ x y v u, xs = [x] ∧ ys = [y] ∧ vs = [v] ∧ us = [u] ∧ RV G x v ∧ RV G y u := by
      intro h1
      match xs, ys, hx, hy with
      | [x], [y], .cons _ v _ _ a .nil, .cons _ u _ _ b .nil => exact ⟨x, y, v, u, rfl, rfl, rfl, rfl, a, b⟩
      | [], _, _, _ => simp at hlx; omega
      | _ :: _ :: _, _, _, _ => simp at hlx; omega
      | [x], [], _, _ => simp at hly; omega
      | [x], _ :: _ :: _, _, _ => simp at hly; omega
    unfold flatL at h
    split at h <;> rename_i hu <;> first | (rw [hu] at hdd; cases hdd) | skip
    · cases h
      obtain ⟨x, y, v, u, rfl, rfl, rfl, rfl, a, b⟩ := single rfl
      simp only [eqCells] at he
      split at he
      · rename_i r1 r2 h1 h2
        cases h2; cases he
        unfold eqCell at h1
        split at h1 <;> rename_i hck <;> (try cases hck) <;> (try cases h1)
        obtain rfl := a.bool_inv; obtain rfl := b.bool_inv
        simpa [wrapV, kOf, PK.agg] using Go.run_equalIn_bool w D t _ _ hu
      · cases he
    · cases h
      obtain ⟨x, y, v, u, rfl, rfl, rfl, rfl, a, b⟩ := single rfl
      simp only [eqCells] at he
      split at he
      · rename_i r1 r2 h1 h2
        cases h2; cases he
        unfold eqCell at h1
        split at h1 <;> rename_i hck <;> (try cases hck) <;> (try cases h1)
        split at h1
        · rename_i hkk; cases h1; subst hkk
          obtain rfl := a.int_inv; obtain rfl := b.int_inv
          simpa [wrapV, kOf, PK.agg] using Go.run_equalIn_int w D t _ _ _ _ hu
        · cases h1
      · cases he
    · cases h
      obtain ⟨x, y, v, u, rfl, rfl, rfl, rfl, a, b⟩ := single rfl
      simp only [eqCells] at he
      split at he
      · rename_i r1 r2 h1 h2
        cases h2; cases he
        unfold eqCell at h1
        split at h1 <;> rename_i hck <;> (try cases hck) <;> (try cases h1)
        obtain ⟨s, rfl, hs⟩ := a.str_inv; obtain ⟨s', rfl, hs'⟩ := b.str_inv
        have := Go.run_equalIn_string (P := P) w D t s s' hu
        rw [ByteArray.toList_eq, ByteArray.toList_eq, hs, hs'] at this
        simpa [wrapV, kOf, PK.agg] using this
      · cases he
    · rename_i fs
      split at h
      · cases h
      · rename_i hst
        have hfo : P.fieldsOf t = fs := by simp [Program.fieldsOf, hu]
        rw [show wrapV (kOf (.struct fs)).agg vs = .agg vs.toArray from rfl, show wrapV (kOf (.struct fs)).agg us = .agg us.toArray from rfl,
          Go.run_equalIn_struct w D t _ _ (by rw [hfo]; exact hu) (by simpa using hst), hfo]
        clear hu hfo hst
        have main : ∀ (fl : List Field) (off : Nat) (ks : List CK) (r : Bool), flatGo P (flatL P d) fl off = some ks → eqCells ks (xs.drop off) (ys.drop off) = some r → off + ks.length ≤ xs.length → off + ks.length ≤ ys.length →
            (Op.eqFields D vs.toArray us.toArray fl).run P w = .ok r w := by
          intro fl
          induction fl with
          | nil => intro off ks r h he _ _; unfold flatGo at h; cases h; cases he; simp [Op.eqFields]
          | cons f fl ihf =>
            intro off ks r h he h1 h2
            unfold flatGo at h
            split at h
            · rename_i hn
              split at h
              · rename_i ks1 m hks hm
                split at h
                · rename_i hlen
                  simp only [Option.map_eq_some_iff] at h
                  obtain ⟨ks2, hk2, rfl⟩ := h
                  obtain ⟨k1, hk1, hone⟩ := flat_kind hks
                  obtain ⟨a, b, e1, e2, rfl⟩ := eqCells_append he
                  simp only [List.length_append] at h1 h2
                  have hxl := hx.length; have hyl := hy.length
                  have p1 := run_part' (w := w) (P := P) (off := f.offset) hk1 hm (vals := vs) (by rw [hn.2]; omega) (fun ha => by rw [← hlen]; exact hone ha)
                  have p2 := run_part' (w := w) (P := P) (off := f.offset) hk1 hm (vals := us) (by rw [hn.2]; omega) (fun ha => by rw [← hlen]; exact hone ha)
                  have e1' := eqCells_take e1 m (by omega)
                  have q := ih f.type ks1 k1 _ _ _ _ a D hks hk1 hD ((hx.drop f.offset).take m) ((hy.drop f.offset).take m) (by rw [hn.2]; exact e1') (by simp [hn.2]; omega) (by simp [hn.2]; omega)
                  simp only [wrapV] at q
                  have hnm : ¬ (f.name = "_") := by simpa using hn.1
                  simp only [Op.eqFields, hnm, ne_eq, not_false_eq_true, if_true, Sem.run_bind, p1, p2, Result.andThen_ok, q, Sem.run_ite, Sem.run_pure]
                  cases a
                  · simp
                  · simp only [Bool.not_true, Bool.false_eq_true, if_false, Bool.true_and]
                    exact ihf (off + m) ks2 b hk2 (by simpa [List.drop_drop, hlen] using e2) (by omega) (by omega)
                · cases h
              · cases h
            · cases h
        exact main fs.toList 0 ks r h (by simpa using he) (by omega) (by omega)
    · rename_i n e
      split at h
      · rename_i ks1 m hks hm
        split at h
        · rename_i hlen
          cases h
          obtain ⟨k1, hk1, hone⟩ := flat_kind hks
          rw [show wrapV (kOf (.array n e)).agg vs = .agg vs.toArray from rfl, show wrapV (kOf (.array n e)).agg us = .agg us.toArray from rfl, run_equalIn_array D t e n m _ _ hu hm]
          have hxl := hx.length; have hyl := hy.length
          have hfl : ∀ c, ((List.replicate c ks1).flatten).length = c * m := by intro c; simp [List.length_flatten, hlen]
          rw [hfl] at hlx hly
          have main : ∀ (c i : Nat) (r : Bool), i + c = n → eqCells ((List.replicate c ks1).flatten) (xs.drop (i * m)) (ys.drop (i * m)) = some r →
              (eqElems D e m vs.toArray us.toArray (List.range' i c)).run P w = .ok r w := by
            intro c
            induction c with
            | zero => intro i r _ he; simp [eqCells] at he; subst he; simp [eqElems]
            | succ c ihc =>
              intro i r hic he
              simp only [List.replicate_succ, List.flatten_cons] at he
              obtain ⟨a, b, e1, e2, rfl⟩ := eqCells_append he
              have hb : i * m + m ≤ n * m := by rw [← Nat.succ_mul]; exact Nat.mul_le_mul_right _ (by omega)
              have p1 := run_part' (w := w) (P := P) (off := i * m) hk1 hm (vals := vs) (by omega) (fun ha => by rw [← hlen]; exact hone ha)
              have p2 := run_part' (w := w) (P := P) (off := i * m) hk1 hm (vals := us) (by omega) (fun ha => by rw [← hlen]; exact hone ha)
              have e1' := eqCells_take e1 m (by omega)
              have q := ih e ks1 k1 _ _ _ _ a D hks hk1 hD ((hx.drop (i * m)).take m) ((hy.drop (i * m)).take m) e1' (by simp; omega) (by simp; omega)
              simp only [wrapV] at q
              simp only [List.range'_succ, eqElems, Sem.run_bind, p1, p2, Result.andThen_ok, q, Sem.run_ite, Sem.run_pure]
              cases a
              · simp
              · simp only [Bool.not_true, Bool.false_eq_true, if_false, Bool.true_and]
                refine ihc (i + 1) b (by omega) ?_
                rw [Nat.succ_mul]; simpa [List.drop_drop, hlen] using e2
          rw [List.range_eq_range']
          exact main n 0 r (by omega) (by simpa using he)
        · cases h
      · cases h
    · cases h

end Pv
