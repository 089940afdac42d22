/- Part of the proof: the layer of pure values, or walks through functions (PvB2, PvB3, PvDrawT). -/
import Derived.Test.YtjomgffpkdcanaaGreatPvH
import Derived.Test.YtjomgffpkdcanaaGreatPvNum
import Derived.Test.YtjomgffpkdcanaaGreatPvDraw
set_option linter.all false
namespace Pv
open Go Go.RowKit
/-- Lean's own lemmas that the walk leans on, as one; and those on numbers. -/
theorem wkL : type_of% (And.intro (And.intro (And.intro (And.intro (And.intro (And.intro (@List.set_cons_zero.{0}) (@List.set_cons_succ.{0})) (And.intro (@List.getD_cons_zero.{0}) (@List.getD_cons_succ.{0}))) (And.intro (And.intro (@List.getElem?_cons_zero.{0}) (@List.getElem?_cons_succ.{0})) (And.intro (@List.getElem?_toArray.{0}) (@Option.bind_some.{0,0})))) (And.intro (And.intro (And.intro (@Option.map_some.{0,0}) (@Option.map_none.{0,0})) (And.intro (@Option.getD_some.{0}) (@and_self))) (And.intro (And.intro (@true_and) (@and_true)) (And.intro (@not_true_eq_false) (And.intro (@not_false_eq_true) (@List.map_cons.{0,0})))))) (And.intro (And.intro (And.intro (And.intro (@List.map_nil.{0,0}) (@List.nil_append.{0})) (And.intro (@List.cons_append.{0}) (@List.append_nil.{0}))) (And.intro (And.intro (@List.length_cons.{0}) (@List.length_nil.{0})) (And.intro (@Nat.zero_add) (@Nat.zero_mul)))) (And.intro (And.intro (And.intro (@Nat.add_zero) (@Nat.mul_one)) (And.intro (@Nat.one_mul) (@decide_true))) (And.intro (And.intro (@decide_false) (@Bool.not_true)) (And.intro (@Bool.not_false) (And.intro (@Bool.true_eq_false) (@Bool.false_eq_true))))))) (And.intro (And.intro (And.intro (And.intro (And.intro (@beq_self_eq_true.{0}) (@bne_self_eq_false.{0})) (And.intro (@Bool.or_true) (@Bool.or_false))) (And.intro (And.intro (@Bool.true_or) (@Bool.false_or)) (And.intro (@Bool.and_true) (@Bool.and_false)))) (And.intro (And.intro (And.intro (@Bool.true_and) (@Bool.false_and)) (And.intro (@Option.some.injEq.{0}) (@Int.toNat_natCast))) (And.intro (And.intro (@Nat.sub_zero) (@PH.ob_push)) (And.intro (@List.all_cons.{0}) (And.intro (@List.all_nil.{0}) (@List.flatten_cons.{0})))))) (And.intro (And.intro (And.intro (And.intro (@List.flatten_nil.{0}) (@List.replicate_succ.{0})) (And.intro (@List.replicate_zero.{0}) (@false_or))) (And.intro (And.intro (@or_false) (@List.take_succ_cons.{0})) (And.intro (@List.drop_succ_cons.{0}) (And.intro (@List.take_zero.{0}) (@List.drop_zero.{0}))))) (And.intro (And.intro (And.intro (@List.length_set.{0}) (@List.length_append.{0})) (And.intro (@decide_eq_true_eq) (@Nat.lt_irrefl))) (And.intro (And.intro (@up_same) (@up_up)) (And.intro (@Option.join_some.{0}) (And.intro (@Option.join_none.{0}) (@Option.bind_none.{0,0})))))))) := And.intro (And.intro (And.intro (And.intro (And.intro (And.intro (@List.set_cons_zero.{0}) (@List.set_cons_succ.{0})) (And.intro (@List.getD_cons_zero.{0}) (@List.getD_cons_succ.{0}))) (And.intro (And.intro (@List.getElem?_cons_zero.{0}) (@List.getElem?_cons_succ.{0})) (And.intro (@List.getElem?_toArray.{0}) (@Option.bind_some.{0,0})))) (And.intro (And.intro (And.intro (@Option.map_some.{0,0}) (@Option.map_none.{0,0})) (And.intro (@Option.getD_some.{0}) (@and_self))) (And.intro (And.intro (@true_and) (@and_true)) (And.intro (@not_true_eq_false) (And.intro (@not_false_eq_true) (@List.map_cons.{0,0})))))) (And.intro (And.intro (And.intro (And.intro (@List.map_nil.{0,0}) (@List.nil_append.{0})) (And.intro (@List.cons_append.{0}) (@List.append_nil.{0}))) (And.intro (And.intro (@List.length_cons.{0}) (@List.length_nil.{0})) (And.intro (@Nat.zero_add) (@Nat.zero_mul)))) (And.intro (And.intro (And.intro (@Nat.add_zero) (@Nat.mul_one)) (And.intro (@Nat.one_mul) (@decide_true))) (And.intro (And.intro (@decide_false) (@Bool.not_true)) (And.intro (@Bool.not_false) (And.intro (@Bool.true_eq_false) (@Bool.false_eq_true))))))) (And.intro (And.intro (And.intro (And.intro (And.intro (@beq_self_eq_true.{0}) (@bne_self_eq_false.{0})) (And.intro (@Bool.or_true) (@Bool.or_false))) (And.intro (And.intro (@Bool.true_or) (@Bool.false_or)) (And.intro (@Bool.and_true) (@Bool.and_false)))) (And.intro (And.intro (And.intro (@Bool.true_and) (@Bool.false_and)) (And.intro (@Option.some.injEq.{0}) (@Int.toNat_natCast))) (And.intro (And.intro (@Nat.sub_zero) (@PH.ob_push)) (And.intro (@List.all_cons.{0}) (And.intro (@List.all_nil.{0}) (@List.flatten_cons.{0})))))) (And.intro (And.intro (And.intro (And.intro (@List.flatten_nil.{0}) (@List.replicate_succ.{0})) (And.intro (@List.replicate_zero.{0}) (@false_or))) (And.intro (And.intro (@or_false) (@List.take_succ_cons.{0})) (And.intro (@List.drop_succ_cons.{0}) (And.intro (@List.take_zero.{0}) (@List.drop_zero.{0}))))) (And.intro (And.intro (And.intro (@List.length_set.{0}) (@List.length_append.{0})) (And.intro (@decide_eq_true_eq) (@Nat.lt_irrefl))) (And.intro (And.intro (@up_same) (@up_up)) (And.intro (@Option.join_some.{0}) (And.intro (@Option.join_none.{0}) (@Option.bind_none.{0,0})))))))
theorem wkN : type_of% (And.intro (And.intro (And.intro (And.intro (@ncN) (@IntWalk.i64_in)) (And.intro (@IntWalk.u8_in) (@IntWalk.u16_in))) (And.intro (And.intro (@IntWalk.u32_in) (@IntWalk.u64_in)) (And.intro (@wrap_i64_b) (And.intro (@wrap_u8_b) (@wrap_u16_b))))) (And.intro (And.intro (And.intro (@wrap_u32_b) (@wrap_u64_b)) (And.intro (@shl8_b) (@bytesPV_get))) (And.intro (And.intro (@bytesPV_len) (@bytesOf_cons)) (And.intro (@bytesOf_nil) (And.intro (@bytesOf_bytesPV) (@seg_bytes)))))) := And.intro (And.intro (And.intro (And.intro (@ncN) (@IntWalk.i64_in)) (And.intro (@IntWalk.u8_in) (@IntWalk.u16_in))) (And.intro (And.intro (@IntWalk.u32_in) (@IntWalk.u64_in)) (And.intro (@wrap_i64_b) (And.intro (@wrap_u8_b) (@wrap_u16_b))))) (And.intro (And.intro (And.intro (@wrap_u32_b) (@wrap_u64_b)) (And.intro (@shl8_b) (@bytesPV_get))) (And.intro (And.intro (@bytesPV_len) (@bytesOf_cons)) (And.intro (@bytesOf_nil) (And.intro (@bytesOf_bytesPV) (@seg_bytes)))))
end Pv

namespace Pv
open Go Go.RowKit
/-- What a split's hypothesis becomes. -/
theorem wkS : type_of% (And.intro (And.intro (@Bool.not_eq_true') (@Bool.not_eq_false')) (And.intro (@Bool.not_true) (@Bool.not_false))) := And.intro (And.intro (@Bool.not_eq_true') (@Bool.not_eq_false')) (And.intro (@Bool.not_true) (@Bool.not_false))
theorem wkT : type_of% (And.intro (And.intro (And.intro (@decide_eq_true_eq) (@decide_eq_false_iff_not)) (And.intro (@beq_iff_eq.{0}) (@beq_eq_false_iff_ne.{0}))) (And.intro (And.intro (@bne_iff_ne.{0}) (@bne_eq_false_iff_eq.{0})) (And.intro (@Int.not_lt) (@Int.not_le)))) := And.intro (And.intro (And.intro (@decide_eq_true_eq) (@decide_eq_false_iff_not)) (And.intro (@beq_iff_eq.{0}) (@beq_eq_false_iff_ne.{0}))) (And.intro (And.intro (@bne_iff_ne.{0}) (@bne_eq_false_iff_eq.{0})) (And.intro (@Int.not_lt) (@Int.not_le)))
theorem wkH : type_of% (And.intro (And.intro (@h_n) (@PH.n_push)) (And.intro (@PH.n_put) (And.intro (@List.length_cons.{0}) (@List.length_nil.{0})))) := And.intro (And.intro (@h_n) (@PH.n_push)) (And.intro (@PH.n_put) (And.intro (@List.length_cons.{0}) (@List.length_nil.{0})))
end Pv

namespace Pv
open Go Go.RowKit
variable {X : Ctx} {G : Ghost} {ph : PH} {w : World} {ρ : Option Nat} {n0 : Nat} {Q : Exit → PSt → PH → Prop}

/-! ### A region in which operations that may not move stand in no order: each order is walked -/
def atT (P : Program) (ops : Array Oper) (N : Nat) (all post : List Nat) (i : Nat) : Bool :=
  match ops[i]? with
  | none => false
  | some o =>
    (edgesOf o).all (fun j => decide (j < i)) &&
    post.all (fun j => j != i && !(anc ops i).contains j) &&
    (match o.dst with
      | none => !movable P o.op
      | some d => decide (d < N) && (!movable P o.op || !(readsOf ops o).contains d) &&
        all.all (fun j => j == i || match ops[j]? with
          | none => false
          | some p => !(namesOf ops p).contains d || (anc ops j).contains i || (!movable P o.op && (anc ops i).contains j)))
def chainT (P : Program) (ops : Array Oper) (N : Nat) (all : List Nat) : List Nat → Bool
  | [] => true
  | i :: κ => atT P ops N all κ i && chainT P ops N all κ
theorem atT_sub {P : Program} {ops : Array Oper} {N : Nat} {all post post' : List Nat} {i : Nat} (h : atT P ops N all post i = true) (hs : ∀ j ∈ post', j ∈ post) : atT P ops N all post' i = true := by
  unfold atT at h ⊢
  split
  · rename_i e; rw [e] at h; cases h
  · rename_i o e
    rw [e] at h
    simp only [Bool.and_eq_true] at h ⊢
    exact ⟨⟨h.1.1, List.all_eq_true.2 fun j hj => List.all_eq_true.1 h.1.2 j (hs j hj)⟩, h.2⟩
theorem atT_post {P : Program} {ops : Array Oper} {N : Nat} {all post post' : List Nat} {i : Nat} (h : atT P ops N all post i = true) (hs : ∀ j ∈ post', j ≠ i ∧ j ∉ anc ops i) : atT P ops N all post' i = true := by
  unfold atT at h ⊢
  split
  · rename_i e; rw [e] at h; cases h
  · rename_i o e
    rw [e] at h
    simp only [Bool.and_eq_true] at h ⊢
    exact ⟨⟨h.1.1, List.all_eq_true.2 fun j hj => by simp [(hs j hj).1, (hs j hj).2]⟩, h.2⟩
theorem chainT_erase {P : Program} {ops : Array Oper} {N : Nat} {all : List Nat} {i : Nat} : ∀ {κ : List Nat}, chainT P ops N all κ = true → chainT P ops N all (κ.erase i) = true
  | [], h => h
  | k :: κ, h => by
    simp only [chainT, Bool.and_eq_true] at h
    rw [List.erase_cons]
    split
    · exact h.2
    · simp only [chainT, Bool.and_eq_true]
      exact ⟨atT_sub h.1 fun j hj => List.mem_of_mem_erase hj, chainT_erase h.2⟩
theorem chainT_in {P : Program} {ops : Array Oper} {N : Nat} {all : List Nat} {i : Nat} : ∀ {κ : List Nat}, chainT P ops N all κ = true → i ∈ κ → ∃ q, atT P ops N all q i = true
  | k :: κ, h, hi => by
    simp only [chainT, Bool.and_eq_true] at h
    rcases List.mem_cons.1 hi with rfl | hi
    · exact ⟨_, h.1⟩
    · exact chainT_in h.2 hi

/-- Those that may come next, of such as may not move. -/
def alts (P : Program) (ops : Array Oper) (κ : List Nat) : List Nat :=
  κ.filter fun i => (match ops[i]? with | some o => !movable P o.op | none => false) && κ.all fun j => !(anc ops i).contains j

/-- The first that may move and may come next. -/
def rdy (P : Program) (ops : Array Oper) (κ : List Nat) : Option Nat :=
  κ.find? fun i => (match ops[i]? with | some o => movable P o.op | none => false) && κ.all fun j => !(anc ops i).contains j

/-- The step of an operation that may not move. -/
def vcF (X : Ctx) (ops : Array Oper) (pend : List Nat) (s : PSt) (ph : PH) (i : Nat) (K : List Nat → PSt → PH → Prop) : Prop :=
  match ops[i]? with
  | none => False
  | some o => match wantedP ops s o with
    | none => False
    | some t =>
      (t = true → opVc X s ph o.op fun v ph' => recheck X ops (s.put o.dst v) ph' (pend.filter fun j => !(anc ops i).contains j) ∧ K (pend.filter fun j => !(anc ops i).contains j) (s.put o.dst v) ph') ∧
      (t = false → K (pend.filter fun j => !(anc ops i).contains j) (s.put o.dst (.tuple [])) ph)

def vcE (X : Ctx) (ops : Array Oper) (Q : Exit → PSt → PH → Prop) : Nat → List Nat → List Nat → PSt → PH → Prop
  | 0, _, κ, s, ph => κ = [] ∧ Q .normal s ph
  | n + 1, pend, κ, s, ph => match rdy X.P ops κ with
    | some i => (match ops[i]? with
      | none => False
      | some o => match wantedP ops s o with
        | none => False
        | some t =>
          (t = true → ∃ v, popO X.P s.ev ph o.op = some (v, ph) ∧ vcE X ops Q n (i :: pend) (κ.erase i) (s.put o.dst v) ph) ∧
          (t = false → vcE X ops Q n pend (κ.erase i) (s.put o.dst (.tuple [])) ph))
    | none => (κ = [] → Q .normal s ph) ∧ ∀ j ∈ alts X.P ops κ, vcF X ops pend s ph j fun pend' s' ph' => vcE X ops Q n pend' (κ.erase j) s' ph'

theorem chainT_at {P : Program} {ops : Array Oper} {N : Nat} {all : List Nat} : ∀ {κ : List Nat} {i : Nat}, chainT P ops N all κ = true → i ∈ κ → ∃ p q, κ = p ++ i :: q ∧ atT P ops N all q i = true
  | k :: κ, i, h, hi => by
    simp only [chainT, Bool.and_eq_true] at h
    by_cases e : i = k
    · subst e; exact ⟨[], κ, rfl, h.1⟩
    · obtain ⟨p, q, rfl, h2⟩ := chainT_at h.2 ((List.mem_cons.1 hi).resolve_left e)
      exact ⟨k :: p, q, rfl, h2⟩

theorem chainT_nodup {P : Program} {ops : Array Oper} {N : Nat} {all : List Nat} : ∀ {κ : List Nat}, chainT P ops N all κ = true → κ.Nodup
  | [], _ => List.nodup_nil
  | k :: κ, h => by
    simp only [chainT, Bool.and_eq_true] at h
    refine List.nodup_cons.2 ⟨fun hk => ?_, chainT_nodup h.2⟩
    have h1 := h.1
    unfold atT at h1
    split at h1
    · cases h1
    · simp only [Bool.and_eq_true] at h1
      have := List.all_eq_true.1 h1.1.2 k hk
      simp at this

structure AtT (P : Program) (ops : Array Oper) (N : Nat) (all post : List Nat) (i : Nat) (o : Oper) : Prop where
  edges : ∀ j ∈ edgesOf o, j < i
  post : ∀ j ∈ post, j ∉ anc ops i
  dst : o.dst = none → movable P o.op = false
  lt : ∀ d, o.dst = some d → d < N
  own : ∀ d, o.dst = some d → movable P o.op = true → d ∉ readsOf ops o
  slot : ∀ d, o.dst = some d → ∀ j ∈ all, j ≠ i → ∀ p, ops[j]? = some p → d ∈ namesOf ops p → i ∈ anc ops j ∨ (movable P o.op = false ∧ j ∈ anc ops i)

theorem atT_facts {P : Program} {ops : Array Oper} {N : Nat} {all post : List Nat} {i : Nat} (h : atT P ops N all post i = true) : ∃ o, ops[i]? = some o ∧ AtT P ops N all post i o := by
  unfold atT at h
  split at h
  · cases h
  · rename_i o ho
    simp only [Bool.and_eq_true] at h
    obtain ⟨⟨h1, h3⟩, h4⟩ := h
    refine ⟨o, ho, ?_, ?_, ?_, ?_, ?_, ?_⟩
    · intro j hj; simpa using List.all_eq_true.1 h1 j hj
    · intro j hj
      have := List.all_eq_true.1 h3 j hj
      simp only [Bool.and_eq_true, Bool.not_eq_true', List.contains_eq_mem, decide_eq_false_iff_not] at this
      exact this.2
    · intro hd; rw [hd] at h4; simpa using h4
    · intro d hd; rw [hd] at h4; simp only [Bool.and_eq_true, decide_eq_true_eq] at h4; exact h4.1.1
    · intro d hd hm; rw [hd] at h4; simp only [Bool.and_eq_true, hm, Bool.not_true, Bool.false_or, Bool.not_eq_true', List.contains_eq_mem, decide_eq_false_iff_not] at h4; exact h4.1.2
    · intro d hd j hj hne p hp hn
      rw [hd] at h4
      simp only [Bool.and_eq_true] at h4
      have := List.all_eq_true.1 h4.2 j hj
      rw [hp] at this
      simp only [Bool.or_eq_true, beq_iff_eq, Bool.not_eq_true', List.contains_eq_mem, decide_eq_false_iff_not, decide_eq_true_eq, Bool.and_eq_true] at this
      rcases this with h | (h | h) | h
      · exact absurd h hne
      · exact absurd hn h
      · exact .inl h
      · exact .inr h

structure DInvT (X : Ctx) (ops : Array Oper) (Q : Exit → PSt → PH → Prop) (N : Nat) (κ0 : List Nat) (n0 : Nat) (G0 : Ghost) (fuel : Nat) (κ U pend : List Nat) (s : PSt) (ph : PH) (a : Act) (G : Ghost) (w : World) (listed : Array Bool) : Prop where
  chain : chainT X.P ops N κ0 κ = true
  wait : ∀ u ∈ U, u ∈ κ0 ∧ (∀ j ∈ κ, j ∉ anc ops u) ∧ ∃ o d t, Wait X ops s ph u o d t ∧ (t = true → u ∈ pend)
  sub : ∀ i ∈ κ, i ∈ κ0
  list : ∀ j, j < ops.size → (listed.getD j true = false ↔ j ∈ U ∨ j ∈ κ)
  nd : U.Nodup
  dis : ∀ u ∈ U, u ∉ κ
  fu : fuel = U.length + κ.length
  sz : listed.size = ops.size
  done : Done ops listed
  lenN : N ≤ s.tm.length
  n : n0 ≤ ph.n
  g : LeN n0 G0 G
  rel : Rel X G ph w
  st : RSt G (blank (dstsOf ops U) s) a


section sim
variable {ops : Array Oper} {N : Nat} {κ0 : List Nat} {G0 : Ghost}

theorem factsT_of {P : Program} (hchain : chainT P ops N κ0 κ0 = true) {i : Nat} (hi : i ∈ κ0) : ∃ (_ q : List Nat) (o : Oper), ops[i]? = some o ∧ AtT P ops N κ0 q i o := by
  obtain ⟨p, q, -, h⟩ := chainT_at hchain hi
  obtain ⟨o, ho, hf⟩ := atT_facts h
  exact ⟨p, _, o, ho, hf⟩

variable {fuel : Nat} {κ U pend : List Nat} {s : PSt} {a : Act} {listed : Array Bool}

/-- One that may come next has all behind it that stands ahead of it. -/
theorem DInvT.ancDone (I : DInvT X ops Q N κ0 n0 G0 fuel κ U pend s ph a G w listed) {i : Nat} (hi : i ∈ Region.ready .any ops listed) : ∀ j ∈ anc ops i, listed.getD j false = true := by
  obtain ⟨-, o, ho, he⟩ := mem_ready.1 hi
  refine clo_done I.done _ _ fun o' ho' j hj => ?_
  rw [ho] at ho'; cases ho'
  obtain ⟨e, h1, h2, rfl⟩ := mem_edges hj
  exact he e h1 h2

theorem DInvT.notAnc (I : DInvT X ops Q N κ0 n0 G0 fuel κ U pend s ph a G w listed) (hlt : ∀ i ∈ κ0, i < ops.size) {i u : Nat} (hi : i ∈ Region.ready .any ops listed) (hu : u ∈ U ∨ u ∈ κ) : u ∉ anc ops i := by
  intro h
  have h1 := I.ancDone hi u h
  have hu0 : u ∈ κ0 := by rcases hu with hu | hu; exact (I.wait u hu).1; exact I.sub u hu
  have h2 := (I.list u (hlt u hu0)).2 hu
  have hs : u < listed.size := by rw [I.sz]; exact hlt u hu0
  simp [Array.getD_eq_getD_getElem?, hs] at h1 h2
  rw [h1] at h2; cases h2

/-- What it reads has been written. -/
theorem DInvT.readsOk (I : DInvT X ops Q N κ0 n0 G0 fuel κ U pend s ph a G w listed) (hchain : chainT X.P ops N κ0 κ0 = true) (hlt : ∀ i ∈ κ0, i < ops.size) {i : Nat} {o : Oper} (hi : i ∈ Region.ready .any ops listed) (ho : ops[i]? = some o) (hi0 : i ∈ κ0) :
    (∀ t ∈ namesOf ops o, ∀ u ∈ U, u ≠ i → ∀ p, ops[u]? = some p → p.dst ≠ some t) ∧ (i ∉ U → ∀ t ∈ namesOf ops o, t ∉ dstsOf ops U) ∧ (movable X.P o.op = true → ∀ t ∈ readsOf ops o, t ∉ dstsOf ops U) := by
  have key : ∀ t ∈ namesOf ops o, ∀ u ∈ U, u ≠ i → ∀ p, ops[u]? = some p → p.dst ≠ some t := by
    intro t ht u hu hne p hp hd
    obtain ⟨hu0, -, o', d, b, hw, -⟩ := I.wait u hu
    obtain ⟨p1, q1, o2, ho2, hf⟩ := factsT_of hchain hu0
    rw [hp] at ho2; cases ho2
    have hmv : movable X.P p.op = true := by have := hw.ho; rw [hp] at this; cases this; exact hw.mv
    rcases hf.slot t hd i hi0 (fun e => hne e.symm) o ho ht with h | h
    · exact I.notAnc hlt hi (.inl hu) h
    · rw [hmv] at h; cases h.1
  refine ⟨key, fun hn t ht hm => ?_, fun hmv t ht hm => ?_⟩
  · obtain ⟨u, p, hu, hp, hd⟩ := mem_dstsOf.1 hm
    exact key t ht u hu (fun e => hn (e ▸ hu)) p hp hd
  · obtain ⟨u, p, hu, hp, hd⟩ := mem_dstsOf.1 hm
    by_cases e : u = i
    · subst e
      rw [ho] at hp; cases hp
      obtain ⟨p1, q1, o2, ho2, hf⟩ := factsT_of hchain hi0
      rw [ho] at ho2; cases ho2
      exact hf.own t hd hmv ht
    · exact key t (List.mem_append_right _ ht) u hu e p hp hd


/-- One that waited is carried out. -/
theorem DInvT.tookU (I : DInvT X ops Q N κ0 n0 G0 (fuel + 1) κ U pend s ph a G w listed) (hchain : chainT X.P ops N κ0 κ0 = true) (hlt : ∀ i ∈ κ0, i < ops.size) {i : Nat} {o : Oper} {d : Tmp} (hi : i ∈ Region.ready .any ops listed) (hu : i ∈ U) (ho : ops[i]? = some o) (hd : o.dst = some d)
    {G' : Ghost} {a' : Act} {w' : World} {p : PV} (hp : p = s.tm.getD d .undef) (hle : LeN n0 G0 G') (hr : Rel X G' ph w') (hs : RSt G' ((blank (dstsOf ops U) s).put (some d) p) a') :
    DInvT X ops Q N κ0 n0 G0 fuel κ (U.erase i) pend s ph a' G' w' (listed.setIfInBounds i true) := by
  have hi0 := (I.wait i hu).1
  have hisz : i < listed.size := by rw [I.sz]; exact hlt i hi0
  have hro := I.readsOk hchain hlt hi ho hi0
  have hme : ∀ u, u ∈ U.erase i ↔ u ≠ i ∧ u ∈ U := fun u => I.nd.mem_erase_iff
  refine ⟨I.chain, fun u h => I.wait u ((hme u).1 h).2, I.sub, ?_, I.nd.erase _, fun u h => I.dis u ((hme u).1 h).2, ?_, by simpa using I.sz, I.done.set I.sz hi, I.lenN, I.n, hle, hr, ?_⟩
  · intro j hj
    rw [setIf_getD hisz]
    by_cases e : j = i
    · subst e
      simp only [if_true, Bool.true_eq_false, false_iff, not_or]
      exact ⟨fun h => ((hme j).1 h).1 rfl, I.dis j hu⟩
    · rw [if_neg e, I.list j hj, hme]; simp [e]
  · have := List.length_erase_of_mem hu
    have h0 : 0 < U.length := List.length_pos_of_mem hu
    have := I.fu; omega
  · have hsz := hs.size
    simp only [put_len] at hsz
    refine .of_get (by simpa [blank] using hsz) (by have := hs.ms; rw [put_ms] at this; exact this) fun t q v h1 h2 => ?_
    rw [blank_get] at h1
    refine hs.get (t := t) ?_ h2
    rw [put_get, blank_get]
    have hbl : (blank (dstsOf ops U) s).tm.length = s.tm.length := by simp [blank]
    rw [hbl]
    cases hst : s.tm[t]? with
    | none => rw [hst] at h1; cases h1
    | some x =>
      rw [hst] at h1
      simp only [Option.map_some, Option.some.injEq] at h1
      have htl : t < s.tm.length := (List.getElem?_eq_some_iff.1 hst).1
      by_cases e : d = t
      · subst e
        have hnd : d ∉ dstsOf ops (U.erase i) := by
          intro hm
          obtain ⟨u, o2, hu2, ho2, hd2⟩ := mem_dstsOf.1 hm
          exact hro.1 d (by simp [namesOf, hd]) u ((hme u).1 hu2).2 ((hme u).1 hu2).1 o2 ho2 hd2
        rw [if_neg hnd] at h1
        rw [if_pos ⟨rfl, htl⟩, hp, List.getD_eq_getElem?_getD, hst, ← h1]; rfl
      · rw [if_neg (fun x => e x.1)]
        simp only [Option.map_some, Option.some.injEq]
        rw [← h1]
        have : t ∈ dstsOf ops U ↔ t ∈ dstsOf ops (U.erase i) := by
          rw [mem_dstsOf, mem_dstsOf]
          constructor
          · rintro ⟨u, o2, hu2, ho2, hd2⟩
            refine ⟨u, o2, (hme u).2 ⟨?_, hu2⟩, ho2, hd2⟩
            rintro rfl
            rw [ho] at ho2; cases ho2; rw [hd] at hd2; cases hd2; exact e rfl
          · rintro ⟨u, o2, hu2, ho2, hd2⟩
            exact ⟨u, o2, ((hme u).1 hu2).2, ho2, hd2⟩
        simp only [this]

/-- One that may not move is carried out. -/
theorem DInvT.tookK {k : Nat} (I : DInvT X ops Q N κ0 n0 G0 (fuel + 1) (k :: κ) U pend s ph a G w listed) (hchain : chainT X.P ops N κ0 κ0 = true) (hlt : ∀ i ∈ κ0, i < ops.size) {o : Oper} (hi : k ∈ Region.ready .any ops listed) (ho : ops[k]? = some o)
    {G' : Ghost} {a' : Act} {w' : World} {v : PV} {ph' : PH} {pend' : List Nat} (hn : n0 ≤ ph'.n) (hle : LeN n0 G0 G') (hr : Rel X G' ph' w') (hs : RSt G' ((blank (dstsOf ops U) s).put o.dst v) a')
    (hpend : ∀ u ∈ U, u ∈ pend → u ∈ pend') (hre : ∀ u ∈ U, ∀ p d, ops[u]? = some p → p.dst = some d → u ∈ pend → movable X.P p.op = true → (popO X.P s.ev ph p.op = some (s.tm.getD d .undef, ph)) → (d ∉ dstsOf ops [k]) → (∀ t ∈ readsOf ops p, o.dst ≠ some t) → popO X.P (s.put o.dst v).ev ph' p.op = some ((s.put o.dst v).tm.getD d .undef, ph')) :
    DInvT X ops Q N κ0 n0 G0 fuel κ U pend' (s.put o.dst v) ph' a' G' w' (listed.setIfInBounds k true) := by
  have hk0 : k ∈ κ0 := I.sub k (by simp)
  have hksz : k < listed.size := by rw [I.sz]; exact hlt k hk0
  have hkU : k ∉ U := fun h => I.dis k h (by simp)
  have hro := I.readsOk hchain hlt hi ho hk0
  have hchain' := I.chain
  simp only [chainT, Bool.and_eq_true] at hchain'
  have hnk : k ∉ κ := (List.nodup_cons.1 (chainT_nodup I.chain)).1
  obtain ⟨p1, q1, o1, ho1, hf⟩ := factsT_of hchain hk0
  rw [ho] at ho1; cases ho1
  -- no waiting one names what was written
  have hnames : ∀ u ∈ U, ∀ p, ops[u]? = some p → ∀ e, o.dst = some e → e ∉ namesOf ops p := by
    intro u hu p hp e he hm
    obtain ⟨hu0, hb, -⟩ := I.wait u hu
    have hne : u ≠ k := fun x => hkU (x ▸ hu)
    rcases hf.slot e he u hu0 hne p hp hm with h | h
    · exact hb k (by simp) h
    · exact I.notAnc hlt hi (.inl hu) h.2
  refine ⟨hchain'.2, ?_, fun j hj => I.sub j (List.mem_cons_of_mem _ hj), ?_, I.nd, fun u hu h => I.dis u hu (List.mem_cons_of_mem _ h), ?_, by simpa using I.sz, I.done.set I.sz hi, by simpa using I.lenN, hn, hle, hr, ?_⟩
  · intro u hu
    obtain ⟨hu0, hb, p, d, t, W, hp⟩ := I.wait u hu
    refine ⟨hu0, fun j hj => hb j (List.mem_cons_of_mem _ hj), p, d, t, ?_, fun h => hpend u hu (hp h)⟩
    have hrd : ∀ t ∈ readsOf ops p, o.dst ≠ some t := fun t ht e => hnames u hu p W.ho t e (List.mem_append_right _ ht)
    have hdd : o.dst ≠ some d := fun e => hnames u hu p W.ho d e (by simp [namesOf, W.hd])
    have hgetD : (s.put o.dst v).tm.getD d .undef = s.tm.getD d .undef := by
      cases e : o.dst with
      | none => rfl
      | some x => exact put_getD (fun y => hdd (by rw [e, y]))
    refine ⟨W.ho, W.mv, W.hd, by rw [put_wanted hrd]; exact W.wt, fun h => ?_, fun h => by rw [hgetD]; exact W.no h⟩
    refine hre u hu p d W.ho W.hd (hp h) W.mv (W.yes h) ?_ hrd
    rw [mem_dstsOf]
    rintro ⟨i, o2, h1, h2, h3⟩
    simp only [List.mem_singleton] at h1; subst h1
    rw [ho] at h2; cases h2
    exact hdd h3
  · intro j hj
    rw [setIf_getD hksz]
    by_cases e : j = k
    · subst e
      simp only [if_true, Bool.true_eq_false, false_iff, not_or]
      exact ⟨hkU, hnk⟩
    · rw [if_neg e, I.list j hj]; simp [e]
  · have := I.fu; simp only [List.length_cons] at this; omega
  · rw [blank_put]
    · exact hs
    · intro e he
      exact hro.2.1 hkU e (by simp [namesOf, he])

/-- The walk is ahead: one that may move waits. -/
theorem DInvT.ahead {k : Nat} (I : DInvT X ops Q N κ0 n0 G0 fuel (k :: κ) U pend s ph a G w listed) (hchain : chainT X.P ops N κ0 κ0 = true) {o : Oper} {d : Tmp} (ho : ops[k]? = some o) (hd : o.dst = some d) (hm : movable X.P o.op = true)
    {v : PV} {t : Bool} {pend' : List Nat} (hw : wantedP ops s o = some t) (hy : t = true → popO X.P s.ev ph o.op = some (v, ph)) (hno : t = false → v = .tuple []) (hp : ∀ u ∈ pend, u ∈ pend') (hp' : t = true → k ∈ pend') :
    DInvT X ops Q N κ0 n0 G0 fuel κ (k :: U) pend' (s.put o.dst v) ph a G w listed := by
  have hk0 : k ∈ κ0 := I.sub k (by simp)
  have hkU : k ∉ U := fun h => I.dis k h (by simp)
  have hchain' := I.chain
  simp only [chainT, Bool.and_eq_true] at hchain'
  have hnk : k ∉ κ := (List.nodup_cons.1 (chainT_nodup I.chain)).1
  obtain ⟨p1, q1, o1, ho1, hf⟩ := factsT_of hchain hk0
  rw [ho] at ho1; cases ho1
  obtain ⟨o2, ho2, hf2⟩ := atT_facts hchain'.1
  rw [ho] at ho2; cases ho2
  have hdl : d < s.tm.length := Nat.lt_of_lt_of_le (hf.lt d hd) I.lenN
  have hgetv : (s.put o.dst v).tm.getD d .undef = v := by
    rw [hd, List.getD_eq_getElem?_getD, put_get, if_pos ⟨rfl, hdl⟩]; rfl
  have hown := hf.own d hd hm
  refine ⟨hchain'.2, ?_, fun j hj => I.sub j (List.mem_cons_of_mem _ hj), ?_, List.nodup_cons.2 ⟨hkU, I.nd⟩, ?_, ?_, I.sz, I.done, by simpa using I.lenN, I.n, I.g, I.rel, ?_⟩
  · intro u hu
    rcases List.mem_cons.1 hu with rfl | hu
    · refine ⟨hk0, hf2.post, o, d, t, ?_, hp'⟩
      have hrd : ∀ t ∈ readsOf ops o, o.dst ≠ some t := fun t ht e => by rw [hd] at e; cases e; exact hown ht
      refine ⟨ho, hm, hd, by rw [put_wanted hrd]; exact hw, fun h => ?_, fun h => by rw [hgetv]; exact hno h⟩
      rw [hgetv, ← hy h]
      exact popO_congr fun x hx => put_ev fun t e => hrd t (operands_reads (e ▸ hx))
    · obtain ⟨hu0, hb, p, d2, t2, W, hp2⟩ := I.wait u hu
      have hnm : d ∉ namesOf ops p := by
        intro hm2
        have hne : u ≠ k := fun x => hkU (x ▸ hu)
        rcases hf.slot d hd u hu0 hne p W.ho hm2 with h | h
        · exact hb k (by simp) h
        · rw [hm] at h; cases h.1
      have hrd : ∀ t ∈ readsOf ops p, o.dst ≠ some t := fun t ht e => by rw [hd] at e; cases e; exact hnm (List.mem_append_right _ ht)
      have hgetD : (s.put o.dst v).tm.getD d2 .undef = s.tm.getD d2 .undef := by
        rw [hd]; exact put_getD (fun e => hnm (by rw [e]; simp [namesOf, W.hd]))
      refine ⟨hu0, fun j hj => hb j (List.mem_cons_of_mem _ hj), p, d2, t2, ⟨W.ho, W.mv, W.hd, by rw [put_wanted hrd]; exact W.wt, fun h => ?_, fun h => by rw [hgetD]; exact W.no h⟩, fun h => hp u (hp2 h)⟩
      rw [hgetD, ← W.yes h]
      exact popO_congr fun x hx => put_ev fun t e => hrd t (operands_reads (e ▸ hx))
  · intro j hj
    rw [I.list j hj]
    simp only [List.mem_cons]
    constructor
    · rintro (h | h | h) <;> simp [h]
    · rintro ((h | h) | h) <;> simp [h]
  · intro u hu h
    rcases List.mem_cons.1 hu with rfl | hu
    · exact hnk h
    · exact I.dis u hu (List.mem_cons_of_mem _ h)
  · have := I.fu; simp only [List.length_cons] at this ⊢; omega
  · have hsz := I.st.size
    refine .of_get (by simpa [blank] using hsz) (by have := I.st.ms; simpa [blank] using this) fun t q v' h1 h2 => ?_
    rw [blank_get] at h1
    cases hst : (s.put o.dst v).tm[t]? with
    | none => rw [hst] at h1; cases h1
    | some x =>
      rw [hst] at h1
      simp only [Option.map_some, Option.some.injEq] at h1
      by_cases e : t ∈ dstsOf ops (k :: U)
      · rw [if_pos e] at h1; rw [← h1]; exact .undef _
      · rw [if_neg e] at h1
        have hdt : d ≠ t := by
          rintro rfl
          exact e (mem_dstsOf.2 ⟨k, o, by simp, ho, hd⟩)
        have e2 : t ∉ dstsOf ops U := by
          intro h
          obtain ⟨i, o3, h3, h4, h5⟩ := mem_dstsOf.1 h
          exact e (mem_dstsOf.2 ⟨i, o3, List.mem_cons_of_mem _ h3, h4, h5⟩)
        refine I.st.get (t := t) ?_ h2
        rw [hd, put_get, if_neg (fun y => hdt y.1)] at hst
        rw [blank_get, hst, ← h1]; simp [e2]

theorem DInvT.all {fuel : Nat} (I : DInvT X ops Q N κ0 n0 G0 (fuel + 1) κ U pend s ph a G w listed) (hchain : chainT X.P ops N κ0 κ0 = true) (hlt : ∀ i ∈ κ0, i < ops.size) : Region.ready .any ops listed ≠ [] := by
  intro hr
  have hall : ∀ j, j < ops.size → listed.getD j true = true := by
    intro j
    induction j using Nat.strongRecOn with
    | ind j ih =>
      intro hj
      cases hl : listed.getD j true with
      | true => rfl
      | false =>
        exfalso
        have hj0 : j ∈ κ0 := by
          rcases (I.list j hj).1 hl with h | h
          · exact (I.wait j h).1
          · exact I.sub j h
        obtain ⟨p1, q1, o, ho, hf⟩ := factsT_of hchain hj0
        have : j ∈ Region.ready .any ops listed := by
          refine mem_ready.2 ⟨hl, o, ho, fun e he hb => ?_⟩
          have hlt2 := hf.edges _ (edge_mem he hb)
          have h1 := ih _ hlt2 (Nat.lt_trans hlt2 hj)
          have hs : e.on < listed.size := by rw [I.sz]; exact Nat.lt_trans hlt2 hj
          simp [Array.getD_eq_getD_getElem?, hs] at h1 ⊢; exact h1
        rw [hr] at this; cases this
  have hfu := I.fu
  have hne : ∀ j, j ∈ U ∨ j ∈ κ → False := by
    intro j hj
    have hj0 : j ∈ κ0 := by
      rcases hj with h | h
      · exact (I.wait j h).1
      · exact I.sub j h
    have h1 := (I.list j (hlt j hj0)).2 hj
    rw [hall j (hlt j hj0)] at h1; cases h1
  have hU0 : U = [] := List.eq_nil_iff_forall_not_mem.2 fun j hj => hne j (.inl hj)
  have hκ0 : κ = [] := List.eq_nil_iff_forall_not_mem.2 fun j hj => hne j (.inr hj)
  subst hU0; subst hκ0
  simp at hfu

/-- One that waits may be drawn. -/
theorem DInvT.stepU (I : DInvT X ops Q N κ0 n0 G0 (fuel + 1) κ U pend s ph a G w listed) (hchain : chainT X.P ops N κ0 κ0 = true) (hlt : ∀ i ∈ κ0, i < ops.size) {i : Nat} (hi : i ∈ Region.ready .any ops listed) (hu : i ∈ U) {K : Act → World → Prop}
    (ih : ∀ G' a' w', DInvT X ops Q N κ0 n0 G0 fuel κ (U.erase i) pend s ph a' G' w' (listed.setIfInBounds i true) → K a' w') :
    wpOpIn (Fen ρ) 0 X.P ops (Post X n0 G0 Q) i K a w := by
  obtain ⟨hu0, -, o, d, t, W, -⟩ := I.wait i hu
  have hro := I.readsOk hchain hlt hi W.ho hu0
  have hrd := hro.2.2 W.mv
  have hwt : wantedP ops (blank (dstsOf ops U) s) o = some t := by rw [blank_wanted hrd]; exact W.wt
  unfold wpOpIn
  simp only [W.ho]
  rw [wanted_ok I.st hwt]
  cases t with
  | true =>
    simp only [if_true]
    have hy := W.yes rfl
    have hy' : popO X.P (blank (dstsOf ops U) s).ev ph o.op = some (s.tm.getD d .undef, ph) := by
      rw [← hy]
      exact popO_congr fun x hx => blank_ev fun t e => hrd t (operands_reads (e ▸ hx))
    refine opVc_ok (K := fun v ph' => v = s.tm.getD d .undef ∧ ph' = ph) I.n I.rel I.st (opVc_of_pop W.mv hy' ⟨rfl, rfl⟩) I.g ?_
    rintro v ph' G' w' a' hn' hle hr hs' ⟨rfl, rfl⟩
    rw [W.hd] at hs'
    exact ih G' a' w' (I.tookU hchain hlt hi hu W.ho W.hd rfl hle hr hs')
  | false =>
    simp only [Bool.false_eq_true, if_false]
    refine ⟨fun _ _ => trivial, ?_⟩
    have hs' := I.st.put o.dst (p := .tuple []) (v := undef) (.tuple [] [] .nil)
    have hno := W.no rfl
    rw [W.hd] at hs' ⊢
    exact ih G _ w (I.tookU hchain hlt hi hu W.ho W.hd hno.symm I.g I.rel hs')

theorem chainT_front {P : Program} {all : List Nat} {i : Nat} {κ : List Nat} (h : chainT P ops N all κ = true) (hi : i ∈ κ) (hb : ∀ j ∈ κ, j ∉ anc ops i) : chainT P ops N all (i :: κ.erase i) = true := by
  obtain ⟨q, hq⟩ := chainT_in h hi
  simp only [chainT, Bool.and_eq_true]
  refine ⟨atT_post hq fun j hj => ?_, chainT_erase h⟩
  have := (chainT_nodup h).mem_erase_iff.1 hj
  exact ⟨this.1, hb j this.2⟩
theorem DInvT.switch (I : DInvT X ops Q N κ0 n0 G0 fuel κ U pend s ph a G w listed) {i : Nat} (hi : i ∈ κ) (hb : ∀ j ∈ κ, j ∉ anc ops i) : DInvT X ops Q N κ0 n0 G0 fuel (i :: κ.erase i) U pend s ph a G w listed := by
  have hnd := chainT_nodup I.chain
  have hmem : ∀ j, j ∈ i :: κ.erase i ↔ j ∈ κ := fun j => (List.perm_cons_erase hi).mem_iff.symm
  have hlen : (i :: κ.erase i).length = κ.length := (List.perm_cons_erase hi).length_eq.symm
  refine ⟨?_, fun u hu => ?_, fun j hj => I.sub j ((hmem j).1 hj), fun j hj => ?_, I.nd, fun u hu h => I.dis u hu ((hmem u).1 h), by rw [hlen]; exact I.fu, I.sz, I.done, I.lenN, I.n, I.g, I.rel, I.st⟩
  · exact chainT_front I.chain hi hb
  · obtain ⟨h1, h2, h3⟩ := I.wait u hu
    exact ⟨h1, fun j hj => h2 j ((hmem j).1 hj), h3⟩
  · rw [I.list j hj, hmem]

theorem rdy_some {P : Program} {κ : List Nat} {i : Nat} (h : rdy P ops κ = some i) : i ∈ κ ∧ (∃ o, ops[i]? = some o ∧ movable P o.op = true) ∧ ∀ j ∈ κ, j ∉ anc ops i := by
  unfold rdy at h
  have h1 := List.find?_some h
  have h2 := List.mem_of_find?_eq_some h
  simp only [Bool.and_eq_true] at h1
  refine ⟨h2, ?_, fun j hj => by simpa using List.all_eq_true.1 h1.2 j hj⟩
  split at h1
  · rename_i o e; exact ⟨o, e, h1.1⟩
  · cases h1.1

theorem drawT_sim (hchain : chainT X.P ops N κ0 κ0 = true) (hlt : ∀ i ∈ κ0, i < ops.size) (hall : ∀ i, i < ops.size → i ∈ κ0) :
    ∀ (fuel m : Nat) (κ U pend : List Nat) (s : PSt) (ph : PH) (a : Act) (G : Ghost) (w : World) (listed : Array Bool), DInvT X ops Q N κ0 n0 G0 fuel κ U pend s ph a G w listed → vcE X ops Q m pend κ s ph →
      wpAnyIn (Fen ρ) 0 X.P .any ops (Post X n0 G0 Q) fuel listed a w := by
  intro fuel
  induction fuel with
  | zero =>
    intro m κ U pend s ph a G w listed I hv
    have hfu := I.fu
    have hU0 : U = [] := List.length_eq_zero_iff.1 (by omega)
    have hκ0 : κ = [] := List.length_eq_zero_iff.1 (by omega)
    subst hU0; subst hκ0
    have hv' : Q .normal s ph := by
      cases m with
      | zero => exact hv.2
      | succ m => exact hv.1 rfl
    refine ⟨?_, G, s, ph, I.g, I.rel, ?_, hv'⟩
    · apply List.eq_nil_iff_forall_not_mem.2
      intro j hj
      obtain ⟨h1, o, ho, -⟩ := mem_ready.1 hj
      have := (I.list j (Array.getElem?_eq_some_iff.1 ho).1).1 h1
      simp at this
    · have := I.st; rw [blank_nil] at this; exact this
  | succ fuel ih =>
    intro m
    induction m with
    | zero =>
      intro κ U pend s ph a G w listed I hv
      have hv0 := hv
      obtain ⟨rfl, -⟩ := hv
      refine ⟨fun h => absurd h (I.all hchain hlt), fun i hi => ?_⟩
      have hil : i ∈ U := by
        obtain ⟨h1, o, ho, -⟩ := mem_ready.1 hi
        have := (I.list i (Array.getElem?_eq_some_iff.1 ho).1).1 h1
        simpa using this
      exact I.stepU hchain hlt hi hil fun G' a' w' I' => ih 0 _ _ _ _ _ _ _ _ _ I' hv0
    | succ m ihm =>
      intro κ U pend s ph a G w listed I hv
      have hv0 := hv
      unfold vcE at hv
      cases hr : rdy X.P ops κ with
      | some i =>
        rw [hr] at hv
        simp only at hv
        obtain ⟨hiκ, ⟨o, ho, hm⟩, hb⟩ := rdy_some hr
        rw [ho] at hv
        simp only at hv
        have I2 := I.switch hiκ hb
        have hchain' := I2.chain
        simp only [chainT, Bool.and_eq_true] at hchain'
        obtain ⟨o', ho', hf⟩ := atT_facts hchain'.1
        rw [ho] at ho'; cases ho'
        cases hw : wantedP ops s o with
        | none => rw [hw] at hv; exact hv.elim
        | some t =>
          rw [hw] at hv
          simp only at hv
          obtain ⟨d, hd⟩ : ∃ d, o.dst = some d := by
            cases hd : o.dst with
            | some d => exact ⟨d, rfl⟩
            | none => have := hf.dst hd; rw [hm] at this; cases this
          cases t with
          | true =>
            obtain ⟨v, hy, hv'⟩ := hv.1 rfl
            exact ihm _ _ _ _ _ _ _ _ _ (I2.ahead hchain ho hd hm hw (fun _ => hy) (fun h => by cases h) (fun u hu => List.mem_cons_of_mem _ hu) (fun _ => by simp)) hv'
          | false =>
            exact ihm _ _ _ _ _ _ _ _ _ (I2.ahead hchain ho hd hm hw (fun h => by cases h) (fun _ => rfl) (fun u hu => hu) (fun h => by cases h)) (hv.2 rfl)
      | none =>
        rw [hr] at hv
        simp only at hv
        refine ⟨fun h => absurd h (I.all hchain hlt), fun i hi => ?_⟩
        obtain ⟨h1, o, ho, -⟩ := mem_ready.1 hi
        have hil := (I.list i (Array.getElem?_eq_some_iff.1 ho).1).1 h1
        rcases hil with hil | hil
        · exact I.stepU hchain hlt hi hil fun G' a' w' I' => ih (m + 1) _ _ _ _ _ _ _ _ _ I' hv0
        · have hb : ∀ j ∈ κ, j ∉ anc ops i := fun j hj => I.notAnc hlt hi (.inr hj)
          have hmf : movable X.P o.op = false := by
            cases hmm : movable X.P o.op with
            | false => rfl
            | true =>
              exfalso
              have h5 := List.find?_eq_none.1 hr i hil
              refine h5 ?_
              simp only [ho, hmm, Bool.true_and]
              exact List.all_eq_true.2 fun j hj => by simpa using hb j hj
          have hal : i ∈ alts X.P ops κ := List.mem_filter.2 ⟨hil, by
            simp only [ho, hmf, Bool.not_false, Bool.true_and]
            exact List.all_eq_true.2 fun j hj => by simpa using hb j hj⟩
          have hv := hv.2 i hal
          simp only [vcF, ho] at hv
          have I2 := I.switch hil hb
          have hk0 : i ∈ κ0 := I.sub i hil
          have hkU : i ∉ U := fun h => I.dis i h hil
          cases hw : wantedP ops s o with
          | none => rw [hw] at hv; exact hv.elim
          | some t =>
            rw [hw] at hv
            simp only at hv
            have hro := I.readsOk hchain hlt hi ho hk0
            have hrd : ∀ t ∈ readsOf ops o, t ∉ dstsOf ops U := fun t ht => hro.2.1 hkU t (List.mem_append_right _ ht)
            have hwt : wantedP ops (blank (dstsOf ops U) s) o = some t := by rw [blank_wanted hrd]; exact hw
            have hpd : ∀ u ∈ U, u ∈ pend → u ∈ pend.filter fun j => !(anc ops i).contains j := by
              intro u hu hp
              rw [List.mem_filter]
              refine ⟨hp, ?_⟩
              simpa using I.notAnc hlt hi (.inl hu)
            unfold wpOpIn
            simp only [ho]
            rw [wanted_ok I.st hwt]
            cases t with
            | true =>
              simp only [if_true]
              have hv := hv.1 rfl
              rw [opVc_congr (s' := blank (dstsOf ops U) s) (fun x hx => (blank_ev fun t e => hrd t (operands_reads (e ▸ hx))).symm)] at hv
              refine opVc_ok I.n I.rel I.st hv I.g ?_
              rintro v ph' G' w' a' hn' hle hr hs' ⟨hre, hv'⟩
              refine ih m _ _ _ _ _ _ _ _ _ (I2.tookK hchain hlt hi ho hn' hle hr hs' hpd ?_) hv'
              intro u hu p d hp hd hpe _ _ _ _
              exact recheck_mem hp hd hre (hpd u hu hpe)
            | false =>
              simp only [Bool.false_eq_true, if_false]
              refine ⟨fun _ _ => trivial, ?_⟩
              have hs' := I.st.put o.dst (p := .tuple []) (v := undef) (.tuple [] [] .nil)
              refine ih m _ _ _ _ _ _ _ _ _ (I2.tookK hchain hlt hi ho I.n I.g I.rel hs' hpd ?_) (hv.2 rfl)
              intro u hu p d hp hd _ _ hy hdk hrr
              have hdd : o.dst ≠ some d := by
                intro e
                exact hdk (mem_dstsOf.2 ⟨i, o, by simp, ho, e⟩)
              have hg : (s.put o.dst (.tuple [])).tm.getD d .undef = s.tm.getD d .undef := by
                cases e : o.dst with
                | none => rfl
                | some x => exact put_getD (fun y => hdd (by rw [e, y]))
              rw [hg, ← hy]
              exact popO_congr fun x hx => put_ev fun t e => hrr t (operands_reads (e ▸ hx))

def drawOkT (P : Program) (ops : Array Oper) (N : Nat) (κ : List Nat) : Bool :=
  κ.length == ops.size && (List.range ops.size).all (fun i => κ.contains i) && κ.all (fun i => decide (i < ops.size)) && chainT P ops N κ κ

theorem pwp_drawT0 {id m : Nat} (hm : X.P.follows .mixedOrders = true) (hok : drawOkT X.P ops N κ0 = true) (hN : N ≤ s.tm.length) (h : vcE X ops Q m [] κ0 s ph) : PWp X ρ n0 (.region id ops true) Q s ph := by
  unfold drawOkT at hok
  simp only [Bool.and_eq_true, beq_iff_eq] at hok
  obtain ⟨⟨⟨hlen, hcov⟩, hlt⟩, hchain⟩ := hok
  have hlt' : ∀ i ∈ κ0, i < ops.size := fun i hi => by simpa using List.all_eq_true.1 hlt i hi
  have hall : ∀ i, i < ops.size → i ∈ κ0 := fun i hi => by simpa using List.all_eq_true.1 hcov i (List.mem_range.2 hi)
  intro hn G w a hr hs
  refine wpIn_region_any hm ?_
  refine drawT_sim hchain hlt' hall ops.size m κ0 [] [] s ph a G _ _ ?_ h
  refine ⟨hchain, by simp, fun i h => h, ?_, List.nodup_nil, by simp, by simp [hlen], by simp, ?_, hN, hn, LeN.refl _ _, hr.drew, by rw [blank_nil]; exact hs⟩
  · intro j hj
    simp [Array.getD_eq_getD_getElem?, hj, hall j hj]
  · intro i o ho hl
    have hi : i < ops.size := (Array.getElem?_eq_some_iff.1 ho).1
    simp [Array.getD_eq_getD_getElem?, hi] at hl
end sim
end Pv
