/- Part of the proof: the layer of pure values, or walks through functions (PvDraw). -/
import Derived.Test.YtjomgffpkdcanaaGreatPvRange
import Derived.OrdersIn
set_option linter.all false
namespace Pv
open Go Go.RowKit
variable {X : Ctx} {G : Ghost} {ph : PH} {w : World} {ρ : Option Nat} {n0 : Nat} {Q : Exit → PSt → PH → Prop}

/-! ### A region whose order is open -/
/-- May it be carried out at another time, as long as what it reads is as it was? -/
def movable (P : Program) : Op → Bool
  | .move _ | .pick .. | .build .. | .load .. | .nilCheck _ | .binOp .. | .unOp .. | .sliceToArrayPointer .. | .makeFunc .. | .slice .. | .fieldAddr .. | .field .. | .indexAddr .. | .index .. | .extract .. => true
  | .convert _ d _ => match kP P d with | some (.sl _) => false | none => false | _ => true
  | .call { callee := .builtin .len, .. } => true
  | .call { callee := .builtin .min, .. } => true
  | .call { callee := .builtin .max, .. } => true
  | _ => false

def tmpsOf (l : List Operand) : List Tmp := l.filterMap fun | .tmp t => some t | _ => none

/-- What an operation reads. -/
def readsOf (ops : Array Oper) (o : Oper) : List Tmp :=
  tmpsOf o.op.operands.toList ++ (match o.guard with | some (j, _) => ((ops[j]?).bind (·.dst)).toList | none => [])

def namesOf (ops : Array Oper) (o : Oper) : List Tmp := o.dst.toList ++ readsOf ops o

def edgesOf (o : Oper) : List Nat := (o.after.toList.filter (Region.binds .any)).map (·.on)

/-- All that stands ahead of an operation, whatever the order. -/
def clo (ops : Array Oper) : Nat → Nat → List Nat
  | 0, _ => []
  | n + 1, i => match ops[i]? with
    | some o => (edgesOf o).flatMap fun j => j :: clo ops n j
    | none => []

def anc (ops : Array Oper) (i : Nat) : List Nat := clo ops ops.size i

/-- Of one operation at its place: behind one that may not move stands only what must; nothing that stands ahead of it comes behind; its slot. -/
def atOk (P : Program) (ops : Array Oper) (N : Nat) (all pre post : List Nat) (i : Nat) : Bool :=
  match ops[i]? with
  | none => false
  | some o =>
    (edgesOf o).all (fun j => decide (j < i)) &&
    pre.all (fun j => match ops[j]? with
      | none => false
      | some p => movable P p.op || (anc ops i).contains j) &&
    post.all (fun j => j != i && !(anc ops i).contains j) &&
    (match o.dst with
      | none => !movable P o.op
      | some d => decide (d < N) && (!movable P o.op || !(readsOf ops o).contains d) &&
        all.all (fun j => j == i || match ops[j]? with
          | none => false
          | some p => !(namesOf ops p).contains d || (anc ops j).contains i || (!movable P o.op && (anc ops i).contains j)))

def chainOk (P : Program) (ops : Array Oper) (N : Nat) (all : List Nat) : List Nat → List Nat → Bool
  | _, [] => true
  | pre, i :: κ => atOk P ops N all pre κ i && chainOk P ops N all (pre ++ [i]) κ

/-- The order in which the walk goes: whatever may move stands ahead of each that may not, where it can. -/
def drawOk (P : Program) (ops : Array Oper) (N : Nat) (κ : List Nat) : Bool :=
  κ.length == ops.size && (List.range ops.size).all (fun i => κ.contains i) && κ.all (fun i => decide (i < ops.size)) && chainOk P ops N κ [] κ

/-- What may move, again, behind one that may not. -/
def recheck (X : Ctx) (ops : Array Oper) (s : PSt) (ph : PH) : List Nat → Prop
  | [] => True
  | i :: is => (match ops[i]? with
    | some o => (match o.dst with
      | some d => popO X.P s.ev ph o.op = some (s.tm.getD d .undef, ph)
      | none => False)
    | none => False) ∧ recheck X ops s ph is

def vcD (X : Ctx) (ops : Array Oper) (Q : Exit → PSt → PH → Prop) : List Nat → List Nat → PSt → PH → Prop
  | _, [], s, ph => Q .normal s ph
  | pend, i :: κ, s, ph => match ops[i]? with
    | none => False
    | some o => match wantedP ops s o with
      | none => False
      | some t =>
        if movable X.P o.op = true then
          (t = true → ∃ v, popO X.P s.ev ph o.op = some (v, ph) ∧ vcD X ops Q (i :: pend) κ (s.put o.dst v) ph) ∧
          (t = false → vcD X ops Q pend κ (s.put o.dst (.tuple [])) ph)
        else
          (t = true → opVc X s ph o.op fun v ph' => recheck X ops (s.put o.dst v) ph' (pend.filter fun j => !(anc ops i).contains j) ∧ vcD X ops Q (pend.filter fun j => !(anc ops i).contains j) κ (s.put o.dst v) ph') ∧
          (t = false → vcD X ops Q (pend.filter fun j => !(anc ops i).contains j) κ (s.put o.dst (.tuple [])) ph)

/-! ### Operands alone matter -/
theorem popO_congr {P : Program} {ev ev' : Operand → PV} {ph : PH} {op : Op} (h : ∀ x ∈ op.operands.toList, ev x = ev' x) : popO P ev ph op = popO P ev' ph op := by
  have hm : ∀ (l : List Operand), (∀ x ∈ l, ev x = ev' x) → l.map ev = l.map ev' := fun l hl => List.map_congr_left hl
  have hp : ∀ (l : List (Nat × Operand)), (∀ x ∈ l.map (·.2), ev x = ev' x) → (l.map fun x => (x.1, ev x.2)) = l.map fun x => (x.1, ev' x.2) := by
    intro l hl
    apply List.map_congr_left
    intro x hx
    rw [hl x.2 (List.mem_map_of_mem hx)]
  cases op <;> simp only [Op.operands] at h <;> (try rfl)
  case move x => simp only [popO, h x (by simp)]
  case assign x => simp only [popO, h x (by simp)]
  case pick c a b => simp only [popO, h c (by simp), h a (by simp), h b (by simp)]
  case box e x => simp only [popO, h x (by simp)]
  case build t parts => simp only [popO]; rw [hp _ (by simpa using h)]
  case buildSlice t n parts => simp only [popO]; rw [hp _ (by simpa using h)]
  case load t a => simp only [popO, h a (by simp)]
  case store t a x => simp only [popO, h a (by simp), h x (by simp)]
  case nilCheck x => simp only [popO, h x (by simp)]
  case binOp o t x y u => simp only [popO, h x (by simp), h y (by simp)]
  case unOp o t x => simp only [popO, h x (by simp)]
  case convert s d x => simp only [popO, h x (by simp)]
  case sliceToArrayPointer t x => simp only [popO, h x (by simp)]
  case makeFunc fn first caps =>
    cases fn <;> (try rfl)
    simp only [popO]
    rw [hm _ (fun x hx => h x (by simp [hx])), hm _ (fun x hx => h x (by simp [hx]))]
  case makeSlice t l c => simp only [popO, h l (by simp), h c (by simp)]
  case slice t x lo hi mx =>
    have ho : ∀ o : Option Operand, (∀ y ∈ o.toList, ev y = ev' y) → o.map ev = o.map ev' := by
      intro o ho; cases o with
      | none => rfl
      | some y => simp [ho y (by simp)]
    simp only [popO, h x (by simp)]
    rw [ho lo (fun y hy => h y (by simp at hy; simp [hy])), ho hi (fun y hy => h y (by simp at hy; simp [hy])), ho mx (fun y hy => h y (by simp at hy; simp [hy]))]
  case fieldAddr t x f => simp only [popO, h x (by simp)]
  case field t x f => simp only [popO, h x (by simp)]
  case indexAddr t x i => simp only [popO, h x (by simp), h i (by simp)]
  case index t x i => simp only [popO, h x (by simp), h i (by simp)]
  case extract x i => simp only [popO, h x (by simp)]
  case call c =>
    obtain ⟨callee, args, ts⟩ := c
    cases callee with
    | builtin b =>
      simp only [popO]
      rw [hm _ (fun x hx => h x (by simp [Call.operands, hx]))]
    | value f => rfl
    | invoke r m => rfl

theorem opVc_congr {s s' : PSt} {op : Op} {K : PV → PH → Prop} (h : ∀ x ∈ op.operands.toList, s.ev x = s'.ev x) : opVc X s ph op K = opVc X s' ph op K := by
  unfold opVc
  split
  · rename_i f args ats
    simp only [Op.operands, Call.operands] at h
    rw [h f (by simp), show args.toList.map s.ev = args.toList.map s'.ev from List.map_congr_left fun x hx => h x (by simp [hx])]
  · rw [popO_congr h]

/-! ### Slots that have not been written yet -/
def blankL (D : List Tmp) : Nat → List PV → List PV
  | _, [] => []
  | k, v :: vs => (if k ∈ D then .undef else v) :: blankL D (k + 1) vs

theorem blankL_get (D : List Tmp) : ∀ (l : List PV) (k t : Nat), (blankL D k l)[t]? = (l[t]?).map fun v => if k + t ∈ D then .undef else v
  | [], k, t => by simp [blankL]
  | v :: vs, k, 0 => by simp [blankL]
  | v :: vs, k, t + 1 => by
    simp only [blankL, List.getElem?_cons_succ]
    rw [blankL_get D vs (k + 1) t]
    have : k + 1 + t = k + (t + 1) := by omega
    rw [this]

@[simp] theorem blankL_len (D : List Tmp) (k : Nat) (l : List PV) : (blankL D k l).length = l.length := by
  induction l generalizing k with
  | nil => rfl
  | cons v vs ih => simp [blankL, ih]

def blank (D : List Tmp) (s : PSt) : PSt := { s with tm := blankL D 0 s.tm }

theorem blank_get (D : List Tmp) (s : PSt) (t : Nat) : (blank D s).tm[t]? = (s.tm[t]?).map fun v => if t ∈ D then .undef else v := by
  simp only [blank, blankL_get, Nat.zero_add]

theorem blank_ev {D : List Tmp} {s : PSt} {x : Operand} (h : ∀ t, x = .tmp t → t ∉ D) : (blank D s).ev x = s.ev x := by
  cases x with
  | tmp t =>
    simp only [PSt.ev, List.getD_eq_getElem?_getD, blank_get]
    cases s.tm[t]? with
    | none => rfl
    | some v => simp [h t rfl]
  | _ => rfl

theorem blank_wanted {D : List Tmp} {ops : Array Oper} {s : PSt} {o : Oper} (h : ∀ t ∈ readsOf ops o, t ∉ D) : wantedP ops (blank D s) o = wantedP ops s o := by
  unfold wantedP
  cases hg : o.guard with
  | none => rfl
  | some g =>
    obtain ⟨j, want⟩ := g
    simp only
    cases hd : (ops[j]?).bind (·.dst) with
    | none => rfl
    | some d =>
      have hd' : d ∉ D := h d (by simp [readsOf, hg, hd])
      simp only [blank_get]
      cases s.tm[d]? with
      | none => rfl
      | some v => simp [hd']

theorem mem_tmpsOf {l : List Operand} {t : Tmp} (h : Operand.tmp t ∈ l) : t ∈ tmpsOf l := by
  unfold tmpsOf; rw [List.mem_filterMap]; exact ⟨_, h, rfl⟩

/-- A state in which one slot more or less is told. -/
theorem RSt.of_get {s : PSt} {a : Act} (hl : s.tm.length = a.tmps.size) (hm : a.defers = s.ms.map markOf) (h : ∀ (t : Nat) (p : PV) (v : Value), s.tm[t]? = some p → a.tmps[t]? = some v → RV G p v) : RSt G s a :=
  ⟨.of_get (by simpa using hl) fun j p v h1 h2 => h j p v h1 (by simpa using h2), hm⟩

theorem RSt.get {s : PSt} {a : Act} (h : RSt G s a) {t : Nat} {p : PV} {v : Value} (h1 : s.tm[t]? = some p) (h2 : a.tmps[t]? = some v) : RV G p v := by
  obtain ⟨u, e, r⟩ := h.tm.get t p h1
  rw [Array.getElem?_toList, h2] at e; cases e; exact r

theorem RSt.size {s : PSt} {a : Act} (h : RSt G s a) : s.tm.length = a.tmps.size := by simpa using h.tm.length

def dstsOf (ops : Array Oper) (U : List Nat) : List Tmp := U.filterMap fun i => (ops[i]?).bind (·.dst)

theorem mem_dstsOf {ops : Array Oper} {U : List Nat} {t : Tmp} : t ∈ dstsOf ops U ↔ ∃ i o, i ∈ U ∧ ops[i]? = some o ∧ o.dst = some t := by
  unfold dstsOf
  rw [List.mem_filterMap]
  constructor
  · rintro ⟨i, hi, h⟩
    cases ho : ops[i]? with
    | none => rw [ho] at h; cases h
    | some o => rw [ho] at h; exact ⟨i, o, hi, ho, h⟩
  · rintro ⟨i, o, hi, ho, h⟩
    exact ⟨i, hi, by rw [ho]; exact h⟩

/-! ### What stands ahead is done -/
def Done (ops : Array Oper) (listed : Array Bool) : Prop := ∀ i o, ops[i]? = some o → listed.getD i true = true → ∀ j ∈ edgesOf o, listed.getD j false = true

theorem clo_done {ops : Array Oper} {listed : Array Bool} (hd : Done ops listed) : ∀ (n i : Nat), (∀ o, ops[i]? = some o → ∀ j ∈ edgesOf o, listed.getD j false = true) → ∀ j ∈ clo ops n i, listed.getD j false = true
  | 0, i, _, j, hj => by simp [clo] at hj
  | n + 1, i, h, j, hj => by
    unfold clo at hj
    split at hj
    · rename_i o ho
      rw [List.mem_flatMap] at hj
      obtain ⟨e, he, hj⟩ := hj
      have hel := h o ho e he
      rcases List.mem_cons.1 hj with rfl | hj
      · exact hel
      · refine clo_done hd n e ?_ j hj
        intro o' ho' j' hj'
        refine hd e o' ho' ?_ j' hj'
        by_cases hlt : e < listed.size
        · simp [Array.getD_eq_getD_getElem?, hlt] at hel ⊢; exact hel
        · simp [Array.getD_eq_getD_getElem?, hlt] at hel
    · simp at hj

theorem edge_mem {o : Oper} {e : Edge} (he : e ∈ o.after) (hb : Region.binds .any e = true) : e.on ∈ edgesOf o := by
  unfold edgesOf
  rw [List.mem_map]
  exact ⟨e, List.mem_filter.2 ⟨by simpa using he, hb⟩, rfl⟩

theorem mem_edges {o : Oper} {j : Nat} (h : j ∈ edgesOf o) : ∃ e ∈ o.after, Region.binds .any e = true ∧ e.on = j := by
  unfold edgesOf at h
  rw [List.mem_map] at h
  obtain ⟨e, he, rfl⟩ := h
  obtain ⟨h1, h2⟩ := List.mem_filter.1 he
  exact ⟨e, by simpa using h1, h2, rfl⟩

/-- One that may move, and has not been carried out: what the walk knows of it. -/
structure Wait (X : Ctx) (ops : Array Oper) (s : PSt) (ph : PH) (i : Nat) (o : Oper) (d : Tmp) (t : Bool) : Prop where
  ho : ops[i]? = some o
  mv : movable X.P o.op = true
  hd : o.dst = some d
  wt : wantedP ops s o = some t
  yes : t = true → popO X.P s.ev ph o.op = some (s.tm.getD d .undef, ph)
  no : t = false → s.tm.getD d .undef = .tuple []

theorem chain_at {P : Program} {ops : Array Oper} {N : Nat} {all : List Nat} : ∀ {κ pre : List Nat} {i : Nat}, chainOk P ops N all pre κ = true → i ∈ κ → ∃ p q, κ = p ++ i :: q ∧ atOk P ops N all (pre ++ p) q i = true
  | k :: κ, pre, i, h, hi => by
    simp only [chainOk, Bool.and_eq_true] at h
    by_cases e : i = k
    · subst e; exact ⟨[], κ, rfl, by simpa using h.1⟩
    · obtain ⟨p, q, rfl, h2⟩ := chain_at h.2 ((List.mem_cons.1 hi).resolve_left e)
      exact ⟨k :: p, q, rfl, by simpa using h2⟩

theorem chain_nodup {P : Program} {ops : Array Oper} {N : Nat} {all : List Nat} : ∀ {κ pre : List Nat}, chainOk P ops N all pre κ = true → κ.Nodup
  | [], _, _ => List.nodup_nil
  | k :: κ, pre, h => by
    simp only [chainOk, Bool.and_eq_true] at h
    refine List.nodup_cons.2 ⟨fun hk => ?_, chain_nodup h.2⟩
    have h1 := h.1
    unfold atOk at h1
    split at h1
    · cases h1
    · simp only [Bool.and_eq_true] at h1
      have := List.all_eq_true.1 h1.1.2 k hk
      simp at this

structure AtFacts (P : Program) (ops : Array Oper) (N : Nat) (all pre post : List Nat) (i : Nat) (o : Oper) : Prop where
  edges : ∀ j ∈ edgesOf o, j < i
  pre : ∀ j ∈ pre, ∀ p, ops[j]? = some p → movable P p.op = false → j ∈ anc ops i
  post : ∀ j ∈ post, j ∉ anc ops i
  dst : o.dst = none → movable P o.op = false
  lt : ∀ d, o.dst = some d → d < N
  own : ∀ d, o.dst = some d → movable P o.op = true → d ∉ readsOf ops o
  slot : ∀ d, o.dst = some d → ∀ j ∈ all, j ≠ i → ∀ p, ops[j]? = some p → d ∈ namesOf ops p → i ∈ anc ops j ∨ (movable P o.op = false ∧ j ∈ anc ops i)

theorem at_facts {P : Program} {ops : Array Oper} {N : Nat} {all pre post : List Nat} {i : Nat} (h : atOk P ops N all pre post i = true) : ∃ o, ops[i]? = some o ∧ AtFacts P ops N all pre post i o := by
  unfold atOk at h
  split at h
  · cases h
  · rename_i o ho
    simp only [Bool.and_eq_true] at h
    obtain ⟨⟨⟨h1, h2⟩, h3⟩, h4⟩ := h
    refine ⟨o, ho, ?_, ?_, ?_, ?_, ?_, ?_, ?_⟩
    · intro j hj; simpa using List.all_eq_true.1 h1 j hj
    · intro j hj p hp hm
      have := List.all_eq_true.1 h2 j hj
      rw [hp] at this
      simpa [hm] using this
    · intro j hj
      have := List.all_eq_true.1 h3 j hj
      simp only [Bool.and_eq_true, Bool.not_eq_true', List.contains_eq_mem, decide_eq_false_iff_not] at this
      exact this.2
    · intro hd; rw [hd] at h4; simpa using h4
    · intro d hd; rw [hd] at h4; simp only [Bool.and_eq_true, decide_eq_true_eq] at h4; exact h4.1.1
    · intro d hd hm; rw [hd] at h4; simp only [Bool.and_eq_true, hm, Bool.not_true, Bool.false_or, Bool.not_eq_true', List.contains_eq_mem, decide_eq_false_iff_not] at h4; exact h4.1.2
    · intro d hd j hj hne p hp hn
      rw [hd] at h4
      simp only [Bool.and_eq_true] at h4
      have := List.all_eq_true.1 h4.2 j hj
      rw [hp] at this
      simp only [Bool.or_eq_true, beq_iff_eq, Bool.not_eq_true', List.contains_eq_mem, decide_eq_false_iff_not, decide_eq_true_eq, Bool.and_eq_true] at this
      rcases this with h | (h | h) | h
      · exact absurd h hne
      · exact absurd hn h
      · exact .inl h
      · exact .inr h

theorem recheck_mem {ops : Array Oper} {s : PSt} {i : Nat} {o : Oper} {d : Tmp} (ho : ops[i]? = some o) (hd : o.dst = some d) : ∀ {is : List Nat}, recheck X ops s ph is → i ∈ is → popO X.P s.ev ph o.op = some (s.tm.getD d .undef, ph)
  | k :: is, h, hi => by
    unfold recheck at h
    rcases List.mem_cons.1 hi with rfl | hi
    · have := h.1; rw [ho] at this; simp only [hd] at this; exact this
    · exact recheck_mem ho hd h.2 hi

theorem put_get {s : PSt} {d t : Tmp} {v : PV} : (s.put (some d) v).tm[t]? = if d = t ∧ t < s.tm.length then some v else s.tm[t]? := by
  simp only [PSt.put, List.getElem?_set]
  by_cases h : d = t
  · subst h
    by_cases h2 : d < s.tm.length
    · simp [h2]
    · have h2' : s.tm.length ≤ d := Nat.le_of_not_lt h2
      simp [h2, List.getElem?_eq_none h2']
  · simp [h]

theorem put_getD {s : PSt} {d t : Tmp} {v : PV} (h : d ≠ t) : (s.put (some d) v).tm.getD t .undef = s.tm.getD t .undef := by
  simp only [List.getD_eq_getElem?_getD, put_get]
  rw [if_neg (by intro e; exact h e.1)]

theorem put_ev {s : PSt} {d : Option Tmp} {v : PV} {x : Operand} (h : ∀ t, x = .tmp t → d ≠ some t) : (s.put d v).ev x = s.ev x := by
  cases d with
  | none => rfl
  | some d =>
    cases x with
    | tmp t => simp only [PSt.ev]; exact put_getD (fun e => h t rfl (by rw [e]))
    | _ => rfl

theorem put_wanted {ops : Array Oper} {s : PSt} {d : Option Tmp} {v : PV} {o : Oper} (h : ∀ t ∈ readsOf ops o, d ≠ some t) : wantedP ops (s.put d v) o = wantedP ops s o := by
  cases d with
  | none => rfl
  | some d =>
    unfold wantedP
    cases hg : o.guard with
    | none => rfl
    | some g =>
      obtain ⟨j, want⟩ := g
      simp only
      cases hd : (ops[j]?).bind (·.dst) with
      | none => rfl
      | some e =>
        have he : d ≠ e := fun e' => h e (by simp [readsOf, hg, hd]) (by rw [e'])
        simp only [put_get]
        rw [if_neg (by intro x; exact he x.1)]

@[simp] theorem put_len {s : PSt} {d : Option Tmp} {v : PV} : (s.put d v).tm.length = s.tm.length := by cases d <;> simp [PSt.put]
@[simp] theorem put_ms {s : PSt} {d : Option Tmp} {v : PV} : (s.put d v).ms = s.ms := by cases d <;> simp [PSt.put]

theorem operands_reads {ops : Array Oper} {o : Oper} {t : Tmp} (h : Operand.tmp t ∈ o.op.operands.toList) : t ∈ readsOf ops o := List.mem_append_left _ (mem_tmpsOf h)

theorem opVc_of_pop {s : PSt} {op : Op} {v : PV} {ph' : PH} {K : PV → PH → Prop} (hm : movable X.P op = true) (h : popO X.P s.ev ph op = some (v, ph')) (hk : K v ph') : opVc X s ph op K := by
  unfold opVc
  split
  · cases hm
  · rw [h]; exact hk

theorem setIf_getD {listed : Array Bool} {i j : Nat} {b : Bool} (hi : i < listed.size) : (listed.setIfInBounds i true).getD j b = if j = i then true else listed.getD j b := by
  simp only [Array.getD_eq_getD_getElem?, Array.getElem?_setIfInBounds]
  by_cases h : i = j
  · subst h; simp [hi]
  · rw [if_neg h, if_neg (fun e => h e.symm)]

structure DInv (X : Ctx) (ops : Array Oper) (Q : Exit → PSt → PH → Prop) (N : Nat) (κ0 : List Nat) (n0 : Nat) (G0 : Ghost) (fuel : Nat) (κ pre U pend : List Nat) (s : PSt) (ph : PH) (a : Act) (G : Ghost) (w : World) (listed : Array Bool) : Prop where
  chain : chainOk X.P ops N κ0 pre κ = true
  wait : ∀ u ∈ U, u ∈ κ0 ∧ (∀ j ∈ κ, j ∉ anc ops u) ∧ ∃ o d t, Wait X ops s ph u o d t ∧ (t = true → u ∈ pend)
  sub : ∀ i ∈ κ, i ∈ κ0
  list : ∀ j, j < ops.size → (listed.getD j true = false ↔ j ∈ U ∨ j ∈ κ)
  nd : U.Nodup
  dis : ∀ u ∈ U, u ∉ κ
  fu : fuel = U.length + κ.length
  sz : listed.size = ops.size
  done : Done ops listed
  lenN : N ≤ s.tm.length
  vcd : vcD X ops Q pend κ s ph
  n : n0 ≤ ph.n
  g : LeN n0 G0 G
  rel : Rel X G ph w
  st : RSt G (blank (dstsOf ops U) s) a

theorem blank_nil {ops : Array Oper} {s : PSt} : blank (dstsOf ops []) s = s := by
  have : blankL (dstsOf ops []) 0 s.tm = s.tm := by
    apply List.ext_getElem?
    intro t
    rw [blankL_get]
    cases s.tm[t]? <;> simp [dstsOf]
  unfold blank; rw [this]

theorem blank_put {D : List Tmp} {s : PSt} {d : Option Tmp} {v : PV} (h : ∀ e, d = some e → e ∉ D) : blank D (s.put d v) = (blank D s).put d v := by
  cases d with
  | none => rfl
  | some d =>
    have hd := h d rfl
    have : (blank D (s.put (some d) v)).tm = ((blank D s).put (some d) v).tm := by
      apply List.ext_getElem?
      intro t
      rw [blank_get, put_get, put_get, blank_get]
      have hl : (blank D s).tm.length = s.tm.length := by simp [blank]
      rw [hl]
      by_cases e : d = t ∧ t < s.tm.length
      · rw [if_pos e, if_pos e]; simp [← e.1, hd]
      · rw [if_neg e, if_neg e]
    unfold blank PSt.put at *
    simp only at this ⊢
    rw [this]

section sim
variable {ops : Array Oper} {N : Nat} {κ0 : List Nat} {G0 : Ghost}

theorem facts_of {P : Program} (hchain : chainOk P ops N κ0 [] κ0 = true) {i : Nat} (hi : i ∈ κ0) : ∃ p q o, ops[i]? = some o ∧ AtFacts P ops N κ0 p q i o := by
  obtain ⟨p, q, -, h⟩ := chain_at hchain hi
  obtain ⟨o, ho, hf⟩ := at_facts h
  exact ⟨_, _, o, ho, hf⟩

variable {fuel : Nat} {κ pre U pend : List Nat} {s : PSt} {a : Act} {listed : Array Bool}

/-- One that may come next has all behind it that stands ahead of it. -/
theorem DInv.ancDone (I : DInv X ops Q N κ0 n0 G0 fuel κ pre U pend s ph a G w listed) {i : Nat} (hi : i ∈ Region.ready .any ops listed) : ∀ j ∈ anc ops i, listed.getD j false = true := by
  obtain ⟨-, o, ho, he⟩ := mem_ready.1 hi
  refine clo_done I.done _ _ fun o' ho' j hj => ?_
  rw [ho] at ho'; cases ho'
  obtain ⟨e, h1, h2, rfl⟩ := mem_edges hj
  exact he e h1 h2

theorem DInv.notAnc (I : DInv X ops Q N κ0 n0 G0 fuel κ pre U pend s ph a G w listed) (hlt : ∀ i ∈ κ0, i < ops.size) {i u : Nat} (hi : i ∈ Region.ready .any ops listed) (hu : u ∈ U ∨ u ∈ κ) : u ∉ anc ops i := by
  intro h
  have h1 := I.ancDone hi u h
  have hu0 : u ∈ κ0 := by rcases hu with hu | hu; exact (I.wait u hu).1; exact I.sub u hu
  have h2 := (I.list u (hlt u hu0)).2 hu
  have hs : u < listed.size := by rw [I.sz]; exact hlt u hu0
  simp [Array.getD_eq_getD_getElem?, hs] at h1 h2
  rw [h1] at h2; cases h2

/-- What it reads has been written. -/
theorem DInv.readsOk (I : DInv X ops Q N κ0 n0 G0 fuel κ pre U pend s ph a G w listed) (hchain : chainOk X.P ops N κ0 [] κ0 = true) (hlt : ∀ i ∈ κ0, i < ops.size) {i : Nat} {o : Oper} (hi : i ∈ Region.ready .any ops listed) (ho : ops[i]? = some o) (hi0 : i ∈ κ0) :
    (∀ t ∈ namesOf ops o, ∀ u ∈ U, u ≠ i → ∀ p, ops[u]? = some p → p.dst ≠ some t) ∧ (i ∉ U → ∀ t ∈ namesOf ops o, t ∉ dstsOf ops U) ∧ (movable X.P o.op = true → ∀ t ∈ readsOf ops o, t ∉ dstsOf ops U) := by
  have key : ∀ t ∈ namesOf ops o, ∀ u ∈ U, u ≠ i → ∀ p, ops[u]? = some p → p.dst ≠ some t := by
    intro t ht u hu hne p hp hd
    obtain ⟨hu0, -, o', d, b, hw, -⟩ := I.wait u hu
    obtain ⟨p1, q1, o2, ho2, hf⟩ := facts_of hchain hu0
    rw [hp] at ho2; cases ho2
    have hmv : movable X.P p.op = true := by have := hw.ho; rw [hp] at this; cases this; exact hw.mv
    rcases hf.slot t hd i hi0 (fun e => hne e.symm) o ho ht with h | h
    · exact I.notAnc hlt hi (.inl hu) h
    · rw [hmv] at h; cases h.1
  refine ⟨key, fun hn t ht hm => ?_, fun hmv t ht hm => ?_⟩
  · obtain ⟨u, p, hu, hp, hd⟩ := mem_dstsOf.1 hm
    exact key t ht u hu (fun e => hn (e ▸ hu)) p hp hd
  · obtain ⟨u, p, hu, hp, hd⟩ := mem_dstsOf.1 hm
    by_cases e : u = i
    · subst e
      rw [ho] at hp; cases hp
      obtain ⟨p1, q1, o2, ho2, hf⟩ := facts_of hchain hi0
      rw [ho] at ho2; cases ho2
      exact hf.own t hd hmv ht
    · exact key t (List.mem_append_right _ ht) u hu e p hp hd

theorem Done.set (hd : Done ops listed) {i : Nat} (hsz : listed.size = ops.size) (hi : i ∈ Region.ready .any ops listed) : Done ops (listed.setIfInBounds i true) := by
  obtain ⟨-, o, ho, he⟩ := mem_ready.1 hi
  have hlt : i < listed.size := by rw [hsz]; exact (Array.getElem?_eq_some_iff.1 ho).1
  intro k p hp hk j hj
  rw [setIf_getD hlt] at hk ⊢
  split
  · rfl
  · split at hk
    · rename_i e; subst e
      rw [ho] at hp; cases hp
      obtain ⟨e, h1, h2, rfl⟩ := mem_edges hj
      exact he e h1 h2
    · exact hd k p hp hk j hj

/-- One that waited is carried out. -/
theorem DInv.tookU (I : DInv X ops Q N κ0 n0 G0 (fuel + 1) κ pre U pend s ph a G w listed) (hchain : chainOk X.P ops N κ0 [] κ0 = true) (hlt : ∀ i ∈ κ0, i < ops.size) {i : Nat} {o : Oper} {d : Tmp} (hi : i ∈ Region.ready .any ops listed) (hu : i ∈ U) (ho : ops[i]? = some o) (hd : o.dst = some d)
    {G' : Ghost} {a' : Act} {w' : World} {p : PV} (hp : p = s.tm.getD d .undef) (hle : LeN n0 G0 G') (hr : Rel X G' ph w') (hs : RSt G' ((blank (dstsOf ops U) s).put (some d) p) a') :
    DInv X ops Q N κ0 n0 G0 fuel κ pre (U.erase i) pend s ph a' G' w' (listed.setIfInBounds i true) := by
  have hi0 := (I.wait i hu).1
  have hisz : i < listed.size := by rw [I.sz]; exact hlt i hi0
  have hro := I.readsOk hchain hlt hi ho hi0
  have hme : ∀ u, u ∈ U.erase i ↔ u ≠ i ∧ u ∈ U := fun u => I.nd.mem_erase_iff
  refine ⟨I.chain, fun u h => I.wait u ((hme u).1 h).2, I.sub, ?_, I.nd.erase _, fun u h => I.dis u ((hme u).1 h).2, ?_, by simpa using I.sz, I.done.set I.sz hi, I.lenN, I.vcd, I.n, hle, hr, ?_⟩
  · intro j hj
    rw [setIf_getD hisz]
    by_cases e : j = i
    · subst e
      simp only [if_true, Bool.true_eq_false, false_iff, not_or]
      exact ⟨fun h => ((hme j).1 h).1 rfl, I.dis j hu⟩
    · rw [if_neg e, I.list j hj, hme]; simp [e]
  · have := List.length_erase_of_mem hu
    have h0 : 0 < U.length := List.length_pos_of_mem hu
    have := I.fu; omega
  · have hsz := hs.size
    simp only [put_len] at hsz
    refine .of_get (by simpa [blank] using hsz) (by have := hs.ms; rw [put_ms] at this; exact this) fun t q v h1 h2 => ?_
    rw [blank_get] at h1
    refine hs.get (t := t) ?_ h2
    rw [put_get, blank_get]
    have hbl : (blank (dstsOf ops U) s).tm.length = s.tm.length := by simp [blank]
    rw [hbl]
    cases hst : s.tm[t]? with
    | none => rw [hst] at h1; cases h1
    | some x =>
      rw [hst] at h1
      simp only [Option.map_some, Option.some.injEq] at h1
      have htl : t < s.tm.length := (List.getElem?_eq_some_iff.1 hst).1
      by_cases e : d = t
      · subst e
        have hnd : d ∉ dstsOf ops (U.erase i) := by
          intro hm
          obtain ⟨u, o2, hu2, ho2, hd2⟩ := mem_dstsOf.1 hm
          exact hro.1 d (by simp [namesOf, hd]) u ((hme u).1 hu2).2 ((hme u).1 hu2).1 o2 ho2 hd2
        rw [if_neg hnd] at h1
        rw [if_pos ⟨rfl, htl⟩, hp, List.getD_eq_getElem?_getD, hst, ← h1]; rfl
      · rw [if_neg (fun x => e x.1)]
        simp only [Option.map_some, Option.some.injEq]
        rw [← h1]
        have : t ∈ dstsOf ops U ↔ t ∈ dstsOf ops (U.erase i) := by
          rw [mem_dstsOf, mem_dstsOf]
          constructor
          · rintro ⟨u, o2, hu2, ho2, hd2⟩
            refine ⟨u, o2, (hme u).2 ⟨?_, hu2⟩, ho2, hd2⟩
            rintro rfl
            rw [ho] at ho2; cases ho2; rw [hd] at hd2; cases hd2; exact e rfl
          · rintro ⟨u, o2, hu2, ho2, hd2⟩
            exact ⟨u, o2, ((hme u).1 hu2).2, ho2, hd2⟩
        simp only [this]

/-- One that may not move is carried out. -/
theorem DInv.tookK {k : Nat} (I : DInv X ops Q N κ0 n0 G0 (fuel + 1) (k :: κ) pre U pend s ph a G w listed) (hchain : chainOk X.P ops N κ0 [] κ0 = true) (hlt : ∀ i ∈ κ0, i < ops.size) {o : Oper} (hi : k ∈ Region.ready .any ops listed) (ho : ops[k]? = some o)
    {G' : Ghost} {a' : Act} {w' : World} {v : PV} {ph' : PH} {pend' : List Nat} (hn : n0 ≤ ph'.n) (hle : LeN n0 G0 G') (hr : Rel X G' ph' w') (hs : RSt G' ((blank (dstsOf ops U) s).put o.dst v) a')
    (hv : vcD X ops Q pend' κ (s.put o.dst v) ph')
    (hpend : ∀ u ∈ U, u ∈ pend → u ∈ pend') (hre : ∀ u ∈ U, ∀ p d, ops[u]? = some p → p.dst = some d → u ∈ pend → movable X.P p.op = true → (popO X.P s.ev ph p.op = some (s.tm.getD d .undef, ph)) → (d ∉ dstsOf ops [k]) → (∀ t ∈ readsOf ops p, o.dst ≠ some t) → popO X.P (s.put o.dst v).ev ph' p.op = some ((s.put o.dst v).tm.getD d .undef, ph')) :
    DInv X ops Q N κ0 n0 G0 fuel κ (pre ++ [k]) U pend' (s.put o.dst v) ph' a' G' w' (listed.setIfInBounds k true) := by
  have hk0 : k ∈ κ0 := I.sub k (by simp)
  have hksz : k < listed.size := by rw [I.sz]; exact hlt k hk0
  have hkU : k ∉ U := fun h => I.dis k h (by simp)
  have hro := I.readsOk hchain hlt hi ho hk0
  have hchain' := I.chain
  simp only [chainOk, Bool.and_eq_true] at hchain'
  have hnk : k ∉ κ := (List.nodup_cons.1 (chain_nodup I.chain)).1
  obtain ⟨p1, q1, o1, ho1, hf⟩ := facts_of hchain hk0
  rw [ho] at ho1; cases ho1
  -- no waiting one names what was written
  have hnames : ∀ u ∈ U, ∀ p, ops[u]? = some p → ∀ e, o.dst = some e → e ∉ namesOf ops p := by
    intro u hu p hp e he hm
    obtain ⟨hu0, hb, -⟩ := I.wait u hu
    have hne : u ≠ k := fun x => hkU (x ▸ hu)
    rcases hf.slot e he u hu0 hne p hp hm with h | h
    · exact hb k (by simp) h
    · exact I.notAnc hlt hi (.inl hu) h.2
  refine ⟨hchain'.2, ?_, fun j hj => I.sub j (List.mem_cons_of_mem _ hj), ?_, I.nd, fun u hu h => I.dis u hu (List.mem_cons_of_mem _ h), ?_, by simpa using I.sz, I.done.set I.sz hi, by simpa using I.lenN, hv, hn, hle, hr, ?_⟩
  · intro u hu
    obtain ⟨hu0, hb, p, d, t, W, hp⟩ := I.wait u hu
    refine ⟨hu0, fun j hj => hb j (List.mem_cons_of_mem _ hj), p, d, t, ?_, fun h => hpend u hu (hp h)⟩
    have hrd : ∀ t ∈ readsOf ops p, o.dst ≠ some t := fun t ht e => hnames u hu p W.ho t e (List.mem_append_right _ ht)
    have hdd : o.dst ≠ some d := fun e => hnames u hu p W.ho d e (by simp [namesOf, W.hd])
    have hgetD : (s.put o.dst v).tm.getD d .undef = s.tm.getD d .undef := by
      cases e : o.dst with
      | none => rfl
      | some x => exact put_getD (fun y => hdd (by rw [e, y]))
    refine ⟨W.ho, W.mv, W.hd, by rw [put_wanted hrd]; exact W.wt, fun h => ?_, fun h => by rw [hgetD]; exact W.no h⟩
    refine hre u hu p d W.ho W.hd (hp h) W.mv (W.yes h) ?_ hrd
    rw [mem_dstsOf]
    rintro ⟨i, o2, h1, h2, h3⟩
    simp only [List.mem_singleton] at h1; subst h1
    rw [ho] at h2; cases h2
    exact hdd h3
  · intro j hj
    rw [setIf_getD hksz]
    by_cases e : j = k
    · subst e
      simp only [if_true, Bool.true_eq_false, false_iff, not_or]
      exact ⟨hkU, hnk⟩
    · rw [if_neg e, I.list j hj]; simp [e]
  · have := I.fu; simp only [List.length_cons] at this; omega
  · rw [blank_put]
    · exact hs
    · intro e he
      exact hro.2.1 hkU e (by simp [namesOf, he])

/-- The walk is ahead: one that may move waits. -/
theorem DInv.ahead {k : Nat} (I : DInv X ops Q N κ0 n0 G0 fuel (k :: κ) pre U pend s ph a G w listed) (hchain : chainOk X.P ops N κ0 [] κ0 = true) {o : Oper} {d : Tmp} (ho : ops[k]? = some o) (hd : o.dst = some d) (hm : movable X.P o.op = true)
    {v : PV} {t : Bool} {pend' : List Nat} (hw : wantedP ops s o = some t) (hy : t = true → popO X.P s.ev ph o.op = some (v, ph)) (hno : t = false → v = .tuple []) (hv : vcD X ops Q pend' κ (s.put o.dst v) ph) (hp : ∀ u ∈ pend, u ∈ pend') (hp' : t = true → k ∈ pend') :
    DInv X ops Q N κ0 n0 G0 fuel κ (pre ++ [k]) (k :: U) pend' (s.put o.dst v) ph a G w listed := by
  have hk0 : k ∈ κ0 := I.sub k (by simp)
  have hkU : k ∉ U := fun h => I.dis k h (by simp)
  have hchain' := I.chain
  simp only [chainOk, Bool.and_eq_true] at hchain'
  have hnk : k ∉ κ := (List.nodup_cons.1 (chain_nodup I.chain)).1
  obtain ⟨p1, q1, o1, ho1, hf⟩ := facts_of hchain hk0
  rw [ho] at ho1; cases ho1
  obtain ⟨o2, ho2, hf2⟩ := at_facts hchain'.1
  rw [ho] at ho2; cases ho2
  have hdl : d < s.tm.length := Nat.lt_of_lt_of_le (hf.lt d hd) I.lenN
  have hgetv : (s.put o.dst v).tm.getD d .undef = v := by
    rw [hd, List.getD_eq_getElem?_getD, put_get, if_pos ⟨rfl, hdl⟩]; rfl
  have hown := hf.own d hd hm
  refine ⟨hchain'.2, ?_, fun j hj => I.sub j (List.mem_cons_of_mem _ hj), ?_, List.nodup_cons.2 ⟨hkU, I.nd⟩, ?_, ?_, I.sz, I.done, by simpa using I.lenN, hv, I.n, I.g, I.rel, ?_⟩
  · intro u hu
    rcases List.mem_cons.1 hu with rfl | hu
    · refine ⟨hk0, hf2.post, o, d, t, ?_, hp'⟩
      have hrd : ∀ t ∈ readsOf ops o, o.dst ≠ some t := fun t ht e => by rw [hd] at e; cases e; exact hown ht
      refine ⟨ho, hm, hd, by rw [put_wanted hrd]; exact hw, fun h => ?_, fun h => by rw [hgetv]; exact hno h⟩
      rw [hgetv, ← hy h]
      exact popO_congr fun x hx => put_ev fun t e => hrd t (operands_reads (e ▸ hx))
    · obtain ⟨hu0, hb, p, d2, t2, W, hp2⟩ := I.wait u hu
      have hnm : d ∉ namesOf ops p := by
        intro hm2
        have hne : u ≠ k := fun x => hkU (x ▸ hu)
        rcases hf.slot d hd u hu0 hne p W.ho hm2 with h | h
        · exact hb k (by simp) h
        · rw [hm] at h; cases h.1
      have hrd : ∀ t ∈ readsOf ops p, o.dst ≠ some t := fun t ht e => by rw [hd] at e; cases e; exact hnm (List.mem_append_right _ ht)
      have hgetD : (s.put o.dst v).tm.getD d2 .undef = s.tm.getD d2 .undef := by
        rw [hd]; exact put_getD (fun e => hnm (by rw [e]; simp [namesOf, W.hd]))
      refine ⟨hu0, fun j hj => hb j (List.mem_cons_of_mem _ hj), p, d2, t2, ⟨W.ho, W.mv, W.hd, by rw [put_wanted hrd]; exact W.wt, fun h => ?_, fun h => by rw [hgetD]; exact W.no h⟩, fun h => hp u (hp2 h)⟩
      rw [hgetD, ← W.yes h]
      exact popO_congr fun x hx => put_ev fun t e => hrd t (operands_reads (e ▸ hx))
  · intro j hj
    rw [I.list j hj]
    simp only [List.mem_cons]
    constructor
    · rintro (h | h | h) <;> simp [h]
    · rintro ((h | h) | h) <;> simp [h]
  · intro u hu h
    rcases List.mem_cons.1 hu with rfl | hu
    · exact hnk h
    · exact I.dis u hu (List.mem_cons_of_mem _ h)
  · have := I.fu; simp only [List.length_cons] at this ⊢; omega
  · have hsz := I.st.size
    refine .of_get (by simpa [blank] using hsz) (by have := I.st.ms; simpa [blank] using this) fun t q v' h1 h2 => ?_
    rw [blank_get] at h1
    cases hst : (s.put o.dst v).tm[t]? with
    | none => rw [hst] at h1; cases h1
    | some x =>
      rw [hst] at h1
      simp only [Option.map_some, Option.some.injEq] at h1
      by_cases e : t ∈ dstsOf ops (k :: U)
      · rw [if_pos e] at h1; rw [← h1]; exact .undef _
      · rw [if_neg e] at h1
        have hdt : d ≠ t := by
          rintro rfl
          exact e (mem_dstsOf.2 ⟨k, o, by simp, ho, hd⟩)
        have e2 : t ∉ dstsOf ops U := by
          intro h
          obtain ⟨i, o3, h3, h4, h5⟩ := mem_dstsOf.1 h
          exact e (mem_dstsOf.2 ⟨i, o3, List.mem_cons_of_mem _ h3, h4, h5⟩)
        refine I.st.get (t := t) ?_ h2
        rw [hd, put_get, if_neg (fun y => hdt y.1)] at hst
        rw [blank_get, hst, ← h1]; simp [e2]

theorem DInv.all {fuel : Nat} (I : DInv X ops Q N κ0 n0 G0 (fuel + 1) κ pre U pend s ph a G w listed) (hchain : chainOk X.P ops N κ0 [] κ0 = true) (hlt : ∀ i ∈ κ0, i < ops.size) : Region.ready .any ops listed ≠ [] := by
  intro hr
  have hall : ∀ j, j < ops.size → listed.getD j true = true := by
    intro j
    induction j using Nat.strongRecOn with
    | ind j ih =>
      intro hj
      cases hl : listed.getD j true with
      | true => rfl
      | false =>
        exfalso
        have hj0 : j ∈ κ0 := by
          rcases (I.list j hj).1 hl with h | h
          · exact (I.wait j h).1
          · exact I.sub j h
        obtain ⟨p1, q1, o, ho, hf⟩ := facts_of hchain hj0
        have : j ∈ Region.ready .any ops listed := by
          refine mem_ready.2 ⟨hl, o, ho, fun e he hb => ?_⟩
          have hlt2 := hf.edges _ (edge_mem he hb)
          have h1 := ih _ hlt2 (Nat.lt_trans hlt2 hj)
          have hs : e.on < listed.size := by rw [I.sz]; exact Nat.lt_trans hlt2 hj
          simp [Array.getD_eq_getD_getElem?, hs] at h1 ⊢; exact h1
        rw [hr] at this; cases this
  have hfu := I.fu
  have hne : ∀ j, j ∈ U ∨ j ∈ κ → False := by
    intro j hj
    have hj0 : j ∈ κ0 := by
      rcases hj with h | h
      · exact (I.wait j h).1
      · exact I.sub j h
    have h1 := (I.list j (hlt j hj0)).2 hj
    rw [hall j (hlt j hj0)] at h1; cases h1
  have hU0 : U = [] := List.eq_nil_iff_forall_not_mem.2 fun j hj => hne j (.inl hj)
  have hκ0 : κ = [] := List.eq_nil_iff_forall_not_mem.2 fun j hj => hne j (.inr hj)
  subst hU0; subst hκ0
  simp at hfu

/-- One that waits may be drawn. -/
theorem DInv.stepU (I : DInv X ops Q N κ0 n0 G0 (fuel + 1) κ pre U pend s ph a G w listed) (hchain : chainOk X.P ops N κ0 [] κ0 = true) (hlt : ∀ i ∈ κ0, i < ops.size) {i : Nat} (hi : i ∈ Region.ready .any ops listed) (hu : i ∈ U) {K : Act → World → Prop}
    (ih : ∀ G' a' w', DInv X ops Q N κ0 n0 G0 fuel κ pre (U.erase i) pend s ph a' G' w' (listed.setIfInBounds i true) → K a' w') :
    wpOpIn (Fen ρ) 0 X.P ops (Post X n0 G0 Q) i K a w := by
  obtain ⟨hu0, -, o, d, t, W, -⟩ := I.wait i hu
  have hro := I.readsOk hchain hlt hi W.ho hu0
  have hrd := hro.2.2 W.mv
  have hwt : wantedP ops (blank (dstsOf ops U) s) o = some t := by rw [blank_wanted hrd]; exact W.wt
  unfold wpOpIn
  simp only [W.ho]
  rw [wanted_ok I.st hwt]
  cases t with
  | true =>
    simp only [if_true]
    have hy := W.yes rfl
    have hy' : popO X.P (blank (dstsOf ops U) s).ev ph o.op = some (s.tm.getD d .undef, ph) := by
      rw [← hy]
      exact popO_congr fun x hx => blank_ev fun t e => hrd t (operands_reads (e ▸ hx))
    refine opVc_ok (K := fun v ph' => v = s.tm.getD d .undef ∧ ph' = ph) I.n I.rel I.st (opVc_of_pop W.mv hy' ⟨rfl, rfl⟩) I.g ?_
    rintro v ph' G' w' a' hn' hle hr hs' ⟨rfl, rfl⟩
    rw [W.hd] at hs'
    exact ih G' a' w' (I.tookU hchain hlt hi hu W.ho W.hd rfl hle hr hs')
  | false =>
    simp only [Bool.false_eq_true, if_false]
    refine ⟨fun _ _ => trivial, ?_⟩
    have hs' := I.st.put o.dst (p := .tuple []) (v := undef) (.tuple [] [] .nil)
    have hno := W.no rfl
    rw [W.hd] at hs' ⊢
    exact ih G _ w (I.tookU hchain hlt hi hu W.ho W.hd hno.symm I.g I.rel hs')

theorem draw_sim (hchain : chainOk X.P ops N κ0 [] κ0 = true) (hlt : ∀ i ∈ κ0, i < ops.size) (hall : ∀ i, i < ops.size → i ∈ κ0) :
    ∀ (fuel : Nat) (κ pre U pend : List Nat) (s : PSt) (ph : PH) (a : Act) (G : Ghost) (w : World) (listed : Array Bool), DInv X ops Q N κ0 n0 G0 fuel κ pre U pend s ph a G w listed →
      wpAnyIn (Fen ρ) 0 X.P .any ops (Post X n0 G0 Q) fuel listed a w := by
  intro fuel
  induction fuel with
  | zero =>
    intro κ pre U pend s ph a G w listed I
    have hfu := I.fu
    have hU0 : U = [] := List.length_eq_zero_iff.1 (by omega)
    have hκ0 : κ = [] := List.length_eq_zero_iff.1 (by omega)
    subst hU0; subst hκ0
    refine ⟨?_, G, s, ph, I.g, I.rel, ?_, I.vcd⟩
    · apply List.eq_nil_iff_forall_not_mem.2
      intro j hj
      obtain ⟨h1, o, ho, -⟩ := mem_ready.1 hj
      have := (I.list j (Array.getElem?_eq_some_iff.1 ho).1).1 h1
      simp at this
    · have := I.st; rw [blank_nil] at this; exact this
  | succ fuel ih =>
    intro κ
    induction κ with
    | nil =>
      intro pre U pend s ph a G w listed I
      refine ⟨fun h => absurd h (I.all hchain hlt), fun i hi => ?_⟩
      have hil : i ∈ U := by
        obtain ⟨h1, o, ho, -⟩ := mem_ready.1 hi
        have := (I.list i (Array.getElem?_eq_some_iff.1 ho).1).1 h1
        simpa using this
      exact I.stepU hchain hlt hi hil fun G' a' w' I' => ih _ _ _ _ _ _ _ _ _ _ I'
    | cons k κ ihκ =>
      intro pre U pend s ph a G w listed I
      have hk0 : k ∈ κ0 := I.sub k (by simp)
      have hkU : k ∉ U := fun h => I.dis k h (by simp)
      have hchain' := I.chain
      simp only [chainOk, Bool.and_eq_true] at hchain'
      obtain ⟨o, ho, hf⟩ := at_facts hchain'.1
      have hv := I.vcd
      simp only [vcD, ho] at hv
      cases hw : wantedP ops s o with
      | none => rw [hw] at hv; exact hv.elim
      | some t =>
        rw [hw] at hv
        simp only at hv
        by_cases hm : movable X.P o.op = true
        · rw [if_pos hm] at hv
          obtain ⟨d, hd⟩ : ∃ d, o.dst = some d := by
            cases hd : o.dst with
            | some d => exact ⟨d, rfl⟩
            | none => have := hf.dst hd; rw [hm] at this; cases this
          cases t with
          | true =>
            obtain ⟨v, hy, hv'⟩ := hv.1 rfl
            exact ihκ _ _ _ _ _ _ _ _ _ (I.ahead hchain ho hd hm hw (fun _ => hy) (fun h => by cases h) hv' (fun u hu => List.mem_cons_of_mem _ hu) (fun _ => by simp))
          | false =>
            exact ihκ _ _ _ _ _ _ _ _ _ (I.ahead hchain ho hd hm hw (fun h => by cases h) (fun _ => rfl) (hv.2 rfl) (fun u hu => hu) (fun h => by cases h))
        · rw [if_neg hm] at hv
          have hmf : movable X.P o.op = false := by simpa using hm
          refine ⟨fun h => absurd h (I.all hchain hlt), fun i hi => ?_⟩
          obtain ⟨h1, oi, hoi, -⟩ := mem_ready.1 hi
          have hil := (I.list i (Array.getElem?_eq_some_iff.1 hoi).1).1 h1
          rcases hil with hil | hil
          · exact I.stepU hchain hlt hi hil fun G' a' w' I' => ih _ _ _ _ _ _ _ _ _ _ I'
          · have hik : i = k := by
              rcases List.mem_cons.1 hil with h | h
              · exact h
              · exfalso
                obtain ⟨p, q, e, h2⟩ := chain_at hchain'.2 h
                obtain ⟨o2, ho2, hf2⟩ := at_facts h2
                exact I.notAnc hlt hi (.inr (List.mem_cons_self ..)) (hf2.pre k (by simp) o ho hmf)
            subst hik
            have hro := I.readsOk hchain hlt hi ho hk0
            have hrd : ∀ t ∈ readsOf ops o, t ∉ dstsOf ops U := fun t ht => hro.2.1 hkU t (List.mem_append_right _ ht)
            have hwt : wantedP ops (blank (dstsOf ops U) s) o = some t := by rw [blank_wanted hrd]; exact hw
            have hpd : ∀ u ∈ U, u ∈ pend → u ∈ pend.filter fun j => !(anc ops i).contains j := by
              intro u hu hp
              rw [List.mem_filter]
              refine ⟨hp, ?_⟩
              simpa using I.notAnc hlt hi (.inl hu)
            unfold wpOpIn
            simp only [ho]
            rw [wanted_ok I.st hwt]
            cases t with
            | true =>
              simp only [if_true]
              have hv := hv.1 rfl
              rw [opVc_congr (s' := blank (dstsOf ops U) s) (fun x hx => (blank_ev fun t e => hrd t (operands_reads (e ▸ hx))).symm)] at hv
              refine opVc_ok I.n I.rel I.st hv I.g ?_
              rintro v ph' G' w' a' hn' hle hr hs' ⟨hre, hv'⟩
              refine ih _ _ _ _ _ _ _ _ _ _ (I.tookK hchain hlt hi ho hn' hle hr hs' hv' hpd ?_)
              intro u hu p d hp hd hpe _ _ _ _
              exact recheck_mem hp hd hre (hpd u hu hpe)
            | false =>
              simp only [Bool.false_eq_true, if_false]
              refine ⟨fun _ _ => trivial, ?_⟩
              have hs' := I.st.put o.dst (p := .tuple []) (v := undef) (.tuple [] [] .nil)
              refine ih _ _ _ _ _ _ _ _ _ _ (I.tookK hchain hlt hi ho I.n I.g I.rel hs' (hv.2 rfl) hpd ?_)
              intro u hu p d hp hd _ _ hy hdk hrr
              have hdd : o.dst ≠ some d := by
                intro e
                exact hdk (mem_dstsOf.2 ⟨i, o, by simp, ho, e⟩)
              have hg : (s.put o.dst (.tuple [])).tm.getD d .undef = s.tm.getD d .undef := by
                cases e : o.dst with
                | none => rfl
                | some x => exact put_getD (fun y => hdd (by rw [e, y]))
              rw [hg, ← hy]
              exact popO_congr fun x hx => put_ev fun t e => hrr t (operands_reads (e ▸ hx))

theorem pwp_draw0 {id : Nat} (hm : X.P.follows .mixedOrders = true) (hok : drawOk X.P ops N κ0 = true) (hN : N ≤ s.tm.length) (h : vcD X ops Q [] κ0 s ph) : PWp X ρ n0 (.region id ops true) Q s ph := by
  unfold drawOk at hok
  simp only [Bool.and_eq_true, beq_iff_eq] at hok
  obtain ⟨⟨⟨hlen, hcov⟩, hlt⟩, hchain⟩ := hok
  have hlt' : ∀ i ∈ κ0, i < ops.size := fun i hi => by simpa using List.all_eq_true.1 hlt i hi
  have hall : ∀ i, i < ops.size → i ∈ κ0 := fun i hi => by simpa using List.all_eq_true.1 hcov i (List.mem_range.2 hi)
  intro hn G w a hr hs
  refine wpIn_region_any hm ?_
  refine draw_sim hchain hlt' hall ops.size κ0 [] [] [] s ph a G _ _ ?_
  refine ⟨hchain, by simp, fun i h => h, ?_, List.nodup_nil, by simp, by simp [hlen], by simp, ?_, hN, h, hn, LeN.refl _ _, hr.drew, by rw [blank_nil]; exact hs⟩
  · intro j hj
    simp [Array.getD_eq_getD_getElem?, hj, hall j hj]
  · intro i o ho hl
    have hi : i < ops.size := (Array.getElem?_eq_some_iff.1 ho).1
    simp [Array.getD_eq_getD_getElem?, hi] at hl

end sim

/-! ### The same as a plan: which may move, and what is looked at again behind one that may not -/
section plan
variable {ops : Array Oper} {N : Nat}

abbrev Plan := List (Nat × Bool × List Nat)

def planOk (P : Program) (ops : Array Oper) : List Nat → Plan → Bool
  | _, [] => true
  | pend, (i, mv, re) :: κ => match ops[i]? with
    | none => false
    | some o => (mv == movable P o.op) && (match mv with
      | true => planOk P ops (i :: pend) κ
      | false => (pend.filter fun j => !(anc ops i).contains j).all re.contains && planOk P ops (pend.filter fun j => !(anc ops i).contains j) κ)

def look1 (X : Ctx) (s : PSt) (ph : PH) : Option Oper → Prop
  | some o => (match o.dst with
    | some d => popO X.P s.ev ph o.op = some (s.tm.getD d .undef, ph)
    | none => False)
  | none => False

def look (X : Ctx) (ops : Array Oper) (s : PSt) (ph : PH) : List Nat → Prop
  | [] => True
  | i :: is => look1 X s ph ops[i]? ∧ look X ops s ph is

theorem look_mem {s : PSt} {i : Nat} : ∀ {re : List Nat}, look X ops s ph re → i ∈ re → look1 X s ph ops[i]?
  | k :: re, h, hi => by
    rcases List.mem_cons.1 hi with rfl | hi
    · exact h.1
    · exact look_mem h.2 hi

theorem recheck_of_look {s : PSt} {re : List Nat} (h : look X ops s ph re) : ∀ {is : List Nat}, (∀ i ∈ is, i ∈ re) → recheck X ops s ph is
  | [], _ => trivial
  | i :: is, hi => ⟨look_mem h (hi i (by simp)), recheck_of_look h fun j hj => hi j (List.mem_cons_of_mem _ hj)⟩

def vcP (X : Ctx) (ops : Array Oper) (Q : Exit → PSt → PH → Prop) : Plan → PSt → PH → Prop
  | [], s, ph => Q .normal s ph
  | (i, mv, re) :: κ, s, ph => match ops[i]? with
    | none => False
    | some o => match wantedP ops s o with
      | none => False
      | some t => (t = true → opVc X s ph o.op (fun v ph' => match mv with
          | true => ph' = ph ∧ vcP X ops Q κ (s.put o.dst v) ph
          | false => look X ops (s.put o.dst v) ph' re ∧ vcP X ops Q κ (s.put o.dst v) ph')) ∧ (t = false → vcP X ops Q κ (s.put o.dst (.tuple [])) ph)

theorem opVc_pop {s : PSt} {op : Op} {K : PV → PH → Prop} (hm : movable X.P op = true) (h : opVc X s ph op K) : ∃ r, popO X.P s.ev ph op = some r ∧ K r.1 r.2 := by
  unfold opVc at h
  split at h
  · cases hm
  · split at h
    · rename_i v ph' e; exact ⟨_, e, h⟩
    · exact h.elim

theorem opVc_mono' {s : PSt} {op : Op} {K K' : PV → PH → Prop} (hk : ∀ v ph, K v ph → K' v ph) (h : opVc X s ph op K) : opVc X s ph op K' := by
  unfold opVc at h ⊢
  split
  · rename_i f args ats
    simp only at h
    unfold vcCall at h ⊢
    split <;> simp_all only
    · exact PCalls.mono h hk
    · intro G w rargs hr ha
      obtain ⟨fn, tmps, assign, body, w', e, hR⟩ := h G w rargs hr ha
      refine ⟨fn, tmps, assign, body, w', e, RoundIn.mono hR ?_⟩
      intro e w'' he
      cases e with
      | returned v =>
        obtain ⟨G', pv, ph', h1, h2, h3, h4, h5⟩ := he
        exact ⟨G', pv, ph', h1, h2, h3, h4, hk _ _ h5⟩
      | _ => exact he
  · split <;> simp_all

theorem vcD_of_vcP : ∀ {κ : Plan} {pend pend' : List Nat} {s : PSt} {ph : PH}, planOk X.P ops pend' κ = true → (∀ u ∈ pend, u ∈ pend') → vcP X ops Q κ s ph → vcD X ops Q pend (κ.map (·.1)) s ph
  | [], _, _, _, _, _, _, h => h
  | (i, mv, re) :: κ, pend, pend', s, ph, hp, hsub, h => by
    have hf : ∀ u ∈ pend.filter (fun j => !(anc ops i).contains j), u ∈ pend'.filter (fun j => !(anc ops i).contains j) := by
      intro u hu
      rw [List.mem_filter] at hu ⊢
      exact ⟨hsub u hu.1, hu.2⟩
    simp only [List.map_cons, vcD]
    unfold planOk at hp
    unfold vcP at h
    cases ho : ops[i]? with
    | none => rw [ho] at h; exact h
    | some o =>
      rw [ho] at h hp
      simp only at h hp ⊢
      cases hw : wantedP ops s o with
      | none => rw [hw] at h; exact h
      | some t =>
        rw [hw] at h
        simp only at h ⊢
        simp only [Bool.and_eq_true, beq_iff_eq] at hp
        obtain ⟨hmv, hp⟩ := hp
        cases mv with
        | true =>
          rw [if_pos hmv.symm]
          simp only at hp h
          refine ⟨fun ht => ?_, fun ht => vcD_of_vcP hp (fun u hu => List.mem_cons_of_mem _ (hsub u hu)) (h.2 ht)⟩
          obtain ⟨⟨v, ph'⟩, h1, h2, h3⟩ := opVc_pop hmv.symm (h.1 ht)
          subst h2
          refine ⟨v, h1, vcD_of_vcP hp ?_ h3⟩
          intro u hu
          rcases List.mem_cons.1 hu with rfl | hu
          · simp
          · exact List.mem_cons_of_mem _ (hsub u hu)
        | false =>
          rw [if_neg (by rw [← hmv]; simp)]
          simp only [Bool.and_eq_true] at hp h
          refine ⟨fun ht => opVc_mono' (fun v ph' hk => ⟨recheck_of_look hk.1 fun u hu => ?_, vcD_of_vcP hp.2 hf hk.2⟩) (h.1 ht), fun ht => vcD_of_vcP hp.2 hf (h.2 ht)⟩
          simpa using List.all_eq_true.1 hp.1 u (hf u hu)

theorem pwp_draw {id : Nat} {s : PSt} (κ : Plan) (N : Nat) (hm : X.P.follows .mixedOrders = true) (hok : (drawOk X.P ops N (κ.map (·.1)) && planOk X.P ops [] κ) = true) (hN : N ≤ s.tm.length) (h : vcP X ops Q κ s ph) : PWp X ρ n0 (.region id ops true) Q s ph := by
  simp only [Bool.and_eq_true] at hok
  exact pwp_draw0 hm hok.1 hN (vcD_of_vcP hok.2 (fun _ h => h) h)

/-! The walk's equations -/
variable {s : PSt} {o : Oper} {κ : Plan} {i : Nat} {mv : Bool} {re : List Nat}

def vcPo (X : Ctx) (ops : Array Oper) (Q : Exit → PSt → PH → Prop) (mv : Bool) (re : List Nat) (κ : Plan) (s : PSt) (ph : PH) : Option Oper → Prop
  | none => False
  | some o => match wantedP ops s o with
      | none => False
      | some t => (t = true → opVc X s ph o.op (fun v ph' => match mv with
          | true => ph' = ph ∧ vcP X ops Q κ (s.put o.dst v) ph
          | false => look X ops (s.put o.dst v) ph' re ∧ vcP X ops Q κ (s.put o.dst v) ph')) ∧ (t = false → vcP X ops Q κ (s.put o.dst (.tuple [])) ph)

def vcPk (X : Ctx) (ops : Array Oper) (Q : Exit → PSt → PH → Prop) (mv : Bool) (re : List Nat) (κ : Plan) (s : PSt) (ph : PH) (dst : Option Tmp) : PV → PH → Prop := fun v ph' => match mv with
  | true => ph' = ph ∧ vcP X ops Q κ (s.put dst v) ph
  | false => look X ops (s.put dst v) ph' re ∧ vcP X ops Q κ (s.put dst v) ph'

def vcPw (X : Ctx) (ops : Array Oper) (Q : Exit → PSt → PH → Prop) (mv : Bool) (re : List Nat) (κ : Plan) (s : PSt) (ph : PH) (o : Oper) : Option Bool → Prop
  | none => False
  | some t => (t = true → opVc X s ph o.op (vcPk X ops Q mv re κ s ph o.dst)) ∧ (t = false → vcP X ops Q κ (s.put o.dst (.tuple [])) ph)

theorem d_nil : vcP X ops Q [] s ph = Q .normal s ph := rfl
theorem d_cons : vcP X ops Q ((i, mv, re) :: κ) s ph = vcPo X ops Q mv re κ s ph ops[i]? := by
  unfold vcP vcPo; rfl
theorem d_op : vcPo X ops Q mv re κ s ph (some o) = vcPw X ops Q mv re κ s ph o (wantedP ops s o) := by
  unfold vcPo vcPw; rfl
theorem d_true : vcPw X ops Q mv re κ s ph o (some true) = opVc X s ph o.op (vcPk X ops Q mv re κ s ph o.dst) := by simp [vcPw]
theorem d_false : vcPw X ops Q mv re κ s ph o (some false) = vcP X ops Q κ (s.put o.dst (.tuple [])) ph := by simp [vcPw]
theorem d_split {t : Bool} (h1 : t = true → opVc X s ph o.op (vcPk X ops Q mv re κ s ph o.dst)) (h2 : t = false → vcP X ops Q κ (s.put o.dst (.tuple [])) ph) : vcPw X ops Q mv re κ s ph o (some t) := ⟨h1, h2⟩
theorem d_mv {dst : Option Tmp} {v : PV} : vcPk X ops Q true re κ s ph dst v ph = vcP X ops Q κ (s.put dst v) ph := by simp [vcPk]
theorem d_se {dst : Option Tmp} {v : PV} {ph' : PH} : vcPk X ops Q false re κ s ph dst v ph' = (look X ops (s.put dst v) ph' re ∧ vcP X ops Q κ (s.put dst v) ph') := rfl
theorem d_se0 {dst : Option Tmp} {v : PV} {ph' : PH} : vcPk X ops Q false [] κ s ph dst v ph' = vcP X ops Q κ (s.put dst v) ph' := by simp [vcPk, look]
theorem d_look0 : look X ops s ph [] = True := rfl
theorem d_look : look X ops s ph (i :: re) = (look1 X s ph ops[i]? ∧ look X ops s ph re) := rfl
theorem d_look1 {op : Op} {d : Tmp} {t : TypeId} {p : String} {af : Array Edge} {g : Option (Nat × Bool)} : look1 X s ph (some { dst := some d, op := op, type := t, pos := p, after := af, guard := g }) = (popO X.P s.ev ph op = some (s.tm.getD d .undef, ph)) := rfl
end plan
end Pv
