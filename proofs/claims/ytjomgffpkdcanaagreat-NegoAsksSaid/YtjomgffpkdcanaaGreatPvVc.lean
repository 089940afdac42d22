/- Part of the proof: the layer of pure values, or walks through functions (PvVc, PvRules). -/
import Derived.Test.YtjomgffpkdcanaaGreatPvPop
import Derived.RangeFuncRecord
import Derived.Scope
set_option linter.all false
namespace Pv
open Go Go.RowKit

/-! ### An activation -/
structure PSt where
  tm : List PV
  ms : List Nat

def PSt.ev (s : PSt) : Operand → PV
  | .tmp t => s.tm.getD t .undef
  | .const v => (ofValue v).getD .undef
  | .global _ => .undef
  | .func f => .func f [] []

def PSt.put (s : PSt) (dst : Option Tmp) (v : PV) : PSt :=
  match dst with
  | some d => { s with tm := s.tm.set d v }
  | none => s

def markOf (r : Nat) : Deferred := { target := .collected r, args := #[] }

structure RSt (G : Ghost) (s : PSt) (a : Act) : Prop where
  tm : RVs G s.tm a.tmps.toList
  ms : a.defers = s.ms.map markOf

variable {X : Ctx} {G : Ghost} {ph : PH} {w : World}

theorem RSt.ev {s : PSt} {a : Act} (h : RSt G s a) (x : Operand) : RV G (s.ev x) (a.eval x) := by
  cases x with
  | tmp t =>
    simp only [PSt.ev, Act.eval]
    by_cases ht : t < s.tm.length
    · obtain ⟨v, e, r⟩ := h.tm.get t _ (List.getElem?_eq_getElem ht)
      have e2 : a.tmps.getD t undef = v := by
        rw [Array.getElem?_toList] at e
        simp [Array.getD_eq_getD_getElem?, e]
      rw [e2, List.getD_eq_getElem?_getD, List.getElem?_eq_getElem ht]; exact r
    · have ht' : s.tm.length ≤ t := Nat.le_of_not_lt ht
      rw [List.getD_eq_getElem?_getD, List.getElem?_eq_none ht']; exact .undef _
  | const v =>
    simp only [PSt.ev, Act.eval]
    cases e : ofValue v with
    | none => exact .undef _
    | some p => exact ofValue_rv e
  | global g => exact .undef _
  | func f => exact .func f [] [] [] [] .nil .nil

theorem RSt.put {s : PSt} {a : Act} (h : RSt G s a) (d : Option Tmp) {p : PV} {v : Value} (hv : RV G p v) : RSt G (s.put d p) (a.put d v) := by
  cases d with
  | none => exact h
  | some d => exact ⟨by simpa [PSt.put, Act.put] using h.tm.set d hv, h.ms⟩

theorem RSt.mono {G' : Ghost} (hle : Le G G') {s : PSt} {a : Act} (h : RSt G s a) : RSt G' s a := ⟨h.tm.mono hle, h.ms⟩

def Fen (ρ : Option Nat) : Fence := { Fence.wide with round := ρ }

/-- Behind the code. -/
def Post (X : Ctx) (n0 : Nat) (G : Ghost) (Q : Exit → PSt → PH → Prop) : Exit → Act → World → Prop :=
  fun e a w => ∃ G' s ph, LeN n0 G G' ∧ Rel X G' ph w ∧ RSt G' s a ∧ Q e s ph

def PWp (X : Ctx) (ρ : Option Nat) (n0 : Nat) (c : Code) (Q : Exit → PSt → PH → Prop) (s : PSt) (ph : PH) : Prop :=
  n0 ≤ ph.n → ∀ G w a, Rel X G ph w → RSt G s a → c.wpIn (Fen ρ) 0 X.P (Post X n0 G Q) a w

/-- Behind a call. -/
def CPost (X : Ctx) (n0 : Nat) (G : Ghost) (R : PV → PH → Prop) (v : Value) (w : World) : Prop :=
  ∃ G' pv ph, LeN n0 G G' ∧ Rel X G' ph w ∧ RV G' pv v ∧ n0 ≤ ph.n ∧ R pv ph

def EPost (X : Ctx) (n0 : Nat) (G : Ghost) (R : PV → PH → Prop) : Ending → World → Prop
  | .returned v, w => CPost X n0 G R v w
  | _, _ => False

def PCalls (X : Ctx) (f : FuncId) (args : List PV) (ph : PH) (R : PV → PH → Prop) : Prop :=
  ∀ G w rargs, Rel X G ph w → RVs G args rargs →
    (∃ v w', (callFunc f rargs.toArray).run X.P w = .ok (.value v) w' ∧ CPost X ph.n G R v w') ∨
    (∃ w', (callFunc f rargs.toArray).run X.P w = .ok (.enter f rargs.toArray) w' ∧ Calls X.P f rargs.toArray w' (EPost X ph.n G R))

def PYield (X : Ctx) (l : Nat) (args : List PV) (ph : PH) (R : PV → PH → Prop) : Prop :=
  ∀ G w rargs, Rel X G ph w → RVs G args rargs →
    ∃ fn tmps assign body w', (Instr.yield l rargs.toArray).run X.P w = .ok (.round l fn tmps assign body) w' ∧ RoundIn Fence.wide 0 X.P l fn tmps assign body w' (EPost X ph.n G R)

def vcCall (X : Ctx) (fv : PV) (args : List PV) (ph : PH) (R : PV → PH → Prop) : Prop :=
  match fv with
  | .func f first caps => PCalls X f (first ++ args ++ caps) ph R
  | .yield l => PYield X l args ph R
  | _ => False

/-- Is an operation carried out? -/
def wantedP (ops : Array Oper) (s : PSt) (o : Oper) : Option Bool :=
  match o.guard with
  | none => some true
  | some (j, want) => match (ops[j]?).bind (·.dst) with
    | none => some false
    | some d => match s.tm[d]? with
      | some (.bool b) => some (b == want)
      | some (.tuple _) => some false
      | none => some false
      | _ => none

def opVc (X : Ctx) (s : PSt) (ph : PH) (op : Op) (K : PV → PH → Prop) : Prop :=
  match op with
  | .call { callee := .value f, args, .. } => vcCall X (s.ev f) (args.toList.map s.ev) ph K
  | op => match popO X.P s.ev ph op with
    | some (v, ph') => K v ph'
    | none => False

/-- The operations of a region, in the text's order. -/
def vcOps (X : Ctx) (ops : Array Oper) (Q : Exit → PSt → PH → Prop) : List Nat → PSt → PH → Prop
  | [], s, ph => Q .normal s ph
  | i :: is, s, ph => match ops[i]? with
    | none => vcOps X ops Q is s ph
    | some o => match wantedP ops s o with
      | none => False
      | some t => (t = true → opVc X s ph o.op fun v ph' => vcOps X ops Q is (s.put o.dst v) ph') ∧ (t = false → vcOps X ops Q is (s.put o.dst (.tuple [])) ph)

/-- The same, for the walk: what comes behind is not looked at ahead of its turn. -/
def opK (K : PV → PH → Prop) : Option (PV × PH) → Prop
  | some r => K r.1 r.2
  | none => False

def vcL (X : Ctx) (ops : Array Oper) (Q : Exit → PSt → PH → Prop) : List Oper → PSt → PH → Prop
  | [], s, ph => Q .normal s ph
  | o :: os, s, ph => match wantedP ops s o with
    | none => False
    | some t => (t = true → opVc X s ph o.op fun v ph' => vcL X ops Q os (s.put o.dst v) ph') ∧ (t = false → vcL X ops Q os (s.put o.dst (.tuple [])) ph)
def opNext (X : Ctx) (ops : Array Oper) (Q : Exit → PSt → PH → Prop) (os : List Oper) (s : PSt) (dst : Option Tmp) : PV → PH → Prop := fun v ph' => vcL X ops Q os (s.put dst v) ph'
def vcG (X : Ctx) (ops : Array Oper) (Q : Exit → PSt → PH → Prop) (os : List Oper) (s : PSt) (ph : PH) (o : Oper) : Option Bool → Prop
  | none => False
  | some t => (t = true → opVc X s ph o.op (opNext X ops Q os s o.dst)) ∧ (t = false → vcL X ops Q os (s.put o.dst (.tuple [])) ph)

theorem opVc_mono {X : Ctx} {s : PSt} {ph : PH} {op : Op} {K K' : PV → PH → Prop} (h : ∀ v ph, K v ph ↔ K' v ph) : opVc X s ph op K ↔ opVc X s ph op K' := by
  have : K = K' := funext fun v => funext fun ph => propext (h v ph)
  rw [this]

theorem vcOps_range (X : Ctx) (ops : Array Oper) (Q : Exit → PSt → PH → Prop) : ∀ (n i : Nat) (s : PSt) (ph : PH), i + n = ops.size → (vcOps X ops Q (List.range' i n) s ph ↔ vcL X ops Q (ops.toList.drop i) s ph)
  | 0, i, s, ph, h => by
    rw [List.drop_eq_nil_iff.2 (by simp; omega)]; rfl
  | n + 1, i, s, ph, h => by
    have hi : i < ops.toList.length := by simp; omega
    rw [List.drop_eq_getElem_cons hi]
    simp only [List.range'_succ]
    unfold vcOps vcL
    have e : ops[i]? = some ops.toList[i] := by simp at hi; simp [hi]
    rw [e]
    simp only
    cases wantedP ops s ops.toList[i] with
    | none => exact Iff.rfl
    | some t =>
      simp only
      rw [vcOps_range X ops Q n (i + 1) _ _ (by omega)]
      have := @opVc_mono X s ph ops.toList[i].op (fun v ph' => vcOps X ops Q (List.range' (i + 1) n) (s.put ops.toList[i].dst v) ph') (fun v ph' => vcL X ops Q (ops.toList.drop (i + 1)) (s.put ops.toList[i].dst v) ph') (fun v ph' => vcOps_range X ops Q n (i + 1) _ _ (by omega))
      rw [this]

section walk
variable {X : Ctx} {ops : Array Oper} {Q : Exit → PSt → PH → Prop} {os : List Oper} {s : PSt} {ph : PH} {o : Oper} {K : PV → PH → Prop}
theorem w_nil : vcL X ops Q [] s ph = Q .normal s ph := rfl
theorem w_cons : vcL X ops Q (o :: os) s ph = vcG X ops Q os s ph o (wantedP ops s o) := by
  conv => lhs; unfold vcL
  cases wantedP ops s o <;> rfl
theorem w_true : vcG X ops Q os s ph o (some true) = opVc X s ph o.op (opNext X ops Q os s o.dst) := by simp [vcG]
theorem w_false : vcG X ops Q os s ph o (some false) = vcL X ops Q os (s.put o.dst (.tuple [])) ph := by simp [vcG]
theorem w_split {t : Bool} (h1 : t = true → opVc X s ph o.op (opNext X ops Q os s o.dst)) (h2 : t = false → vcL X ops Q os (s.put o.dst (.tuple [])) ph) : vcG X ops Q os s ph o (some t) := ⟨h1, h2⟩
theorem w_next {dst : Option Tmp} {v : PV} : opNext X ops Q os s dst v ph = vcL X ops Q os (s.put dst v) ph := rfl
theorem w_call {f : Operand} {args : Array Operand} {ts : Array TypeId} : opVc X s ph (.call { callee := .value f, args := args, argTypes := ts }) K = vcCall X (s.ev f) (args.toList.map s.ev) ph K := rfl
theorem w_op {op : Op} (h : (match op with | .call { callee := .value _, .. } => false | _ => true) = true) : opVc X s ph op K = opK K (popO X.P s.ev ph op) := by
  unfold opVc
  split
  · cases h
  · cases popO X.P s.ev ph op <;> rfl
theorem w_some {v : PV} : opK K (some (v, ph)) = K v ph := rfl
theorem w_func {f : FuncId} {first args caps : List PV} : vcCall X (.func f first caps) args ph K = PCalls X f (first ++ args ++ caps) ph K := rfl
theorem w_yield {l : Nat} {args : List PV} : vcCall X (.yield l) args ph K = PYield X l args ph K := rfl
theorem w_noguard {d : Option Tmp} {op : Op} {t : TypeId} {p : String} {af : Array Edge} : wantedP ops s { dst := d, op := op, type := t, pos := p, after := af, guard := none } = some true := rfl
end walk

def PExit.seq (K : PSt → PH → Prop) (Q : Exit → PSt → PH → Prop) : Exit → PSt → PH → Prop
  | .normal => K
  | e => Q e

def PExit.blk (id : Nat) (Q : Exit → PSt → PH → Prop) : Exit → PSt → PH → Prop
  | .exit id' => if id' = id then Q .normal else Q (.exit id')
  | e => Q e

def PExit.scope (Q : Exit → PSt → PH → Prop) : Exit → PSt → PH → Prop
  | .goto _ => fun _ _ => False
  | e => Q e

def vc (X : Ctx) (ρ : Option Nat) (n0 : Nat) : Code → (Exit → PSt → PH → Prop) → PSt → PH → Prop
  | .skip, Q => Q .normal
  | .label _, Q => Q .normal
  | .exit id, Q => Q (.exit id)
  | .goto l, Q => Q (.goto l)
  | .ret, Q => Q .ret
  | .seq a b, Q => vc X ρ n0 a (PExit.seq (vc X ρ n0 b Q) Q)
  | .cond c a b, Q => fun s ph => match s.ev c with
    | .bool t => (t = true → vc X ρ n0 a Q s ph) ∧ (t = false → vc X ρ n0 b Q s ph)
    | _ => False
  | .block id c, Q => vc X ρ n0 c (PExit.blk id Q)
  | .scope c, Q => vc X ρ n0 c (PExit.scope Q)
  | .region id ops draw, Q => fun s ph => if draw = false then vcOps X ops Q (List.range ops.size) s ph else PWp X ρ n0 (.region id ops true) Q s ph
  | .loop c, Q => PWp X ρ n0 (.loop c) Q
  | .rangeFunc f ps assign body, Q => PWp X ρ n0 (.rangeFunc f ps assign body) Q
  | .refuse _, _ => fun _ _ => False

def vcC (X : Ctx) (ρ : Option Nat) (n0 : Nat) (a b : Code) (Q : Exit → PSt → PH → Prop) (s : PSt) (ph : PH) : PV → Prop
  | .bool t => (t = true → vc X ρ n0 a Q s ph) ∧ (t = false → vc X ρ n0 b Q s ph)
  | _ => False

section walk
variable {X : Ctx} {ρ : Option Nat} {n0 : Nat} {a b : Code} {Q : Exit → PSt → PH → Prop} {s : PSt} {ph : PH} {K : PSt → PH → Prop}
theorem w_skip : vc X ρ n0 .skip Q s ph = Q .normal s ph := rfl
theorem w_label {l : Nat} : vc X ρ n0 (.label l) Q s ph = Q .normal s ph := rfl
theorem w_exit {l : Nat} : vc X ρ n0 (.exit l) Q s ph = Q (.exit l) s ph := rfl
theorem w_goto {l : Nat} : vc X ρ n0 (.goto l) Q s ph = Q (.goto l) s ph := rfl
theorem w_ret : vc X ρ n0 .ret Q s ph = Q .ret s ph := rfl
theorem w_seq : vc X ρ n0 (.seq a b) Q s ph = vc X ρ n0 a (PExit.seq (vc X ρ n0 b Q) Q) s ph := rfl
theorem w_block {id : Nat} : vc X ρ n0 (.block id a) Q s ph = vc X ρ n0 a (PExit.blk id Q) s ph := rfl
theorem w_scope : vc X ρ n0 (.scope a) Q s ph = vc X ρ n0 a (PExit.scope Q) s ph := rfl
theorem w_region {id : Nat} {ops : Array Oper} : vc X ρ n0 (.region id ops false) Q s ph = vcL X ops Q ops.toList s ph := by
  conv => lhs; unfold vc
  rw [if_pos rfl, List.range_eq_range']
  exact propext (vcOps_range X ops Q ops.size 0 s ph (by simp))
theorem w_draw {id : Nat} {ops : Array Oper} : vc X ρ n0 (.region id ops true) Q s ph = PWp X ρ n0 (.region id ops true) Q s ph := by
  conv => lhs; unfold vc
  rw [if_neg (by simp)]
theorem w_cond {c : Operand} : vc X ρ n0 (.cond c a b) Q s ph = vcC X ρ n0 a b Q s ph (s.ev c) := by
  conv => lhs; unfold vc
  unfold vcC
  cases s.ev c <;> rfl
theorem w_ctrue : vcC X ρ n0 a b Q s ph (.bool true) = vc X ρ n0 a Q s ph := by simp [vcC]
theorem w_cfalse : vcC X ρ n0 a b Q s ph (.bool false) = vc X ρ n0 b Q s ph := by simp [vcC]
theorem w_csplit {t : Bool} (h1 : t = true → vc X ρ n0 a Q s ph) (h2 : t = false → vc X ρ n0 b Q s ph) : vcC X ρ n0 a b Q s ph (.bool t) := ⟨h1, h2⟩
theorem w_snormal : PExit.seq K Q .normal s ph = K s ph := rfl
theorem w_sret : PExit.seq K Q .ret s ph = Q .ret s ph := rfl
theorem w_sexit {l : Nat} : PExit.seq K Q (.exit l) s ph = Q (.exit l) s ph := rfl
theorem w_bnormal {id : Nat} : PExit.blk id Q .normal s ph = Q .normal s ph := rfl
theorem w_bret {id : Nat} : PExit.blk id Q .ret s ph = Q .ret s ph := rfl
theorem w_bsame {id : Nat} : PExit.blk id Q (.exit id) s ph = Q .normal s ph := by simp [PExit.blk]
theorem w_bother {id l : Nat} (h : (l == id) = false) : PExit.blk id Q (.exit l) s ph = Q (.exit l) s ph := by
  have : ¬ l = id := by simpa using h
  simp [PExit.blk, this]
theorem w_cnormal : PExit.scope Q .normal s ph = Q .normal s ph := rfl
theorem w_cret : PExit.scope Q .ret s ph = Q .ret s ph := rfl
theorem w_cexit {l : Nat} : PExit.scope Q (.exit l) s ph = Q (.exit l) s ph := rfl
theorem w_put {tm : List PV} {ms : List Nat} {d : Tmp} {v : PV} : PSt.put ⟨tm, ms⟩ (some d) v = ⟨tm.set d v, ms⟩ := rfl
theorem w_put0 {v : PV} : PSt.put s none v = s := rfl
theorem w_tmp {tm : List PV} {ms : List Nat} {d : Tmp} : PSt.ev ⟨tm, ms⟩ (.tmp d) = tm.getD d .undef := rfl
theorem w_fn {f : FuncId} : PSt.ev s (.func f) = .func f [] [] := rfl
theorem w_int {k : IntKind} {n : Int} : PSt.ev s (.const (.int k n)) = .int k n := rfl
theorem w_bool {b : Bool} : PSt.ev s (.const (.bool b)) = .bool b := rfl
theorem w_string {l : List UInt8} : PSt.ev s (.const (.string ⟨⟨l⟩⟩)) = .str l := rfl
theorem w_nilsl : PSt.ev s (.const (.slice none 0 0)) = .nilsl := rfl
theorem w_nilptr : PSt.ev s (.const (.pointer none)) = .nilptr := rfl
theorem w_nilfunc : PSt.ev s (.const .nilFunc) = .nilfunc := rfl
theorem w_nilif : PSt.ev s (.const .nilIface) = .nilif := rfl
theorem w_agg {cs : Array Value} : PSt.ev s (.const (.agg cs)) = ((ofCells cs.toList).map PV.agg).getD .undef := by
  simp only [PSt.ev, ofValue]
end walk

/-! ### That it is so -/
theorem wanted_ok {ops : Array Oper} {s : PSt} {a : Act} {o : Oper} {t : Bool} (h : RSt G s a) (hw : wantedP ops s o = some t) : Region.wanted o (yielded ops a.tmps) = t := by
  unfold wantedP at hw
  unfold Region.wanted
  split at hw
  · rename_i hg; cases hw; rw [hg]
  · rename_i j want hg
    rw [hg]
    simp only
    unfold yielded
    split at hw
    · rename_i hd; cases hw; rw [hd]; simp
    · rename_i d hd
      rw [hd]
      simp only [Option.bind_some]
      have hl := h.tm.length
      simp only [Array.length_toList] at hl
      have key : ∀ p, s.tm[d]? = some p → ∃ v, a.tmps[d]? = some v ∧ RV G p v := by
        intro p hp
        obtain ⟨v, e, r⟩ := h.tm.get d p hp
        rw [Array.getElem?_toList] at e
        exact ⟨v, e, r⟩
      split at hw
      · rename_i b hb; cases hw
        obtain ⟨v, e, r⟩ := key _ hb
        obtain rfl := r.bool_inv
        rw [e]; simp
      · rename_i vs hb; cases hw
        obtain ⟨v, e, r⟩ := key _ hb
        cases r
        rw [e]; simp
      · rename_i hb; cases hw
        have : a.tmps[d]? = none := by
          rw [List.getElem?_eq_none_iff] at hb
          rw [Array.getElem?_eq_none_iff]; omega
        rw [this]; simp
      · cases hw

theorem CallsIn.fen {ρ : Option Nat} {n m : Nat} {P : Program} {f : FuncId} {args : Array Value} {w : World} {R : Ending → World → Prop} (h : Calls P f args w R) : CallsIn (Fen ρ) n P f args w R :=
  (callsIn_wide (n := n)).2 h

theorem RoundIn.fen {ρ : Option Nat} {n m : Nat} {P : Program} {l : Nat} {f : FuncId} {tmps : Array Value} {assign body : Code} {w : World} {R : Ending → World → Prop} (h : RoundIn Fence.wide m P l f tmps assign body w R) : RoundIn (Fen ρ) n P l f tmps assign body w R :=
  ⟨trivial, fun c cs _ => h.2 c cs (room_wide _)⟩


theorem semAt_call (ρ : Option Nat) (e : Operand → Value) (o : Oper) (h : ∀ c, o.op ≠ .defer c) : o.semAt ρ e = execOp e o := by
  cases ρ with
  | none => rfl
  | some l =>
    unfold Oper.semAt
    split
    · rename_i hc; exact absurd hc (h _)
    · rfl

theorem popO_noDefer {P : Program} {ev : Operand → PV} {ph : PH} {o : Op} {r : PV × PH} (h : popO P ev ph o = some r) : ∀ c, o ≠ .defer c := by
  rintro c rfl
  simp [popO] at h

theorem opVc_ok {ρ : Option Nat} {n0 : Nat} {G0 : Ghost} {s : PSt} {a : Act} {o : Oper} {K : PV → PH → Prop} {Q : Exit → Act → World → Prop} {next : Act → World → Prop} (hn : n0 ≤ ph.n) (h : Rel X G ph w) (hs : RSt G s a) (hv : opVc X s ph o.op K)
    (hG : LeN n0 G0 G)
    (hk : ∀ v ph' G' w' a', n0 ≤ ph'.n → LeN n0 G0 G' → Rel X G' ph' w' → RSt G' (s.put o.dst v) a' → K v ph' → next a' w') : o.wpIn (Fen ρ) 0 X.P a w next Q := by
  refine ⟨fun _ _ => trivial, ?_⟩
  have pop : ∀ r, popO X.P s.ev ph o.op = some r → K r.1 r.2 → o.uponIn (Fen ρ) 0 X.P a next Q ((o.semAt (Fen ρ).round a.eval).run X.P w) := by
    rintro ⟨v, ph'⟩ hp hK
    rw [semAt_call _ _ _ (popO_noDefer hp)]
    have hph : n0 ≤ ph'.n := by
      obtain ⟨nx, w', G', e, hle, hr, hv'⟩ := pop_ok h hs.ev hp
      have h1 := h.lenN; have h2 := hr.lenN
      have : G.l.length ≤ G'.l.length := by
        by_cases hz : G.l.length = 0
        · omega
        · obtain ⟨L, hL⟩ : ∃ L, G.l[G.l.length - 1]? = some L := ⟨_, List.getElem?_eq_getElem (by omega)⟩
          have := (List.getElem?_eq_some_iff.1 (hle.l _ _ hL)).1; omega
      omega
    obtain ⟨nx, w', G', e, hle, hr, hv'⟩ := pop_ok h hs.ev hp
    rw [e]
    rcases hv' with ⟨v', rfl, hv'⟩ | ⟨rfl, hu⟩
    · rw [Oper.uponIn_value]
      exact hk v ph' G' w' _ hph (hG.trans (hle.n n0)) hr ((hs.mono hle).put _ hv') hK
    · rw [Oper.uponIn_skip]
      subst hu
      exact hk .undef ph' G' w' _ hph (hG.trans (hle.n n0)) hr ((hs.mono hle).put _ (.undef _)) hK
  unfold opVc at hv
  split at hv
  · rename_i f args ats hop
    rw [semAt_call _ _ _ (by rw [hop]; simp)]
    have hf := hs.ev f
    have hargs := RVs.of_map hs.ev args.toList
    have hex : ∀ fv, a.eval f = fv → (execOp a.eval o).run X.P w = (do let d ← Deferred.ofValue fv (args.map a.eval); invoke d.target d.args : Sem Next).run X.P w := by
      intro fv hfv
      simp only [execOp, hop, resolve, hfv]
    have hnG : LeN ph.n G G → True := fun _ => trivial
    -- behind a call
    have back : ∀ (v : Value) (w' : World), CPost X ph.n G K v w' → next (a.put o.dst v) w' := by
      rintro v w' ⟨G', pv, ph', hle, hr, hv', hn', hK⟩
      have hle' : Le G G' := by
        refine LeN.le h.grow.new ?_
        rw [h.lenN]; exact hle
      exact hk pv ph' G' w' _ (by omega) (hG.trans (hle.less hn)) hr ((hs.mono hle').put _ hv') hK
    unfold vcCall at hv
    split at hv
    · rename_i g first caps hev
      rw [hev] at hf
      generalize hfv : a.eval f = fv at hf
      cases hf with
      | func _ _ _ rf rc h1 h2 =>
        have hcall := hv G w (rf ++ args.toList.map a.eval ++ rc) h ((h1.append hargs).append h2)
        have e1 : (execOp a.eval o).run X.P w = (callFunc g (rf ++ args.toList.map a.eval ++ rc).toArray).run X.P w := by
          rw [hex _ hfv]
          simp only [Deferred.ofValue, Sem.run_bind, Sem.run_pure, Result.andThen_ok, invoke]
          congr 1
          congr 1
          apply Array.toList_inj.1
          simp
        rw [e1]
        rcases hcall with ⟨v, w', e, hc⟩ | ⟨w', e, hc⟩
        · rw [e, Oper.uponIn_value]; exact back v w' hc
        · rw [e, Oper.uponIn_enter]
          refine ⟨by simp [Fen, Fence.wide], CallsIn.fen (m := 0) ?_⟩
          intro cs
          obtain ⟨e, w', fr, hR, rest⟩ := hc cs
          refine ⟨e, w', fr, ?_, rest⟩
          cases e with
          | returned v => exact back v w' hR
          | panicked _ => exact hR.elim
          | outgrown => exact hR.elim
    · rename_i l hev
      rw [hev] at hf
      generalize hfv : a.eval f = fv at hf
      cases hf
      obtain ⟨fn, tmps, assign, body, w', e, hc⟩ := hv G w _ h hargs
      have e1 : (execOp a.eval o).run X.P w = (Instr.yield l (args.toList.map a.eval).toArray).run X.P w := by
        rw [hex _ hfv]
        simp only [Deferred.ofValue, Sem.run_bind, Sem.run_pure, Result.andThen_ok, invoke]
        congr 1
        congr 1
        apply Array.toList_inj.1
        simp
      rw [e1, e, Oper.uponIn_round]
      refine ⟨by simp [Fen, Fence.wide], RoundIn.fen (m := 0) ?_⟩
      refine hc.mono ?_
      intro e w' hR
      cases e with
      | returned v => exact back v w' hR
      | panicked _ => exact hR.elim
      | outgrown => exact hR.elim
    · exact hv.elim
  · split at hv
    · rename_i r hp; exact pop _ hp hv
    · exact hv.elim

theorem vcOps_ok {ρ : Option Nat} {n0 : Nat} {G0 : Ghost} {ops : Array Oper} {Q : Exit → PSt → PH → Prop} : ∀ (is : List Nat) {s : PSt} {a : Act} {ph : PH} {G : Ghost} {w : World}, n0 ≤ ph.n → Rel X G ph w → RSt G s a → LeN n0 G0 G → vcOps X ops Q is s ph →
    wpOpsIn (Fen ρ) 0 X.P ops (Post X n0 G0 Q) is a w
  | [], s, a, ph, G, w, hn, h, hs, hG, hv => ⟨G, s, ph, hG, h, hs, hv⟩
  | i :: is, s, a, ph, G, w, hn, h, hs, hG, hv => by
    unfold vcOps at hv
    unfold wpOpsIn
    split at hv
    · rename_i ho; rw [ho]; exact vcOps_ok is hn h hs hG hv
    · rename_i o ho
      rw [ho]
      split at hv
      · exact hv.elim
      · rename_i t ht
        simp only [wanted_ok hs ht]
        cases t with
        | true =>
          simp only [if_true]
          refine opVc_ok hn h hs (hv.1 rfl) hG ?_
          intro v ph' G' w' a' hn' hle hr hs' hK
          exact vcOps_ok is hn' hr hs' hle hK
        | false =>
          simp only [Bool.false_eq_true, if_false]
          refine ⟨fun _ _ => trivial, ?_⟩
          exact vcOps_ok is hn h (hs.put _ (.tuple [] [] .nil)) hG (hv.2 rfl)

theorem Post.seq {n0 : Nat} {G : Ghost} {K : PSt → PH → Prop} {Q : Exit → PSt → PH → Prop} {next : Act → World → Prop} (hk : ∀ G' s ph w a, LeN n0 G G' → Rel X G' ph w → RSt G' s a → K s ph → next a w) :
    ∀ e a w, Post X n0 G (PExit.seq K Q) e a w → Exit.then next (Post X n0 G Q) e a w := by
  rintro e a w ⟨G', s, ph, h1, h2, h3, h4⟩
  cases e with
  | normal => exact hk G' s ph w a h1 h2 h3 h4
  | exit id => exact ⟨G', s, ph, h1, h2, h3, h4⟩
  | goto l => exact ⟨G', s, ph, h1, h2, h3, h4⟩
  | ret => exact ⟨G', s, ph, h1, h2, h3, h4⟩
  | panic c => exact ⟨G', s, ph, h1, h2, h3, h4⟩
  | outgrown => exact ⟨G', s, ph, h1, h2, h3, h4⟩

theorem bq1 (b : Bool) : (b == true) = b := by cases b <;> rfl
theorem bq2 (b : Bool) : (b == false) = !b := by cases b <;> rfl
theorem bq3 (b : Bool) : (true == b) = b := by cases b <;> rfl
theorem bq4 (b : Bool) : (false == b) = !b := by cases b <;> rfl

theorem pc_bool {b : Bool} : PV.cells (.bool b) = [(.bool b)] := rfl
theorem ck_bool {b : Bool} : cellOk (.bool b) = true := rfl
theorem pc_int {k : IntKind} {n : Int} : PV.cells (.int k n) = [(.int k n)] := rfl
theorem ck_int {k : IntKind} {n : Int} : cellOk (.int k n) = true := rfl
theorem pc_str {l : List UInt8} : PV.cells (.str l) = [(.str l)] := rfl
theorem ck_str {l : List UInt8} : cellOk (.str l) = true := rfl
theorem pc_nilptr  : PV.cells .nilptr = [.nilptr] := rfl
theorem ck_nilptr  : cellOk .nilptr = true := rfl
theorem pc_ptr {p o : Nat} : PV.cells (.ptr p o) = [(.ptr p o)] := rfl
theorem ck_ptr {p o : Nat} : cellOk (.ptr p o) = true := rfl
theorem pc_fptr {c : List PV} : PV.cells (.fptr c) = [(.fptr c)] := rfl
theorem ck_fptr {c : List PV} : cellOk (.fptr c) = true := rfl
theorem pc_nilsl  : PV.cells .nilsl = [.nilsl] := rfl
theorem ck_nilsl  : cellOk .nilsl = true := rfl
theorem pc_zsl  : PV.cells .zsl = [.zsl] := rfl
theorem ck_zsl  : cellOk .zsl = true := rfl
theorem pc_sl {p o e l : Nat} {c : Option Nat} : PV.cells (.sl p o e l c) = [(.sl p o e l c)] := rfl
theorem ck_sl {p o e l : Nat} {c : Option Nat} : cellOk (.sl p o e l c) = true := rfl
theorem pc_fsl {e l : Nat} {c : List PV} : PV.cells (.fsl e l c) = [(.fsl e l c)] := rfl
theorem ck_fsl {e l : Nat} {c : List PV} : cellOk (.fsl e l c) = true := rfl
theorem pc_func {f : FuncId} {a b : List PV} : PV.cells (.func f a b) = [(.func f a b)] := rfl
theorem ck_func {f : FuncId} {a b : List PV} : cellOk (.func f a b) = true := rfl
theorem pc_yield {l : Nat} : PV.cells (.yield l) = [(.yield l)] := rfl
theorem ck_yield {l : Nat} : cellOk (.yield l) = true := rfl
theorem pc_nilfunc  : PV.cells .nilfunc = [.nilfunc] := rfl
theorem ck_nilfunc  : cellOk .nilfunc = true := rfl
theorem pc_nilif  : PV.cells .nilif = [.nilif] := rfl
theorem ck_nilif  : cellOk .nilif = true := rfl
theorem pc_agg {c : List PV} : PV.cells (.agg c) = c := rfl

end Pv

namespace Pv
open Go Go.RowKit
variable {X : Ctx} {G : Ghost} {ph : PH} {w : World} {ρ : Option Nat} {n0 : Nat} {Q : Exit → PSt → PH → Prop}

theorem PWp.mono {c : Code} {Q' : Exit → PSt → PH → Prop} {s : PSt} (h : PWp X ρ n0 c Q s ph) (hq : ∀ e s ph, Q e s ph → Q' e s ph) : PWp X ρ n0 c Q' s ph :=
  fun hn G w a hr hs => wpIn_mono (h hn G w a hr hs) fun e a w ⟨G', s', ph', h1, h2, h3, h4⟩ => ⟨G', s', ph', h1, h2, h3, hq _ _ _ h4⟩

section scope
variable {F : Fence} {n : Nat} {P : Program}
theorem stepR_scope {b : Frame} {a : Act} {k : List Item} {cs : List Frame} {c : Code} : step P (lone (b.atR a (.code (.scope c) :: k)) cs w) = .next (lone (b.atR a (.code c :: .inScope c :: k)) cs w) :=
  step_lone_go (by simp [stepG, stepG.exec, Frame.atR])
theorem stepR_inScope {b : Frame} {a : Act} {k : List Item} {cs : List Frame} {c : Code} : step P (lone (b.atR a (.inScope c :: k)) cs w) = .next (lone (b.atR a k) cs w) :=
  step_lone_go (by simp [stepG, stepG.exec, Frame.atR])

theorem wpIn_scope {c : Code} {a : Act} {Q : Exit → Act → World → Prop} (h : c.wpIn F n P (Exit.noGoto Q) a w) : (Code.scope c).wpIn F n P Q a w := by
  intro b k cs hro hb hr
  have h0 : (lone (b.atR a (.code (.scope c) :: k)) cs w).fenced P F := fenced_calm hb hr rfl
  obtain ⟨e, a₁, w₁, hq, harr⟩ := h b (.inScope c :: k) cs hro hb hr
  cases e with
  | normal => exact ⟨.normal, a₁, w₁, hq, .head h0 stepR_scope (StepsIn.trans harr (.one (fenced_calm hb hr rfl) stepR_inScope))⟩
  | exit id => exact ⟨.exit id, a₁, w₁, hq, ⟨fun k' hk => .head h0 stepR_scope (harr.1 k' (by simp [exitTo, hk])), fun hrr hk => let ⟨k₁, h1, h2⟩ := harr.2 hrr (by simp [exitTo, hk]); ⟨k₁, h1, .head h0 stepR_scope h2⟩⟩⟩
  | goto l => exact hq.elim
  | ret => exact ⟨.ret, a₁, w₁, hq, .of_steps (.one h0 stepR_scope) harr⟩
  | panic ch => exact ⟨.panic ch, a₁, w₁, hq, .of_steps (.one h0 stepR_scope) harr⟩
  | outgrown => exact ⟨.outgrown, a₁, w₁, hq, ArrivesIn.of_steps (I := Machine.fenced P F) (b := b) (k := k) (cs := cs) (e := .outgrown) (a := a₁) (w := w₁) (.one h0 stepR_scope) harr⟩
end scope

/-- What is left to show is shown by what is computed. -/
theorem vc_ok : ∀ (c : Code) (Q : Exit → PSt → PH → Prop) (s : PSt) (ph : PH), vc X ρ n0 c Q s ph → PWp X ρ n0 c Q s ph := by
  intro c
  induction c with
  | skip => exact fun Q s ph h hn G w a hr hs => wpIn_skip ⟨G, s, ph, .refl _ _, hr, hs, h⟩
  | label l => exact fun Q s ph h hn G w a hr hs => wpIn_label ⟨G, s, ph, .refl _ _, hr, hs, h⟩
  | exit id => exact fun Q s ph h hn G w a hr hs => wpIn_exit ⟨G, s, ph, .refl _ _, hr, hs, h⟩
  | goto l => exact fun Q s ph h hn G w a hr hs => wpIn_goto ⟨G, s, ph, .refl _ _, hr, hs, h⟩
  | ret => exact fun Q s ph h hn G w a hr hs => wpIn_ret ⟨G, s, ph, .refl _ _, hr, hs, h⟩
  | refuse _ => exact fun Q s ph h => h.elim
  | loop c ih => exact fun Q s ph h => h
  | rangeFunc f ps a b => exact fun Q s ph h => h
  | region id ops draw =>
    intro Q s ph h hn G w a hr hs
    unfold vc at h
    split at h
    · rename_i hd
      subst hd
      exact wpIn_region (vcOps_ok _ hn hr hs (.refl _ _) h)
    · rename_i hd
      have : draw = true := by cases draw <;> simp_all
      subst this
      exact h hn G w a hr hs
  | seq x y ihx ihy =>
    intro Q s ph h hn G w a hr hs
    refine wpIn_seq (wpIn_mono (ihx _ s ph h hn G w a hr hs) ?_)
    rintro e a' w' ⟨G', s', ph', h1, h2, h3, h4⟩
    cases e with
    | normal =>
      have hn' : n0 ≤ ph'.n := by
        by_cases hz : n0 = 0
        · omega
        · have hl := hr.lenN
          obtain ⟨L, hL⟩ : ∃ L, G.l[n0 - 1]? = some L := ⟨_, List.getElem?_eq_getElem (by omega)⟩
          have := (List.getElem?_eq_some_iff.1 (h1.l _ _ (by omega) hL)).1
          have := h2.lenN
          omega
      refine wpIn_mono (ihy _ s' ph' h4 hn' G' w' a' h2 h3) ?_
      rintro e2 a2 w2 ⟨G2, s2, ph2, q1, q2, q3, q4⟩
      exact ⟨G2, s2, ph2, h1.trans q1, q2, q3, q4⟩
    | exit id => exact ⟨G', s', ph', h1, h2, h3, h4⟩
    | goto l => exact ⟨G', s', ph', h1, h2, h3, h4⟩
    | ret => exact ⟨G', s', ph', h1, h2, h3, h4⟩
    | panic c => exact ⟨G', s', ph', h1, h2, h3, h4⟩
    | outgrown => exact ⟨G', s', ph', h1, h2, h3, h4⟩
  | cond c x y ihx ihy =>
    intro Q s ph h hn G w a hr hs
    unfold vc at h
    split at h
    · rename_i t ht
      have he := hs.ev c
      rw [ht] at he
      refine wpIn_cond (t := t) he.bool_inv ?_
      cases t with
      | true => exact ihx _ s ph (h.1 rfl) hn G w a hr hs
      | false => exact ihy _ s ph (h.2 rfl) hn G w a hr hs
    · exact h.elim
  | block id c ih =>
    intro Q s ph h hn G w a hr hs
    refine wpIn_block (wpIn_mono (ih _ s ph h hn G w a hr hs) ?_)
    rintro e a' w' ⟨G', s', ph', h1, h2, h3, h4⟩
    cases e with
    | exit id' =>
      simp only [PExit.blk] at h4
      simp only [Exit.inBlock]
      split
      · rename_i e; rw [if_pos e] at h4; exact ⟨G', s', ph', h1, h2, h3, h4⟩
      · rename_i e; rw [if_neg e] at h4; exact ⟨G', s', ph', h1, h2, h3, h4⟩
    | normal => exact ⟨G', s', ph', h1, h2, h3, h4⟩
    | goto l => exact ⟨G', s', ph', h1, h2, h3, h4⟩
    | ret => exact ⟨G', s', ph', h1, h2, h3, h4⟩
    | panic c => exact ⟨G', s', ph', h1, h2, h3, h4⟩
    | outgrown => exact ⟨G', s', ph', h1, h2, h3, h4⟩
  | scope c ih =>
    intro Q s ph h hn G w a hr hs
    refine wpIn_scope (wpIn_mono (ih _ s ph h hn G w a hr hs) ?_)
    rintro e a' w' ⟨G', s', ph', h1, h2, h3, h4⟩
    cases e with
    | goto l => exact h4.elim
    | normal => exact ⟨G', s', ph', h1, h2, h3, h4⟩
    | exit l => exact ⟨G', s', ph', h1, h2, h3, h4⟩
    | ret => exact ⟨G', s', ph', h1, h2, h3, h4⟩
    | panic c => exact ⟨G', s', ph', h1, h2, h3, h4⟩
    | outgrown => exact ⟨G', s', ph', h1, h2, h3, h4⟩

theorem grow_n {G G' : Ghost} {ph ph' : PH} {w w' : World} (hr : Rel X G ph w) (hr' : Rel X G' ph' w') (hle : LeN n0 G G') (hn : n0 ≤ ph.n) : n0 ≤ ph'.n := by
  by_cases hz : n0 = 0
  · omega
  · have hl := hr.lenN
    obtain ⟨L, hL⟩ : ∃ L, G.l[n0 - 1]? = some L := ⟨_, List.getElem?_eq_getElem (by omega)⟩
    have := (List.getElem?_eq_some_iff.1 (hle.l _ _ (by omega) hL)).1
    have := hr'.lenN
    omega

/-! ### What is told less of -/
/-- The state may be told anew. -/
def Weak (X : Ctx) (n0 : Nat) (ph : PH) (vs : List PV) (ph' : PH) (vs' : List PV) : Prop :=
  ∀ G w rvs, Rel X G ph w → RVs G vs rvs → ∃ G', LeN n0 G G' ∧ Rel X G' ph' w ∧ RVs G' vs' rvs

theorem Weak.refl (ph : PH) (vs : List PV) : Weak X n0 ph vs ph vs := fun G w rvs hr hv => ⟨G, .refl _ _, hr, hv⟩
theorem Weak.trans {a b c : PH} {x y z : List PV} (h : Weak X n0 a x b y) (k : Weak X n0 b y c z) : Weak X n0 a x c z := fun G w rvs hr hv =>
  let ⟨G1, l1, r1, v1⟩ := h G w rvs hr hv
  let ⟨G2, l2, r2, v2⟩ := k G1 w rvs r1 v1
  ⟨G2, l1.trans l2, r2, v2⟩

theorem PWp.weak {c : Code} {s s' : PSt} {ph' : PH} (hw : Weak X n0 ph s.tm ph' s'.tm) (hm : s'.ms = s.ms) (h : PWp X ρ n0 c Q s' ph') : PWp X ρ n0 c Q s ph := by
  intro hn G w a hr hs
  obtain ⟨G', l1, r1, v1⟩ := hw G w _ hr hs.tm
  refine wpIn_mono (h (grow_n hr r1 l1 hn) G' w a r1 ⟨v1, by rw [hm]; exact hs.ms⟩) ?_
  rintro e a' w' ⟨G2, s2, ph2, q1, q2, q3, q4⟩
  exact ⟨G2, s2, ph2, l1.trans q1, q2, q3, q4⟩

/-- Slots whose values nobody reads any more. -/
inductive Fades : List PV → List PV → Prop
  | nil : Fades [] []
  | keep (p : PV) (ps qs : List PV) (h : Fades ps qs) : Fades (p :: ps) (p :: qs)
  | fade (p : PV) (ps qs : List PV) (h : Fades ps qs) : Fades (p :: ps) (.undef :: qs)

theorem Fades.rvs {ps qs : List PV} (h : Fades ps qs) : ∀ {vs : List Value}, RVs G ps vs → RVs G qs vs := by
  induction h with
  | nil => exact fun h => h
  | keep p ps qs _ ih => intro vs h; cases h with | cons _ v _ vs a b => exact .cons _ _ _ _ a (ih b)
  | fade p ps qs _ ih => intro vs h; cases h with | cons _ v _ vs a b => exact .cons _ _ _ _ (.undef _) (ih b)

theorem Weak.fades {ps qs : List PV} (h : Fades ps qs) : Weak X n0 ph ps ph qs := fun G w rvs hr hv => ⟨G, .refl _ _, hr, h.rvs hv⟩

def PH.cut (ph : PH) (n : Nat) (ob : Nat → Option PObj) : PH := { bl := ph.bl.take n, ob := ob, ty := fun p => if p < n then ph.ty p else none }

/-- All that lies from n on is frozen, or forgotten. -/
noncomputable def frozenGhost (G : Ghost) (ph : PH) (w : World) (n : Nat) : Ghost :=
  { l := G.l.take n
    g := fun p m => if p < n then G.g p m else none
    f := fun a => match G.f a with
      | some v => some v
      | none => open Classical in if a.spot = none ∧ ∃ p c L, n ≤ p ∧ ph.get p = some c ∧ G.l[p]? = some L ∧ a.block = L.b then w.cell? a else none }

mutual
/-- A value told without the blocks from n on: rows that lie there are told with all their cells. -/
def frz (ph : PH) (n : Nat) : Nat → PV → Option PV
  | 0, _ => none
  | d + 1, v => match v with
    | .undef => some .undef
    | .bool b => some (.bool b)
    | .int k i => some (.int k i)
    | .str s => some (.str s)
    | .nilptr => some .nilptr
    | .nilsl => some .nilsl
    | .zsl => some .zsl
    | .nilfunc => some .nilfunc
    | .nilif => some .nilif
    | .yield l => some (.yield l)
    | .ptr p o => if p < n then some (.ptr p o) else none
    | .sl p off esz len cap => if p < n then some (.sl p off esz len cap) else match ph.get p with
      | some cells => if off + len * esz ≤ cells.length then (frzs ph n d (seg cells off (len * esz))).map (.fsl esz len) else none
      | none => none
    | .fptr cells => (frzs ph n d cells).map .fptr
    | .fsl esz len cells => (frzs ph n d cells).map (.fsl esz len)
    | .gsl p esz len cells => if p < n then (frzs ph n d cells).map (.gsl p esz len) else (frzs ph n d cells).map (.fsl esz len)
    | .gptr _ _ _ _ => none
    | .func f a b => match frzs ph n d a, frzs ph n d b with
      | some a, some b => some (.func f a b)
      | _, _ => none
    | .agg cells => (frzs ph n d cells).map .agg
    | .tuple cells => (frzs ph n d cells).map .tuple
def frzs (ph : PH) (n : Nat) : Nat → List PV → Option (List PV)
  | _, [] => some []
  | d, p :: ps => match frz ph n d p, frzs ph n d ps with
    | some p, some ps => some (p :: ps)
    | _, _ => none
end

end Pv
