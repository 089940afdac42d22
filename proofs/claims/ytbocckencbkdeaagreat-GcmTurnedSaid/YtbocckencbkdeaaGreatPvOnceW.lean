/- Part of the proof: the layer of pure values, or walks through functions (PvOnceW, PvOnce, PvAe8). -/
import Derived.Test.YtbocckencbkdeaaGreatPvCxJ
import Derived.Tactics
import Derived.Tactics2
import Derived.Defers
import Derived.Laws.Pointers
import Derived.Laws.LoneSync
import Derived.Laws.NewBlocks
import Derived.RegionTactic
import Derived.RegionCalls
import Derived.ChangeAlike
import Derived.Test.YtbocckencbkdeaaGreatPvAeT
import Derived.Test.YtbocckencbkdeaaGreatPvAe7
set_option linter.all false
/-! ### sync.Once, at the machine -/
namespace Go.Proofs.OnceW
open Go Go.Proofs

theorem disable (w : World) : (callFunc 126 #[]).run Tryz.prog w = .ok (.value (.tuple #[])) w := run_call_mark0 Tryz.func126 (by kernel_rfl) (by kernel_rfl) (by kernel_rfl) .disable (by kernel_rfl) w
theorem enable (w : World) : (callFunc 128 #[]).run Tryz.prog w = .ok (.value (.tuple #[])) w := run_call_mark0 Tryz.func128 (by kernel_rfl) (by kernel_rfl) (by kernel_rfl) .enable (by kernel_rfl) w
theorem acquire (a : Addr) (w : World) : (callFunc 129 #[.pointer (some a)]).run Tryz.prog w = .ok (.value (.tuple #[])) w := run_call_marked Tryz.func129 (by kernel_rfl) (by kernel_rfl) (by kernel_rfl) .acquire (by kernel_rfl) a w
theorem releaseMerge (a : Addr) (w : World) : (callFunc 131 #[.pointer (some a)]).run Tryz.prog w = .ok (.value (.tuple #[])) w := run_call_marked Tryz.func131 (by kernel_rfl) (by kernel_rfl) (by kernel_rfl) .releaseMerge (by kernel_rfl) a w

set_option maxRecDepth 100000 in
set_option maxHeartbeats 1600000 in
theorem store_deferred (a : Addr) (x : Value) (u : FrameMode) (w : World) (hc : w.cell? a = some x) (hz : w.frozen? a = false) :
    CallsD Tryz.prog 116 #[.pointer (some a), .bool true] u w fun e u' w' => u' = u ∧ (e = .returned (.tuple #[]) ∧ w' = w.drew.setCell a (.int .u32 1)) := by
  have hc' : w.drew.cell? a = some x := by go_simp
  have hz' : w.drew.frozen? a = false := by go_simp
  have hst := run_call_store (P := Tryz.prog) Tryz.func124 (by kernel_rfl) (by kernel_rfl) (by kernel_rfl) (by kernel_rfl) (k := .u32) (y := 1) hc' hz'
  go_enter_d Tryz.func116, Tryz.ntmps116
  go_wp2
  go_region_calls
  all_goals (go_end0; exact ⟨rfl, rfl⟩)

set_option maxRecDepth 100000 in
set_option maxHeartbeats 1600000 in
theorem unlock_deferred (a : Addr) (u : FrameMode) (w : World) (hc : w.cell? a = some (.int .i32 1)) (hz : w.frozen? a = false) :
    CallsD Tryz.prog 115 #[.pointer (some a)] u w fun e u' w' => u' = u ∧ (e = .returned (.tuple #[]) ∧ w' = w.setCell a (.int .i32 0)) := by
  have hd := disable
  have he := enable
  have hr := releaseMerge
  have hadd := run_call_add (P := Tryz.prog) Tryz.func132 (by kernel_rfl) (by kernel_rfl) (by kernel_rfl) .i32 (by kernel_rfl) (y := -1) (s := 0) hc hz (by simp [go_sem]; rfl)
  have hcv := run_convert_to_unsafe (P := Tryz.prog) (src := 171) (dst := 147) Tryz.underlying171 Tryz.underlying147 (by kernel_rfl) hc
  go_enter_d Tryz.func115, Tryz.ntmps115
  go_wp2
  go_end0
  go_wp2
  go_end0
  exact ⟨rfl, rfl⟩

set_option maxRecDepth 100000 in
set_option maxHeartbeats 1600000 in
theorem lock_free (a : Addr) (w : World) (hc : w.cell? a = some (.int .i32 0)) (hz : w.frozen? a = false) :
    Calls Tryz.prog 114 #[.pointer (some a)] w fun e w' => e = .returned (.tuple #[]) ∧ w' = w.setCell a (.int .i32 1) := by
  have hd := disable
  have he := enable
  have ha := acquire
  have hcas := run_call_cas_hit (P := Tryz.prog) Tryz.func127 (by kernel_rfl) (by kernel_rfl) (by kernel_rfl) .i32 (by kernel_rfl) (y := 1) hc hz
  have hc' : (w.setCell a (.int .i32 1)).cell? a = some (.int .i32 1) := World.cell?_setCell_same w a _ hc
  have hcv := run_convert_to_unsafe (P := Tryz.prog) (src := 171) (dst := 147) Tryz.underlying171 Tryz.underlying147 (by kernel_rfl) hc'
  go_enter Tryz.func114, Tryz.ntmps114
  go_wp2
  first | go_end0 | (simp only [Exit.inBlock, Exit.then]; refine bodyPost_ret (results_none rfl _ _ _) rfl ?_) | refine bodyPost_ret (results_none rfl _ _ _) rfl ?_
  go_wp2
  go_end0
  exact ⟨rfl, rfl⟩

/-- What holds of the world behind the function that Do calls. -/
structure Behind (b off : Nat) (K : World → Prop) (w : World) : Prop where
  k : K w
  h0 : w.cell? ⟨b, off, none⟩ = some (.int .u32 0)
  h1 : w.cell? ⟨b, off + 1, none⟩ = some (.int .i32 1)
  f0 : w.frozen? ⟨b, off, none⟩ = false
  f1 : w.frozen? ⟨b, off + 1, none⟩ = false

set_option maxRecDepth 100000 in
set_option maxHeartbeats 1600000 in
theorem slow_any (b off : Nat) (caps : Array Value) (w : World) (K : World → Prop)
    (h0 : w.cell? ⟨b, off, none⟩ = some (.int .u32 0)) (h1 : w.cell? ⟨b, off + 1, none⟩ = some (.int .i32 0))
    (f0 : w.frozen? ⟨b, off, none⟩ = false) (f1 : w.frozen? ⟨b, off + 1, none⟩ = false)
    (hg : Calls Tryz.prog 100 caps (w.setCell ⟨b, off + 1, none⟩ (.int .i32 1)) fun e w' => e = .returned (.tuple #[]) ∧ Behind b off K w') :
    Calls Tryz.prog 107 #[.pointer (some ⟨b, off, none⟩), .func (.func 100) #[] caps] w fun e w' => e = .returned (.tuple #[]) ∧
      ∃ w1, Behind b off K w1 ∧ w' = (w1.drew.setCell ⟨b, off, none⟩ (.int .u32 1)).setCell ⟨b, off + 1, none⟩ (.int .i32 0) := by
  have hl := run_call_load (P := Tryz.prog) Tryz.func113 (by kernel_rfl) (by kernel_rfl) (by kernel_rfl) .u32 (by kernel_rfl) (w := w.setCell ⟨b, off + 1, none⟩ (.int .i32 1)) (a := ⟨b, off, none⟩) (x := 0) ((World.cell?_setCell_other _ ⟨b, off + 1, none⟩ ⟨b, off, none⟩ _ (by simp)).trans h0)
  have hnot : ∀ (x : Bool) (w : World), (Op.unary .not (.bool x)).run Tryz.prog w = .ok (.bool (!x)) w := fun _ _ => rfl
  go_enter_defers Tryz.func107, Tryz.ntmps107
  go_wp2_with (first | (go_at_call 114; refine (lock_free ⟨b, off + 1, none⟩ _ (by go_simp) (by go_simp)).mono ?_; rintro e w' ⟨rfl, rfl⟩) | (go_at_call 100; refine hg.mono ?_; rintro e w1 ⟨rfl, hw1⟩) | (go_at_call 106; go_in))
  -- the two deferred calls, the last laid first
  refine leaves_cons (f := 116) (args := #[.pointer (some ⟨b, off, none⟩), .bool true]) (by simp) (by simp [go_sem]) ?_
  refine (store_deferred ⟨b, off, none⟩ (.int .u32 0) .returning _ hw1.h0 hw1.f0).mono ?_
  rintro e u' w'' ⟨rfl, rfl, rfl⟩
  refine leaves_cons (f := 115) (args := #[.pointer (some ⟨b, off + 1, none⟩)]) (by simp [settle]) (by simp [go_sem]) ?_
  refine (unlock_deferred ⟨b, off + 1, none⟩ _ _ ?_ ?_).mono ?_
  · refine (World.cell?_setCell_other _ ⟨b, off, none⟩ ⟨b, off + 1, none⟩ _ (by simp)).trans ?_
    rw [World.cell?_drew]; exact hw1.h1
  · simp [hw1.f1]
  rintro e u' w'' ⟨rfl, rfl, rfl⟩
  simp [Leaves, settle, results, Tryz.results107]
  exact ⟨w1, hw1, rfl⟩

set_option maxRecDepth 100000 in
set_option maxHeartbeats 1600000 in
/-- '(*sync.Once).Do', not yet done, the lock free. -/
theorem do_first (b off : Nat) (caps : Array Value) (w : World) (K : World → Prop)
    (h0 : w.cell? ⟨b, off, none⟩ = some (.int .u32 0)) (h1 : w.cell? ⟨b, off + 1, none⟩ = some (.int .i32 0))
    (f0 : w.frozen? ⟨b, off, none⟩ = false) (f1 : w.frozen? ⟨b, off + 1, none⟩ = false)
    (hg : Calls Tryz.prog 100 caps (w.setCell ⟨b, off + 1, none⟩ (.int .i32 1)) fun e w' => e = .returned (.tuple #[]) ∧ Behind b off K w') :
    Calls Tryz.prog 99 #[.pointer (some ⟨b, off, none⟩), .func (.func 100) #[] caps] w fun e w' => e = .returned (.tuple #[]) ∧
      ∃ w1, Behind b off K w1 ∧ w' = (w1.drew.setCell ⟨b, off, none⟩ (.int .u32 1)).setCell ⟨b, off + 1, none⟩ (.int .i32 0) := by
  have hl := run_call_load (P := Tryz.prog) Tryz.func113 (by kernel_rfl) (by kernel_rfl) (by kernel_rfl) .u32 (by kernel_rfl) h0
  have hnot : ∀ (x : Bool) (w : World), (Op.unary .not (.bool x)).run Tryz.prog w = .ok (.bool (!x)) w := fun _ _ => rfl
  go_enter Tryz.func99, Tryz.ntmps99
  go_wp2_with (first | (go_at_call 107; refine (slow_any b off caps _ K h0 h1 f0 f1 hg).mono ?_; rintro e w' ⟨rfl, w1, hw1, rfl⟩) | (go_at_call 106; go_in))
  go_end0
  exact ⟨rfl, w1, hw1, rfl⟩

set_option maxRecDepth 100000 in
set_option maxHeartbeats 1600000 in
/-- '(*sync.Once).Do', done already: the function is not called. -/
theorem do_done (a : Addr) (fv : Value) (w : World) (h0 : w.cell? a = some (.int .u32 1)) :
    Calls Tryz.prog 99 #[.pointer (some a), fv] w fun e w' => e = .returned (.tuple #[]) ∧ w' = w := by
  have hl := run_call_load (P := Tryz.prog) Tryz.func113 (by kernel_rfl) (by kernel_rfl) (by kernel_rfl) .u32 (by kernel_rfl) h0
  have hnot : ∀ (x : Bool) (w : World), (Op.unary .not (.bool x)).run Tryz.prog w = .ok (.bool (!x)) w := fun _ _ => rfl
  go_enter Tryz.func99, Tryz.ntmps99
  go_wp2
  go_end0
  exact ⟨rfl, rfl⟩
end Go.Proofs.OnceW

namespace Pv
open Go Go.Proofs Go.RowKit
variable {w0 : World}

/-! ### sync.Once, told of heaps -/
theorem PH.put_put (ph : PH) (p : Nat) (c d : List PV) : (ph.put p c).put p d = ph.put p d := by simp [PH.put]
theorem own_free {G : Ghost} {X : Ctx} {w : World} {L : Loc} {cells : List PV} {vals : List Value} {cs : Array Value} {e : TypeId} {fz : Nat × Nat} (o : OwnRel X G w L cells vals cs e fz) {k : Nat} (hk : k < vals.length) : w.frozen? ⟨L.b, L.o + k, none⟩ = false := by
  simp only [World.frozen?, o.hb]
  have := o.fr k (by have := o.lt; omega)
  simp only [Bool.and_eq_false_iff, decide_eq_false_iff_not]
  by_cases hx : fz.1 ≤ L.o + k
  · exact .inr fun hy => this ⟨hx, hy⟩
  · exact .inl hx
theorem cell_int {G : Ghost} {vals : List Value} {cells : List PV} (h : RVs G cells vals) {j : Nat} {k : IntKind} {n : Int} (hj : cells[j]? = some (.int k n)) : vals[j]? = some (.int k n) := by
  obtain ⟨v, h1, h2⟩ := h.get j _ hj
  cases h2; exact h1

theorem once_first {ph ph2 : PH} {p o : Nat} {cells cells2 : List PV} {caps : List PV} (hp : ph.get p = some cells) (h0 : cells[o]? = some (.int .u32 0)) (h1 : cells[o + 1]? = some (.int .i32 0))
    (hg : Eff (Cx w0) 100 caps (ph.put p (cells.set (o + 1) (.int .i32 1))) (.tuple []) ph2) (hp2 : ph2.get p = some cells2) (k0 : cells2[o]? = some (.int .u32 0)) (k1 : cells2[o + 1]? = some (.int .i32 1)) (hn : ph2.n = ph.n) :
    Eff (Cx w0) 99 [.ptr p o, .func 100 [] caps] ph (.tuple []) (ph2.put p ((cells2.set o (.int .u32 1)).set (o + 1) (.int .i32 0))) := by
  intro G w rargs hr ha
  have hpn := PH.get_lt hp
  obtain ⟨L, vals, cs, e, fz, hL, ow⟩ := hr.own p cells hp
  cases ha with
  | cons _ a _ aas ha1 ha2 =>
  cases ha2 with
  | cons _ b _ bs hb1 hb2 =>
  cases hb2
  cases ha1 with
  | ptr _ _ L' hL' =>
  rw [hL] at hL'; cases hL'
  cases hb1 with
  | func _ _ _ rf rc hrf hrc =>
  cases hrf
  have v0 := cell_int ow.rv h0
  have v1 := cell_int ow.rv h1
  have c0 := ow.cell v0
  have c1 := ow.cell v1
  have l0 := (List.getElem?_eq_some_iff.1 v0).1
  have l1 := (List.getElem?_eq_some_iff.1 v1).1
  have f0 := own_free ow l0
  have f1 := own_free ow l1
  have hr1 := (hr.store1 hp hL (k := o + 1) (c := .int .i32 1) (v := .int .i32 1) (by rw [ow.rv.length]; exact l1) (.int _ _) rfl).2
  have ea : L.o + (o + 1) = L.o + o + 1 := (Nat.add_assoc _ _ _).symm
  rw [ea] at c1 f1 hr1
  refine .inr ⟨w, run_enter (P := Tryz.prog) Tryz.func99 rfl (by kernel_rfl), ?_⟩
  have hgc : Calls Tryz.prog 100 rc.toArray (w.setCell ⟨L.b, L.o + o + 1, none⟩ (.int .i32 1)) fun e w' => e = .returned (.tuple #[]) ∧
      Go.Proofs.OnceW.Behind L.b (L.o + o) (fun w' => ∃ G', LeN ph.n G G' ∧ Rel (Cx w0) G' ph2 w') w' := by
    have hen := run_enter (P := Tryz.prog) (w := w.setCell ⟨L.b, L.o + o + 1, none⟩ (.int .i32 1)) (args := rc.toArray) Tryz.func100 rfl (by kernel_rfl)
    rcases hg G _ rc hr1 hrc with ⟨v, w', he, _⟩ | ⟨w', he, hc⟩
    · have := hen.symm.trans he; cases this
    · have := hen.symm.trans he
      cases this
      refine hc.mono ?_
      intro e w' he
      cases e with
      | returned v =>
        obtain ⟨G', pv, ph', g1, g2, g3, g4, rfl, rfl⟩ := he
        have hv : v = .tuple #[] := by
          cases g3 with | tuple _ vs h => cases h; rfl
        subst hv
        rw [PH.n_put] at g1
        obtain ⟨L2, vals2, cs2, e2, fz2, hL2, ow2⟩ := g2.own p cells2 hp2
        have := g1.l p L hpn hL
        rw [hL2] at this; cases this
        have u0 := cell_int ow2.rv k0
        have u1 := cell_int ow2.rv k1
        have d1 := ow2.cell u1
        have e1 := own_free ow2 (List.getElem?_eq_some_iff.1 u1).1
        rw [ea] at d1 e1
        exact ⟨rfl, ⟨⟨G', g1, g2⟩, ow2.cell u0, d1, own_free ow2 (List.getElem?_eq_some_iff.1 u0).1, e1⟩⟩
      | _ => exact he.elim
  refine (Go.Proofs.OnceW.do_first L.b (L.o + o) rc.toArray w _ c0 c1 f0 f1 hgc).mono ?_
  rintro e w' ⟨rfl, w1, hw1, rfl⟩
  obtain ⟨G', g1, g2⟩ := hw1.k
  have hL2 := g1.l p L hpn hL
  have hd := g2.drew
  obtain ⟨_, vals2, _, _, _, hL3, ow2⟩ := g2.own p cells2 hp2
  rw [hL2] at hL3; cases hL3
  have hl2 := ow2.rv.length
  have m0 := (List.getElem?_eq_some_iff.1 k0).1
  have m1 := (List.getElem?_eq_some_iff.1 k1).1
  have s1 := (hd.store1 hp2 hL2 (k := o) (c := .int .u32 1) (v := .int .u32 1) m0 (.int _ _) rfl).2
  have hp3 : (ph2.put p (cells2.set o (.int .u32 1))).get p = some (cells2.set o (.int .u32 1)) := by rw [PH.get_put (PH.get_lt hp2), if_pos rfl]
  have s2 := (s1.store1 hp3 hL2 (k := o + 1) (c := .int .i32 0) (v := .int .i32 0) (by rw [List.length_set]; exact m1) (.int _ _) rfl).2
  rw [ea, PH.put_put] at s2
  exact ⟨G', .tuple [], _, g1, s2, .tuple [] [] .nil, by rw [PH.n_put, hn]; exact Nat.le_refl _, rfl, rfl⟩

theorem once_done {ph : PH} {p o : Nat} {cells : List PV} {f : PV} (hp : ph.get p = some cells) (h0 : cells[o]? = some (.int .u32 1)) :
    Eff (Cx w0) 99 [.ptr p o, f] ph (.tuple []) ph := by
  intro G w rargs hr ha
  obtain ⟨L, vals, cs, e, fz, hL, ow⟩ := hr.own p cells hp
  cases ha with
  | cons _ a _ aas ha1 ha2 =>
  cases ha2 with
  | cons _ b _ bs hb1 hb2 =>
  cases hb2
  cases ha1 with
  | ptr _ _ L' hL' =>
  rw [hL] at hL'; cases hL'
  have c0 := ow.cell (cell_int ow.rv h0)
  refine .inr ⟨w, run_enter (P := Tryz.prog) Tryz.func99 rfl (by kernel_rfl), ?_⟩
  refine (Go.Proofs.OnceW.do_done ⟨L.b, L.o + o, none⟩ _ w c0).mono ?_
  rintro e w' ⟨rfl, rfl⟩
  exact ⟨G, .tuple [], ph, .refl _ _, hr, .tuple [] [] .nil, Nat.le_refl _, rfl, rfl⟩
end Pv

--nosplit
--keep2
namespace Pv
set_option maxRecDepth 20000
set_option maxHeartbeats 4000000
open Go Go.Proofs Go.RowKit
variable {w0 : World}

/-- A cipher: fresh (b false), or ready. -/
def ciC (key : List UInt8) (b : Bool) : List PV := if b then cC key 1 0 tabL (.fsl 16 (key.length / 4 + 7) (bytesPV (wordsL key))) else cC key 0 0 (tabI 0) .nilsl
theorem ciC_t (key : List UInt8) : ciC key true = cC key 1 0 tabL (.fsl 16 (key.length / 4 + 7) (bytesPV (wordsL key))) := rfl
theorem ciC_f (key : List UInt8) : ciC key false = cC key 0 0 (tabI 0) .nilsl := rfl
theorem cC_setd {key : List UInt8} {d s d' : Int} {T : List UInt8} {r : PV} : (cC key d s T r).set 1 (.int .u32 d') = cC key d' s T r := rfl
theorem cC_sets {key : List UInt8} {d s s' : Int} {T : List UInt8} {r : PV} : (cC key d s T r).set 2 (.int .i32 s') = cC key d s' T r := rfl
theorem ciC_scs {key : List UInt8} {b : Bool} {n : Nat} : Scs n (ciC key b) := by
  cases b
  · exact cC_scs trivial
  · exact cC_scs (scs_scalars (bytesPV_scalar _))

theorem readyF_ok (ph : PH) (q p : Nat) (key : List UInt8) (hk : goodK key) (hp : ph.get p = some [.ptr q 0]) (h : ph.get q = some (cC key 0 1 (tabI 0) .nilsl)) :
    Eff (Cx w0) 100 [.ptr p 0] ph (.tuple []) (ph.put q (cC key 0 1 tabL (.fsl 16 (key.length / 4 + 7) (bytesPV (wordsL key))))) := by
  have hq := PH.get_lt h
  have hpn := PH.get_lt hp
  have hne : p ≠ q := by
    rintro rfl
    rw [hp] at h
    have := congrArg (Option.map List.length) h
    simp [cC_len, tabI_len] at this
  have t1 := tables8_ok (w0 := w0) ph q key 0 1 .nilsl rfl h
  obtain ⟨B, hB⟩ : ∃ B, B = ph.put q (cC key 0 1 tabL .nilsl) := ⟨_, rfl⟩
  rw [← hB] at t1
  have hBn : B.n = ph.n := by rw [hB]; exact PH.n_put ..
  have hBq : B.get q = some (cC key 0 1 tabL .nilsl) := by rw [hB]; exact get_putS _ hq
  have hBp : B.get p = some [.ptr q 0] := by rw [hB, get_putO _ hq hne]; exact hp
  have t2 := schedule8_ok (w0 := w0) B q key 0 1 hk hBq
  have hBB : B.put q (cC key 0 1 tabL (.fsl 16 (key.length / 4 + 7) (bytesPV (wordsL key)))) = ph.put q (cC key 0 1 tabL (.fsl 16 (key.length / 4 + 7) (bytesPV (wordsL key)))) := by rw [hB, put_putS]
  rw [hBB] at t2
  obtain ⟨D, hD⟩ : ∃ D, D = ph.put q (cC key 0 1 tabL (.fsl 16 (key.length / 4 + 7) (bytesPV (wordsL key)))) := ⟨_, rfl⟩
  rw [← hD] at t2 ⊢
  have hDn : D.n = ph.n := by rw [hD]; exact PH.n_put ..
  have hDw : WF ph → WF D := fun hW => hD ▸ hW.put hq (cC_scs (scs_scalars (bytesPV_scalar _)))
  refine eff_of ([]) Tryz.func100 rfl rfl (by decide) hDn hDw fun hW Q hQ => ?_
  simp only [start, List.length_cons, List.length_nil, List.cons_append, List.nil_append, Nat.reduceAdd, Nat.reduceSub, List.replicate_succ, List.replicate_zero, Tryz.ntmps100]
  rw [show H ph [] ph.ob ph.ty = ph from h_start ph]
  repeat' first
  | simp -implicitDefEqProofs (maxSteps := 400000) (disch := first | with_reducible rfl | omega | (simp only [h_n, PH.n_push, PH.n_put, List.length_cons, List.length_nil] <;> omega) | decide) only [wkAll, wkL, popO, wantedP, if_true, if_false, reduceIte, ne_eq, Nat.reduceAdd, Nat.reduceSub, Nat.reduceMul, Nat.reduceLeDiff, Nat.reduceLT, ofCells, ofCell, reduceCtorEq, Int.reduceLE, Int.reduceLT, Int.reduceToNat, Int.reduceAdd, Int.reduceSub, Int.reduceMul, Int.reduceNeg, Int.reduceBEq, Int.reduceBNe, Int.reduceEq, eqCell, eqCells, binP, unP, convP, lenP, builtinP, sliceDataP, unsafeStringP, appendT, appendS, appendP, copyP, srcP, mmsP, mmP, indexOp, indexAddrOp, sliceOp, bndsP, bndP, capw, capCut, loadOp, storeOp, loadP, fieldOp, fieldAddrOp, arrayAtOp, buildP, buildSliceP, makeSliceP, placeF, fillP, setL, PK.agg, isZero, gt_iff_lt, Nat.reducePow, Nat.reduceGT, reps, seg, wkN, if_pos, if_neg, tf82, Tryz.ze82, hp, hBp]
  | refine w_eff t1 ?_
  | refine w_eff t2 ?_
  exact hQ (.inl rfl) trivial rfl ⟨6, frz_tuple frzs_nil⟩ (Keeps.refl D) (nw_eq rfl)

/-- A cipher is made ready. -/
theorem ready8_ok (ph : PH) (q : Nat) (key : List UInt8) (b : Bool) (hk : goodK key) (h : ph.get q = some (ciC key b)) :
    Eff (Cx w0) 87 [.ptr q 0] ph (.tuple []) (ph.put q (ciC key true)) := by
  have hq := PH.get_lt h
  refine eff_of ([]) Tryz.func87 rfl rfl (by decide) (PH.n_put ..) (fun hW => hW.put hq ciC_scs) fun hW Q hQ => ?_
  simp only [start, List.length_cons, List.length_nil, List.cons_append, List.nil_append, Nat.reduceAdd, Nat.reduceSub, List.replicate_succ, List.replicate_zero, Tryz.ntmps87]
  cases b
  · rw [ciC_f] at h
    obtain ⟨B, hB⟩ : ∃ B, B = H ph [some (.own [.ptr q 0])] ph.ob ph.ty := ⟨_, rfl⟩
    have hBq : B.get q = some (cC key 0 0 (tabI 0) .nilsl) := by rw [hB, h_getlt hq]; exact h
    have hBn : B.n = ph.n + 1 := by rw [hB, h_n]; rfl
    have hqB : q < B.n := by omega
    obtain ⟨B1, hB1⟩ : ∃ B1, B1 = B.put q (cC key 0 1 (tabI 0) .nilsl) := ⟨_, rfl⟩
    have hB1p : B1.get ph.n = some [.ptr q 0] := by rw [hB1, get_putO _ hqB (by omega), hB, h_get0]; rfl
    have hB1q : B1.get q = some (cC key 0 1 (tabI 0) .nilsl) := by rw [hB1]; exact get_putS _ hqB
    have hg := readyF_ok (w0 := w0) B1 q ph.n key hk hB1p hB1q
    have hB1n : B1.n = B.n := by rw [hB1]; exact PH.n_put ..
    have hB12 : B1.put q (cC key 0 1 tabL (.fsl 16 (key.length / 4 + 7) (bytesPV (wordsL key)))) = B.put q (cC key 0 1 tabL (.fsl 16 (key.length / 4 + 7) (bytesPV (wordsL key)))) := by rw [hB1, put_putS]
    rw [hB12] at hg
    have on := once_first (w0 := w0) (ph := B) (ph2 := B.put q (cC key 0 1 tabL (.fsl 16 (key.length / 4 + 7) (bytesPV (wordsL key))))) (p := q) (o := 1) (caps := [.ptr ph.n 0]) hBq cC_1 cC_2 (by rw [cC_sets, ← hB1]; exact hg) (get_putS _ hqB) cC_1 cC_2 (PH.n_put ..)
    rw [cC_setd, cC_sets, put_putS, ← ciC_t] at on
    have hEnd : B.put q (ciC key true) = H (ph.put q (ciC key true)) [some (.own [.ptr q 0])] ph.ob ph.ty := by rw [hB, h_putlt hq]
    rw [hEnd, hB] at on
    repeat' first
    | simp -implicitDefEqProofs (maxSteps := 400000) (disch := first | with_reducible rfl | omega | (simp only [h_n, PH.n_push, PH.n_put, List.length_cons, List.length_nil] <;> omega) | decide) only [wkAll, wkL, popO, wantedP, if_true, if_false, reduceIte, ne_eq, Nat.reduceAdd, Nat.reduceSub, Nat.reduceMul, Nat.reduceLeDiff, Nat.reduceLT, ofCells, ofCell, reduceCtorEq, Int.reduceLE, Int.reduceLT, Int.reduceToNat, Int.reduceAdd, Int.reduceSub, Int.reduceMul, Int.reduceNeg, Int.reduceBEq, Int.reduceBNe, Int.reduceEq, eqCell, eqCells, binP, unP, convP, lenP, builtinP, sliceDataP, unsafeStringP, appendT, appendS, appendP, copyP, srcP, mmsP, mmP, indexOp, indexAddrOp, sliceOp, bndsP, bndP, capw, capCut, loadOp, storeOp, loadP, fieldOp, fieldAddrOp, arrayAtOp, buildP, buildSliceP, makeSliceP, placeF, fillP, setL, PK.agg, isZero, gt_iff_lt, Nat.reducePow, Nat.reduceGT, reps, seg, wkN, if_pos, if_neg, tf1, Tryz.ze1, tf5, Tryz.ze5, tf9, Tryz.ze9, tf21, Tryz.ze21, tf82, Tryz.ze82, tf86, Tryz.ze86, tf116, Tryz.ze116, tf118, Tryz.ze118, tf120, Tryz.ze120, tf122, Tryz.ze122, tf124, Tryz.ze124, tf125, Tryz.ze125, tf126, Tryz.ze126, tf127, Tryz.ze127, tf129, Tryz.ze129]
    | refine w_eff on ?_
    exact hQ (.inl rfl) trivial rfl ⟨6, frz_tuple frzs_nil⟩ (keepsH (fun _ _ h => h) fun _ _ => rfl) (nw_eq rfl)
  · have hBq : (H ph [some (.own [.ptr q 0])] ph.ob ph.ty).get q = some (ciC key true) := by rw [h_getlt hq]; exact h
    have on := once_done (w0 := w0) (p := q) (o := 1) (f := .func 100 [] [.ptr ph.n 0]) hBq (by rw [ciC_t]; exact cC_1)
    rw [put_self h] at hQ
    repeat' first
    | simp -implicitDefEqProofs (maxSteps := 400000) (disch := first | with_reducible rfl | omega | (simp only [h_n, PH.n_push, PH.n_put, List.length_cons, List.length_nil] <;> omega) | decide) only [wkAll, wkL, popO, wantedP, if_true, if_false, reduceIte, ne_eq, Nat.reduceAdd, Nat.reduceSub, Nat.reduceMul, Nat.reduceLeDiff, Nat.reduceLT, ofCells, ofCell, reduceCtorEq, Int.reduceLE, Int.reduceLT, Int.reduceToNat, Int.reduceAdd, Int.reduceSub, Int.reduceMul, Int.reduceNeg, Int.reduceBEq, Int.reduceBNe, Int.reduceEq, eqCell, eqCells, binP, unP, convP, lenP, builtinP, sliceDataP, unsafeStringP, appendT, appendS, appendP, copyP, srcP, mmsP, mmP, indexOp, indexAddrOp, sliceOp, bndsP, bndP, capw, capCut, loadOp, storeOp, loadP, fieldOp, fieldAddrOp, arrayAtOp, buildP, buildSliceP, makeSliceP, placeF, fillP, setL, PK.agg, isZero, gt_iff_lt, Nat.reducePow, Nat.reduceGT, reps, seg, wkN, if_pos, if_neg, tf1, Tryz.ze1, tf5, Tryz.ze5, tf9, Tryz.ze9, tf21, Tryz.ze21, tf82, Tryz.ze82, tf86, Tryz.ze86, tf116, Tryz.ze116, tf118, Tryz.ze118, tf120, Tryz.ze120, tf122, Tryz.ze122, tf124, Tryz.ze124, tf125, Tryz.ze125, tf126, Tryz.ze126, tf127, Tryz.ze127, tf129, Tryz.ze129]
    | refine w_eff on ?_
    exact hQ (.inl rfl) trivial rfl ⟨6, frz_tuple frzs_nil⟩ keepsH0 (nw_eq rfl)
end Pv
