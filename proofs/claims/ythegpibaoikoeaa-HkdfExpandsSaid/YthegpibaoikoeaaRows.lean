/-
  No cell of these rows narrows 'for every input' (looked for: loops, veiled, ifaces, maps, wideKeys, modest, calm, conditions, laid).
  DERIVED. THE GIVEN ROWS OF THIS SEAT. 4 by the template 'for every input the law returns true; each argument reads behind the call as it read before'; 0 by the template 'total and deterministic' (their statements: YthegpibaoikoeaaTotals.lean).
  GIVEN WITH THE SEED: the statements are not yours to turn. If you find one false, say at which input.
  Laid BY PROGRAM, IN A SANDBOX (cutbox-rows.mjs): the forced cells as the released guide's own fill.sh prints them over the translation fbd5ed4a9f04874f… (all of the seat's roots in one cut). By AI agents, Wed Nov 11 2026. No macro, syntax, notation, axiom, sorry.
-/
import Derived.Test.YthegpibaoikoeaaChecked
import GoSem.Claim
import GoSem.ClaimJoined
import GoSem.ClaimMapViews
import Derived.JoinedTies
import Derived.KernelRfl
namespace Go.Proofs.Ythegpibaoikoeaa
/- THE CELL 'sum', in the pinned program and in every row, IS THE sha256 OF THE DUMP (.gsa) THAT YthegpibaoikoeaaProg.lean LOADS. Nothing in Lean hashes anything: it is a label: what it is worth is what the hold of that sum in a sandbox is worth. -/
noncomputable def Try.pinned : Pinned := { name := "ythegpibaoikoeaa", sum := "fbd5ed4a9f04874fc5b3f782a38a121dc46b065037d42b74b0e9baa31185ef58", checked := Try.checked }
namespace Rows
def none {H : Type} : Left H := { results := [], args := [] }

/-- 'pendulumlaw07.HkdfExpands': WHATEVER THE INPUT: true; the input reads as it did. -/
def hkdfExpandsSpec : ChangeSpec := { name := "hkdfExpands", fn := fun _ => fun
  | [d1, d2, d3, d4] => { results := [.lit (.bool true)], args := [d1, d2, d3, d4] }
  | _ => none }
def hkdfExpandsRow : OpenClaim := { program := "ythegpibaoikoeaa", sum := "fbd5ed4a9f04874fc5b3f782a38a121dc46b065037d42b74b0e9baa31185ef58", func := "pendulum/pendulumlaw07.HkdfExpands", spec := "hkdfExpands", inPlace := ["internal/abi.NoEscape", "internal/bytealg.MakeNoZero"], unfollowed := true, recurses := true, apart := false }
def HkdfExpandsSaid : Prop := hkdfExpandsRow.holds Try.pinned (OpenSpec.ofChange hkdfExpandsSpec)

/-- ITS FALSE NEIGHBOUR: 'it returns false'. Refute it at one input. -/
def hkdfExpandsWrong : ChangeSpec := { name := "hkdfExpands", fn := fun _ => fun
  | [d1, d2, d3, d4] => { results := [.lit (.bool false)], args := [d1, d2, d3, d4] }
  | _ => none }
def HkdfExpandsWrongFalsely : Prop := hkdfExpandsRow.holds Try.pinned (OpenSpec.ofChange hkdfExpandsWrong)

/-- 'pendulumlaw07.HkdfFewer': WHATEVER THE INPUT: true; the input reads as it did. -/
def hkdfFewerSpec : ChangeSpec := { name := "hkdfFewer", fn := fun _ => fun
  | [d1, d2, d3, d4] => { results := [.lit (.bool true)], args := [d1, d2, d3, d4] }
  | _ => none }
def hkdfFewerRow : OpenClaim := { program := "ythegpibaoikoeaa", sum := "fbd5ed4a9f04874fc5b3f782a38a121dc46b065037d42b74b0e9baa31185ef58", func := "pendulum/pendulumlaw07.HkdfFewer", spec := "hkdfFewer", inPlace := ["internal/abi.NoEscape", "internal/bytealg.MakeNoZero"], unfollowed := true, recurses := true, apart := false }
def HkdfFewerSaid : Prop := hkdfFewerRow.holds Try.pinned (OpenSpec.ofChange hkdfFewerSpec)

/-- ITS FALSE NEIGHBOUR: 'it returns false'. Refute it at one input. -/
def hkdfFewerWrong : ChangeSpec := { name := "hkdfFewer", fn := fun _ => fun
  | [d1, d2, d3, d4] => { results := [.lit (.bool false)], args := [d1, d2, d3, d4] }
  | _ => none }
def HkdfFewerWrongFalsely : Prop := hkdfFewerRow.holds Try.pinned (OpenSpec.ofChange hkdfFewerWrong)

/-- 'pendulumlaw07.HkdfInfos': WHATEVER THE INPUT: true; the input reads as it did. -/
def hkdfInfosSpec : ChangeSpec := { name := "hkdfInfos", fn := fun _ => fun
  | [d1, d2, d3, d4, d5, d6] => { results := [.lit (.bool true)], args := [d1, d2, d3, d4, d5, d6] }
  | _ => none }
def hkdfInfosRow : OpenClaim := { program := "ythegpibaoikoeaa", sum := "fbd5ed4a9f04874fc5b3f782a38a121dc46b065037d42b74b0e9baa31185ef58", func := "pendulum/pendulumlaw07.HkdfInfos", spec := "hkdfInfos", inPlace := ["internal/abi.NoEscape", "internal/bytealg.MakeNoZero"], unfollowed := true, recurses := true, apart := false }
def HkdfInfosSaid : Prop := hkdfInfosRow.holds Try.pinned (OpenSpec.ofChange hkdfInfosSpec)

/-- ITS FALSE NEIGHBOUR: 'it returns false'. Refute it at one input. -/
def hkdfInfosWrong : ChangeSpec := { name := "hkdfInfos", fn := fun _ => fun
  | [d1, d2, d3, d4, d5, d6] => { results := [.lit (.bool false)], args := [d1, d2, d3, d4, d5, d6] }
  | _ => none }
def HkdfInfosWrongFalsely : Prop := hkdfInfosRow.holds Try.pinned (OpenSpec.ofChange hkdfInfosWrong)

/-- 'pendulumlaw07.HkdfLabels': WHATEVER THE INPUT: true; the input reads as it did. -/
def hkdfLabelsSpec : ChangeSpec := { name := "hkdfLabels", fn := fun _ => fun
  | [d1, d2, d3, d4] => { results := [.lit (.bool true)], args := [d1, d2, d3, d4] }
  | _ => none }
def hkdfLabelsRow : OpenClaim := { program := "ythegpibaoikoeaa", sum := "fbd5ed4a9f04874fc5b3f782a38a121dc46b065037d42b74b0e9baa31185ef58", func := "pendulum/pendulumlaw07.HkdfLabels", spec := "hkdfLabels", inPlace := ["internal/abi.NoEscape", "internal/bytealg.MakeNoZero"], unfollowed := true, recurses := true, apart := false }
def HkdfLabelsSaid : Prop := hkdfLabelsRow.holds Try.pinned (OpenSpec.ofChange hkdfLabelsSpec)

/-- ITS FALSE NEIGHBOUR: 'it returns false'. Refute it at one input. -/
def hkdfLabelsWrong : ChangeSpec := { name := "hkdfLabels", fn := fun _ => fun
  | [d1, d2, d3, d4] => { results := [.lit (.bool false)], args := [d1, d2, d3, d4] }
  | _ => none }
def HkdfLabelsWrongFalsely : Prop := hkdfLabelsRow.holds Try.pinned (OpenSpec.ofChange hkdfLabelsWrong)

/- THE SECOND FORM. 'bulk': how many values and letters a reading holds, each counted each time it is reached (what is shared counts as often as it is met; a slice's spare places count too). A statement '..UptoSaid' is the law's where the arguments, and the package variables that the reading takes, are together of bulk at most 1048576: NARROWER than '..Said'. Prove '..Said' where nothing that the law and all that it calls make is longer than what came in: it says more and counts as full. Else prove '..UptoSaid'. A law counts once. -/
mutual
def uptoBulk {H : Type} : DataW H → Nat
  | .lit (.string bytes) => bytes.length + 1
  | .lit _ => 1
  | .nil => 1
  | .ptr d => uptoBulk d + 1
  | .slice elems spare => uptoBulkAll elems + uptoBulkAll spare + 1
  | .agg parts => uptoBulkAll parts + 1
  | .iface _ d => uptoBulk d + 1
  | .map entries => uptoBulkEntries entries + 1
  | .held _ => 1
def uptoBulkAll {H : Type} : List (DataW H) → Nat
  | [] => 0
  | d :: r => uptoBulk d + uptoBulkAll r
def uptoBulkEntries {H : Type} : List (Lit × DataW H) → Nat
  | [] => 0
  | x :: r => uptoBulkEntry x + uptoBulkEntries r
def uptoBulkEntry {H : Type} : Lit × DataW H → Nat
  | (.string bytes, d) => bytes.length + uptoBulk d + 1
  | (_, d) => uptoBulk d + 1
 end
def uptoSmall : (H : Type) → List (DataW H) → Bool := fun _ ds => decide (uptoBulkAll ds ≤ 1048576)
def OpenSpec.upto (s : _root_.Go.ChangeSpec) : _root_.Go.OpenSpec := { _root_.Go.OpenSpec.ofChange s with cond := some uptoSmall }

/-- 'pendulumlaw07.HkdfExpands', WHERE WHAT IT READS IS OF BULK AT MOST 1048576: true; the input reads as it did. -/
def hkdfExpandsUptoRow : OpenClaim := { program := "ythegpibaoikoeaa", sum := "fbd5ed4a9f04874fc5b3f782a38a121dc46b065037d42b74b0e9baa31185ef58", func := "pendulum/pendulumlaw07.HkdfExpands", spec := "hkdfExpands", inPlace := ["internal/abi.NoEscape", "internal/bytealg.MakeNoZero"], unfollowed := true, recurses := true, apart := false, narrowed := true }
def HkdfExpandsUptoSaid : Prop := hkdfExpandsUptoRow.holds Try.pinned (OpenSpec.upto hkdfExpandsSpec)

/-- 'pendulumlaw07.HkdfFewer', WHERE WHAT IT READS IS OF BULK AT MOST 1048576: true; the input reads as it did. -/
def hkdfFewerUptoRow : OpenClaim := { program := "ythegpibaoikoeaa", sum := "fbd5ed4a9f04874fc5b3f782a38a121dc46b065037d42b74b0e9baa31185ef58", func := "pendulum/pendulumlaw07.HkdfFewer", spec := "hkdfFewer", inPlace := ["internal/abi.NoEscape", "internal/bytealg.MakeNoZero"], unfollowed := true, recurses := true, apart := false, narrowed := true }
def HkdfFewerUptoSaid : Prop := hkdfFewerUptoRow.holds Try.pinned (OpenSpec.upto hkdfFewerSpec)

/-- 'pendulumlaw07.HkdfInfos', WHERE WHAT IT READS IS OF BULK AT MOST 1048576: true; the input reads as it did. -/
def hkdfInfosUptoRow : OpenClaim := { program := "ythegpibaoikoeaa", sum := "fbd5ed4a9f04874fc5b3f782a38a121dc46b065037d42b74b0e9baa31185ef58", func := "pendulum/pendulumlaw07.HkdfInfos", spec := "hkdfInfos", inPlace := ["internal/abi.NoEscape", "internal/bytealg.MakeNoZero"], unfollowed := true, recurses := true, apart := false, narrowed := true }
def HkdfInfosUptoSaid : Prop := hkdfInfosUptoRow.holds Try.pinned (OpenSpec.upto hkdfInfosSpec)

/-- 'pendulumlaw07.HkdfLabels', WHERE WHAT IT READS IS OF BULK AT MOST 1048576: true; the input reads as it did. -/
def hkdfLabelsUptoRow : OpenClaim := { program := "ythegpibaoikoeaa", sum := "fbd5ed4a9f04874fc5b3f782a38a121dc46b065037d42b74b0e9baa31185ef58", func := "pendulum/pendulumlaw07.HkdfLabels", spec := "hkdfLabels", inPlace := ["internal/abi.NoEscape", "internal/bytealg.MakeNoZero"], unfollowed := true, recurses := true, apart := false, narrowed := true }
def HkdfLabelsUptoSaid : Prop := hkdfLabelsUptoRow.holds Try.pinned (OpenSpec.upto hkdfLabelsSpec)

end Rows
end Go.Proofs.Ythegpibaoikoeaa
