/-
  No cell of these rows narrows 'for every input' (looked for: loops, veiled, ifaces, maps, wideKeys, modest, calm, conditions, laid).
  DERIVED. THE GIVEN ROWS OF THIS SEAT. 3 by the template 'for every input the law returns true; each argument reads behind the call as it read before'; 0 by the template 'total and deterministic' (their statements: YtcbennmiaafnjaaTotals.lean).
  GIVEN WITH THE SEED: the statements are not yours to turn. If you find one false, say at which input.
  Laid BY PROGRAM, IN A SANDBOX (cutbox-rows.mjs): the forced cells as the released guide's own fill.sh prints them over the translation cabd9cc833563475… (all of the seat's roots in one cut). By AI agents, Wed Nov 11 2026. No macro, syntax, notation, axiom, sorry.
-/
import Derived.Test.YtcbennmiaafnjaaChecked
import GoSem.Claim
import GoSem.ClaimJoined
import GoSem.ClaimMapViews
import Derived.JoinedTies
import Derived.KernelRfl
namespace Go.Proofs.Ytcbennmiaafnjaa
/- THE CELL 'sum', in the pinned program and in every row, IS THE sha256 OF THE DUMP (.gsa) THAT YtcbennmiaafnjaaProg.lean LOADS. Nothing in Lean hashes anything: it is a label: what it is worth is what the hold of that sum in a sandbox is worth. -/
noncomputable def Try.pinned : Pinned := { name := "ytcbennmiaafnjaa", sum := "cabd9cc833563475d4d3158db728b6e4e451f94075eb0a57c52e2fed170581b8", checked := Try.checked }
namespace Rows
def none {H : Type} : Left H := { results := [], args := [] }

/-- 'pendulumlaw15.SchedSecrets': WHATEVER THE INPUT: true; the input reads as it did. -/
def schedSecretsSpec : ChangeSpec := { name := "schedSecrets", fn := fun _ => fun
  | [d1, d2, d3] => { results := [.lit (.bool true)], args := [d1, d2, d3] }
  | _ => none }
def schedSecretsRow : OpenClaim := { program := "ytcbennmiaafnjaa", sum := "cabd9cc833563475d4d3158db728b6e4e451f94075eb0a57c52e2fed170581b8", func := "pendulum/pendulumlaw15.SchedSecrets", spec := "schedSecrets", inPlace := ["internal/abi.NoEscape", "internal/bytealg.MakeNoZero"], unfollowed := true, recurses := true, apart := false }
def SchedSecretsSaid : Prop := schedSecretsRow.holds Try.pinned (OpenSpec.ofChange schedSecretsSpec)

/-- ITS FALSE NEIGHBOUR: 'it returns false'. Refute it at one input. -/
def schedSecretsWrong : ChangeSpec := { name := "schedSecrets", fn := fun _ => fun
  | [d1, d2, d3] => { results := [.lit (.bool false)], args := [d1, d2, d3] }
  | _ => none }
def SchedSecretsWrongFalsely : Prop := schedSecretsRow.holds Try.pinned (OpenSpec.ofChange schedSecretsWrong)

/-- 'pendulumlaw15.SchedKeys': WHATEVER THE INPUT: true; the input reads as it did. -/
def schedKeysSpec : ChangeSpec := { name := "schedKeys", fn := fun _ => fun
  | [d1, d2, d3, d4, d5, d6] => { results := [.lit (.bool true)], args := [d1, d2, d3, d4, d5, d6] }
  | _ => none }
def schedKeysRow : OpenClaim := { program := "ytcbennmiaafnjaa", sum := "cabd9cc833563475d4d3158db728b6e4e451f94075eb0a57c52e2fed170581b8", func := "pendulum/pendulumlaw15.SchedKeys", spec := "schedKeys", inPlace := ["internal/abi.NoEscape", "internal/bytealg.MakeNoZero"], unfollowed := true, recurses := true, apart := false }
def SchedKeysSaid : Prop := schedKeysRow.holds Try.pinned (OpenSpec.ofChange schedKeysSpec)

/-- ITS FALSE NEIGHBOUR: 'it returns false'. Refute it at one input. -/
def schedKeysWrong : ChangeSpec := { name := "schedKeys", fn := fun _ => fun
  | [d1, d2, d3, d4, d5, d6] => { results := [.lit (.bool false)], args := [d1, d2, d3, d4, d5, d6] }
  | _ => none }
def SchedKeysWrongFalsely : Prop := schedKeysRow.holds Try.pinned (OpenSpec.ofChange schedKeysWrong)

/-- 'pendulumlaw15.SchedSizes': WHATEVER THE INPUT: true; the input reads as it did. -/
def schedSizesSpec : ChangeSpec := { name := "schedSizes", fn := fun _ => fun
  | [d1, d2, d3] => { results := [.lit (.bool true)], args := [d1, d2, d3] }
  | _ => none }
def schedSizesRow : OpenClaim := { program := "ytcbennmiaafnjaa", sum := "cabd9cc833563475d4d3158db728b6e4e451f94075eb0a57c52e2fed170581b8", func := "pendulum/pendulumlaw15.SchedSizes", spec := "schedSizes", inPlace := ["internal/abi.NoEscape", "internal/bytealg.MakeNoZero"], unfollowed := true, recurses := true, apart := false }
def SchedSizesSaid : Prop := schedSizesRow.holds Try.pinned (OpenSpec.ofChange schedSizesSpec)

/-- ITS FALSE NEIGHBOUR: 'it returns false'. Refute it at one input. -/
def schedSizesWrong : ChangeSpec := { name := "schedSizes", fn := fun _ => fun
  | [d1, d2, d3] => { results := [.lit (.bool false)], args := [d1, d2, d3] }
  | _ => none }
def SchedSizesWrongFalsely : Prop := schedSizesRow.holds Try.pinned (OpenSpec.ofChange schedSizesWrong)

/- THE SECOND FORM. 'bulk': how many values and letters a reading holds, each counted each time it is reached (what is shared counts as often as it is met; a slice's spare places count too). A statement '..UptoSaid' is the law's where the arguments, and the package variables that the reading takes, are together of bulk at most 1048576: NARROWER than '..Said'. Prove '..Said' where nothing that the law and all that it calls make is longer than what came in: it says more and counts as full. Else prove '..UptoSaid'. A law counts once. -/
mutual
def uptoBulk {H : Type} : DataW H → Nat
  | .lit (.string bytes) => bytes.length + 1
  | .lit _ => 1
  | .nil => 1
  | .ptr d => uptoBulk d + 1
  | .slice elems spare => uptoBulkAll elems + uptoBulkAll spare + 1
  | .agg parts => uptoBulkAll parts + 1
  | .iface _ d => uptoBulk d + 1
  | .map entries => uptoBulkEntries entries + 1
  | .held _ => 1
def uptoBulkAll {H : Type} : List (DataW H) → Nat
  | [] => 0
  | d :: r => uptoBulk d + uptoBulkAll r
def uptoBulkEntries {H : Type} : List (Lit × DataW H) → Nat
  | [] => 0
  | x :: r => uptoBulkEntry x + uptoBulkEntries r
def uptoBulkEntry {H : Type} : Lit × DataW H → Nat
  | (.string bytes, d) => bytes.length + uptoBulk d + 1
  | (_, d) => uptoBulk d + 1
 end
def uptoSmall : (H : Type) → List (DataW H) → Bool := fun _ ds => decide (uptoBulkAll ds ≤ 1048576)
def OpenSpec.upto (s : _root_.Go.ChangeSpec) : _root_.Go.OpenSpec := { _root_.Go.OpenSpec.ofChange s with cond := some uptoSmall }

/-- 'pendulumlaw15.SchedSecrets', WHERE WHAT IT READS IS OF BULK AT MOST 1048576: true; the input reads as it did. -/
def schedSecretsUptoRow : OpenClaim := { program := "ytcbennmiaafnjaa", sum := "cabd9cc833563475d4d3158db728b6e4e451f94075eb0a57c52e2fed170581b8", func := "pendulum/pendulumlaw15.SchedSecrets", spec := "schedSecrets", inPlace := ["internal/abi.NoEscape", "internal/bytealg.MakeNoZero"], unfollowed := true, recurses := true, apart := false, narrowed := true }
def SchedSecretsUptoSaid : Prop := schedSecretsUptoRow.holds Try.pinned (OpenSpec.upto schedSecretsSpec)

/-- 'pendulumlaw15.SchedKeys', WHERE WHAT IT READS IS OF BULK AT MOST 1048576: true; the input reads as it did. -/
def schedKeysUptoRow : OpenClaim := { program := "ytcbennmiaafnjaa", sum := "cabd9cc833563475d4d3158db728b6e4e451f94075eb0a57c52e2fed170581b8", func := "pendulum/pendulumlaw15.SchedKeys", spec := "schedKeys", inPlace := ["internal/abi.NoEscape", "internal/bytealg.MakeNoZero"], unfollowed := true, recurses := true, apart := false, narrowed := true }
def SchedKeysUptoSaid : Prop := schedKeysUptoRow.holds Try.pinned (OpenSpec.upto schedKeysSpec)

/-- 'pendulumlaw15.SchedSizes', WHERE WHAT IT READS IS OF BULK AT MOST 1048576: true; the input reads as it did. -/
def schedSizesUptoRow : OpenClaim := { program := "ytcbennmiaafnjaa", sum := "cabd9cc833563475d4d3158db728b6e4e451f94075eb0a57c52e2fed170581b8", func := "pendulum/pendulumlaw15.SchedSizes", spec := "schedSizes", inPlace := ["internal/abi.NoEscape", "internal/bytealg.MakeNoZero"], unfollowed := true, recurses := true, apart := false, narrowed := true }
def SchedSizesUptoSaid : Prop := schedSizesUptoRow.holds Try.pinned (OpenSpec.upto schedSizesSpec)

end Rows
end Go.Proofs.Ytcbennmiaafnjaa
