/-
  No cell of these rows narrows 'for every input' (looked for: loops, veiled, ifaces, maps, wideKeys, modest, calm, conditions, laid).
  DERIVED. THE GIVEN ROWS OF THIS SEAT. 6 by the template 'for every input the law returns true; each argument reads behind the call as it read before'; 0 by the template 'total and deterministic' (their statements: YtinfnpgibmopoaaTotals.lean).
  GIVEN WITH THE SEED: the statements are not yours to turn. If you find one false, say at which input.
  Laid BY PROGRAM, IN A SANDBOX (cutbox-rows.mjs): the forced cells as the released guide's own fill.sh prints them over the translation f919e73a630c08c8… (all of the seat's roots in one cut). By AI agents, Wed Nov 11 2026. No macro, syntax, notation, axiom, sorry.
-/
import Derived.Test.YtinfnpgibmopoaaChecked
import GoSem.Claim
import GoSem.ClaimJoined
import GoSem.ClaimMapViews
import Derived.JoinedTies
import Derived.KernelRfl
namespace Go.Proofs.Ytinfnpgibmopoaa
/- THE CELL 'sum', in the pinned program and in every row, IS THE sha256 OF THE DUMP (.gsa) THAT YtinfnpgibmopoaaProg.lean LOADS. Nothing in Lean hashes anything: it is a label: what it is worth is what the hold of that sum in a sandbox is worth. -/
noncomputable def Try.pinned : Pinned := { name := "ytinfnpgibmopoaa", sum := "f919e73a630c08c86d76e536d306d03988d9a3fb0260126ed17a26aa42325f6b", checked := Try.checked }
namespace Rows
def none {H : Type} : Left H := { results := [], args := [] }

/-- 'pendulumlaw13.RecFrames': WHATEVER THE INPUT: true; the input reads as it did. -/
def recFramesSpec : ChangeSpec := { name := "recFrames", fn := fun _ => fun
  | [d1, d2, d3] => { results := [.lit (.bool true)], args := [d1, d2, d3] }
  | _ => none }
def recFramesRow : OpenClaim := { program := "ytinfnpgibmopoaa", sum := "f919e73a630c08c86d76e536d306d03988d9a3fb0260126ed17a26aa42325f6b", func := "pendulum/pendulumlaw13.RecFrames", spec := "recFrames", unfollowed := true, recurses := true, apart := false }
def RecFramesSaid : Prop := recFramesRow.holds Try.pinned (OpenSpec.ofChange recFramesSpec)

/-- ITS FALSE NEIGHBOUR: 'it returns false'. Refute it at one input. -/
def recFramesWrong : ChangeSpec := { name := "recFrames", fn := fun _ => fun
  | [d1, d2, d3] => { results := [.lit (.bool false)], args := [d1, d2, d3] }
  | _ => none }
def RecFramesWrongFalsely : Prop := recFramesRow.holds Try.pinned (OpenSpec.ofChange recFramesWrong)

/-- 'pendulumlaw13.RecPieces': WHATEVER THE INPUT: true; the input reads as it did. -/
def recPiecesSpec : ChangeSpec := { name := "recPieces", fn := fun _ => fun
  | [d1, d2] => { results := [.lit (.bool true)], args := [d1, d2] }
  | _ => none }
def recPiecesRow : OpenClaim := { program := "ytinfnpgibmopoaa", sum := "f919e73a630c08c86d76e536d306d03988d9a3fb0260126ed17a26aa42325f6b", func := "pendulum/pendulumlaw13.RecPieces", spec := "recPieces", unfollowed := true, recurses := true, apart := false }
def RecPiecesSaid : Prop := recPiecesRow.holds Try.pinned (OpenSpec.ofChange recPiecesSpec)

/-- ITS FALSE NEIGHBOUR: 'it returns false'. Refute it at one input. -/
def recPiecesWrong : ChangeSpec := { name := "recPieces", fn := fun _ => fun
  | [d1, d2] => { results := [.lit (.bool false)], args := [d1, d2] }
  | _ => none }
def RecPiecesWrongFalsely : Prop := recPiecesRow.holds Try.pinned (OpenSpec.ofChange recPiecesWrong)

/-- 'pendulumlaw18.KeReads': WHATEVER THE INPUT: true; the input reads as it did. -/
def keReadsSpec : ChangeSpec := { name := "keReads", fn := fun _ => fun
  | [d1, d2] => { results := [.lit (.bool true)], args := [d1, d2] }
  | _ => none }
def keReadsRow : OpenClaim := { program := "ytinfnpgibmopoaa", sum := "f919e73a630c08c86d76e536d306d03988d9a3fb0260126ed17a26aa42325f6b", func := "pendulum/pendulumlaw18.KeReads", spec := "keReads", inPlace := ["internal/abi.NoEscape"], unfollowed := true, recurses := true, apart := false }
def KeReadsSaid : Prop := keReadsRow.holds Try.pinned (OpenSpec.ofChange keReadsSpec)

/-- ITS FALSE NEIGHBOUR: 'it returns false'. Refute it at one input. -/
def keReadsWrong : ChangeSpec := { name := "keReads", fn := fun _ => fun
  | [d1, d2] => { results := [.lit (.bool false)], args := [d1, d2] }
  | _ => none }
def KeReadsWrongFalsely : Prop := keReadsRow.holds Try.pinned (OpenSpec.ofChange keReadsWrong)

/-- 'pendulumlaw18.KeBegins': WHATEVER THE INPUT: true; the input reads as it did. -/
def keBeginsSpec : ChangeSpec := { name := "keBegins", fn := fun _ => fun
  | [d1, d2, d3] => { results := [.lit (.bool true)], args := [d1, d2, d3] }
  | _ => none }
def keBeginsRow : OpenClaim := { program := "ytinfnpgibmopoaa", sum := "f919e73a630c08c86d76e536d306d03988d9a3fb0260126ed17a26aa42325f6b", func := "pendulum/pendulumlaw18.KeBegins", spec := "keBegins", inPlace := ["internal/abi.NoEscape"], unfollowed := true, recurses := true, apart := false }
def KeBeginsSaid : Prop := keBeginsRow.holds Try.pinned (OpenSpec.ofChange keBeginsSpec)

/-- ITS FALSE NEIGHBOUR: 'it returns false'. Refute it at one input. -/
def keBeginsWrong : ChangeSpec := { name := "keBegins", fn := fun _ => fun
  | [d1, d2, d3] => { results := [.lit (.bool false)], args := [d1, d2, d3] }
  | _ => none }
def KeBeginsWrongFalsely : Prop := keBeginsRow.holds Try.pinned (OpenSpec.ofChange keBeginsWrong)

/-- 'pendulumlaw18.KeBack': WHATEVER THE INPUT: true; the input reads as it did. -/
def keBackSpec : ChangeSpec := { name := "keBack", fn := fun _ => fun
  | [d1, d2, d3, d4] => { results := [.lit (.bool true)], args := [d1, d2, d3, d4] }
  | _ => none }
def keBackRow : OpenClaim := { program := "ytinfnpgibmopoaa", sum := "f919e73a630c08c86d76e536d306d03988d9a3fb0260126ed17a26aa42325f6b", func := "pendulum/pendulumlaw18.KeBack", spec := "keBack", inPlace := ["internal/abi.NoEscape"], unfollowed := true, recurses := true, apart := false }
def KeBackSaid : Prop := keBackRow.holds Try.pinned (OpenSpec.ofChange keBackSpec)

/-- ITS FALSE NEIGHBOUR: 'it returns false'. Refute it at one input. -/
def keBackWrong : ChangeSpec := { name := "keBack", fn := fun _ => fun
  | [d1, d2, d3, d4] => { results := [.lit (.bool false)], args := [d1, d2, d3, d4] }
  | _ => none }
def KeBackWrongFalsely : Prop := keBackRow.holds Try.pinned (OpenSpec.ofChange keBackWrong)

/-- 'pendulumlaw18.KeTells': WHATEVER THE INPUT: true; the input reads as it did. -/
def keTellsSpec : ChangeSpec := { name := "keTells", fn := fun _ => fun
  | [d1, d2, d3, d4] => { results := [.lit (.bool true)], args := [d1, d2, d3, d4] }
  | _ => none }
def keTellsRow : OpenClaim := { program := "ytinfnpgibmopoaa", sum := "f919e73a630c08c86d76e536d306d03988d9a3fb0260126ed17a26aa42325f6b", func := "pendulum/pendulumlaw18.KeTells", spec := "keTells", inPlace := ["internal/abi.NoEscape"], unfollowed := true, recurses := true, apart := false }
def KeTellsSaid : Prop := keTellsRow.holds Try.pinned (OpenSpec.ofChange keTellsSpec)

/-- ITS FALSE NEIGHBOUR: 'it returns false'. Refute it at one input. -/
def keTellsWrong : ChangeSpec := { name := "keTells", fn := fun _ => fun
  | [d1, d2, d3, d4] => { results := [.lit (.bool false)], args := [d1, d2, d3, d4] }
  | _ => none }
def KeTellsWrongFalsely : Prop := keTellsRow.holds Try.pinned (OpenSpec.ofChange keTellsWrong)

/- THE SECOND FORM. 'bulk': how many values and letters a reading holds, each counted each time it is reached (what is shared counts as often as it is met; a slice's spare places count too). A statement '..UptoSaid' is the law's where the arguments, and the package variables that the reading takes, are together of bulk at most 1048576: NARROWER than '..Said'. Prove '..Said' where nothing that the law and all that it calls make is longer than what came in: it says more and counts as full. Else prove '..UptoSaid'. A law counts once. -/
mutual
def uptoBulk {H : Type} : DataW H → Nat
  | .lit (.string bytes) => bytes.length + 1
  | .lit _ => 1
  | .nil => 1
  | .ptr d => uptoBulk d + 1
  | .slice elems spare => uptoBulkAll elems + uptoBulkAll spare + 1
  | .agg parts => uptoBulkAll parts + 1
  | .iface _ d => uptoBulk d + 1
  | .map entries => uptoBulkEntries entries + 1
  | .held _ => 1
def uptoBulkAll {H : Type} : List (DataW H) → Nat
  | [] => 0
  | d :: r => uptoBulk d + uptoBulkAll r
def uptoBulkEntries {H : Type} : List (Lit × DataW H) → Nat
  | [] => 0
  | x :: r => uptoBulkEntry x + uptoBulkEntries r
def uptoBulkEntry {H : Type} : Lit × DataW H → Nat
  | (.string bytes, d) => bytes.length + uptoBulk d + 1
  | (_, d) => uptoBulk d + 1
 end
def uptoSmall : (H : Type) → List (DataW H) → Bool := fun _ ds => decide (uptoBulkAll ds ≤ 1048576)
def OpenSpec.upto (s : _root_.Go.ChangeSpec) : _root_.Go.OpenSpec := { _root_.Go.OpenSpec.ofChange s with cond := some uptoSmall }

/-- 'pendulumlaw13.RecFrames', WHERE WHAT IT READS IS OF BULK AT MOST 1048576: true; the input reads as it did. -/
def recFramesUptoRow : OpenClaim := { program := "ytinfnpgibmopoaa", sum := "f919e73a630c08c86d76e536d306d03988d9a3fb0260126ed17a26aa42325f6b", func := "pendulum/pendulumlaw13.RecFrames", spec := "recFrames", unfollowed := true, recurses := true, apart := false, narrowed := true }
def RecFramesUptoSaid : Prop := recFramesUptoRow.holds Try.pinned (OpenSpec.upto recFramesSpec)

/-- 'pendulumlaw13.RecPieces', WHERE WHAT IT READS IS OF BULK AT MOST 1048576: true; the input reads as it did. -/
def recPiecesUptoRow : OpenClaim := { program := "ytinfnpgibmopoaa", sum := "f919e73a630c08c86d76e536d306d03988d9a3fb0260126ed17a26aa42325f6b", func := "pendulum/pendulumlaw13.RecPieces", spec := "recPieces", unfollowed := true, recurses := true, apart := false, narrowed := true }
def RecPiecesUptoSaid : Prop := recPiecesUptoRow.holds Try.pinned (OpenSpec.upto recPiecesSpec)

/-- 'pendulumlaw18.KeReads', WHERE WHAT IT READS IS OF BULK AT MOST 1048576: true; the input reads as it did. -/
def keReadsUptoRow : OpenClaim := { program := "ytinfnpgibmopoaa", sum := "f919e73a630c08c86d76e536d306d03988d9a3fb0260126ed17a26aa42325f6b", func := "pendulum/pendulumlaw18.KeReads", spec := "keReads", inPlace := ["internal/abi.NoEscape"], unfollowed := true, recurses := true, apart := false, narrowed := true }
def KeReadsUptoSaid : Prop := keReadsUptoRow.holds Try.pinned (OpenSpec.upto keReadsSpec)

/-- 'pendulumlaw18.KeBegins', WHERE WHAT IT READS IS OF BULK AT MOST 1048576: true; the input reads as it did. -/
def keBeginsUptoRow : OpenClaim := { program := "ytinfnpgibmopoaa", sum := "f919e73a630c08c86d76e536d306d03988d9a3fb0260126ed17a26aa42325f6b", func := "pendulum/pendulumlaw18.KeBegins", spec := "keBegins", inPlace := ["internal/abi.NoEscape"], unfollowed := true, recurses := true, apart := false, narrowed := true }
def KeBeginsUptoSaid : Prop := keBeginsUptoRow.holds Try.pinned (OpenSpec.upto keBeginsSpec)

/-- 'pendulumlaw18.KeBack', WHERE WHAT IT READS IS OF BULK AT MOST 1048576: true; the input reads as it did. -/
def keBackUptoRow : OpenClaim := { program := "ytinfnpgibmopoaa", sum := "f919e73a630c08c86d76e536d306d03988d9a3fb0260126ed17a26aa42325f6b", func := "pendulum/pendulumlaw18.KeBack", spec := "keBack", inPlace := ["internal/abi.NoEscape"], unfollowed := true, recurses := true, apart := false, narrowed := true }
def KeBackUptoSaid : Prop := keBackUptoRow.holds Try.pinned (OpenSpec.upto keBackSpec)

/-- 'pendulumlaw18.KeTells', WHERE WHAT IT READS IS OF BULK AT MOST 1048576: true; the input reads as it did. -/
def keTellsUptoRow : OpenClaim := { program := "ytinfnpgibmopoaa", sum := "f919e73a630c08c86d76e536d306d03988d9a3fb0260126ed17a26aa42325f6b", func := "pendulum/pendulumlaw18.KeTells", spec := "keTells", inPlace := ["internal/abi.NoEscape"], unfollowed := true, recurses := true, apart := false, narrowed := true }
def KeTellsUptoSaid : Prop := keTellsUptoRow.holds Try.pinned (OpenSpec.upto keTellsSpec)

end Rows
end Go.Proofs.Ytinfnpgibmopoaa
