/-
  No cell of these rows narrows 'for every input' (looked for: loops, veiled, ifaces, maps, wideKeys, modest, calm, conditions, laid).
  DERIVED. THE GIVEN ROWS OF THIS SEAT. 5 by the template 'for every input the law returns true; each argument reads behind the call as it read before'; 0 by the template 'total and deterministic' (their statements: YtdjdagcgodpgdaaTotals.lean).
  GIVEN WITH THE SEED: the statements are not yours to turn. If you find one false, say at which input.
  Laid BY PROGRAM, IN A SANDBOX (cutbox-rows.mjs): the forced cells as the released guide's own fill.sh prints them over the translation 2d5184b99111920b… (all of the seat's roots in one cut). By AI agents, Wed Nov 11 2026. No macro, syntax, notation, axiom, sorry.
-/
import Derived.Test.YtdjdagcgodpgdaaChecked
import GoSem.Claim
import GoSem.ClaimJoined
import GoSem.ClaimMapViews
import Derived.JoinedTies
import Derived.KernelRfl
namespace Go.Proofs.Ytdjdagcgodpgdaa
/- THE CELL 'sum', in the pinned program and in every row, IS THE sha256 OF THE DUMP (.gsa) THAT YtdjdagcgodpgdaaProg.lean LOADS. Nothing in Lean hashes anything: it is a label: what it is worth is what the hold of that sum in a sandbox is worth. -/
noncomputable def Try.pinned : Pinned := { name := "ytdjdagcgodpgdaa", sum := "2d5184b99111920b061bfc4ce49391a2dfaf6cc1550431d0c454dcfef1c16e25", checked := Try.checked }
namespace Rows
def none {H : Type} : Left H := { results := [], args := [] }

/-- 'laws.FnExactSolidGroup': WHATEVER THE INPUT: true; the input reads as it did. -/
def fnExactSolidGroupSpec : ChangeSpec := { name := "fnExactSolidGroup", fn := fun _ => fun
  | [d1, d2] => { results := [.lit (.bool true)], args := [d1, d2] }
  | _ => none }
def fnExactSolidGroupRow : OpenClaim := { program := "ytdjdagcgodpgdaa", sum := "2d5184b99111920b061bfc4ce49391a2dfaf6cc1550431d0c454dcfef1c16e25", func := "loop.example/g01041/laws.FnExactSolidGroup", spec := "fnExactSolidGroup", unfollowed := true, recurses := true, apart := false }
def FnExactSolidGroupSaid : Prop := fnExactSolidGroupRow.holds Try.pinned (OpenSpec.ofChange fnExactSolidGroupSpec)

/-- ITS FALSE NEIGHBOUR: 'it returns false'. Refute it at one input. -/
def fnExactSolidGroupWrong : ChangeSpec := { name := "fnExactSolidGroup", fn := fun _ => fun
  | [d1, d2] => { results := [.lit (.bool false)], args := [d1, d2] }
  | _ => none }
def FnExactSolidGroupWrongFalsely : Prop := fnExactSolidGroupRow.holds Try.pinned (OpenSpec.ofChange fnExactSolidGroupWrong)

/-- 'laws.FnExactCountSolid': WHATEVER THE INPUT: true; the input reads as it did. -/
def fnExactCountSolidSpec : ChangeSpec := { name := "fnExactCountSolid", fn := fun _ => fun
  | [d1, d2, d3] => { results := [.lit (.bool true)], args := [d1, d2, d3] }
  | _ => none }
def fnExactCountSolidRow : OpenClaim := { program := "ytdjdagcgodpgdaa", sum := "2d5184b99111920b061bfc4ce49391a2dfaf6cc1550431d0c454dcfef1c16e25", func := "loop.example/g01041/laws.FnExactCountSolid", spec := "fnExactCountSolid", unfollowed := true, recurses := true, apart := false }
def FnExactCountSolidSaid : Prop := fnExactCountSolidRow.holds Try.pinned (OpenSpec.ofChange fnExactCountSolidSpec)

/-- ITS FALSE NEIGHBOUR: 'it returns false'. Refute it at one input. -/
def fnExactCountSolidWrong : ChangeSpec := { name := "fnExactCountSolid", fn := fun _ => fun
  | [d1, d2, d3] => { results := [.lit (.bool false)], args := [d1, d2, d3] }
  | _ => none }
def FnExactCountSolidWrongFalsely : Prop := fnExactCountSolidRow.holds Try.pinned (OpenSpec.ofChange fnExactCountSolidWrong)

/-- 'laws.FnExactHandedSolids': WHATEVER THE INPUT: true; the input reads as it did. -/
def fnExactHandedSolidsSpec : ChangeSpec := { name := "fnExactHandedSolids", fn := fun _ => fun
  | [d1, d2] => { results := [.lit (.bool true)], args := [d1, d2] }
  | _ => none }
def fnExactHandedSolidsRow : OpenClaim := { program := "ytdjdagcgodpgdaa", sum := "2d5184b99111920b061bfc4ce49391a2dfaf6cc1550431d0c454dcfef1c16e25", func := "loop.example/g01041/laws.FnExactHandedSolids", spec := "fnExactHandedSolids", unfollowed := true, recurses := true, apart := false }
def FnExactHandedSolidsSaid : Prop := fnExactHandedSolidsRow.holds Try.pinned (OpenSpec.ofChange fnExactHandedSolidsSpec)

/-- ITS FALSE NEIGHBOUR: 'it returns false'. Refute it at one input. -/
def fnExactHandedSolidsWrong : ChangeSpec := { name := "fnExactHandedSolids", fn := fun _ => fun
  | [d1, d2] => { results := [.lit (.bool false)], args := [d1, d2] }
  | _ => none }
def FnExactHandedSolidsWrongFalsely : Prop := fnExactHandedSolidsRow.holds Try.pinned (OpenSpec.ofChange fnExactHandedSolidsWrong)

/-- 'laws.FnSolids': WHATEVER THE INPUT: true; the input reads as it did. -/
def fnSolidsSpec : ChangeSpec := { name := "fnSolids", fn := fun _ => fun
  | [d] => { results := [.lit (.bool true)], args := [d] }
  | _ => none }
def fnSolidsRow : OpenClaim := { program := "ytdjdagcgodpgdaa", sum := "2d5184b99111920b061bfc4ce49391a2dfaf6cc1550431d0c454dcfef1c16e25", func := "loop.example/g01041/laws.FnSolids", spec := "fnSolids", unfollowed := true, recurses := true, apart := false }
def FnSolidsSaid : Prop := fnSolidsRow.holds Try.pinned (OpenSpec.ofChange fnSolidsSpec)

/-- ITS FALSE NEIGHBOUR: 'it returns false'. Refute it at one input. -/
def fnSolidsWrong : ChangeSpec := { name := "fnSolids", fn := fun _ => fun
  | [d] => { results := [.lit (.bool false)], args := [d] }
  | _ => none }
def FnSolidsWrongFalsely : Prop := fnSolidsRow.holds Try.pinned (OpenSpec.ofChange fnSolidsWrong)

/-- 'laws.FnCubes': WHATEVER THE INPUT: true; the input reads as it did. -/
def fnCubesSpec : ChangeSpec := { name := "fnCubes", fn := fun _ => fun
  | [d] => { results := [.lit (.bool true)], args := [d] }
  | _ => none }
def fnCubesRow : OpenClaim := { program := "ytdjdagcgodpgdaa", sum := "2d5184b99111920b061bfc4ce49391a2dfaf6cc1550431d0c454dcfef1c16e25", func := "loop.example/g01041/laws.FnCubes", spec := "fnCubes", unfollowed := true, recurses := true, apart := false }
def FnCubesSaid : Prop := fnCubesRow.holds Try.pinned (OpenSpec.ofChange fnCubesSpec)

/-- ITS FALSE NEIGHBOUR: 'it returns false'. Refute it at one input. -/
def fnCubesWrong : ChangeSpec := { name := "fnCubes", fn := fun _ => fun
  | [d] => { results := [.lit (.bool false)], args := [d] }
  | _ => none }
def FnCubesWrongFalsely : Prop := fnCubesRow.holds Try.pinned (OpenSpec.ofChange fnCubesWrong)

/- THE SECOND FORM. 'bulk': how many values and letters a reading holds, each counted each time it is reached (what is shared counts as often as it is met; a slice's spare places count too). A statement '..UptoSaid' is the law's where the arguments, and the package variables that the reading takes, are together of bulk at most 1048576: NARROWER than '..Said'. Prove '..Said' where nothing that the law and all that it calls make is longer than what came in: it says more and counts as full. Else prove '..UptoSaid'. A law counts once. -/
mutual
def uptoBulk {H : Type} : DataW H → Nat
  | .lit (.string bytes) => bytes.length + 1
  | .lit _ => 1
  | .nil => 1
  | .ptr d => uptoBulk d + 1
  | .slice elems spare => uptoBulkAll elems + uptoBulkAll spare + 1
  | .agg parts => uptoBulkAll parts + 1
  | .iface _ d => uptoBulk d + 1
  | .map entries => uptoBulkEntries entries + 1
  | .held _ => 1
def uptoBulkAll {H : Type} : List (DataW H) → Nat
  | [] => 0
  | d :: r => uptoBulk d + uptoBulkAll r
def uptoBulkEntries {H : Type} : List (Lit × DataW H) → Nat
  | [] => 0
  | x :: r => uptoBulkEntry x + uptoBulkEntries r
def uptoBulkEntry {H : Type} : Lit × DataW H → Nat
  | (.string bytes, d) => bytes.length + uptoBulk d + 1
  | (_, d) => uptoBulk d + 1
 end
def uptoSmall : (H : Type) → List (DataW H) → Bool := fun _ ds => decide (uptoBulkAll ds ≤ 1048576)
def OpenSpec.upto (s : _root_.Go.ChangeSpec) : _root_.Go.OpenSpec := { _root_.Go.OpenSpec.ofChange s with cond := some uptoSmall }

/-- 'laws.FnExactSolidGroup', WHERE WHAT IT READS IS OF BULK AT MOST 1048576: true; the input reads as it did. -/
def fnExactSolidGroupUptoRow : OpenClaim := { program := "ytdjdagcgodpgdaa", sum := "2d5184b99111920b061bfc4ce49391a2dfaf6cc1550431d0c454dcfef1c16e25", func := "loop.example/g01041/laws.FnExactSolidGroup", spec := "fnExactSolidGroup", unfollowed := true, recurses := true, apart := false, narrowed := true }
def FnExactSolidGroupUptoSaid : Prop := fnExactSolidGroupUptoRow.holds Try.pinned (OpenSpec.upto fnExactSolidGroupSpec)

/-- 'laws.FnExactCountSolid', WHERE WHAT IT READS IS OF BULK AT MOST 1048576: true; the input reads as it did. -/
def fnExactCountSolidUptoRow : OpenClaim := { program := "ytdjdagcgodpgdaa", sum := "2d5184b99111920b061bfc4ce49391a2dfaf6cc1550431d0c454dcfef1c16e25", func := "loop.example/g01041/laws.FnExactCountSolid", spec := "fnExactCountSolid", unfollowed := true, recurses := true, apart := false, narrowed := true }
def FnExactCountSolidUptoSaid : Prop := fnExactCountSolidUptoRow.holds Try.pinned (OpenSpec.upto fnExactCountSolidSpec)

/-- 'laws.FnExactHandedSolids', WHERE WHAT IT READS IS OF BULK AT MOST 1048576: true; the input reads as it did. -/
def fnExactHandedSolidsUptoRow : OpenClaim := { program := "ytdjdagcgodpgdaa", sum := "2d5184b99111920b061bfc4ce49391a2dfaf6cc1550431d0c454dcfef1c16e25", func := "loop.example/g01041/laws.FnExactHandedSolids", spec := "fnExactHandedSolids", unfollowed := true, recurses := true, apart := false, narrowed := true }
def FnExactHandedSolidsUptoSaid : Prop := fnExactHandedSolidsUptoRow.holds Try.pinned (OpenSpec.upto fnExactHandedSolidsSpec)

/-- 'laws.FnSolids', WHERE WHAT IT READS IS OF BULK AT MOST 1048576: true; the input reads as it did. -/
def fnSolidsUptoRow : OpenClaim := { program := "ytdjdagcgodpgdaa", sum := "2d5184b99111920b061bfc4ce49391a2dfaf6cc1550431d0c454dcfef1c16e25", func := "loop.example/g01041/laws.FnSolids", spec := "fnSolids", unfollowed := true, recurses := true, apart := false, narrowed := true }
def FnSolidsUptoSaid : Prop := fnSolidsUptoRow.holds Try.pinned (OpenSpec.upto fnSolidsSpec)

/-- 'laws.FnCubes', WHERE WHAT IT READS IS OF BULK AT MOST 1048576: true; the input reads as it did. -/
def fnCubesUptoRow : OpenClaim := { program := "ytdjdagcgodpgdaa", sum := "2d5184b99111920b061bfc4ce49391a2dfaf6cc1550431d0c454dcfef1c16e25", func := "loop.example/g01041/laws.FnCubes", spec := "fnCubes", unfollowed := true, recurses := true, apart := false, narrowed := true }
def FnCubesUptoSaid : Prop := fnCubesUptoRow.holds Try.pinned (OpenSpec.upto fnCubesSpec)

end Rows
end Go.Proofs.Ytdjdagcgodpgdaa
