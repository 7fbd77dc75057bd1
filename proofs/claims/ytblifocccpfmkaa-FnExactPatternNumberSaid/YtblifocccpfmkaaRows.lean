/-
  No cell of these rows narrows 'for every input' (looked for: loops, veiled, ifaces, maps, wideKeys, modest, calm, conditions, laid).
  DERIVED. THE GIVEN ROWS OF THIS SEAT. 8 by the template 'for every input the law returns true; each argument reads behind the call as it read before'; 0 by the template 'total and deterministic' (their statements: YtblifocccpfmkaaTotals.lean).
  GIVEN WITH THE SEED: the statements are not yours to turn. If you find one false, say at which input.
  Laid BY PROGRAM, IN A SANDBOX (cutbox-rows.mjs): the forced cells as the released guide's own fill.sh prints them over the translation 6cd7586e611330ff… (all of the seat's roots in one cut). By AI agents, Wed Nov 11 2026. No macro, syntax, notation, axiom, sorry.
-/
import Derived.Test.YtblifocccpfmkaaChecked
import GoSem.Claim
import GoSem.ClaimJoined
import GoSem.ClaimMapViews
import Derived.JoinedTies
import Derived.KernelRfl
namespace Go.Proofs.Ytblifocccpfmkaa
/- THE CELL 'sum', in the pinned program and in every row, IS THE sha256 OF THE DUMP (.gsa) THAT YtblifocccpfmkaaProg.lean LOADS. Nothing in Lean hashes anything: it is a label: what it is worth is what the hold of that sum in a sandbox is worth. -/
noncomputable def Try.pinned : Pinned := { name := "ytblifocccpfmkaa", sum := "6cd7586e611330ff820d11ddbc1aef8379a8ec0fe030c53718489a6997b68f57", checked := Try.checked }
namespace Rows
def none {H : Type} : Left H := { results := [], args := [] }

/-- 'laws.FnExactIsCanonical': WHATEVER THE INPUT: true; the input reads as it did. -/
def fnExactIsCanonicalSpec : ChangeSpec := { name := "fnExactIsCanonical", fn := fun _ => fun
  | [d1, d2] => { results := [.lit (.bool true)], args := [d1, d2] }
  | _ => none }
def fnExactIsCanonicalRow : OpenClaim := { program := "ytblifocccpfmkaa", sum := "6cd7586e611330ff820d11ddbc1aef8379a8ec0fe030c53718489a6997b68f57", func := "loop.example/g01041/laws.FnExactIsCanonical", spec := "fnExactIsCanonical", unfollowed := true, recurses := true, apart := false }
def FnExactIsCanonicalSaid : Prop := fnExactIsCanonicalRow.holds Try.pinned (OpenSpec.ofChange fnExactIsCanonicalSpec)

/-- ITS FALSE NEIGHBOUR: 'it returns false'. Refute it at one input. -/
def fnExactIsCanonicalWrong : ChangeSpec := { name := "fnExactIsCanonical", fn := fun _ => fun
  | [d1, d2] => { results := [.lit (.bool false)], args := [d1, d2] }
  | _ => none }
def FnExactIsCanonicalWrongFalsely : Prop := fnExactIsCanonicalRow.holds Try.pinned (OpenSpec.ofChange fnExactIsCanonicalWrong)

/-- 'laws.FnExactSamePattern': WHATEVER THE INPUT: true; the input reads as it did. -/
def fnExactSamePatternSpec : ChangeSpec := { name := "fnExactSamePattern", fn := fun _ => fun
  | [d1, d2, d3] => { results := [.lit (.bool true)], args := [d1, d2, d3] }
  | _ => none }
def fnExactSamePatternRow : OpenClaim := { program := "ytblifocccpfmkaa", sum := "6cd7586e611330ff820d11ddbc1aef8379a8ec0fe030c53718489a6997b68f57", func := "loop.example/g01041/laws.FnExactSamePattern", spec := "fnExactSamePattern", unfollowed := true, recurses := true, apart := false }
def FnExactSamePatternSaid : Prop := fnExactSamePatternRow.holds Try.pinned (OpenSpec.ofChange fnExactSamePatternSpec)

/-- ITS FALSE NEIGHBOUR: 'it returns false'. Refute it at one input. -/
def fnExactSamePatternWrong : ChangeSpec := { name := "fnExactSamePattern", fn := fun _ => fun
  | [d1, d2, d3] => { results := [.lit (.bool false)], args := [d1, d2, d3] }
  | _ => none }
def FnExactSamePatternWrongFalsely : Prop := fnExactSamePatternRow.holds Try.pinned (OpenSpec.ofChange fnExactSamePatternWrong)

/-- 'laws.FnExactCanonOf': WHATEVER THE INPUT: true; the input reads as it did. -/
def fnExactCanonOfSpec : ChangeSpec := { name := "fnExactCanonOf", fn := fun _ => fun
  | [d1, d2] => { results := [.lit (.bool true)], args := [d1, d2] }
  | _ => none }
def fnExactCanonOfRow : OpenClaim := { program := "ytblifocccpfmkaa", sum := "6cd7586e611330ff820d11ddbc1aef8379a8ec0fe030c53718489a6997b68f57", func := "loop.example/g01041/laws.FnExactCanonOf", spec := "fnExactCanonOf", unfollowed := true, recurses := true, apart := false }
def FnExactCanonOfSaid : Prop := fnExactCanonOfRow.holds Try.pinned (OpenSpec.ofChange fnExactCanonOfSpec)

/-- ITS FALSE NEIGHBOUR: 'it returns false'. Refute it at one input. -/
def fnExactCanonOfWrong : ChangeSpec := { name := "fnExactCanonOf", fn := fun _ => fun
  | [d1, d2] => { results := [.lit (.bool false)], args := [d1, d2] }
  | _ => none }
def FnExactCanonOfWrongFalsely : Prop := fnExactCanonOfRow.holds Try.pinned (OpenSpec.ofChange fnExactCanonOfWrong)

/-- 'laws.FnExactCountImages': WHATEVER THE INPUT: true; the input reads as it did. -/
def fnExactCountImagesSpec : ChangeSpec := { name := "fnExactCountImages", fn := fun _ => fun
  | [d1, d2] => { results := [.lit (.bool true)], args := [d1, d2] }
  | _ => none }
def fnExactCountImagesRow : OpenClaim := { program := "ytblifocccpfmkaa", sum := "6cd7586e611330ff820d11ddbc1aef8379a8ec0fe030c53718489a6997b68f57", func := "loop.example/g01041/laws.FnExactCountImages", spec := "fnExactCountImages", unfollowed := true, recurses := true, apart := false }
def FnExactCountImagesSaid : Prop := fnExactCountImagesRow.holds Try.pinned (OpenSpec.ofChange fnExactCountImagesSpec)

/-- ITS FALSE NEIGHBOUR: 'it returns false'. Refute it at one input. -/
def fnExactCountImagesWrong : ChangeSpec := { name := "fnExactCountImages", fn := fun _ => fun
  | [d1, d2] => { results := [.lit (.bool false)], args := [d1, d2] }
  | _ => none }
def FnExactCountImagesWrongFalsely : Prop := fnExactCountImagesRow.holds Try.pinned (OpenSpec.ofChange fnExactCountImagesWrong)

/-- 'laws.FnExactKeepersOf': WHATEVER THE INPUT: true; the input reads as it did. -/
def fnExactKeepersOfSpec : ChangeSpec := { name := "fnExactKeepersOf", fn := fun _ => fun
  | [d1, d2] => { results := [.lit (.bool true)], args := [d1, d2] }
  | _ => none }
def fnExactKeepersOfRow : OpenClaim := { program := "ytblifocccpfmkaa", sum := "6cd7586e611330ff820d11ddbc1aef8379a8ec0fe030c53718489a6997b68f57", func := "loop.example/g01041/laws.FnExactKeepersOf", spec := "fnExactKeepersOf", unfollowed := true, recurses := true, apart := false }
def FnExactKeepersOfSaid : Prop := fnExactKeepersOfRow.holds Try.pinned (OpenSpec.ofChange fnExactKeepersOfSpec)

/-- ITS FALSE NEIGHBOUR: 'it returns false'. Refute it at one input. -/
def fnExactKeepersOfWrong : ChangeSpec := { name := "fnExactKeepersOf", fn := fun _ => fun
  | [d1, d2] => { results := [.lit (.bool false)], args := [d1, d2] }
  | _ => none }
def FnExactKeepersOfWrongFalsely : Prop := fnExactKeepersOfRow.holds Try.pinned (OpenSpec.ofChange fnExactKeepersOfWrong)

/-- 'laws.FnExactPatternsOf': WHATEVER THE INPUT: true; the input reads as it did. -/
def fnExactPatternsOfSpec : ChangeSpec := { name := "fnExactPatternsOf", fn := fun _ => fun
  | [d1, d2] => { results := [.lit (.bool true)], args := [d1, d2] }
  | _ => none }
def fnExactPatternsOfRow : OpenClaim := { program := "ytblifocccpfmkaa", sum := "6cd7586e611330ff820d11ddbc1aef8379a8ec0fe030c53718489a6997b68f57", func := "loop.example/g01041/laws.FnExactPatternsOf", spec := "fnExactPatternsOf", unfollowed := true, recurses := true, apart := false }
def FnExactPatternsOfSaid : Prop := fnExactPatternsOfRow.holds Try.pinned (OpenSpec.ofChange fnExactPatternsOfSpec)

/-- ITS FALSE NEIGHBOUR: 'it returns false'. Refute it at one input. -/
def fnExactPatternsOfWrong : ChangeSpec := { name := "fnExactPatternsOf", fn := fun _ => fun
  | [d1, d2] => { results := [.lit (.bool false)], args := [d1, d2] }
  | _ => none }
def FnExactPatternsOfWrongFalsely : Prop := fnExactPatternsOfRow.holds Try.pinned (OpenSpec.ofChange fnExactPatternsOfWrong)

/-- 'laws.FnExactRigidPatterns': WHATEVER THE INPUT: true; the input reads as it did. -/
def fnExactRigidPatternsSpec : ChangeSpec := { name := "fnExactRigidPatterns", fn := fun _ => fun
  | [d1, d2] => { results := [.lit (.bool true)], args := [d1, d2] }
  | _ => none }
def fnExactRigidPatternsRow : OpenClaim := { program := "ytblifocccpfmkaa", sum := "6cd7586e611330ff820d11ddbc1aef8379a8ec0fe030c53718489a6997b68f57", func := "loop.example/g01041/laws.FnExactRigidPatterns", spec := "fnExactRigidPatterns", unfollowed := true, recurses := true, apart := false }
def FnExactRigidPatternsSaid : Prop := fnExactRigidPatternsRow.holds Try.pinned (OpenSpec.ofChange fnExactRigidPatternsSpec)

/-- ITS FALSE NEIGHBOUR: 'it returns false'. Refute it at one input. -/
def fnExactRigidPatternsWrong : ChangeSpec := { name := "fnExactRigidPatterns", fn := fun _ => fun
  | [d1, d2] => { results := [.lit (.bool false)], args := [d1, d2] }
  | _ => none }
def FnExactRigidPatternsWrongFalsely : Prop := fnExactRigidPatternsRow.holds Try.pinned (OpenSpec.ofChange fnExactRigidPatternsWrong)

/-- 'laws.FnExactPatternNumber': WHATEVER THE INPUT: true; the input reads as it did. -/
def fnExactPatternNumberSpec : ChangeSpec := { name := "fnExactPatternNumber", fn := fun _ => fun
  | [d1, d2, d3] => { results := [.lit (.bool true)], args := [d1, d2, d3] }
  | _ => none }
def fnExactPatternNumberRow : OpenClaim := { program := "ytblifocccpfmkaa", sum := "6cd7586e611330ff820d11ddbc1aef8379a8ec0fe030c53718489a6997b68f57", func := "loop.example/g01041/laws.FnExactPatternNumber", spec := "fnExactPatternNumber", unfollowed := true, recurses := true, apart := false }
def FnExactPatternNumberSaid : Prop := fnExactPatternNumberRow.holds Try.pinned (OpenSpec.ofChange fnExactPatternNumberSpec)

/-- ITS FALSE NEIGHBOUR: 'it returns false'. Refute it at one input. -/
def fnExactPatternNumberWrong : ChangeSpec := { name := "fnExactPatternNumber", fn := fun _ => fun
  | [d1, d2, d3] => { results := [.lit (.bool false)], args := [d1, d2, d3] }
  | _ => none }
def FnExactPatternNumberWrongFalsely : Prop := fnExactPatternNumberRow.holds Try.pinned (OpenSpec.ofChange fnExactPatternNumberWrong)

/- THE SECOND FORM. 'bulk': how many values and letters a reading holds, each counted each time it is reached (what is shared counts as often as it is met; a slice's spare places count too). A statement '..UptoSaid' is the law's where the arguments, and the package variables that the reading takes, are together of bulk at most 1048576: NARROWER than '..Said'. Prove '..Said' where nothing that the law and all that it calls make is longer than what came in: it says more and counts as full. Else prove '..UptoSaid'. A law counts once. -/
mutual
def uptoBulk {H : Type} : DataW H → Nat
  | .lit (.string bytes) => bytes.length + 1
  | .lit _ => 1
  | .nil => 1
  | .ptr d => uptoBulk d + 1
  | .slice elems spare => uptoBulkAll elems + uptoBulkAll spare + 1
  | .agg parts => uptoBulkAll parts + 1
  | .iface _ d => uptoBulk d + 1
  | .map entries => uptoBulkEntries entries + 1
  | .held _ => 1
def uptoBulkAll {H : Type} : List (DataW H) → Nat
  | [] => 0
  | d :: r => uptoBulk d + uptoBulkAll r
def uptoBulkEntries {H : Type} : List (Lit × DataW H) → Nat
  | [] => 0
  | x :: r => uptoBulkEntry x + uptoBulkEntries r
def uptoBulkEntry {H : Type} : Lit × DataW H → Nat
  | (.string bytes, d) => bytes.length + uptoBulk d + 1
  | (_, d) => uptoBulk d + 1
 end
def uptoSmall : (H : Type) → List (DataW H) → Bool := fun _ ds => decide (uptoBulkAll ds ≤ 1048576)
def OpenSpec.upto (s : _root_.Go.ChangeSpec) : _root_.Go.OpenSpec := { _root_.Go.OpenSpec.ofChange s with cond := some uptoSmall }

/-- 'laws.FnExactIsCanonical', WHERE WHAT IT READS IS OF BULK AT MOST 1048576: true; the input reads as it did. -/
def fnExactIsCanonicalUptoRow : OpenClaim := { program := "ytblifocccpfmkaa", sum := "6cd7586e611330ff820d11ddbc1aef8379a8ec0fe030c53718489a6997b68f57", func := "loop.example/g01041/laws.FnExactIsCanonical", spec := "fnExactIsCanonical", unfollowed := true, recurses := true, apart := false, narrowed := true }
def FnExactIsCanonicalUptoSaid : Prop := fnExactIsCanonicalUptoRow.holds Try.pinned (OpenSpec.upto fnExactIsCanonicalSpec)

/-- 'laws.FnExactSamePattern', WHERE WHAT IT READS IS OF BULK AT MOST 1048576: true; the input reads as it did. -/
def fnExactSamePatternUptoRow : OpenClaim := { program := "ytblifocccpfmkaa", sum := "6cd7586e611330ff820d11ddbc1aef8379a8ec0fe030c53718489a6997b68f57", func := "loop.example/g01041/laws.FnExactSamePattern", spec := "fnExactSamePattern", unfollowed := true, recurses := true, apart := false, narrowed := true }
def FnExactSamePatternUptoSaid : Prop := fnExactSamePatternUptoRow.holds Try.pinned (OpenSpec.upto fnExactSamePatternSpec)

/-- 'laws.FnExactCanonOf', WHERE WHAT IT READS IS OF BULK AT MOST 1048576: true; the input reads as it did. -/
def fnExactCanonOfUptoRow : OpenClaim := { program := "ytblifocccpfmkaa", sum := "6cd7586e611330ff820d11ddbc1aef8379a8ec0fe030c53718489a6997b68f57", func := "loop.example/g01041/laws.FnExactCanonOf", spec := "fnExactCanonOf", unfollowed := true, recurses := true, apart := false, narrowed := true }
def FnExactCanonOfUptoSaid : Prop := fnExactCanonOfUptoRow.holds Try.pinned (OpenSpec.upto fnExactCanonOfSpec)

/-- 'laws.FnExactCountImages', WHERE WHAT IT READS IS OF BULK AT MOST 1048576: true; the input reads as it did. -/
def fnExactCountImagesUptoRow : OpenClaim := { program := "ytblifocccpfmkaa", sum := "6cd7586e611330ff820d11ddbc1aef8379a8ec0fe030c53718489a6997b68f57", func := "loop.example/g01041/laws.FnExactCountImages", spec := "fnExactCountImages", unfollowed := true, recurses := true, apart := false, narrowed := true }
def FnExactCountImagesUptoSaid : Prop := fnExactCountImagesUptoRow.holds Try.pinned (OpenSpec.upto fnExactCountImagesSpec)

/-- 'laws.FnExactKeepersOf', WHERE WHAT IT READS IS OF BULK AT MOST 1048576: true; the input reads as it did. -/
def fnExactKeepersOfUptoRow : OpenClaim := { program := "ytblifocccpfmkaa", sum := "6cd7586e611330ff820d11ddbc1aef8379a8ec0fe030c53718489a6997b68f57", func := "loop.example/g01041/laws.FnExactKeepersOf", spec := "fnExactKeepersOf", unfollowed := true, recurses := true, apart := false, narrowed := true }
def FnExactKeepersOfUptoSaid : Prop := fnExactKeepersOfUptoRow.holds Try.pinned (OpenSpec.upto fnExactKeepersOfSpec)

/-- 'laws.FnExactPatternsOf', WHERE WHAT IT READS IS OF BULK AT MOST 1048576: true; the input reads as it did. -/
def fnExactPatternsOfUptoRow : OpenClaim := { program := "ytblifocccpfmkaa", sum := "6cd7586e611330ff820d11ddbc1aef8379a8ec0fe030c53718489a6997b68f57", func := "loop.example/g01041/laws.FnExactPatternsOf", spec := "fnExactPatternsOf", unfollowed := true, recurses := true, apart := false, narrowed := true }
def FnExactPatternsOfUptoSaid : Prop := fnExactPatternsOfUptoRow.holds Try.pinned (OpenSpec.upto fnExactPatternsOfSpec)

/-- 'laws.FnExactRigidPatterns', WHERE WHAT IT READS IS OF BULK AT MOST 1048576: true; the input reads as it did. -/
def fnExactRigidPatternsUptoRow : OpenClaim := { program := "ytblifocccpfmkaa", sum := "6cd7586e611330ff820d11ddbc1aef8379a8ec0fe030c53718489a6997b68f57", func := "loop.example/g01041/laws.FnExactRigidPatterns", spec := "fnExactRigidPatterns", unfollowed := true, recurses := true, apart := false, narrowed := true }
def FnExactRigidPatternsUptoSaid : Prop := fnExactRigidPatternsUptoRow.holds Try.pinned (OpenSpec.upto fnExactRigidPatternsSpec)

/-- 'laws.FnExactPatternNumber', WHERE WHAT IT READS IS OF BULK AT MOST 1048576: true; the input reads as it did. -/
def fnExactPatternNumberUptoRow : OpenClaim := { program := "ytblifocccpfmkaa", sum := "6cd7586e611330ff820d11ddbc1aef8379a8ec0fe030c53718489a6997b68f57", func := "loop.example/g01041/laws.FnExactPatternNumber", spec := "fnExactPatternNumber", unfollowed := true, recurses := true, apart := false, narrowed := true }
def FnExactPatternNumberUptoSaid : Prop := fnExactPatternNumberUptoRow.holds Try.pinned (OpenSpec.upto fnExactPatternNumberSpec)

end Rows
end Go.Proofs.Ytblifocccpfmkaa
