/-
  No cell of these rows narrows 'for every input' (looked for: loops, veiled, ifaces, maps, wideKeys, modest, calm, conditions, laid).
  DERIVED. THE GIVEN ROWS OF THIS SEAT. 12 by the template 'for every input the law returns true; each argument reads behind the call as it read before'; 0 by the template 'total and deterministic' (their statements: YtnghikcmdihagaaTotals.lean).
  GIVEN WITH THE SEED: the statements are not yours to turn. If you find one false, say at which input.
  Laid BY PROGRAM, IN A SANDBOX (cutbox-rows.mjs): the forced cells as the released guide's own fill.sh prints them over the translation 8b466b687cc5f8bc… (all of the seat's roots in one cut). By AI agents, Wed Nov 11 2026. No macro, syntax, notation, axiom, sorry.
-/
import Derived.Test.YtnghikcmdihagaaChecked
import GoSem.Claim
import GoSem.ClaimJoined
import GoSem.ClaimMapViews
import Derived.JoinedTies
import Derived.KernelRfl
namespace Go.Proofs.Ytnghikcmdihagaa
/- THE CELL 'sum', in the pinned program and in every row, IS THE sha256 OF THE DUMP (.gsa) THAT YtnghikcmdihagaaProg.lean LOADS. Nothing in Lean hashes anything: it is a label: what it is worth is what the hold of that sum in a sandbox is worth. -/
noncomputable def Try.pinned : Pinned := { name := "ytnghikcmdihagaa", sum := "8b466b687cc5f8bc68cafa8bf555eedcb09bcb5329d4eed31ef7fe37487adc66", checked := Try.checked }
namespace Rows
def none {H : Type} : Left H := { results := [], args := [] }

/-- 'laws.FnExactRotateWord': WHATEVER THE INPUT: true; the input reads as it did. -/
def fnExactRotateWordSpec : ChangeSpec := { name := "fnExactRotateWord", fn := fun _ => fun
  | [d1, d2] => { results := [.lit (.bool true)], args := [d1, d2] }
  | _ => none }
def fnExactRotateWordRow : OpenClaim := { program := "ytnghikcmdihagaa", sum := "8b466b687cc5f8bc68cafa8bf555eedcb09bcb5329d4eed31ef7fe37487adc66", func := "loop.example/g01041/laws.FnExactRotateWord", spec := "fnExactRotateWord", apart := false }
def FnExactRotateWordSaid : Prop := fnExactRotateWordRow.holds Try.pinned (OpenSpec.ofChange fnExactRotateWordSpec)

/-- ITS FALSE NEIGHBOUR: 'it returns false'. Refute it at one input. -/
def fnExactRotateWordWrong : ChangeSpec := { name := "fnExactRotateWord", fn := fun _ => fun
  | [d1, d2] => { results := [.lit (.bool false)], args := [d1, d2] }
  | _ => none }
def FnExactRotateWordWrongFalsely : Prop := fnExactRotateWordRow.holds Try.pinned (OpenSpec.ofChange fnExactRotateWordWrong)

/-- 'laws.FnExactAxesOf': WHATEVER THE INPUT: true; the input reads as it did. -/
def fnExactAxesOfSpec : ChangeSpec := { name := "fnExactAxesOf", fn := fun _ => fun
  | [d] => { results := [.lit (.bool true)], args := [d] }
  | _ => none }
def fnExactAxesOfRow : OpenClaim := { program := "ytnghikcmdihagaa", sum := "8b466b687cc5f8bc68cafa8bf555eedcb09bcb5329d4eed31ef7fe37487adc66", func := "loop.example/g01041/laws.FnExactAxesOf", spec := "fnExactAxesOf", apart := false }
def FnExactAxesOfSaid : Prop := fnExactAxesOfRow.holds Try.pinned (OpenSpec.ofChange fnExactAxesOfSpec)

/-- ITS FALSE NEIGHBOUR: 'it returns false'. Refute it at one input. -/
def fnExactAxesOfWrong : ChangeSpec := { name := "fnExactAxesOf", fn := fun _ => fun
  | [d] => { results := [.lit (.bool false)], args := [d] }
  | _ => none }
def FnExactAxesOfWrongFalsely : Prop := fnExactAxesOfRow.holds Try.pinned (OpenSpec.ofChange fnExactAxesOfWrong)

/-- 'laws.FnExactMirrorWord': WHATEVER THE INPUT: true; the input reads as it did. -/
def fnExactMirrorWordSpec : ChangeSpec := { name := "fnExactMirrorWord", fn := fun _ => fun
  | [d] => { results := [.lit (.bool true)], args := [d] }
  | _ => none }
def fnExactMirrorWordRow : OpenClaim := { program := "ytnghikcmdihagaa", sum := "8b466b687cc5f8bc68cafa8bf555eedcb09bcb5329d4eed31ef7fe37487adc66", func := "loop.example/g01041/laws.FnExactMirrorWord", spec := "fnExactMirrorWord", apart := false }
def FnExactMirrorWordSaid : Prop := fnExactMirrorWordRow.holds Try.pinned (OpenSpec.ofChange fnExactMirrorWordSpec)

/-- ITS FALSE NEIGHBOUR: 'it returns false'. Refute it at one input. -/
def fnExactMirrorWordWrong : ChangeSpec := { name := "fnExactMirrorWord", fn := fun _ => fun
  | [d] => { results := [.lit (.bool false)], args := [d] }
  | _ => none }
def FnExactMirrorWordWrongFalsely : Prop := fnExactMirrorWordRow.holds Try.pinned (OpenSpec.ofChange fnExactMirrorWordWrong)

/-- 'laws.FnExactPeriodOf': WHATEVER THE INPUT: true; the input reads as it did. -/
def fnExactPeriodOfSpec : ChangeSpec := { name := "fnExactPeriodOf", fn := fun _ => fun
  | [d] => { results := [.lit (.bool true)], args := [d] }
  | _ => none }
def fnExactPeriodOfRow : OpenClaim := { program := "ytnghikcmdihagaa", sum := "8b466b687cc5f8bc68cafa8bf555eedcb09bcb5329d4eed31ef7fe37487adc66", func := "loop.example/g01041/laws.FnExactPeriodOf", spec := "fnExactPeriodOf", apart := false }
def FnExactPeriodOfSaid : Prop := fnExactPeriodOfRow.holds Try.pinned (OpenSpec.ofChange fnExactPeriodOfSpec)

/-- ITS FALSE NEIGHBOUR: 'it returns false'. Refute it at one input. -/
def fnExactPeriodOfWrong : ChangeSpec := { name := "fnExactPeriodOf", fn := fun _ => fun
  | [d] => { results := [.lit (.bool false)], args := [d] }
  | _ => none }
def FnExactPeriodOfWrongFalsely : Prop := fnExactPeriodOfRow.holds Try.pinned (OpenSpec.ofChange fnExactPeriodOfWrong)

/-- 'laws.FnExactRootOf': WHATEVER THE INPUT: true; the input reads as it did. -/
def fnExactRootOfSpec : ChangeSpec := { name := "fnExactRootOf", fn := fun _ => fun
  | [d] => { results := [.lit (.bool true)], args := [d] }
  | _ => none }
def fnExactRootOfRow : OpenClaim := { program := "ytnghikcmdihagaa", sum := "8b466b687cc5f8bc68cafa8bf555eedcb09bcb5329d4eed31ef7fe37487adc66", func := "loop.example/g01041/laws.FnExactRootOf", spec := "fnExactRootOf", apart := false }
def FnExactRootOfSaid : Prop := fnExactRootOfRow.holds Try.pinned (OpenSpec.ofChange fnExactRootOfSpec)

/-- ITS FALSE NEIGHBOUR: 'it returns false'. Refute it at one input. -/
def fnExactRootOfWrong : ChangeSpec := { name := "fnExactRootOf", fn := fun _ => fun
  | [d] => { results := [.lit (.bool false)], args := [d] }
  | _ => none }
def FnExactRootOfWrongFalsely : Prop := fnExactRootOfRow.holds Try.pinned (OpenSpec.ofChange fnExactRootOfWrong)

/-- 'laws.FnExactLeastRotation': WHATEVER THE INPUT: true; the input reads as it did. -/
def fnExactLeastRotationSpec : ChangeSpec := { name := "fnExactLeastRotation", fn := fun _ => fun
  | [d] => { results := [.lit (.bool true)], args := [d] }
  | _ => none }
def fnExactLeastRotationRow : OpenClaim := { program := "ytnghikcmdihagaa", sum := "8b466b687cc5f8bc68cafa8bf555eedcb09bcb5329d4eed31ef7fe37487adc66", func := "loop.example/g01041/laws.FnExactLeastRotation", spec := "fnExactLeastRotation", apart := false }
def FnExactLeastRotationSaid : Prop := fnExactLeastRotationRow.holds Try.pinned (OpenSpec.ofChange fnExactLeastRotationSpec)

/-- ITS FALSE NEIGHBOUR: 'it returns false'. Refute it at one input. -/
def fnExactLeastRotationWrong : ChangeSpec := { name := "fnExactLeastRotation", fn := fun _ => fun
  | [d] => { results := [.lit (.bool false)], args := [d] }
  | _ => none }
def FnExactLeastRotationWrongFalsely : Prop := fnExactLeastRotationRow.holds Try.pinned (OpenSpec.ofChange fnExactLeastRotationWrong)

/-- 'laws.FnExactIsNecklace': WHATEVER THE INPUT: true; the input reads as it did. -/
def fnExactIsNecklaceSpec : ChangeSpec := { name := "fnExactIsNecklace", fn := fun _ => fun
  | [d] => { results := [.lit (.bool true)], args := [d] }
  | _ => none }
def fnExactIsNecklaceRow : OpenClaim := { program := "ytnghikcmdihagaa", sum := "8b466b687cc5f8bc68cafa8bf555eedcb09bcb5329d4eed31ef7fe37487adc66", func := "loop.example/g01041/laws.FnExactIsNecklace", spec := "fnExactIsNecklace", apart := false }
def FnExactIsNecklaceSaid : Prop := fnExactIsNecklaceRow.holds Try.pinned (OpenSpec.ofChange fnExactIsNecklaceSpec)

/-- ITS FALSE NEIGHBOUR: 'it returns false'. Refute it at one input. -/
def fnExactIsNecklaceWrong : ChangeSpec := { name := "fnExactIsNecklace", fn := fun _ => fun
  | [d] => { results := [.lit (.bool false)], args := [d] }
  | _ => none }
def FnExactIsNecklaceWrongFalsely : Prop := fnExactIsNecklaceRow.holds Try.pinned (OpenSpec.ofChange fnExactIsNecklaceWrong)

/-- 'laws.FnExactIsMirrored': WHATEVER THE INPUT: true; the input reads as it did. -/
def fnExactIsMirroredSpec : ChangeSpec := { name := "fnExactIsMirrored", fn := fun _ => fun
  | [d] => { results := [.lit (.bool true)], args := [d] }
  | _ => none }
def fnExactIsMirroredRow : OpenClaim := { program := "ytnghikcmdihagaa", sum := "8b466b687cc5f8bc68cafa8bf555eedcb09bcb5329d4eed31ef7fe37487adc66", func := "loop.example/g01041/laws.FnExactIsMirrored", spec := "fnExactIsMirrored", apart := false }
def FnExactIsMirroredSaid : Prop := fnExactIsMirroredRow.holds Try.pinned (OpenSpec.ofChange fnExactIsMirroredSpec)

/-- ITS FALSE NEIGHBOUR: 'it returns false'. Refute it at one input. -/
def fnExactIsMirroredWrong : ChangeSpec := { name := "fnExactIsMirrored", fn := fun _ => fun
  | [d] => { results := [.lit (.bool false)], args := [d] }
  | _ => none }
def FnExactIsMirroredWrongFalsely : Prop := fnExactIsMirroredRow.holds Try.pinned (OpenSpec.ofChange fnExactIsMirroredWrong)

/-- 'laws.FnExactIsLyndon': WHATEVER THE INPUT: true; the input reads as it did. -/
def fnExactIsLyndonSpec : ChangeSpec := { name := "fnExactIsLyndon", fn := fun _ => fun
  | [d] => { results := [.lit (.bool true)], args := [d] }
  | _ => none }
def fnExactIsLyndonRow : OpenClaim := { program := "ytnghikcmdihagaa", sum := "8b466b687cc5f8bc68cafa8bf555eedcb09bcb5329d4eed31ef7fe37487adc66", func := "loop.example/g01041/laws.FnExactIsLyndon", spec := "fnExactIsLyndon", apart := false }
def FnExactIsLyndonSaid : Prop := fnExactIsLyndonRow.holds Try.pinned (OpenSpec.ofChange fnExactIsLyndonSpec)

/-- ITS FALSE NEIGHBOUR: 'it returns false'. Refute it at one input. -/
def fnExactIsLyndonWrong : ChangeSpec := { name := "fnExactIsLyndon", fn := fun _ => fun
  | [d] => { results := [.lit (.bool false)], args := [d] }
  | _ => none }
def FnExactIsLyndonWrongFalsely : Prop := fnExactIsLyndonRow.holds Try.pinned (OpenSpec.ofChange fnExactIsLyndonWrong)

/-- 'laws.FnExactLeastBracelet': WHATEVER THE INPUT: true; the input reads as it did. -/
def fnExactLeastBraceletSpec : ChangeSpec := { name := "fnExactLeastBracelet", fn := fun _ => fun
  | [d] => { results := [.lit (.bool true)], args := [d] }
  | _ => none }
def fnExactLeastBraceletRow : OpenClaim := { program := "ytnghikcmdihagaa", sum := "8b466b687cc5f8bc68cafa8bf555eedcb09bcb5329d4eed31ef7fe37487adc66", func := "loop.example/g01041/laws.FnExactLeastBracelet", spec := "fnExactLeastBracelet", apart := false }
def FnExactLeastBraceletSaid : Prop := fnExactLeastBraceletRow.holds Try.pinned (OpenSpec.ofChange fnExactLeastBraceletSpec)

/-- ITS FALSE NEIGHBOUR: 'it returns false'. Refute it at one input. -/
def fnExactLeastBraceletWrong : ChangeSpec := { name := "fnExactLeastBracelet", fn := fun _ => fun
  | [d] => { results := [.lit (.bool false)], args := [d] }
  | _ => none }
def FnExactLeastBraceletWrongFalsely : Prop := fnExactLeastBraceletRow.holds Try.pinned (OpenSpec.ofChange fnExactLeastBraceletWrong)

/-- 'laws.FnExactIsBracelet': WHATEVER THE INPUT: true; the input reads as it did. -/
def fnExactIsBraceletSpec : ChangeSpec := { name := "fnExactIsBracelet", fn := fun _ => fun
  | [d] => { results := [.lit (.bool true)], args := [d] }
  | _ => none }
def fnExactIsBraceletRow : OpenClaim := { program := "ytnghikcmdihagaa", sum := "8b466b687cc5f8bc68cafa8bf555eedcb09bcb5329d4eed31ef7fe37487adc66", func := "loop.example/g01041/laws.FnExactIsBracelet", spec := "fnExactIsBracelet", apart := false }
def FnExactIsBraceletSaid : Prop := fnExactIsBraceletRow.holds Try.pinned (OpenSpec.ofChange fnExactIsBraceletSpec)

/-- ITS FALSE NEIGHBOUR: 'it returns false'. Refute it at one input. -/
def fnExactIsBraceletWrong : ChangeSpec := { name := "fnExactIsBracelet", fn := fun _ => fun
  | [d] => { results := [.lit (.bool false)], args := [d] }
  | _ => none }
def FnExactIsBraceletWrongFalsely : Prop := fnExactIsBraceletRow.holds Try.pinned (OpenSpec.ofChange fnExactIsBraceletWrong)

/-- 'laws.FnExactLyndonFactors': WHATEVER THE INPUT: true; the input reads as it did. -/
def fnExactLyndonFactorsSpec : ChangeSpec := { name := "fnExactLyndonFactors", fn := fun _ => fun
  | [d] => { results := [.lit (.bool true)], args := [d] }
  | _ => none }
def fnExactLyndonFactorsRow : OpenClaim := { program := "ytnghikcmdihagaa", sum := "8b466b687cc5f8bc68cafa8bf555eedcb09bcb5329d4eed31ef7fe37487adc66", func := "loop.example/g01041/laws.FnExactLyndonFactors", spec := "fnExactLyndonFactors", apart := false }
def FnExactLyndonFactorsSaid : Prop := fnExactLyndonFactorsRow.holds Try.pinned (OpenSpec.ofChange fnExactLyndonFactorsSpec)

/-- ITS FALSE NEIGHBOUR: 'it returns false'. Refute it at one input. -/
def fnExactLyndonFactorsWrong : ChangeSpec := { name := "fnExactLyndonFactors", fn := fun _ => fun
  | [d] => { results := [.lit (.bool false)], args := [d] }
  | _ => none }
def FnExactLyndonFactorsWrongFalsely : Prop := fnExactLyndonFactorsRow.holds Try.pinned (OpenSpec.ofChange fnExactLyndonFactorsWrong)

/- THE SECOND FORM. 'bulk': how many values and letters a reading holds, each counted each time it is reached (what is shared counts as often as it is met; a slice's spare places count too). A statement '..UptoSaid' is the law's where the arguments, and the package variables that the reading takes, are together of bulk at most 1048576: NARROWER than '..Said'. Prove '..Said' where nothing that the law and all that it calls make is longer than what came in: it says more and counts as full. Else prove '..UptoSaid'. A law counts once. -/
mutual
def uptoBulk {H : Type} : DataW H → Nat
  | .lit (.string bytes) => bytes.length + 1
  | .lit _ => 1
  | .nil => 1
  | .ptr d => uptoBulk d + 1
  | .slice elems spare => uptoBulkAll elems + uptoBulkAll spare + 1
  | .agg parts => uptoBulkAll parts + 1
  | .iface _ d => uptoBulk d + 1
  | .map entries => uptoBulkEntries entries + 1
  | .held _ => 1
def uptoBulkAll {H : Type} : List (DataW H) → Nat
  | [] => 0
  | d :: r => uptoBulk d + uptoBulkAll r
def uptoBulkEntries {H : Type} : List (Lit × DataW H) → Nat
  | [] => 0
  | x :: r => uptoBulkEntry x + uptoBulkEntries r
def uptoBulkEntry {H : Type} : Lit × DataW H → Nat
  | (.string bytes, d) => bytes.length + uptoBulk d + 1
  | (_, d) => uptoBulk d + 1
 end
def uptoSmall : (H : Type) → List (DataW H) → Bool := fun _ ds => decide (uptoBulkAll ds ≤ 1048576)
def OpenSpec.upto (s : _root_.Go.ChangeSpec) : _root_.Go.OpenSpec := { _root_.Go.OpenSpec.ofChange s with cond := some uptoSmall }

/-- 'laws.FnExactRotateWord', WHERE WHAT IT READS IS OF BULK AT MOST 1048576: true; the input reads as it did. -/
def fnExactRotateWordUptoRow : OpenClaim := { program := "ytnghikcmdihagaa", sum := "8b466b687cc5f8bc68cafa8bf555eedcb09bcb5329d4eed31ef7fe37487adc66", func := "loop.example/g01041/laws.FnExactRotateWord", spec := "fnExactRotateWord", apart := false, narrowed := true }
def FnExactRotateWordUptoSaid : Prop := fnExactRotateWordUptoRow.holds Try.pinned (OpenSpec.upto fnExactRotateWordSpec)

/-- 'laws.FnExactAxesOf', WHERE WHAT IT READS IS OF BULK AT MOST 1048576: true; the input reads as it did. -/
def fnExactAxesOfUptoRow : OpenClaim := { program := "ytnghikcmdihagaa", sum := "8b466b687cc5f8bc68cafa8bf555eedcb09bcb5329d4eed31ef7fe37487adc66", func := "loop.example/g01041/laws.FnExactAxesOf", spec := "fnExactAxesOf", apart := false, narrowed := true }
def FnExactAxesOfUptoSaid : Prop := fnExactAxesOfUptoRow.holds Try.pinned (OpenSpec.upto fnExactAxesOfSpec)

/-- 'laws.FnExactMirrorWord', WHERE WHAT IT READS IS OF BULK AT MOST 1048576: true; the input reads as it did. -/
def fnExactMirrorWordUptoRow : OpenClaim := { program := "ytnghikcmdihagaa", sum := "8b466b687cc5f8bc68cafa8bf555eedcb09bcb5329d4eed31ef7fe37487adc66", func := "loop.example/g01041/laws.FnExactMirrorWord", spec := "fnExactMirrorWord", apart := false, narrowed := true }
def FnExactMirrorWordUptoSaid : Prop := fnExactMirrorWordUptoRow.holds Try.pinned (OpenSpec.upto fnExactMirrorWordSpec)

/-- 'laws.FnExactPeriodOf', WHERE WHAT IT READS IS OF BULK AT MOST 1048576: true; the input reads as it did. -/
def fnExactPeriodOfUptoRow : OpenClaim := { program := "ytnghikcmdihagaa", sum := "8b466b687cc5f8bc68cafa8bf555eedcb09bcb5329d4eed31ef7fe37487adc66", func := "loop.example/g01041/laws.FnExactPeriodOf", spec := "fnExactPeriodOf", apart := false, narrowed := true }
def FnExactPeriodOfUptoSaid : Prop := fnExactPeriodOfUptoRow.holds Try.pinned (OpenSpec.upto fnExactPeriodOfSpec)

/-- 'laws.FnExactRootOf', WHERE WHAT IT READS IS OF BULK AT MOST 1048576: true; the input reads as it did. -/
def fnExactRootOfUptoRow : OpenClaim := { program := "ytnghikcmdihagaa", sum := "8b466b687cc5f8bc68cafa8bf555eedcb09bcb5329d4eed31ef7fe37487adc66", func := "loop.example/g01041/laws.FnExactRootOf", spec := "fnExactRootOf", apart := false, narrowed := true }
def FnExactRootOfUptoSaid : Prop := fnExactRootOfUptoRow.holds Try.pinned (OpenSpec.upto fnExactRootOfSpec)

/-- 'laws.FnExactLeastRotation', WHERE WHAT IT READS IS OF BULK AT MOST 1048576: true; the input reads as it did. -/
def fnExactLeastRotationUptoRow : OpenClaim := { program := "ytnghikcmdihagaa", sum := "8b466b687cc5f8bc68cafa8bf555eedcb09bcb5329d4eed31ef7fe37487adc66", func := "loop.example/g01041/laws.FnExactLeastRotation", spec := "fnExactLeastRotation", apart := false, narrowed := true }
def FnExactLeastRotationUptoSaid : Prop := fnExactLeastRotationUptoRow.holds Try.pinned (OpenSpec.upto fnExactLeastRotationSpec)

/-- 'laws.FnExactIsNecklace', WHERE WHAT IT READS IS OF BULK AT MOST 1048576: true; the input reads as it did. -/
def fnExactIsNecklaceUptoRow : OpenClaim := { program := "ytnghikcmdihagaa", sum := "8b466b687cc5f8bc68cafa8bf555eedcb09bcb5329d4eed31ef7fe37487adc66", func := "loop.example/g01041/laws.FnExactIsNecklace", spec := "fnExactIsNecklace", apart := false, narrowed := true }
def FnExactIsNecklaceUptoSaid : Prop := fnExactIsNecklaceUptoRow.holds Try.pinned (OpenSpec.upto fnExactIsNecklaceSpec)

/-- 'laws.FnExactIsMirrored', WHERE WHAT IT READS IS OF BULK AT MOST 1048576: true; the input reads as it did. -/
def fnExactIsMirroredUptoRow : OpenClaim := { program := "ytnghikcmdihagaa", sum := "8b466b687cc5f8bc68cafa8bf555eedcb09bcb5329d4eed31ef7fe37487adc66", func := "loop.example/g01041/laws.FnExactIsMirrored", spec := "fnExactIsMirrored", apart := false, narrowed := true }
def FnExactIsMirroredUptoSaid : Prop := fnExactIsMirroredUptoRow.holds Try.pinned (OpenSpec.upto fnExactIsMirroredSpec)

/-- 'laws.FnExactIsLyndon', WHERE WHAT IT READS IS OF BULK AT MOST 1048576: true; the input reads as it did. -/
def fnExactIsLyndonUptoRow : OpenClaim := { program := "ytnghikcmdihagaa", sum := "8b466b687cc5f8bc68cafa8bf555eedcb09bcb5329d4eed31ef7fe37487adc66", func := "loop.example/g01041/laws.FnExactIsLyndon", spec := "fnExactIsLyndon", apart := false, narrowed := true }
def FnExactIsLyndonUptoSaid : Prop := fnExactIsLyndonUptoRow.holds Try.pinned (OpenSpec.upto fnExactIsLyndonSpec)

/-- 'laws.FnExactLeastBracelet', WHERE WHAT IT READS IS OF BULK AT MOST 1048576: true; the input reads as it did. -/
def fnExactLeastBraceletUptoRow : OpenClaim := { program := "ytnghikcmdihagaa", sum := "8b466b687cc5f8bc68cafa8bf555eedcb09bcb5329d4eed31ef7fe37487adc66", func := "loop.example/g01041/laws.FnExactLeastBracelet", spec := "fnExactLeastBracelet", apart := false, narrowed := true }
def FnExactLeastBraceletUptoSaid : Prop := fnExactLeastBraceletUptoRow.holds Try.pinned (OpenSpec.upto fnExactLeastBraceletSpec)

/-- 'laws.FnExactIsBracelet', WHERE WHAT IT READS IS OF BULK AT MOST 1048576: true; the input reads as it did. -/
def fnExactIsBraceletUptoRow : OpenClaim := { program := "ytnghikcmdihagaa", sum := "8b466b687cc5f8bc68cafa8bf555eedcb09bcb5329d4eed31ef7fe37487adc66", func := "loop.example/g01041/laws.FnExactIsBracelet", spec := "fnExactIsBracelet", apart := false, narrowed := true }
def FnExactIsBraceletUptoSaid : Prop := fnExactIsBraceletUptoRow.holds Try.pinned (OpenSpec.upto fnExactIsBraceletSpec)

/-- 'laws.FnExactLyndonFactors', WHERE WHAT IT READS IS OF BULK AT MOST 1048576: true; the input reads as it did. -/
def fnExactLyndonFactorsUptoRow : OpenClaim := { program := "ytnghikcmdihagaa", sum := "8b466b687cc5f8bc68cafa8bf555eedcb09bcb5329d4eed31ef7fe37487adc66", func := "loop.example/g01041/laws.FnExactLyndonFactors", spec := "fnExactLyndonFactors", apart := false, narrowed := true }
def FnExactLyndonFactorsUptoSaid : Prop := fnExactLyndonFactorsUptoRow.holds Try.pinned (OpenSpec.upto fnExactLyndonFactorsSpec)

end Rows
end Go.Proofs.Ytnghikcmdihagaa
