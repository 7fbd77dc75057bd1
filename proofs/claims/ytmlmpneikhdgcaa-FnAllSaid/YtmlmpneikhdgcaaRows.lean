/-
  No cell of these rows narrows 'for every input' (looked for: loops, veiled, ifaces, maps, wideKeys, modest, calm, conditions, laid).
  DERIVED. THE GIVEN ROWS OF THIS SEAT. 10 by the template 'for every input the law returns true; each argument reads behind the call as it read before'; 0 by the template 'total and deterministic' (their statements: YtmlmpneikhdgcaaTotals.lean).
  GIVEN WITH THE SEED: the statements are not yours to turn. If you find one false, say at which input.
  Laid BY PROGRAM, IN A SANDBOX (cutbox-rows.mjs): the forced cells as the released guide's own fill.sh prints them over the translation 72dd726fb725fb34… (all of the seat's roots in one cut). By AI agents, Wed Nov 11 2026. No macro, syntax, notation, axiom, sorry.
-/
import Derived.Test.YtmlmpneikhdgcaaChecked
import GoSem.Claim
import GoSem.ClaimJoined
import GoSem.ClaimMapViews
import Derived.JoinedTies
import Derived.KernelRfl
namespace Go.Proofs.Ytmlmpneikhdgcaa
/- THE CELL 'sum', in the pinned program and in every row, IS THE sha256 OF THE DUMP (.gsa) THAT YtmlmpneikhdgcaaProg.lean LOADS. Nothing in Lean hashes anything: it is a label: what it is worth is what the hold of that sum in a sandbox is worth. -/
noncomputable def Try.pinned : Pinned := { name := "ytmlmpneikhdgcaa", sum := "72dd726fb725fb34863dc483d1c136b711289d6f1efe5c5cdd02bacf89baf9d3", checked := Try.checked }
namespace Rows
def none {H : Type} : Left H := { results := [], args := [] }

/-- 'laws.FnExactNextNecklace': WHATEVER THE INPUT: true; the input reads as it did. -/
def fnExactNextNecklaceSpec : ChangeSpec := { name := "fnExactNextNecklace", fn := fun _ => fun
  | [d1, d2] => { results := [.lit (.bool true)], args := [d1, d2] }
  | _ => none }
def fnExactNextNecklaceRow : OpenClaim := { program := "ytmlmpneikhdgcaa", sum := "72dd726fb725fb34863dc483d1c136b711289d6f1efe5c5cdd02bacf89baf9d3", func := "loop.example/g01041/laws.FnExactNextNecklace", spec := "fnExactNextNecklace", unfollowed := true, recurses := true, apart := false }
def FnExactNextNecklaceSaid : Prop := fnExactNextNecklaceRow.holds Try.pinned (OpenSpec.ofChange fnExactNextNecklaceSpec)

/-- ITS FALSE NEIGHBOUR: 'it returns false'. Refute it at one input. -/
def fnExactNextNecklaceWrong : ChangeSpec := { name := "fnExactNextNecklace", fn := fun _ => fun
  | [d1, d2] => { results := [.lit (.bool false)], args := [d1, d2] }
  | _ => none }
def FnExactNextNecklaceWrongFalsely : Prop := fnExactNextNecklaceRow.holds Try.pinned (OpenSpec.ofChange fnExactNextNecklaceWrong)

/-- 'laws.FnExactNecklaceAt': WHATEVER THE INPUT: true; the input reads as it did. -/
def fnExactNecklaceAtSpec : ChangeSpec := { name := "fnExactNecklaceAt", fn := fun _ => fun
  | [d1, d2, d3] => { results := [.lit (.bool true)], args := [d1, d2, d3] }
  | _ => none }
def fnExactNecklaceAtRow : OpenClaim := { program := "ytmlmpneikhdgcaa", sum := "72dd726fb725fb34863dc483d1c136b711289d6f1efe5c5cdd02bacf89baf9d3", func := "loop.example/g01041/laws.FnExactNecklaceAt", spec := "fnExactNecklaceAt", unfollowed := true, recurses := true, apart := false }
def FnExactNecklaceAtSaid : Prop := fnExactNecklaceAtRow.holds Try.pinned (OpenSpec.ofChange fnExactNecklaceAtSpec)

/-- ITS FALSE NEIGHBOUR: 'it returns false'. Refute it at one input. -/
def fnExactNecklaceAtWrong : ChangeSpec := { name := "fnExactNecklaceAt", fn := fun _ => fun
  | [d1, d2, d3] => { results := [.lit (.bool false)], args := [d1, d2, d3] }
  | _ => none }
def FnExactNecklaceAtWrongFalsely : Prop := fnExactNecklaceAtRow.holds Try.pinned (OpenSpec.ofChange fnExactNecklaceAtWrong)

/-- 'laws.FnExactNecklaceNumber': WHATEVER THE INPUT: true; the input reads as it did. -/
def fnExactNecklaceNumberSpec : ChangeSpec := { name := "fnExactNecklaceNumber", fn := fun _ => fun
  | [d1, d2] => { results := [.lit (.bool true)], args := [d1, d2] }
  | _ => none }
def fnExactNecklaceNumberRow : OpenClaim := { program := "ytmlmpneikhdgcaa", sum := "72dd726fb725fb34863dc483d1c136b711289d6f1efe5c5cdd02bacf89baf9d3", func := "loop.example/g01041/laws.FnExactNecklaceNumber", spec := "fnExactNecklaceNumber", unfollowed := true, recurses := true, apart := false }
def FnExactNecklaceNumberSaid : Prop := fnExactNecklaceNumberRow.holds Try.pinned (OpenSpec.ofChange fnExactNecklaceNumberSpec)

/-- ITS FALSE NEIGHBOUR: 'it returns false'. Refute it at one input. -/
def fnExactNecklaceNumberWrong : ChangeSpec := { name := "fnExactNecklaceNumber", fn := fun _ => fun
  | [d1, d2] => { results := [.lit (.bool false)], args := [d1, d2] }
  | _ => none }
def FnExactNecklaceNumberWrongFalsely : Prop := fnExactNecklaceNumberRow.holds Try.pinned (OpenSpec.ofChange fnExactNecklaceNumberWrong)

/-- 'laws.FnExactLyndonWords': WHATEVER THE INPUT: true; the input reads as it did. -/
def fnExactLyndonWordsSpec : ChangeSpec := { name := "fnExactLyndonWords", fn := fun _ => fun
  | [d1, d2] => { results := [.lit (.bool true)], args := [d1, d2] }
  | _ => none }
def fnExactLyndonWordsRow : OpenClaim := { program := "ytmlmpneikhdgcaa", sum := "72dd726fb725fb34863dc483d1c136b711289d6f1efe5c5cdd02bacf89baf9d3", func := "loop.example/g01041/laws.FnExactLyndonWords", spec := "fnExactLyndonWords", unfollowed := true, recurses := true, apart := false }
def FnExactLyndonWordsSaid : Prop := fnExactLyndonWordsRow.holds Try.pinned (OpenSpec.ofChange fnExactLyndonWordsSpec)

/-- ITS FALSE NEIGHBOUR: 'it returns false'. Refute it at one input. -/
def fnExactLyndonWordsWrong : ChangeSpec := { name := "fnExactLyndonWords", fn := fun _ => fun
  | [d1, d2] => { results := [.lit (.bool false)], args := [d1, d2] }
  | _ => none }
def FnExactLyndonWordsWrongFalsely : Prop := fnExactLyndonWordsRow.holds Try.pinned (OpenSpec.ofChange fnExactLyndonWordsWrong)

/-- 'laws.FnExactBraceletsOf': WHATEVER THE INPUT: true; the input reads as it did. -/
def fnExactBraceletsOfSpec : ChangeSpec := { name := "fnExactBraceletsOf", fn := fun _ => fun
  | [d1, d2] => { results := [.lit (.bool true)], args := [d1, d2] }
  | _ => none }
def fnExactBraceletsOfRow : OpenClaim := { program := "ytmlmpneikhdgcaa", sum := "72dd726fb725fb34863dc483d1c136b711289d6f1efe5c5cdd02bacf89baf9d3", func := "loop.example/g01041/laws.FnExactBraceletsOf", spec := "fnExactBraceletsOf", unfollowed := true, recurses := true, apart := false }
def FnExactBraceletsOfSaid : Prop := fnExactBraceletsOfRow.holds Try.pinned (OpenSpec.ofChange fnExactBraceletsOfSpec)

/-- ITS FALSE NEIGHBOUR: 'it returns false'. Refute it at one input. -/
def fnExactBraceletsOfWrong : ChangeSpec := { name := "fnExactBraceletsOf", fn := fun _ => fun
  | [d1, d2] => { results := [.lit (.bool false)], args := [d1, d2] }
  | _ => none }
def FnExactBraceletsOfWrongFalsely : Prop := fnExactBraceletsOfRow.holds Try.pinned (OpenSpec.ofChange fnExactBraceletsOfWrong)

/-- 'laws.FnExactWordOfAll': WHATEVER THE INPUT: true; the input reads as it did. -/
def fnExactWordOfAllSpec : ChangeSpec := { name := "fnExactWordOfAll", fn := fun _ => fun
  | [d1, d2] => { results := [.lit (.bool true)], args := [d1, d2] }
  | _ => none }
def fnExactWordOfAllRow : OpenClaim := { program := "ytmlmpneikhdgcaa", sum := "72dd726fb725fb34863dc483d1c136b711289d6f1efe5c5cdd02bacf89baf9d3", func := "loop.example/g01041/laws.FnExactWordOfAll", spec := "fnExactWordOfAll", unfollowed := true, recurses := true, apart := false }
def FnExactWordOfAllSaid : Prop := fnExactWordOfAllRow.holds Try.pinned (OpenSpec.ofChange fnExactWordOfAllSpec)

/-- ITS FALSE NEIGHBOUR: 'it returns false'. Refute it at one input. -/
def fnExactWordOfAllWrong : ChangeSpec := { name := "fnExactWordOfAll", fn := fun _ => fun
  | [d1, d2] => { results := [.lit (.bool false)], args := [d1, d2] }
  | _ => none }
def FnExactWordOfAllWrongFalsely : Prop := fnExactWordOfAllRow.holds Try.pinned (OpenSpec.ofChange fnExactWordOfAllWrong)

/-- 'laws.FnAxes': WHATEVER THE INPUT: true; the input reads as it did. -/
def fnAxesSpec : ChangeSpec := { name := "fnAxes", fn := fun _ => fun
  | [d] => { results := [.lit (.bool true)], args := [d] }
  | _ => none }
def fnAxesRow : OpenClaim := { program := "ytmlmpneikhdgcaa", sum := "72dd726fb725fb34863dc483d1c136b711289d6f1efe5c5cdd02bacf89baf9d3", func := "loop.example/g01041/laws.FnAxes", spec := "fnAxes", apart := false }
def FnAxesSaid : Prop := fnAxesRow.holds Try.pinned (OpenSpec.ofChange fnAxesSpec)

/-- ITS FALSE NEIGHBOUR: 'it returns false'. Refute it at one input. -/
def fnAxesWrong : ChangeSpec := { name := "fnAxes", fn := fun _ => fun
  | [d] => { results := [.lit (.bool false)], args := [d] }
  | _ => none }
def FnAxesWrongFalsely : Prop := fnAxesRow.holds Try.pinned (OpenSpec.ofChange fnAxesWrong)

/-- 'laws.FnRotations': WHATEVER THE INPUT: true; the input reads as it did. -/
def fnRotationsSpec : ChangeSpec := { name := "fnRotations", fn := fun _ => fun
  | [d] => { results := [.lit (.bool true)], args := [d] }
  | _ => none }
def fnRotationsRow : OpenClaim := { program := "ytmlmpneikhdgcaa", sum := "72dd726fb725fb34863dc483d1c136b711289d6f1efe5c5cdd02bacf89baf9d3", func := "loop.example/g01041/laws.FnRotations", spec := "fnRotations", apart := false }
def FnRotationsSaid : Prop := fnRotationsRow.holds Try.pinned (OpenSpec.ofChange fnRotationsSpec)

/-- ITS FALSE NEIGHBOUR: 'it returns false'. Refute it at one input. -/
def fnRotationsWrong : ChangeSpec := { name := "fnRotations", fn := fun _ => fun
  | [d] => { results := [.lit (.bool false)], args := [d] }
  | _ => none }
def FnRotationsWrongFalsely : Prop := fnRotationsRow.holds Try.pinned (OpenSpec.ofChange fnRotationsWrong)

/-- 'laws.FnLyndon': WHATEVER THE INPUT: true; the input reads as it did. -/
def fnLyndonSpec : ChangeSpec := { name := "fnLyndon", fn := fun _ => fun
  | [d] => { results := [.lit (.bool true)], args := [d] }
  | _ => none }
def fnLyndonRow : OpenClaim := { program := "ytmlmpneikhdgcaa", sum := "72dd726fb725fb34863dc483d1c136b711289d6f1efe5c5cdd02bacf89baf9d3", func := "loop.example/g01041/laws.FnLyndon", spec := "fnLyndon", unfollowed := true, recurses := true, apart := false }
def FnLyndonSaid : Prop := fnLyndonRow.holds Try.pinned (OpenSpec.ofChange fnLyndonSpec)

/-- ITS FALSE NEIGHBOUR: 'it returns false'. Refute it at one input. -/
def fnLyndonWrong : ChangeSpec := { name := "fnLyndon", fn := fun _ => fun
  | [d] => { results := [.lit (.bool false)], args := [d] }
  | _ => none }
def FnLyndonWrongFalsely : Prop := fnLyndonRow.holds Try.pinned (OpenSpec.ofChange fnLyndonWrong)

/-- 'laws.FnAll': WHATEVER THE INPUT: true; the input reads as it did. -/
def fnAllSpec : ChangeSpec := { name := "fnAll", fn := fun _ => fun
  | [d] => { results := [.lit (.bool true)], args := [d] }
  | _ => none }
def fnAllRow : OpenClaim := { program := "ytmlmpneikhdgcaa", sum := "72dd726fb725fb34863dc483d1c136b711289d6f1efe5c5cdd02bacf89baf9d3", func := "loop.example/g01041/laws.FnAll", spec := "fnAll", unfollowed := true, recurses := true, apart := false }
def FnAllSaid : Prop := fnAllRow.holds Try.pinned (OpenSpec.ofChange fnAllSpec)

/-- ITS FALSE NEIGHBOUR: 'it returns false'. Refute it at one input. -/
def fnAllWrong : ChangeSpec := { name := "fnAll", fn := fun _ => fun
  | [d] => { results := [.lit (.bool false)], args := [d] }
  | _ => none }
def FnAllWrongFalsely : Prop := fnAllRow.holds Try.pinned (OpenSpec.ofChange fnAllWrong)

/- THE SECOND FORM. 'bulk': how many values and letters a reading holds, each counted each time it is reached (what is shared counts as often as it is met; a slice's spare places count too). A statement '..UptoSaid' is the law's where the arguments, and the package variables that the reading takes, are together of bulk at most 1048576: NARROWER than '..Said'. Prove '..Said' where nothing that the law and all that it calls make is longer than what came in: it says more and counts as full. Else prove '..UptoSaid'. A law counts once. -/
mutual
def uptoBulk {H : Type} : DataW H → Nat
  | .lit (.string bytes) => bytes.length + 1
  | .lit _ => 1
  | .nil => 1
  | .ptr d => uptoBulk d + 1
  | .slice elems spare => uptoBulkAll elems + uptoBulkAll spare + 1
  | .agg parts => uptoBulkAll parts + 1
  | .iface _ d => uptoBulk d + 1
  | .map entries => uptoBulkEntries entries + 1
  | .held _ => 1
def uptoBulkAll {H : Type} : List (DataW H) → Nat
  | [] => 0
  | d :: r => uptoBulk d + uptoBulkAll r
def uptoBulkEntries {H : Type} : List (Lit × DataW H) → Nat
  | [] => 0
  | x :: r => uptoBulkEntry x + uptoBulkEntries r
def uptoBulkEntry {H : Type} : Lit × DataW H → Nat
  | (.string bytes, d) => bytes.length + uptoBulk d + 1
  | (_, d) => uptoBulk d + 1
 end
def uptoSmall : (H : Type) → List (DataW H) → Bool := fun _ ds => decide (uptoBulkAll ds ≤ 1048576)
def OpenSpec.upto (s : _root_.Go.ChangeSpec) : _root_.Go.OpenSpec := { _root_.Go.OpenSpec.ofChange s with cond := some uptoSmall }

/-- 'laws.FnExactNextNecklace', WHERE WHAT IT READS IS OF BULK AT MOST 1048576: true; the input reads as it did. -/
def fnExactNextNecklaceUptoRow : OpenClaim := { program := "ytmlmpneikhdgcaa", sum := "72dd726fb725fb34863dc483d1c136b711289d6f1efe5c5cdd02bacf89baf9d3", func := "loop.example/g01041/laws.FnExactNextNecklace", spec := "fnExactNextNecklace", unfollowed := true, recurses := true, apart := false, narrowed := true }
def FnExactNextNecklaceUptoSaid : Prop := fnExactNextNecklaceUptoRow.holds Try.pinned (OpenSpec.upto fnExactNextNecklaceSpec)

/-- 'laws.FnExactNecklaceAt', WHERE WHAT IT READS IS OF BULK AT MOST 1048576: true; the input reads as it did. -/
def fnExactNecklaceAtUptoRow : OpenClaim := { program := "ytmlmpneikhdgcaa", sum := "72dd726fb725fb34863dc483d1c136b711289d6f1efe5c5cdd02bacf89baf9d3", func := "loop.example/g01041/laws.FnExactNecklaceAt", spec := "fnExactNecklaceAt", unfollowed := true, recurses := true, apart := false, narrowed := true }
def FnExactNecklaceAtUptoSaid : Prop := fnExactNecklaceAtUptoRow.holds Try.pinned (OpenSpec.upto fnExactNecklaceAtSpec)

/-- 'laws.FnExactNecklaceNumber', WHERE WHAT IT READS IS OF BULK AT MOST 1048576: true; the input reads as it did. -/
def fnExactNecklaceNumberUptoRow : OpenClaim := { program := "ytmlmpneikhdgcaa", sum := "72dd726fb725fb34863dc483d1c136b711289d6f1efe5c5cdd02bacf89baf9d3", func := "loop.example/g01041/laws.FnExactNecklaceNumber", spec := "fnExactNecklaceNumber", unfollowed := true, recurses := true, apart := false, narrowed := true }
def FnExactNecklaceNumberUptoSaid : Prop := fnExactNecklaceNumberUptoRow.holds Try.pinned (OpenSpec.upto fnExactNecklaceNumberSpec)

/-- 'laws.FnExactLyndonWords', WHERE WHAT IT READS IS OF BULK AT MOST 1048576: true; the input reads as it did. -/
def fnExactLyndonWordsUptoRow : OpenClaim := { program := "ytmlmpneikhdgcaa", sum := "72dd726fb725fb34863dc483d1c136b711289d6f1efe5c5cdd02bacf89baf9d3", func := "loop.example/g01041/laws.FnExactLyndonWords", spec := "fnExactLyndonWords", unfollowed := true, recurses := true, apart := false, narrowed := true }
def FnExactLyndonWordsUptoSaid : Prop := fnExactLyndonWordsUptoRow.holds Try.pinned (OpenSpec.upto fnExactLyndonWordsSpec)

/-- 'laws.FnExactBraceletsOf', WHERE WHAT IT READS IS OF BULK AT MOST 1048576: true; the input reads as it did. -/
def fnExactBraceletsOfUptoRow : OpenClaim := { program := "ytmlmpneikhdgcaa", sum := "72dd726fb725fb34863dc483d1c136b711289d6f1efe5c5cdd02bacf89baf9d3", func := "loop.example/g01041/laws.FnExactBraceletsOf", spec := "fnExactBraceletsOf", unfollowed := true, recurses := true, apart := false, narrowed := true }
def FnExactBraceletsOfUptoSaid : Prop := fnExactBraceletsOfUptoRow.holds Try.pinned (OpenSpec.upto fnExactBraceletsOfSpec)

/-- 'laws.FnExactWordOfAll', WHERE WHAT IT READS IS OF BULK AT MOST 1048576: true; the input reads as it did. -/
def fnExactWordOfAllUptoRow : OpenClaim := { program := "ytmlmpneikhdgcaa", sum := "72dd726fb725fb34863dc483d1c136b711289d6f1efe5c5cdd02bacf89baf9d3", func := "loop.example/g01041/laws.FnExactWordOfAll", spec := "fnExactWordOfAll", unfollowed := true, recurses := true, apart := false, narrowed := true }
def FnExactWordOfAllUptoSaid : Prop := fnExactWordOfAllUptoRow.holds Try.pinned (OpenSpec.upto fnExactWordOfAllSpec)

/-- 'laws.FnAxes', WHERE WHAT IT READS IS OF BULK AT MOST 1048576: true; the input reads as it did. -/
def fnAxesUptoRow : OpenClaim := { program := "ytmlmpneikhdgcaa", sum := "72dd726fb725fb34863dc483d1c136b711289d6f1efe5c5cdd02bacf89baf9d3", func := "loop.example/g01041/laws.FnAxes", spec := "fnAxes", apart := false, narrowed := true }
def FnAxesUptoSaid : Prop := fnAxesUptoRow.holds Try.pinned (OpenSpec.upto fnAxesSpec)

/-- 'laws.FnRotations', WHERE WHAT IT READS IS OF BULK AT MOST 1048576: true; the input reads as it did. -/
def fnRotationsUptoRow : OpenClaim := { program := "ytmlmpneikhdgcaa", sum := "72dd726fb725fb34863dc483d1c136b711289d6f1efe5c5cdd02bacf89baf9d3", func := "loop.example/g01041/laws.FnRotations", spec := "fnRotations", apart := false, narrowed := true }
def FnRotationsUptoSaid : Prop := fnRotationsUptoRow.holds Try.pinned (OpenSpec.upto fnRotationsSpec)

/-- 'laws.FnLyndon', WHERE WHAT IT READS IS OF BULK AT MOST 1048576: true; the input reads as it did. -/
def fnLyndonUptoRow : OpenClaim := { program := "ytmlmpneikhdgcaa", sum := "72dd726fb725fb34863dc483d1c136b711289d6f1efe5c5cdd02bacf89baf9d3", func := "loop.example/g01041/laws.FnLyndon", spec := "fnLyndon", unfollowed := true, recurses := true, apart := false, narrowed := true }
def FnLyndonUptoSaid : Prop := fnLyndonUptoRow.holds Try.pinned (OpenSpec.upto fnLyndonSpec)

/-- 'laws.FnAll', WHERE WHAT IT READS IS OF BULK AT MOST 1048576: true; the input reads as it did. -/
def fnAllUptoRow : OpenClaim := { program := "ytmlmpneikhdgcaa", sum := "72dd726fb725fb34863dc483d1c136b711289d6f1efe5c5cdd02bacf89baf9d3", func := "loop.example/g01041/laws.FnAll", spec := "fnAll", unfollowed := true, recurses := true, apart := false, narrowed := true }
def FnAllUptoSaid : Prop := fnAllUptoRow.holds Try.pinned (OpenSpec.upto fnAllSpec)

end Rows
end Go.Proofs.Ytmlmpneikhdgcaa
