/-
  No cell of these rows narrows 'for every input' (looked for: loops, veiled, ifaces, maps, wideKeys, modest, calm, conditions, laid).
  DERIVED. THE GIVEN ROWS OF THIS SEAT. 11 by the template 'for every input the law returns true; each argument reads behind the call as it read before'; 0 by the template 'total and deterministic' (their statements: YtieihnclolaflaaTotals.lean).
  GIVEN WITH THE SEED: the statements are not yours to turn. If you find one false, say at which input.
  Laid BY PROGRAM, IN A SANDBOX (cutbox-rows.mjs): the forced cells as the released guide's own fill.sh prints them over the translation 24383f0576c5dd95… (all of the seat's roots in one cut). By AI agents, Wed Nov 11 2026. No macro, syntax, notation, axiom, sorry.
-/
import Derived.Test.YtieihnclolaflaaChecked
import GoSem.Claim
import GoSem.ClaimJoined
import GoSem.ClaimMapViews
import Derived.JoinedTies
import Derived.KernelRfl
namespace Go.Proofs.Ytieihnclolaflaa
/- THE CELL 'sum', in the pinned program and in every row, IS THE sha256 OF THE DUMP (.gsa) THAT YtieihnclolaflaaProg.lean LOADS. Nothing in Lean hashes anything: it is a label: what it is worth is what the hold of that sum in a sandbox is worth. -/
noncomputable def Try.pinned : Pinned := { name := "ytieihnclolaflaa", sum := "24383f0576c5dd9512100f70b5bdc031b9fdbcfb5543bd252827283cca0896e5", checked := Try.checked }
namespace Rows
def none {H : Type} : Left H := { results := [], args := [] }

/-- 'laws.FnExactAreOpposite': WHATEVER THE INPUT: true; the input reads as it did. -/
def fnExactAreOppositeSpec : ChangeSpec := { name := "fnExactAreOpposite", fn := fun _ => fun
  | [d1, d2] => { results := [.lit (.bool true)], args := [d1, d2] }
  | _ => none }
def fnExactAreOppositeRow : OpenClaim := { program := "ytieihnclolaflaa", sum := "24383f0576c5dd9512100f70b5bdc031b9fdbcfb5543bd252827283cca0896e5", func := "loop.example/g01041/laws.FnExactAreOpposite", spec := "fnExactAreOpposite", apart := false }
def FnExactAreOppositeSaid : Prop := fnExactAreOppositeRow.holds Try.pinned (OpenSpec.ofChange fnExactAreOppositeSpec)

/-- ITS FALSE NEIGHBOUR: 'it returns false'. Refute it at one input. -/
def fnExactAreOppositeWrong : ChangeSpec := { name := "fnExactAreOpposite", fn := fun _ => fun
  | [d1, d2] => { results := [.lit (.bool false)], args := [d1, d2] }
  | _ => none }
def FnExactAreOppositeWrongFalsely : Prop := fnExactAreOppositeRow.holds Try.pinned (OpenSpec.ofChange fnExactAreOppositeWrong)

/-- 'laws.FnExactSolidDegree': WHATEVER THE INPUT: true; the input reads as it did. -/
def fnExactSolidDegreeSpec : ChangeSpec := { name := "fnExactSolidDegree", fn := fun _ => fun
  | [d] => { results := [.lit (.bool true)], args := [d] }
  | _ => none }
def fnExactSolidDegreeRow : OpenClaim := { program := "ytieihnclolaflaa", sum := "24383f0576c5dd9512100f70b5bdc031b9fdbcfb5543bd252827283cca0896e5", func := "loop.example/g01041/laws.FnExactSolidDegree", spec := "fnExactSolidDegree", apart := false }
def FnExactSolidDegreeSaid : Prop := fnExactSolidDegreeRow.holds Try.pinned (OpenSpec.ofChange fnExactSolidDegreeSpec)

/-- ITS FALSE NEIGHBOUR: 'it returns false'. Refute it at one input. -/
def fnExactSolidDegreeWrong : ChangeSpec := { name := "fnExactSolidDegree", fn := fun _ => fun
  | [d] => { results := [.lit (.bool false)], args := [d] }
  | _ => none }
def FnExactSolidDegreeWrongFalsely : Prop := fnExactSolidDegreeRow.holds Try.pinned (OpenSpec.ofChange fnExactSolidDegreeWrong)

/-- 'laws.FnExactMobius': WHATEVER THE INPUT: true; the input reads as it did. -/
def fnExactMobiusSpec : ChangeSpec := { name := "fnExactMobius", fn := fun _ => fun
  | [d] => { results := [.lit (.bool true)], args := [d] }
  | _ => none }
def fnExactMobiusRow : OpenClaim := { program := "ytieihnclolaflaa", sum := "24383f0576c5dd9512100f70b5bdc031b9fdbcfb5543bd252827283cca0896e5", func := "loop.example/g01041/laws.FnExactMobius", spec := "fnExactMobius", apart := false }
def FnExactMobiusSaid : Prop := fnExactMobiusRow.holds Try.pinned (OpenSpec.ofChange fnExactMobiusSpec)

/-- ITS FALSE NEIGHBOUR: 'it returns false'. Refute it at one input. -/
def fnExactMobiusWrong : ChangeSpec := { name := "fnExactMobius", fn := fun _ => fun
  | [d] => { results := [.lit (.bool false)], args := [d] }
  | _ => none }
def FnExactMobiusWrongFalsely : Prop := fnExactMobiusRow.holds Try.pinned (OpenSpec.ofChange fnExactMobiusWrong)

/-- 'laws.FnExactTotient': WHATEVER THE INPUT: true; the input reads as it did. -/
def fnExactTotientSpec : ChangeSpec := { name := "fnExactTotient", fn := fun _ => fun
  | [d] => { results := [.lit (.bool true)], args := [d] }
  | _ => none }
def fnExactTotientRow : OpenClaim := { program := "ytieihnclolaflaa", sum := "24383f0576c5dd9512100f70b5bdc031b9fdbcfb5543bd252827283cca0896e5", func := "loop.example/g01041/laws.FnExactTotient", spec := "fnExactTotient", apart := false }
def FnExactTotientSaid : Prop := fnExactTotientRow.holds Try.pinned (OpenSpec.ofChange fnExactTotientSpec)

/-- ITS FALSE NEIGHBOUR: 'it returns false'. Refute it at one input. -/
def fnExactTotientWrong : ChangeSpec := { name := "fnExactTotient", fn := fun _ => fun
  | [d] => { results := [.lit (.bool false)], args := [d] }
  | _ => none }
def FnExactTotientWrongFalsely : Prop := fnExactTotientRow.holds Try.pinned (OpenSpec.ofChange fnExactTotientWrong)

/-- 'laws.FnExactPlaceOf': WHATEVER THE INPUT: true; the input reads as it did. -/
def fnExactPlaceOfSpec : ChangeSpec := { name := "fnExactPlaceOf", fn := fun _ => fun
  | [d1, d2] => { results := [.lit (.bool true)], args := [d1, d2] }
  | _ => none }
def fnExactPlaceOfRow : OpenClaim := { program := "ytieihnclolaflaa", sum := "24383f0576c5dd9512100f70b5bdc031b9fdbcfb5543bd252827283cca0896e5", func := "loop.example/g01041/laws.FnExactPlaceOf", spec := "fnExactPlaceOf", apart := false }
def FnExactPlaceOfSaid : Prop := fnExactPlaceOfRow.holds Try.pinned (OpenSpec.ofChange fnExactPlaceOfSpec)

/-- ITS FALSE NEIGHBOUR: 'it returns false'. Refute it at one input. -/
def fnExactPlaceOfWrong : ChangeSpec := { name := "fnExactPlaceOf", fn := fun _ => fun
  | [d1, d2] => { results := [.lit (.bool false)], args := [d1, d2] }
  | _ => none }
def FnExactPlaceOfWrongFalsely : Prop := fnExactPlaceOfRow.holds Try.pinned (OpenSpec.ofChange fnExactPlaceOfWrong)

/-- 'laws.FnNumbers': WHATEVER THE INPUT: true; the input reads as it did. -/
def fnNumbersSpec : ChangeSpec := { name := "fnNumbers", fn := fun _ => fun
  | [d] => { results := [.lit (.bool true)], args := [d] }
  | _ => none }
def fnNumbersRow : OpenClaim := { program := "ytieihnclolaflaa", sum := "24383f0576c5dd9512100f70b5bdc031b9fdbcfb5543bd252827283cca0896e5", func := "loop.example/g01041/laws.FnNumbers", spec := "fnNumbers", apart := false }
def FnNumbersSaid : Prop := fnNumbersRow.holds Try.pinned (OpenSpec.ofChange fnNumbersSpec)

/-- ITS FALSE NEIGHBOUR: 'it returns false'. Refute it at one input. -/
def fnNumbersWrong : ChangeSpec := { name := "fnNumbers", fn := fun _ => fun
  | [d] => { results := [.lit (.bool false)], args := [d] }
  | _ => none }
def FnNumbersWrongFalsely : Prop := fnNumbersRow.holds Try.pinned (OpenSpec.ofChange fnNumbersWrong)

/-- 'laws.FnExactCountMirrored': WHATEVER THE INPUT: true; the input reads as it did. -/
def fnExactCountMirroredSpec : ChangeSpec := { name := "fnExactCountMirrored", fn := fun _ => fun
  | [d1, d2] => { results := [.lit (.bool true)], args := [d1, d2] }
  | _ => none }
def fnExactCountMirroredRow : OpenClaim := { program := "ytieihnclolaflaa", sum := "24383f0576c5dd9512100f70b5bdc031b9fdbcfb5543bd252827283cca0896e5", func := "loop.example/g01041/laws.FnExactCountMirrored", spec := "fnExactCountMirrored", apart := false }
def FnExactCountMirroredSaid : Prop := fnExactCountMirroredRow.holds Try.pinned (OpenSpec.ofChange fnExactCountMirroredSpec)

/-- ITS FALSE NEIGHBOUR: 'it returns false'. Refute it at one input. -/
def fnExactCountMirroredWrong : ChangeSpec := { name := "fnExactCountMirrored", fn := fun _ => fun
  | [d1, d2] => { results := [.lit (.bool false)], args := [d1, d2] }
  | _ => none }
def FnExactCountMirroredWrongFalsely : Prop := fnExactCountMirroredRow.holds Try.pinned (OpenSpec.ofChange fnExactCountMirroredWrong)

/-- 'laws.FnExactCountLyndon': WHATEVER THE INPUT: true; the input reads as it did. -/
def fnExactCountLyndonSpec : ChangeSpec := { name := "fnExactCountLyndon", fn := fun _ => fun
  | [d1, d2] => { results := [.lit (.bool true)], args := [d1, d2] }
  | _ => none }
def fnExactCountLyndonRow : OpenClaim := { program := "ytieihnclolaflaa", sum := "24383f0576c5dd9512100f70b5bdc031b9fdbcfb5543bd252827283cca0896e5", func := "loop.example/g01041/laws.FnExactCountLyndon", spec := "fnExactCountLyndon", unfollowed := true, recurses := true, apart := false }
def FnExactCountLyndonSaid : Prop := fnExactCountLyndonRow.holds Try.pinned (OpenSpec.ofChange fnExactCountLyndonSpec)

/-- ITS FALSE NEIGHBOUR: 'it returns false'. Refute it at one input. -/
def fnExactCountLyndonWrong : ChangeSpec := { name := "fnExactCountLyndon", fn := fun _ => fun
  | [d1, d2] => { results := [.lit (.bool false)], args := [d1, d2] }
  | _ => none }
def FnExactCountLyndonWrongFalsely : Prop := fnExactCountLyndonRow.holds Try.pinned (OpenSpec.ofChange fnExactCountLyndonWrong)

/-- 'laws.FnExactCountNecklaces': WHATEVER THE INPUT: true; the input reads as it did. -/
def fnExactCountNecklacesSpec : ChangeSpec := { name := "fnExactCountNecklaces", fn := fun _ => fun
  | [d1, d2] => { results := [.lit (.bool true)], args := [d1, d2] }
  | _ => none }
def fnExactCountNecklacesRow : OpenClaim := { program := "ytieihnclolaflaa", sum := "24383f0576c5dd9512100f70b5bdc031b9fdbcfb5543bd252827283cca0896e5", func := "loop.example/g01041/laws.FnExactCountNecklaces", spec := "fnExactCountNecklaces", unfollowed := true, recurses := true, apart := false }
def FnExactCountNecklacesSaid : Prop := fnExactCountNecklacesRow.holds Try.pinned (OpenSpec.ofChange fnExactCountNecklacesSpec)

/-- ITS FALSE NEIGHBOUR: 'it returns false'. Refute it at one input. -/
def fnExactCountNecklacesWrong : ChangeSpec := { name := "fnExactCountNecklaces", fn := fun _ => fun
  | [d1, d2] => { results := [.lit (.bool false)], args := [d1, d2] }
  | _ => none }
def FnExactCountNecklacesWrongFalsely : Prop := fnExactCountNecklacesRow.holds Try.pinned (OpenSpec.ofChange fnExactCountNecklacesWrong)

/-- 'laws.FnExactCountBracelets': WHATEVER THE INPUT: true; the input reads as it did. -/
def fnExactCountBraceletsSpec : ChangeSpec := { name := "fnExactCountBracelets", fn := fun _ => fun
  | [d1, d2] => { results := [.lit (.bool true)], args := [d1, d2] }
  | _ => none }
def fnExactCountBraceletsRow : OpenClaim := { program := "ytieihnclolaflaa", sum := "24383f0576c5dd9512100f70b5bdc031b9fdbcfb5543bd252827283cca0896e5", func := "loop.example/g01041/laws.FnExactCountBracelets", spec := "fnExactCountBracelets", unfollowed := true, recurses := true, apart := false }
def FnExactCountBraceletsSaid : Prop := fnExactCountBraceletsRow.holds Try.pinned (OpenSpec.ofChange fnExactCountBraceletsSpec)

/-- ITS FALSE NEIGHBOUR: 'it returns false'. Refute it at one input. -/
def fnExactCountBraceletsWrong : ChangeSpec := { name := "fnExactCountBracelets", fn := fun _ => fun
  | [d1, d2] => { results := [.lit (.bool false)], args := [d1, d2] }
  | _ => none }
def FnExactCountBraceletsWrongFalsely : Prop := fnExactCountBraceletsRow.holds Try.pinned (OpenSpec.ofChange fnExactCountBraceletsWrong)

/-- 'laws.FnExactHandedPairs': WHATEVER THE INPUT: true; the input reads as it did. -/
def fnExactHandedPairsSpec : ChangeSpec := { name := "fnExactHandedPairs", fn := fun _ => fun
  | [d1, d2] => { results := [.lit (.bool true)], args := [d1, d2] }
  | _ => none }
def fnExactHandedPairsRow : OpenClaim := { program := "ytieihnclolaflaa", sum := "24383f0576c5dd9512100f70b5bdc031b9fdbcfb5543bd252827283cca0896e5", func := "loop.example/g01041/laws.FnExactHandedPairs", spec := "fnExactHandedPairs", unfollowed := true, recurses := true, apart := false }
def FnExactHandedPairsSaid : Prop := fnExactHandedPairsRow.holds Try.pinned (OpenSpec.ofChange fnExactHandedPairsSpec)

/-- ITS FALSE NEIGHBOUR: 'it returns false'. Refute it at one input. -/
def fnExactHandedPairsWrong : ChangeSpec := { name := "fnExactHandedPairs", fn := fun _ => fun
  | [d1, d2] => { results := [.lit (.bool false)], args := [d1, d2] }
  | _ => none }
def FnExactHandedPairsWrongFalsely : Prop := fnExactHandedPairsRow.holds Try.pinned (OpenSpec.ofChange fnExactHandedPairsWrong)

/- THE SECOND FORM. 'bulk': how many values and letters a reading holds, each counted each time it is reached (what is shared counts as often as it is met; a slice's spare places count too). A statement '..UptoSaid' is the law's where the arguments, and the package variables that the reading takes, are together of bulk at most 1048576: NARROWER than '..Said'. Prove '..Said' where nothing that the law and all that it calls make is longer than what came in: it says more and counts as full. Else prove '..UptoSaid'. A law counts once. -/
mutual
def uptoBulk {H : Type} : DataW H → Nat
  | .lit (.string bytes) => bytes.length + 1
  | .lit _ => 1
  | .nil => 1
  | .ptr d => uptoBulk d + 1
  | .slice elems spare => uptoBulkAll elems + uptoBulkAll spare + 1
  | .agg parts => uptoBulkAll parts + 1
  | .iface _ d => uptoBulk d + 1
  | .map entries => uptoBulkEntries entries + 1
  | .held _ => 1
def uptoBulkAll {H : Type} : List (DataW H) → Nat
  | [] => 0
  | d :: r => uptoBulk d + uptoBulkAll r
def uptoBulkEntries {H : Type} : List (Lit × DataW H) → Nat
  | [] => 0
  | x :: r => uptoBulkEntry x + uptoBulkEntries r
def uptoBulkEntry {H : Type} : Lit × DataW H → Nat
  | (.string bytes, d) => bytes.length + uptoBulk d + 1
  | (_, d) => uptoBulk d + 1
 end
def uptoSmall : (H : Type) → List (DataW H) → Bool := fun _ ds => decide (uptoBulkAll ds ≤ 1048576)
def OpenSpec.upto (s : _root_.Go.ChangeSpec) : _root_.Go.OpenSpec := { _root_.Go.OpenSpec.ofChange s with cond := some uptoSmall }

/-- 'laws.FnExactAreOpposite', WHERE WHAT IT READS IS OF BULK AT MOST 1048576: true; the input reads as it did. -/
def fnExactAreOppositeUptoRow : OpenClaim := { program := "ytieihnclolaflaa", sum := "24383f0576c5dd9512100f70b5bdc031b9fdbcfb5543bd252827283cca0896e5", func := "loop.example/g01041/laws.FnExactAreOpposite", spec := "fnExactAreOpposite", apart := false, narrowed := true }
def FnExactAreOppositeUptoSaid : Prop := fnExactAreOppositeUptoRow.holds Try.pinned (OpenSpec.upto fnExactAreOppositeSpec)

/-- 'laws.FnExactSolidDegree', WHERE WHAT IT READS IS OF BULK AT MOST 1048576: true; the input reads as it did. -/
def fnExactSolidDegreeUptoRow : OpenClaim := { program := "ytieihnclolaflaa", sum := "24383f0576c5dd9512100f70b5bdc031b9fdbcfb5543bd252827283cca0896e5", func := "loop.example/g01041/laws.FnExactSolidDegree", spec := "fnExactSolidDegree", apart := false, narrowed := true }
def FnExactSolidDegreeUptoSaid : Prop := fnExactSolidDegreeUptoRow.holds Try.pinned (OpenSpec.upto fnExactSolidDegreeSpec)

/-- 'laws.FnExactMobius', WHERE WHAT IT READS IS OF BULK AT MOST 1048576: true; the input reads as it did. -/
def fnExactMobiusUptoRow : OpenClaim := { program := "ytieihnclolaflaa", sum := "24383f0576c5dd9512100f70b5bdc031b9fdbcfb5543bd252827283cca0896e5", func := "loop.example/g01041/laws.FnExactMobius", spec := "fnExactMobius", apart := false, narrowed := true }
def FnExactMobiusUptoSaid : Prop := fnExactMobiusUptoRow.holds Try.pinned (OpenSpec.upto fnExactMobiusSpec)

/-- 'laws.FnExactTotient', WHERE WHAT IT READS IS OF BULK AT MOST 1048576: true; the input reads as it did. -/
def fnExactTotientUptoRow : OpenClaim := { program := "ytieihnclolaflaa", sum := "24383f0576c5dd9512100f70b5bdc031b9fdbcfb5543bd252827283cca0896e5", func := "loop.example/g01041/laws.FnExactTotient", spec := "fnExactTotient", apart := false, narrowed := true }
def FnExactTotientUptoSaid : Prop := fnExactTotientUptoRow.holds Try.pinned (OpenSpec.upto fnExactTotientSpec)

/-- 'laws.FnExactPlaceOf', WHERE WHAT IT READS IS OF BULK AT MOST 1048576: true; the input reads as it did. -/
def fnExactPlaceOfUptoRow : OpenClaim := { program := "ytieihnclolaflaa", sum := "24383f0576c5dd9512100f70b5bdc031b9fdbcfb5543bd252827283cca0896e5", func := "loop.example/g01041/laws.FnExactPlaceOf", spec := "fnExactPlaceOf", apart := false, narrowed := true }
def FnExactPlaceOfUptoSaid : Prop := fnExactPlaceOfUptoRow.holds Try.pinned (OpenSpec.upto fnExactPlaceOfSpec)

/-- 'laws.FnNumbers', WHERE WHAT IT READS IS OF BULK AT MOST 1048576: true; the input reads as it did. -/
def fnNumbersUptoRow : OpenClaim := { program := "ytieihnclolaflaa", sum := "24383f0576c5dd9512100f70b5bdc031b9fdbcfb5543bd252827283cca0896e5", func := "loop.example/g01041/laws.FnNumbers", spec := "fnNumbers", apart := false, narrowed := true }
def FnNumbersUptoSaid : Prop := fnNumbersUptoRow.holds Try.pinned (OpenSpec.upto fnNumbersSpec)

/-- 'laws.FnExactCountMirrored', WHERE WHAT IT READS IS OF BULK AT MOST 1048576: true; the input reads as it did. -/
def fnExactCountMirroredUptoRow : OpenClaim := { program := "ytieihnclolaflaa", sum := "24383f0576c5dd9512100f70b5bdc031b9fdbcfb5543bd252827283cca0896e5", func := "loop.example/g01041/laws.FnExactCountMirrored", spec := "fnExactCountMirrored", apart := false, narrowed := true }
def FnExactCountMirroredUptoSaid : Prop := fnExactCountMirroredUptoRow.holds Try.pinned (OpenSpec.upto fnExactCountMirroredSpec)

/-- 'laws.FnExactCountLyndon', WHERE WHAT IT READS IS OF BULK AT MOST 1048576: true; the input reads as it did. -/
def fnExactCountLyndonUptoRow : OpenClaim := { program := "ytieihnclolaflaa", sum := "24383f0576c5dd9512100f70b5bdc031b9fdbcfb5543bd252827283cca0896e5", func := "loop.example/g01041/laws.FnExactCountLyndon", spec := "fnExactCountLyndon", unfollowed := true, recurses := true, apart := false, narrowed := true }
def FnExactCountLyndonUptoSaid : Prop := fnExactCountLyndonUptoRow.holds Try.pinned (OpenSpec.upto fnExactCountLyndonSpec)

/-- 'laws.FnExactCountNecklaces', WHERE WHAT IT READS IS OF BULK AT MOST 1048576: true; the input reads as it did. -/
def fnExactCountNecklacesUptoRow : OpenClaim := { program := "ytieihnclolaflaa", sum := "24383f0576c5dd9512100f70b5bdc031b9fdbcfb5543bd252827283cca0896e5", func := "loop.example/g01041/laws.FnExactCountNecklaces", spec := "fnExactCountNecklaces", unfollowed := true, recurses := true, apart := false, narrowed := true }
def FnExactCountNecklacesUptoSaid : Prop := fnExactCountNecklacesUptoRow.holds Try.pinned (OpenSpec.upto fnExactCountNecklacesSpec)

/-- 'laws.FnExactCountBracelets', WHERE WHAT IT READS IS OF BULK AT MOST 1048576: true; the input reads as it did. -/
def fnExactCountBraceletsUptoRow : OpenClaim := { program := "ytieihnclolaflaa", sum := "24383f0576c5dd9512100f70b5bdc031b9fdbcfb5543bd252827283cca0896e5", func := "loop.example/g01041/laws.FnExactCountBracelets", spec := "fnExactCountBracelets", unfollowed := true, recurses := true, apart := false, narrowed := true }
def FnExactCountBraceletsUptoSaid : Prop := fnExactCountBraceletsUptoRow.holds Try.pinned (OpenSpec.upto fnExactCountBraceletsSpec)

/-- 'laws.FnExactHandedPairs', WHERE WHAT IT READS IS OF BULK AT MOST 1048576: true; the input reads as it did. -/
def fnExactHandedPairsUptoRow : OpenClaim := { program := "ytieihnclolaflaa", sum := "24383f0576c5dd9512100f70b5bdc031b9fdbcfb5543bd252827283cca0896e5", func := "loop.example/g01041/laws.FnExactHandedPairs", spec := "fnExactHandedPairs", unfollowed := true, recurses := true, apart := false, narrowed := true }
def FnExactHandedPairsUptoSaid : Prop := fnExactHandedPairsUptoRow.holds Try.pinned (OpenSpec.upto fnExactHandedPairsSpec)

end Rows
end Go.Proofs.Ytieihnclolaflaa
