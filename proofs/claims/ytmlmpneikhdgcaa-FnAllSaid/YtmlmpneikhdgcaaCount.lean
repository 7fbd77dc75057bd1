/-
  The counts of necklaces, words of Lyndon and bracelets; the laws on numbers alone.
-/
import Derived.Test.YtmlmpneikhdgcaaInts
set_option linter.unusedVariables false
namespace Go.Proofs.Ytmlmpneikhdgcaa
open Go.RowKit

end Go.Proofs.Ytmlmpneikhdgcaa
