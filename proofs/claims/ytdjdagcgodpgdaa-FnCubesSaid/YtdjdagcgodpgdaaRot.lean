/-
  Words: whether they are valid, turned, reversed.
-/
import Derived.Test.YtdjdagcgodpgdaaSlib
import Derived.Test.YtdjdagcgodpgdaaInts
set_option linter.unusedVariables false
namespace Go.Proofs.Ytdjdagcgodpgdaa
open Go.RowKit

end Go.Proofs.Ytdjdagcgodpgdaa
