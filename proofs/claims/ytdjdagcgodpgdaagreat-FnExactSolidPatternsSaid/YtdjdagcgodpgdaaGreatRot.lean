/-
  Words: whether they are valid, turned, reversed.
-/
import Derived.Test.YtdjdagcgodpgdaaGreatSlib
import Derived.Test.YtdjdagcgodpgdaaGreatInts
set_option linter.unusedVariables false
namespace Go.Proofs.YtdjdagcgodpgdaaGreat
open Go.RowKit

end Go.Proofs.YtdjdagcgodpgdaaGreat
