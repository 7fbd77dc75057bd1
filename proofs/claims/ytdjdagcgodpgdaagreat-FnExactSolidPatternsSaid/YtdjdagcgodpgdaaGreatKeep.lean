/-
  What keeps a coloring.
-/
import Derived.Test.YtdjdagcgodpgdaaGreatPat
set_option linter.unusedVariables false
namespace Go.Proofs.YtdjdagcgodpgdaaGreat
open Go.RowKit

end Go.Proofs.YtdjdagcgodpgdaaGreat
