/-
  What the package and its reference know of an operation is the same (written by our own gen_inb.py).
-/
import Derived.Test.YtdbnbijillmlcaaInA
import Derived.Test.YtdbnbijillmlcaaInT
namespace Go.Proofs.Ytdbnbijillmlcaa
open Go Go.Sy Go.Sz Go.In Go.Proofs.Ytdbnbijillmlcaa
set_option linter.unusedVariables false
set_option linter.unusedSimpArgs false
set_option linter.constructorNameAsVariable false
set_option maxRecDepth 100000

end Go.Proofs.Ytdbnbijillmlcaa
