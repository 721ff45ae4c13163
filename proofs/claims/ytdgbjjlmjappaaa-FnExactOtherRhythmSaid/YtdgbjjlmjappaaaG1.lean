/-
  Contracts of the reference's sorted list of members, of the evenly spread rhythms in the reference and in the program.
  Conditions: lists lie in memory; sizes are small.
-/
import Derived.Test.YtdgbjjlmjappaaaE1
import Derived.Test.YtdgbjjlmjappaaaM4
import Derived.Test.YtdgbjjlmjappaaaQ1
import Derived.Deep.RegionLaw
set_option linter.unusedVariables false
set_option linter.unusedSimpArgs false
namespace Go.Proofs.Ytdgbjjlmjappaaa
open Go.RowKit



end Go.Proofs.Ytdgbjjlmjappaaa
