/-
  Contracts of the reference's sorted list of members, of the evenly spread rhythms in the reference and in the program.
  Conditions: lists lie in memory; sizes are small.
-/
import Derived.Test.YtcgpmdfcdngnlaaDoorE1
import Derived.Test.YtcgpmdfcdngnlaaDoorM4
import Derived.Test.YtcgpmdfcdngnlaaDoorQ1
import Derived.Deep.RegionLaw
set_option linter.unusedVariables false
set_option linter.unusedSimpArgs false
namespace Go.Proofs.YtcgpmdfcdngnlaaDoor
open Go.RowKit



end Go.Proofs.YtcgpmdfcdngnlaaDoor
