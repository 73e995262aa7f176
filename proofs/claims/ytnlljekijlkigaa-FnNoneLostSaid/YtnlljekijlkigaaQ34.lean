/- B11 -/
import Derived.Test.YtnlljekijlkigaaQ22
namespace Go.Proofs.Ytnlljekijlkigaa
open Go.RowKit




end Go.Proofs.Ytnlljekijlkigaa
