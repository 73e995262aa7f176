/- DT2 -/
import Derived.Test.YtffbcfaahegglaaDoorQ48
namespace Go.Proofs.YtffbcfaahegglaaDoor
open Go.RowKit

end Go.Proofs.YtffbcfaahegglaaDoor
