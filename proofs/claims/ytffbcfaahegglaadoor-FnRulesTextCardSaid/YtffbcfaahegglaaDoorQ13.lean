/- B4 -/
import Derived.Test.YtffbcfaahegglaaDoorQ10
import Derived.Test.YtffbcfaahegglaaDoorQ12
namespace Go.Proofs.YtffbcfaahegglaaDoor
open Go.RowKit

end Go.Proofs.YtffbcfaahegglaaDoor
