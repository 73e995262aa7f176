/- B4 -/
import Derived.Test.YtffbcfaahegglaaDoorQ9
import Derived.Test.YtffbcfaahegglaaDoorQ10
namespace Go.Proofs.YtffbcfaahegglaaDoor
open Go.RowKit

end Go.Proofs.YtffbcfaahegglaaDoor
