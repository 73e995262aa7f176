/- B4 -/
import Derived.Test.YtffbcfaahegglaaDoorQ7
import Derived.Test.YtffbcfaahegglaaDoorQ8
namespace Go.Proofs.YtffbcfaahegglaaDoor
open Go.RowKit

end Go.Proofs.YtffbcfaahegglaaDoor
