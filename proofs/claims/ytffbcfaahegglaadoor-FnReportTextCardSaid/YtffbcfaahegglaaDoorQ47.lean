/- B14 -/
import Derived.Test.YtffbcfaahegglaaDoorQ46
import Derived.Test.YtffbcfaahegglaaDoorQ11
namespace Go.Proofs.YtffbcfaahegglaaDoor
open Go.RowKit


end Go.Proofs.YtffbcfaahegglaaDoor
