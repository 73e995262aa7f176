/- B14 -/
import Derived.Test.YtffbcfaahegglaaDoorQ26
import Derived.Test.YtffbcfaahegglaaDoorQ10
namespace Go.Proofs.YtffbcfaahegglaaDoor
open Go.RowKit


end Go.Proofs.YtffbcfaahegglaaDoor
