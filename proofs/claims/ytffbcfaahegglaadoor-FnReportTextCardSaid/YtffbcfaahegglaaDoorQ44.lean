/- B11 -/
import Derived.Test.YtffbcfaahegglaaDoorQ21
namespace Go.Proofs.YtffbcfaahegglaaDoor
open Go.RowKit




end Go.Proofs.YtffbcfaahegglaaDoor
