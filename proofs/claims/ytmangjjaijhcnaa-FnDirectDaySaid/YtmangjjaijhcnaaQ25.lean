/- B11 -/
import Derived.Test.YtmangjjaijhcnaaQ12
namespace Go.Proofs.Ytmangjjaijhcnaa
open Go.RowKit




end Go.Proofs.Ytmangjjaijhcnaa
