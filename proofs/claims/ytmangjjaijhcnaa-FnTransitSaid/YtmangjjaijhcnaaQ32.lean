/- B11 -/
import Derived.Test.YtmangjjaijhcnaaQ26
namespace Go.Proofs.Ytmangjjaijhcnaa
open Go.RowKit




end Go.Proofs.Ytmangjjaijhcnaa
