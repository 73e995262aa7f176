/- B14 -/
import Derived.Test.YtmangjjaijhcnaaQ34
import Derived.Test.YtmangjjaijhcnaaQ19
namespace Go.Proofs.Ytmangjjaijhcnaa
open Go.RowKit


end Go.Proofs.Ytmangjjaijhcnaa
