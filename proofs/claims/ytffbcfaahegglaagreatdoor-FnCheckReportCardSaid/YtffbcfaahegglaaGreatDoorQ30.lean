/- B11 -/
import Derived.Test.YtffbcfaahegglaaGreatDoorQ13
namespace Go.Proofs.YtffbcfaahegglaaGreatDoor
open Go.RowKit




end Go.Proofs.YtffbcfaahegglaaGreatDoor
