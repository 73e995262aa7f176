/- NV -/
import Derived.Test.YtpinkbodbedajaaGreatDoorQ1
import Derived.Test.YtpinkbodbedajaaGreatDoorQ3
namespace Go.Proofs.YtpinkbodbedajaaGreatDoor
open Go.RowKit






end Go.Proofs.YtpinkbodbedajaaGreatDoor
