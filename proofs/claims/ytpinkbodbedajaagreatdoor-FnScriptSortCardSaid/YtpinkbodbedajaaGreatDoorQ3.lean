/- F2 -/
import Derived.Test.YtpinkbodbedajaaGreatDoorQ2
namespace Go.Proofs.YtpinkbodbedajaaGreatDoor
open Go.RowKit

/-- Where letters for a code arrive, if all is valid. -/
def resolve (fs : List Fwd) (c : ByteArray) : ByteArray × Nat × Bool := if isCode c && fwdsOk fs then follow fs c else (⟨#[]⟩, 0, false)


end Go.Proofs.YtpinkbodbedajaaGreatDoor
