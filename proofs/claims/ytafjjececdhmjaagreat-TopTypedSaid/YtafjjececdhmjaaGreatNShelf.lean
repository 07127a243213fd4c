/- Nothing of the library is laid for this seat. -/
import Derived.Test.YtafjjececdhmjaaGreatProg
namespace Go.Proofs
end Go.Proofs
