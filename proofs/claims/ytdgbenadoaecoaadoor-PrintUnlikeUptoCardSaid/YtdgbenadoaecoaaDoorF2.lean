/- The contract of LeftLiteral at a copy that is still as it was made. Conditions: both lie in memory as they are told. -/
import Derived.Test.YtdgbenadoaecoaaDoorF1
namespace Go.Proofs.YtdgbenadoaecoaaDoor
open Go.RowKit

end Go.Proofs.YtdgbenadoaecoaaDoor
