/- THE WALKS: hexadecimal and base 64. -/
import Derived.Test.YtgojmckfabhkaaaDoorBytes
import Derived.Test.YtgojmckfabhkaaaDoorSumsMath
namespace Go.Proofs.YtgojmckfabhkaaaDoor
open Go.RowKit Sums


end Go.Proofs.YtgojmckfabhkaaaDoor
