/- strconv.Itoa's contract lies with the others (SemLib). -/
import Derived.Test.YtgojmckfabhkaaaDoorSemLib
