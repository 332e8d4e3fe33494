/- PLAIN: the sum of "abc". No program in sight. No conditions. -/
import Derived.Test.YtdhafmjhohnclaaShaMath
namespace Go.Proofs.Ytdhafmjhohnclaa
open Go Sums

def start1L : List (BitVec 32) := [1732584193#32, 4023233417#32, 2562383102#32, 271733878#32, 3285377520#32]
/-- "abc", and what is written behind it. -/
def abcB : ByteArray := ⟨#[97, 98, 99, 128, 0, 0, 0, 0, 0, 0, 0, 0, 0, 0, 0, 0, 0, 0, 0, 0, 0, 0, 0, 0, 0, 0, 0, 0, 0, 0, 0, 0, 0, 0, 0, 0, 0, 0, 0, 0, 0, 0, 0, 0, 0, 0, 0, 0, 0, 0, 0, 0, 0, 0, 0, 0, 0, 0, 0, 0, 0, 0, 0, 24]⟩
set_option maxRecDepth 100000 in
theorem abc_blk : blk1 abcB start1L = [2845392438#32, 1191608682#32, 3124634993#32, 2018558572#32, 2630932637#32] := by decide +kernel
end Go.Proofs.Ytdhafmjhohnclaa
