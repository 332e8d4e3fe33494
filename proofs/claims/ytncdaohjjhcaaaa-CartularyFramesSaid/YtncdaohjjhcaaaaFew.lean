/- THE WALK of Few: a text is cut to so many bytes. Conditions: the lengths. -/
import Derived.Test.YtncdaohjjhcaaaaBytes
import Derived.LoopTactic
namespace Go.Proofs.Ytncdaohjjhcaaaa
open Go.RowKit

def fewB (s : ByteArray) (n : Nat) : ByteArray := if n < s.size then s.extract 0 n else s
theorem few_size (s : ByteArray) (n : Nat) : (fewB s n).size ≤ n := by
  unfold fewB
  split
  · rw [ByteArray.size_extract]; omega
  · omega

set_option maxHeartbeats 400000 in
theorem few_any (s : ByteArray) (n : Nat) (w : World) (hn : (n : Int) ≤ 1000000) (hs : (s.size : Int) ≤ 9223372036854775807) :
    Calls Try.prog 7 #[.string s, .int .i64 n] w fun e w' => e = .returned (.string (fewB s n)) ∧ w = w' := by
  by_cases h : n < s.size
  · have e : fewB s n = s.extract 0 n := if_pos h
    have H := Lib.hid e
    clear e
    go_enter Try.func7, Try.ntmps7
    go_wp2
    go_ret
    exact ⟨by rw [H.out]; rfl, rfl⟩
  · have e : fewB s n = s := if_neg h
    have H := Lib.hid e
    clear e
    go_enter Try.func7, Try.ntmps7
    go_wp2
    go_ret
    exact ⟨by rw [H.out]; rfl, rfl⟩
end Go.Proofs.Ytncdaohjjhcaaaa
