/- THE WALKS: numbers as bytes, bytes as numbers. -/
import Derived.Test.YtncdaohjjhcaaaaBytes
import Derived.Test.YtncdaohjjhcaaaaSumsMath
import Derived.Test.YtncdaohjjhcaaaaSumsNumMath
namespace Go.Proofs.Ytncdaohjjhcaaaa
open Go.RowKit Sums
set_option linter.unusedVariables false

/-- An int that counts: N, or nothing where it is negative. -/
def Counts (n : Int) (N : Nat) : Prop := (n < 0 ∧ N = 0) ∨ n = (N : Int)

theorem nil_string (w : World) : (convert 31 9 (.slice none 0 0)).run Try.prog w = .ok (.string ⟨#[]⟩) w := run_own_string w 0 _ _ (ownsB_nil w 0)

set_option maxHeartbeats 1000000 in
theorem little_any (x : Nat) (n : Int) (N : Nat) (hN : Counts n N) (h64 : N ≤ 64) (hx : x < U64) (w : World) :
    Calls Try.prog 34 #[.int .u64 x, .int .i64 n] w fun e w' => e = .returned (.string ⟨(lits x N).toArray⟩) ∧ Below w.heap.size w w' := by
  have HX := Lib.hid hx
  clear hx
  rcases hN with ⟨hneg, rfl⟩ | rfl
  · have hc := nil_string w
    go_enter Try.func34, Try.ntmps34
    go_wp2
    go_rounds 1
    go_ret
    exact ⟨rfl, Below.refl _ _⟩
  go_enter Try.func34, Try.ntmps34
  go_wp2
  go_loopw [5, 9] (fun v i wr => ∃ k : Nat, k ≤ N ∧ i = .int .i64 k ∧ ownsB wr w.heap.size v (lits x k) ∧ Below w.heap.size w wr) (fun _ i _ => N - (intOf i).toNat)
  case atStart => exact ⟨0, Nat.zero_le _, rfl, ownsB_nil _ _, Below.refl _ _⟩
  case round =>
    obtain ⟨k, hk, rfl, hown, hb⟩ := hrel
    have hB := hb.size
    have hl : (lits x k).length + 1 ≤ 140737488355328 := by rw [lits_length]; omega
    by_cases hlt : k < N
    · have hs := lits_succ x k
      have HS := Lib.hid hs
      clear hs
      by_cases h8 : 8 ≤ k
      · have h0 := lb_big x k HX.out h8
        have H0 := Lib.hid h0
        clear h0
        go_wp2_with (at_builtin; refine append_bytes _ rfl (.tmp 14) (.tmp 15) rfl w.heap.size _ _ [0] rfl (hown.alloc _) ⟨wr.heap.size, 0, none⟩ 1 rfl (new_cells wr _ _) hl (by simp; omega) ?_; intro v' w' hown' hg')
        go_roundw
        case rel =>
          refine ⟨k + 1, by omega, by go_num, ?_, (hb.alloc hB _).grown hg' (by simp; omega) fun k hk => (hown.lt k hk).1⟩
          rw [HS.out, H0.out]
          exact hown'
        case measure => simp [intOf]; omega
      · have hbw := byte_w x k
        go_wp2_with (at_builtin; refine append_bytes _ rfl (.tmp 17) (.tmp 23) rfl w.heap.size _ _ [lb x k] rfl (hown.alloc _) ⟨wr.heap.size, 0, none⟩ 1 rfl (new_cells wr _ _) hl (by simp; omega) ?_; intro v' w' hown' hg')
        go_roundw
        case rel =>
          refine ⟨k + 1, by omega, by go_num, ?_, (hb.alloc hB _).grown hg' (by simp; omega) fun k hk => (hown.lt k hk).1⟩
          rw [HS.out]
          exact hown'
        case measure => simp [intOf]; omega
    · obtain rfl : k = N := by omega
      have hc := run_own_string wr _ _ _ hown
      go_wp2
      go_ret
      exact ⟨rfl, hb⟩

set_option maxHeartbeats 1000000 in
theorem big_any (x : Nat) (n : Int) (N : Nat) (hN : Counts n N) (h64 : N ≤ 64) (hx : x < U64) (w : World) :
    Calls Try.prog 33 #[.int .u64 x, .int .i64 n] w fun e w' => e = .returned (.string ⟨(bigs x N).toArray⟩) ∧ Below w.heap.size w w' := by
  have HX := Lib.hid hx
  have hbl : (bigs x N).length = N := by simp [bigs, lits_length]
  have HL := Lib.hid hbl
  clear hx hbl
  rcases hN with ⟨hneg, rfl⟩ | rfl
  · have hc := nil_string w
    go_enter Try.func33, Try.ntmps33
    go_wp2
    go_rounds 1
    go_ret
    exact ⟨rfl, Below.refl _ _⟩
  go_enter Try.func33, Try.ntmps33
  go_wp2
  go_loopw [5, 9] (fun v i wr => ∃ k : Nat, k ≤ N ∧ i = .int .i64 k ∧ ownsB wr w.heap.size v ((bigs x N).take k) ∧ Below w.heap.size w wr) (fun _ i _ => N - (intOf i).toNat)
  case atStart => exact ⟨0, Nat.zero_le _, rfl, ownsB_nil _ _, Below.refl _ _⟩
  case round =>
    obtain ⟨k, hk, rfl, hown, hb⟩ := hrel
    have hB := hb.size
    have hl : ((bigs x N).take k).length + 1 ≤ 140737488355328 := by rw [List.length_take, HL.out]; omega
    by_cases hlt : k < N
    · have hs := bigs_get x N k hlt
      have HS := Lib.hid hs
      clear hs
      by_cases h8 : 8 < N - k
      · have h0 := lb_big x (N - 1 - k) HX.out (by omega)
        have H0 := Lib.hid h0
        clear h0
        go_wp2_with (at_builtin; refine append_bytes _ rfl (.tmp 16) (.tmp 17) rfl w.heap.size _ _ [0] rfl (hown.alloc _) ⟨wr.heap.size, 0, none⟩ 1 rfl (new_cells wr _ _) hl (by simp; omega) ?_; intro v' w' hown' hg')
        go_roundw
        case rel =>
          refine ⟨k + 1, by omega, by go_num, ?_, (hb.alloc hB _).grown hg' (by simp; omega) fun k hk => (hown.lt k hk).1⟩
          rw [HS.out, H0.out]
          exact hown'
        case measure => simp [intOf]; omega
      · have hbw := byte_w x (N - 1 - k)
        go_wp2_with (at_builtin; go_loud (refine append_bytes _ rfl (.tmp 19) (.tmp 28) rfl w.heap.size _ _ [lb x (N - 1 - k)] rfl (hown.alloc _) ⟨wr.heap.size, 0, none⟩ 1 rfl (new_cells wr _ _) hl (by simp; omega) ?_); intro v' w' hown' hg')
        go_roundw
        case rel =>
          refine ⟨k + 1, by omega, by go_num, ?_, (hb.alloc hB _).grown hg' (by simp; omega) fun k hk => (hown.lt k hk).1⟩
          rw [HS.out]
          exact hown'
        case measure => simp [intOf]; omega
    · obtain rfl : k = N := by omega
      rw [List.take_of_length_le (by rw [HL.out]; exact Nat.le_refl _)] at hown
      have hc := run_own_string wr _ _ _ hown
      go_wp2
      go_ret
      exact ⟨rfl, hb⟩
end Go.Proofs.Ytncdaohjjhcaaaa
