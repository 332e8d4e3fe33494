/- THE WALKS: Few; the cyclic sum added up by a pointer. -/
import Derived.Test.YtdhafmjhohnclaaRows
import Derived.WalkKit
import Derived.WalkSpells
import Derived.WalkLawsBesides
import Derived.Handy
import Derived.Lib.Hide
import Derived.Test.YtdhafmjhohnclaaSumsMath
namespace Go.Proofs.Ytdhafmjhohnclaa
open Go.RowKit Sums

def fewB (s : ByteArray) (n : Nat) : ByteArray := if n < s.size then s.extract 0 n else s

set_option maxHeartbeats 400000 in
theorem few_any (s : ByteArray) (n : Nat) (w : World) (hn : (n : Int) ≤ 1000000) (hs : (s.size : Int) ≤ 9223372036854775807) :
    Calls Try.prog 10 #[.string s, .int .i64 n] w fun e w' => e = .returned (.string (fewB s n)) ∧ w = w' := by
  by_cases h : n < s.size
  · have e : fewB s n = s.extract 0 n := if_pos h
    have H := Lib.hid e
    clear e
    go_enter Try.func10, Try.ntmps10
    go_wp2
    go_ret
    exact ⟨by rw [H.out]; rfl, rfl⟩
  · have e : fewB s n = s := if_neg h
    have H := Lib.hid e
    clear e
    go_enter Try.func10, Try.ntmps10
    go_wp2
    go_ret
    exact ⟨by rw [H.out]; rfl, rfl⟩

set_option maxHeartbeats 400000 in
theorem crcWrite_any (X : BitVec 32) (b : Nat) (s : ByteArray) (w : World) (hs : (s.size : Int) ≤ 9223372036854775807)
    (hc : w.cell? ⟨b, 0, none⟩ = some (.int .u32 X.toNat)) (hf : w.frozen? ⟨b, 0, none⟩ = false) :
    Calls Try.prog 16 #[.pointer (some ⟨b, 0, none⟩), .string s] w fun e w' => e = .returned (.tuple #[]) ∧ w.setCell ⟨b, 0, none⟩ (.int .u32 (crcW X s.data.toList).toNat) = w' := by
  go_enter Try.func16, Try.ntmps16
  go_wp2
  go_loop [4, 13] (fun c i => ∃ k : Nat, k ≤ s.size ∧ i = .int .i64 k ∧ c = .int .u32 (crcL (~~~X) (s.data.toList.take k)).toNat) (fun _ i => s.size - (intOf i).toNat)
  case atStart => exact ⟨0, Nat.zero_le _, rfl, by rw [not_w]; rfl⟩
  case round =>
    obtain ⟨k, hk, rfl, rfl⟩ := hrel
    obtain ⟨Y, hY⟩ : ∃ Y, Y = crcL (~~~X) (s.data.toList.take k) := ⟨_, rfl⟩
    rw [← hY]
    have HY := Lib.hid hY
    clear hY
    by_cases hlt : k < s.size
    · go_wp2
      go_loop [4, 22] (fun c i => ∃ j : Nat, j ≤ 8 ∧ i = .int .i64 j ∧ c = .int .u32 (rnds j (Y ^^^ byte32 s[k])).toNat) (fun _ i => 8 - (intOf i).toNat)
      case atStart => exact ⟨0, by omega, rfl, by rw [byte_mod, xor_w]; rfl⟩
      case round =>
        obtain ⟨j, hj, rfl, rfl⟩ := hrel
        obtain ⟨Z, hZ⟩ : ∃ Z, Z = rnds j (Y ^^^ byte32 s[k]) := ⟨_, rfl⟩
        rw [← hZ]
        have HZ := Lib.hid hZ
        clear hZ
        by_cases hl : j < 8
        · go_wp2
          go_round
          case rel => exact ⟨j + 1, by omega, by go_num, by rw [rnd_w, HZ.out]; rfl⟩
          case measure => simp [intOf]; omega
        · obtain rfl : j = 8 := by omega
          go_wp2
          go_round
          case rel => exact ⟨k + 1, by omega, by go_num, by rw [HZ.out, HY.out, take_snoc s k hlt, crcL_snoc]; rfl⟩
          case measure => simp [intOf]; omega
    · obtain rfl : k = s.size := by omega
      go_wp2
      go_end0
      exact ⟨rfl, by rw [not_w, HY.out, take_all]; rfl⟩

theorem crcSum_any (X : BitVec 32) (b : Nat) (w : World) (hc : w.cell? ⟨b, 0, none⟩ = some (.int .u32 X.toNat)) :
    Calls Try.prog 18 #[.pointer (some ⟨b, 0, none⟩)] w fun e w' => e = .returned (.int .u32 X.toNat) ∧ w = w' := by
  go_enter Try.func18, Try.ntmps18
  go_wp2
  go_ret
  exact ⟨rfl, rfl⟩

theorem crc32_any (s : ByteArray) (w : World) (hs : (s.size : Int) ≤ 9223372036854775807) :
    Calls Try.prog 12 #[.string s] w fun e w' => e = .returned (.int .u32 (crcW 0 s.data.toList).toNat) ∧ Below w.heap.size w w' := by
  go_enter Try.func12, Try.ntmps12
  go_wp2_with fail
  refine (crcWrite_any 0 _ s _ hs (by simp) (by simp)).mono ?_
  rintro e w' ⟨rfl, rfl⟩
  go_wp2_with fail
  refine (crcSum_any _ _ _ (by simp; rfl)).mono ?_
  rintro e w' ⟨rfl, rfl⟩
  go_wp2
  go_ret
  exact ⟨rfl, by go_grown⟩
end Go.Proofs.Ytdhafmjhohnclaa
