/- THE WALKS of the sums that frames want: numbers of bytes, Adler's sum. Conditions: the lengths. -/
import Derived.Test.YtncdaohjjhcaaaaSumsNumWalks
import Derived.Test.YtncdaohjjhcaaaaWorld
import Derived.RegionTactic
import Derived.BigRegion
import Derived.LoopTactic
namespace Go.Proofs.Ytncdaohjjhcaaaa
open Go.RowKit Sums
set_option linter.unusedVariables false

theorem take_all8 (s : ByteArray) (k : Nat) (h : s.size ≤ k) : s.data.toList.take k = s.data.toList := List.take_of_length_le (by rw [Array.length_toList]; exact h)

set_option maxRecDepth 100000 in
set_option maxHeartbeats 1000000 in
theorem fromBig_any (s : ByteArray) (w : World) (hs : (s.size : Int) ≤ 9223372036854775807) :
    Calls Try.prog 27 #[.string s] w fun e w' => e = .returned (.int .u64 (fromBig s.data.toList)) ∧ w = w' := by
  go_enter Try.func27, Try.ntmps27
  go_wp2
  go_loop [3, 7] (fun v i => ∃ k : Nat, k ≤ s.size ∧ i = .int .i64 k ∧ v = .int .u64 (fromBig (s.data.toList.take k))) (fun _ i => s.size - (intOf i).toNat)
  case atStart => exact ⟨0, Nat.zero_le _, rfl, rfl⟩
  case round =>
    obtain ⟨k, hk, rfl, rfl⟩ := hrel
    obtain ⟨X, hX⟩ : ∃ X, X = fromBig (s.data.toList.take k) := ⟨_, rfl⟩
    rw [← hX]
    have HX := Lib.hid hX
    clear hX
    by_cases hlt : k < s.size
    · have hby := s[k].toNat_lt
      have hw := big_w X s[k]
      have HS := Lib.hid (take_snoc s k hlt)
      go_wp2
      go_round
      case rel => exact ⟨k + 1, by omega, by go_num, by rw [HS.out, fromBig_snoc, ← HX.out]⟩
      case measure => simp [intOf]; omega
    · obtain rfl : k = s.size := by omega
      go_wp2
      go_ret
      have h := HX.out
      rw [take_all] at h
      exact ⟨by rw [← h]; rfl, rfl⟩

set_option maxRecDepth 100000 in
set_option maxHeartbeats 1000000 in
theorem fromLittle_any (s : ByteArray) (w : World) (hs : (s.size : Int) ≤ 9223372036854775807) :
    Calls Try.prog 46 #[.string s] w fun e w' => e = .returned (.int .u64 (litN (s.data.toList.take 8))) ∧ w = w' := by
  rcases Nat.lt_or_ge 8 s.size with h8 | h8
  rotate_left
  · go_enter Try.func46, Try.ntmps46
    go_wp2
    go_loop [3, 8] (fun v i => ∃ k : Nat, k ≤ s.size ∧ i = .int .i64 k ∧ v = .int .u64 (litN (s.data.toList.take k))) (fun _ i => s.size - (intOf i).toNat)
    case atStart => exact ⟨0, Nat.zero_le _, rfl, rfl⟩
    case round =>
      obtain ⟨k, hk, rfl, rfl⟩ := hrel
      obtain ⟨X, hX⟩ : ∃ X, X = litN (s.data.toList.take k) := ⟨_, rfl⟩
      have hlt := litN_lt (s.data.toList.take k)
      have hlen : (s.data.toList.take k).length = k := by rw [List.length_take, Array.length_toList]; have : s.data.size = s.size := rfl; omega
      rw [← hX]
      rw [← hX, hlen] at hlt
      have HX := Lib.hid hX
      have HL := Lib.hid hlen
      have HLT := Lib.hid hlt
      clear hX hlen hlt
      by_cases hlt : k < s.size
      · have hks : k < s.size := by omega
        have hby := s[k].toNat_lt
        have hw := little_w X k s[k] (by omega) HLT.out
        have HS := Lib.hid (take_snoc s k hks)
        go_wp2
        go_round
        case rel => exact ⟨k + 1, by omega, by go_num, by rw [HS.out, litN_snoc, HL.out, ← HX.out]; exact congrArg (Value.int .u64) (by simp)⟩
        case measure => simp [intOf]; omega
      · have hkN : k = s.size := by omega
        have h := HX.out
        have e : s.data.toList.take k = s.data.toList.take 8 := by rw [take_all8 s 8 (by omega), take_all8 s k (by omega)]
        rw [e] at h
        have HH := Lib.hid h
        clear h e hkN
        go_wp2
        go_ret
        exact ⟨by rw [← HH.out]; rfl, rfl⟩
  · go_enter Try.func46, Try.ntmps46
    go_wp2
    go_loop [3, 8] (fun v i => ∃ k : Nat, k ≤ 8 ∧ i = .int .i64 k ∧ v = .int .u64 (litN (s.data.toList.take k))) (fun _ i => 8 - (intOf i).toNat)
    case atStart => exact ⟨0, Nat.zero_le _, rfl, rfl⟩
    case round =>
      obtain ⟨k, hk, rfl, rfl⟩ := hrel
      obtain ⟨X, hX⟩ : ∃ X, X = litN (s.data.toList.take k) := ⟨_, rfl⟩
      have hlt := litN_lt (s.data.toList.take k)
      have hlen : (s.data.toList.take k).length = k := by rw [List.length_take, Array.length_toList]; have : s.data.size = s.size := rfl; omega
      rw [← hX]
      rw [← hX, hlen] at hlt
      have HX := Lib.hid hX
      have HL := Lib.hid hlen
      have HLT := Lib.hid hlt
      clear hX hlen hlt
      by_cases hlt : k < 8
      · have hks : k < s.size := by omega
        have hby := s[k].toNat_lt
        have hw := little_w X k s[k] (by omega) HLT.out
        have HS := Lib.hid (take_snoc s k hks)
        go_wp2
        go_round
        case rel => exact ⟨k + 1, by omega, by go_num, by rw [HS.out, litN_snoc, HL.out, ← HX.out]; exact congrArg (Value.int .u64) (by simp)⟩
        case measure => simp [intOf]; omega
      · have hkN : k = 8 := by omega
        have h := HX.out
        have e : s.data.toList.take k = s.data.toList.take 8 := by rw [hkN]
        rw [e] at h
        have HH := Lib.hid h
        clear h e hkN
        go_wp2
        go_ret
        exact ⟨by rw [← HH.out]; rfl, rfl⟩

/-- A block of two numbers. -/
def two (x y : Nat) (t : TypeId) : Obj := .cells #[.int .u32 x, .int .u32 y] t (0, 0)

theorem two_cells {w : World} {b x y t : Nat} (h : w.heap[b]? = some (two x y t)) :
    w.cell? ⟨b, 0, none⟩ = some (.int .u32 x) ∧ w.cell? ⟨b, 1, none⟩ = some (.int .u32 y) ∧ w.frozen? ⟨b, 0, none⟩ = false ∧ w.frozen? ⟨b, 1, none⟩ = false := by
  simp [World.cell?, World.frozen?, h, two]
theorem two_set {w : World} {b x y t : Nat} (h : w.heap[b]? = some (two x y t)) (x' y' : Nat) :
    ((w.setCell ⟨b, 0, none⟩ (.int .u32 x')).setCell ⟨b, 1, none⟩ (.int .u32 y')).heap[b]? = some (two x' y' t) := heap_set (heap_set h 0 _) 1 _

set_option maxHeartbeats 400000 in
theorem adWrite_any (p : Nat × Nat) (h1 : p.1 < 65521) (h2 : p.2 < 65521) (b : Nat) (s : ByteArray) (w : World) (hs : (s.size : Int) ≤ 9223372036854775807)
    (hb : w.heap[b]? = some (two p.1 p.2 79)) :
    Calls Try.prog 39 #[.pointer (some ⟨b, 0, none⟩), .string s] w fun e w' => e = .returned (.tuple #[]) ∧
      w'.heap[b]? = some (two (adL p s.data.toList).1 (adL p s.data.toList).2 79) ∧ w.grownBy w' (some b) := by
  go_enter Try.func39, Try.ntmps39
  go_wp2
  go_loopw [7] (fun i wr => ∃ k : Nat, k ≤ s.size ∧ i = .int .i64 k ∧ wr.heap[b]? = some (two (adL p (s.data.toList.take k)).1 (adL p (s.data.toList.take k)).2 79) ∧ w.grownBy wr (some b)) (fun i _ => s.size - (intOf i).toNat)
  case atStart => exact ⟨0, Nat.zero_le _, rfl, hb, ⟨rfl, rfl, rfl, Nat.le_refl _, fun _ _ _ => rfl⟩⟩
  case round =>
    obtain ⟨k, hk, rfl, hbk, hg⟩ := hrel
    obtain ⟨hq1, hq2⟩ := adL_lt (s.data.toList.take k) p h1 h2
    obtain ⟨q, hq⟩ : ∃ q, q = adL p (s.data.toList.take k) := ⟨_, rfl⟩
    rw [← hq] at hbk hq1 hq2
    have HQ := Lib.hid hq
    clear hq
    obtain ⟨c0, c1, f0, f1⟩ := two_cells hbk
    have HB := Lib.hid hbk
    clear hbk
    have HG := Lib.hid hg
    clear hg
    by_cases hlt : k < s.size
    · have hby := s[k].toNat_lt
      go_wp2
      go_region
      all_goals go_wp2
      all_goals go_region
      all_goals go_wp2
      all_goals go_roundw
      case rel =>
        refine ⟨k + 1, by omega, by go_num, ?_, gb_drew (gb_drew (gb_set (gb_set HG.out _ _) _ _))⟩
        rw [adB_snd_w, adB_fst_w, take_snoc s k hlt, adL_snoc, ← HQ.out]
        exact two_set HB.out _ _
      case measure => simp [intOf]; omega
    · obtain rfl : k = s.size := by omega
      go_wp2
      go_end0
      refine ⟨rfl, ?_, HG.out⟩
      have h := HB.out
      rw [HQ.out, take_all] at h
      exact h

set_option maxHeartbeats 400000 in
theorem adSum_any (q : Nat × Nat) (h1 : q.1 < 65521) (h2 : q.2 < 65521) (b : Nat) (w : World) (hb : w.heap[b]? = some (two q.1 q.2 79)) :
    Calls Try.prog 40 #[.pointer (some ⟨b, 0, none⟩)] w fun e w' => e = .returned (.int .u32 (adSum q)) ∧ w.grownBy w' none := by
  obtain ⟨c0, c1, f0, f1⟩ := two_cells hb
  clear hb
  go_enter Try.func40, Try.ntmps40
  go_wp2
  go_region
  all_goals go_wp2
  all_goals go_ret
  all_goals exact ⟨by rw [← adSum_w q h1 h2]; rfl, by first | exact gb_refl _ _ | exact gb_drew (gb_refl _ _)⟩

theorem adler32_any (s : ByteArray) (w : World) (hs : (s.size : Int) ≤ 9223372036854775807) :
    Calls Try.prog 28 #[.string s] w fun e w' => e = .returned (.int .u32 (adSum (adL (0, 0) s.data.toList))) ∧ Below w.heap.size w w' := by
  go_enter Try.func28, Try.ntmps28
  go_wp2_with fail
  have hb0 : (w.alloc (.cells #[.int .u32 0, .int .u32 0] 79)).heap[w.heap.size]? = some (two 0 0 79) := heap_alloc_same _ _
  refine (adWrite_any (0, 0) (by decide) (by decide) _ s _ hs hb0).mono ?_
  rintro e w1 ⟨rfl, hb1, hg1⟩
  go_wp2_with fail
  obtain ⟨l1, l2⟩ := adL_lt s.data.toList (0, 0) (by decide) (by decide)
  refine (adSum_any _ l1 l2 _ _ hb1).mono ?_
  rintro e w2 ⟨rfl, hg2⟩
  go_wp2
  go_ret
  exact ⟨rfl, (below_gb ((Below.refl _ _).alloc (Nat.le_refl _) _) hg1 (by simp) (Nat.le_refl _)).trans (gb_below hg2 (by have := hg1.size; simp at this; omega) (by simp))⟩

end Go.Proofs.Ytncdaohjjhcaaaa
