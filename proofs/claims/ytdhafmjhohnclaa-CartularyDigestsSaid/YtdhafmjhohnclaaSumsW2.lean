/- THE WALKS: Adler's sum added up by a pointer; the references' two sums. -/
import Derived.Test.YtdhafmjhohnclaaSumsW1
import Derived.Test.YtdhafmjhohnclaaWorld
import Derived.RegionTactic
import Derived.BigRegion
namespace Go.Proofs.Ytdhafmjhohnclaa
open Go.RowKit Sums

/-- A block of two numbers. -/
def two (x y : Nat) (t : TypeId) : Obj := .cells #[.int .u32 x, .int .u32 y] t (0, 0)

theorem two_cells {w : World} {b x y t : Nat} (h : w.heap[b]? = some (two x y t)) :
    w.cell? ⟨b, 0, none⟩ = some (.int .u32 x) ∧ w.cell? ⟨b, 1, none⟩ = some (.int .u32 y) ∧ w.frozen? ⟨b, 0, none⟩ = false ∧ w.frozen? ⟨b, 1, none⟩ = false := by
  simp [World.cell?, World.frozen?, h, two]
theorem two_set {w : World} {b x y t : Nat} (h : w.heap[b]? = some (two x y t)) (x' y' : Nat) :
    ((w.setCell ⟨b, 0, none⟩ (.int .u32 x')).setCell ⟨b, 1, none⟩ (.int .u32 y')).heap[b]? = some (two x' y' t) := heap_set (heap_set h 0 _) 1 _

set_option maxHeartbeats 400000 in
theorem adWrite_any (p : Nat × Nat) (h1 : p.1 < 65521) (h2 : p.2 < 65521) (b : Nat) (s : ByteArray) (w : World) (hs : (s.size : Int) ≤ 9223372036854775807)
    (hb : w.heap[b]? = some (two p.1 p.2 31)) :
    Calls Try.prog 17 #[.pointer (some ⟨b, 0, none⟩), .string s] w fun e w' => e = .returned (.tuple #[]) ∧
      w'.heap[b]? = some (two (adL p s.data.toList).1 (adL p s.data.toList).2 31) ∧ w.grownBy w' (some b) := by
  go_enter Try.func17, Try.ntmps17
  go_wp2
  go_loopw [7] (fun i wr => ∃ k : Nat, k ≤ s.size ∧ i = .int .i64 k ∧ wr.heap[b]? = some (two (adL p (s.data.toList.take k)).1 (adL p (s.data.toList.take k)).2 31) ∧ w.grownBy wr (some b)) (fun i _ => s.size - (intOf i).toNat)
  case atStart => exact ⟨0, Nat.zero_le _, rfl, hb, ⟨rfl, rfl, rfl, Nat.le_refl _, fun _ _ _ => rfl⟩⟩
  case round =>
    obtain ⟨k, hk, rfl, hbk, hg⟩ := hrel
    obtain ⟨hq1, hq2⟩ := adL_lt (s.data.toList.take k) p h1 h2
    obtain ⟨q, hq⟩ : ∃ q, q = adL p (s.data.toList.take k) := ⟨_, rfl⟩
    rw [← hq] at hbk hq1 hq2
    have HQ := Lib.hid hq
    clear hq
    obtain ⟨c0, c1, f0, f1⟩ := two_cells hbk
    have HB := Lib.hid hbk
    clear hbk
    have HG := Lib.hid hg
    clear hg
    by_cases hlt : k < s.size
    · have hby := s[k].toNat_lt
      go_wp2
      go_region
      all_goals go_wp2
      all_goals go_region
      all_goals go_wp2
      all_goals go_roundw
      case rel =>
        refine ⟨k + 1, by omega, by go_num, ?_, gb_drew (gb_drew (gb_set (gb_set HG.out _ _) _ _))⟩
        rw [adB_snd_w, adB_fst_w, take_snoc s k hlt, adL_snoc, ← HQ.out]
        exact two_set HB.out _ _
      case measure => simp [intOf]; omega
    · obtain rfl : k = s.size := by omega
      go_wp2
      go_end0
      refine ⟨rfl, ?_, HG.out⟩
      have h := HB.out
      rw [HQ.out, take_all] at h
      exact h

set_option maxHeartbeats 400000 in
theorem adSum_any (q : Nat × Nat) (h1 : q.1 < 65521) (h2 : q.2 < 65521) (b : Nat) (w : World) (hb : w.heap[b]? = some (two q.1 q.2 31)) :
    Calls Try.prog 19 #[.pointer (some ⟨b, 0, none⟩)] w fun e w' => e = .returned (.int .u32 (adSum q)) ∧ w.grownBy w' none := by
  obtain ⟨c0, c1, f0, f1⟩ := two_cells hb
  clear hb
  go_enter Try.func19, Try.ntmps19
  go_wp2
  go_region
  all_goals go_wp2
  all_goals go_ret
  all_goals exact ⟨by rw [← adSum_w q h1 h2]; rfl, by first | exact gb_refl _ _ | exact gb_drew (gb_refl _ _)⟩

theorem adler32_any (s : ByteArray) (w : World) (hs : (s.size : Int) ≤ 9223372036854775807) :
    Calls Try.prog 14 #[.string s] w fun e w' => e = .returned (.int .u32 (adSum (adL (0, 0) s.data.toList))) ∧ Below w.heap.size w w' := by
  go_enter Try.func14, Try.ntmps14
  go_wp2_with fail
  have hb0 : (w.alloc (.cells #[.int .u32 0, .int .u32 0] 31)).heap[w.heap.size]? = some (two 0 0 31) := heap_alloc_same _ _
  refine (adWrite_any (0, 0) (by decide) (by decide) _ s _ hs hb0).mono ?_
  rintro e w1 ⟨rfl, hb1, hg1⟩
  go_wp2_with fail
  obtain ⟨l1, l2⟩ := adL_lt s.data.toList (0, 0) (by decide) (by decide)
  refine (adSum_any _ l1 l2 _ _ hb1).mono ?_
  rintro e w2 ⟨rfl, hg2⟩
  go_wp2
  go_ret
  exact ⟨rfl, (below_gb ((Below.refl _ _).alloc (Nat.le_refl _) _) hg1 (by simp) (Nat.le_refl _)).trans (gb_below hg2 (by have := hg1.size; simp at this; omega) (by simp))⟩

set_option maxHeartbeats 800000 in
theorem refAdler_any (s : ByteArray) (w : World) (hs : (s.size : Int) ≤ 9223372036854775807) :
    Calls Try.prog 15 #[.string s] w fun e w' => e = .returned (.int .u32 (adSum (adL (0, 0) s.data.toList))) ∧ w = w' := by
  go_enter Try.func15, Try.ntmps15
  go_wp2
  go_loop [3, 4, 5] (fun a b i => ∃ k : Nat, k ≤ s.size ∧ i = .int .i64 k ∧ a = .int .i64 (refL (1, 0) (s.data.toList.take k)).1 ∧ b = .int .i64 (refL (1, 0) (s.data.toList.take k)).2) (fun _ _ i => s.size - (intOf i).toNat)
  case atStart => exact ⟨0, Nat.zero_le _, rfl, rfl, rfl⟩
  case round =>
    obtain ⟨k, hk, rfl, rfl, rfl⟩ := hrel
    obtain ⟨hq1, hq2⟩ := refL_lt (s.data.toList.take k) (1, 0) (by decide) (by decide)
    obtain ⟨q, hq⟩ : ∃ q, q = refL (1, 0) (s.data.toList.take k) := ⟨_, rfl⟩
    rw [← hq] at hq1 hq2 ⊢
    have HQ := Lib.hid hq
    clear hq
    by_cases hlt : k < s.size
    · have hby := s[k].toNat_lt
      go_wp2
      go_round
      case rel => exact ⟨k + 1, by omega, by go_num, by rw [take_snoc s k hlt, refL_snoc, ← HQ.out, ref_fst_w], by rw [take_snoc s k hlt, refL_snoc, ← HQ.out, ref_snd_w]⟩
      case measure => simp [intOf]; omega
    · obtain rfl : k = s.size := by omega
      go_wp2
      go_ret
      have h := HQ.out
      rw [take_all] at h
      exact ⟨by rw [← refSum_w, ← h]; rfl, rfl⟩

set_option maxHeartbeats 800000 in
theorem refCrc_any (s : ByteArray) (w : World) (hs : (s.size : Int) ≤ 9223372036854775807) :
    Calls Try.prog 13 #[.string s] w fun e w' => e = .returned (.int .u32 (crcW 0 s.data.toList).toNat) ∧ w = w' := by
  go_enter Try.func13, Try.ntmps13
  go_wp2
  go_loop [3, 4] (fun c i => ∃ k : Nat, k ≤ s.size ∧ i = .int .i64 k ∧ c = .int .u32 (crcL (~~~0#32) (s.data.toList.take k)).toNat) (fun _ i => s.size - (intOf i).toNat)
  case atStart => exact ⟨0, Nat.zero_le _, rfl, rfl⟩
  case round =>
    obtain ⟨k, hk, rfl, rfl⟩ := hrel
    obtain ⟨Y, hY⟩ : ∃ Y, Y = crcL (~~~0#32) (s.data.toList.take k) := ⟨_, rfl⟩
    rw [← hY]
    have HY := Lib.hid hY
    clear hY
    by_cases hlt : k < s.size
    · go_wp2
      go_loop [3, 5] (fun c i => ∃ j : Nat, j ≤ 8 ∧ i = .int .i64 j ∧ c = .int .u32 (rnds j (Y ^^^ byte32 s[k]) ^^^ (byte32 s[k] >>> j)).toNat) (fun _ i => 8 - (intOf i).toNat)
      case atStart => exact ⟨0, by omega, rfl, by simp [rnds, BitVec.xor_assoc]⟩
      case round =>
        obtain ⟨j, hj, rfl, rfl⟩ := hrel
        obtain ⟨Z, hZ⟩ : ∃ Z, Z = rnds j (Y ^^^ byte32 s[k]) ^^^ (byte32 s[k] >>> j) := ⟨_, rfl⟩
        rw [← hZ]
        have HZ := Lib.hid hZ
        clear hZ
        by_cases hl : j < 8
        · go_wp2
          · have ho := ‹_ = true›
            go_round
            case rel => exact ⟨j + 1, by omega, by go_num, by rw [ref_odd Z s[k] j _ HZ.out ho]⟩
            case measure => simp [intOf]; omega
          · have ho := ‹_ = false›
            go_round
            case rel => exact ⟨j + 1, by omega, by go_num, by rw [ref_even Z s[k] j _ HZ.out ho]⟩
            case measure => simp [intOf]; omega
        · obtain rfl : j = 8 := by omega
          go_wp2
          go_round
          case rel => exact ⟨k + 1, by omega, by go_num, by rw [HZ.out, ref_end, HY.out, take_snoc s k hlt, crcL_snoc]⟩
          case measure => simp [intOf]; omega
    · obtain rfl : k = s.size := by omega
      go_wp2
      go_ret
      have h := HY.out
      rw [take_all] at h
      exact ⟨by rw [crcW, ← h, ← not_w']; rfl, rfl⟩
end Go.Proofs.Ytdhafmjhohnclaa
