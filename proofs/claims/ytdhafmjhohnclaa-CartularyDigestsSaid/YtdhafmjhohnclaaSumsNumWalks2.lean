/- THE WALKS: bytes as numbers; the references' ways. -/
import Derived.Test.YtdhafmjhohnclaaSumsNumWalks
namespace Go.Proofs.Ytdhafmjhohnclaa
open Go.RowKit Sums
set_option linter.unusedVariables false

theorem take_all8 (s : ByteArray) (k : Nat) (h : s.size ≤ k) : s.data.toList.take k = s.data.toList := List.take_of_length_le (by rw [Array.length_toList]; exact h)

set_option maxRecDepth 100000 in
set_option maxHeartbeats 1000000 in
theorem fromBig_any (s : ByteArray) (w : World) (hs : (s.size : Int) ≤ 9223372036854775807) :
    Calls Try.prog 32 #[.string s] w fun e w' => e = .returned (.int .u64 (fromBig s.data.toList)) ∧ w = w' := by
  go_enter Try.func32, Try.ntmps32
  go_wp2
  go_loop [3, 7] (fun v i => ∃ k : Nat, k ≤ s.size ∧ i = .int .i64 k ∧ v = .int .u64 (fromBig (s.data.toList.take k))) (fun _ i => s.size - (intOf i).toNat)
  case atStart => exact ⟨0, Nat.zero_le _, rfl, rfl⟩
  case round =>
    obtain ⟨k, hk, rfl, rfl⟩ := hrel
    obtain ⟨X, hX⟩ : ∃ X, X = fromBig (s.data.toList.take k) := ⟨_, rfl⟩
    rw [← hX]
    have HX := Lib.hid hX
    clear hX
    by_cases hlt : k < s.size
    · have hby := s[k].toNat_lt
      have hw := big_w X s[k]
      have HS := Lib.hid (take_snoc s k hlt)
      go_wp2
      go_round
      case rel => exact ⟨k + 1, by omega, by go_num, by rw [HS.out, fromBig_snoc, ← HX.out]⟩
      case measure => simp [intOf]; omega
    · obtain rfl : k = s.size := by omega
      go_wp2
      go_ret
      have h := HX.out
      rw [take_all] at h
      exact ⟨by rw [← h]; rfl, rfl⟩

set_option maxRecDepth 100000 in
set_option maxHeartbeats 1000000 in
theorem number_any (s : ByteArray) (w : World) (hs : (s.size : Int) ≤ 9223372036854775807) :
    Calls Try.prog 33 #[.string s] w fun e w' => e = .returned (.int .u64 (fromBig s.data.toList)) ∧ w = w' := by
  go_enter Try.func33, Try.ntmps33
  go_wp2
  go_loop [3, 4] (fun v i => ∃ k : Nat, k ≤ s.size ∧ i = .int .i64 k ∧ v = .int .u64 (fromBig (s.data.toList.take k))) (fun _ i => s.size - (intOf i).toNat)
  case atStart => exact ⟨0, Nat.zero_le _, rfl, rfl⟩
  case round =>
    obtain ⟨k, hk, rfl, rfl⟩ := hrel
    obtain ⟨X, hX⟩ : ∃ X, X = fromBig (s.data.toList.take k) := ⟨_, rfl⟩
    rw [← hX]
    have HX := Lib.hid hX
    clear hX
    by_cases hlt : k < s.size
    · have hby := s[k].toNat_lt
      have hw := num_w X s[k]
      have HS := Lib.hid (take_snoc s k hlt)
      go_wp2
      go_round
      case rel => exact ⟨k + 1, by omega, by go_num, by rw [HS.out, fromBig_snoc, ← HX.out]⟩
      case measure => simp [intOf]; omega
    · obtain rfl : k = s.size := by omega
      go_wp2
      go_ret
      have h := HX.out
      rw [take_all] at h
      exact ⟨by rw [← h]; rfl, rfl⟩

set_option maxRecDepth 100000 in
set_option maxHeartbeats 1000000 in
theorem fromLittle_any (s : ByteArray) (w : World) (hs : (s.size : Int) ≤ 9223372036854775807) :
    Calls Try.prog 34 #[.string s] w fun e w' => e = .returned (.int .u64 (litN (s.data.toList.take 8))) ∧ w = w' := by
  rcases Nat.lt_or_ge 8 s.size with h8 | h8
  rotate_left
  · go_enter Try.func34, Try.ntmps34
    go_wp2
    go_loop [3, 8] (fun v i => ∃ k : Nat, k ≤ s.size ∧ i = .int .i64 k ∧ v = .int .u64 (litN (s.data.toList.take k))) (fun _ i => s.size - (intOf i).toNat)
    case atStart => exact ⟨0, Nat.zero_le _, rfl, rfl⟩
    case round =>
      obtain ⟨k, hk, rfl, rfl⟩ := hrel
      obtain ⟨X, hX⟩ : ∃ X, X = litN (s.data.toList.take k) := ⟨_, rfl⟩
      have hlt := litN_lt (s.data.toList.take k)
      have hlen : (s.data.toList.take k).length = k := by rw [List.length_take, Array.length_toList]; have : s.data.size = s.size := rfl; omega
      rw [← hX]
      rw [← hX, hlen] at hlt
      have HX := Lib.hid hX
      have HL := Lib.hid hlen
      have HLT := Lib.hid hlt
      clear hX hlen hlt
      by_cases hlt : k < s.size
      · have hks : k < s.size := by omega
        have hby := s[k].toNat_lt
        have hw := little_w X k s[k] (by omega) HLT.out
        have HS := Lib.hid (take_snoc s k hks)
        go_wp2
        go_round
        case rel => exact ⟨k + 1, by omega, by go_num, by rw [HS.out, litN_snoc, HL.out, ← HX.out]; exact congrArg (Value.int .u64) (by simp)⟩
        case measure => simp [intOf]; omega
      · have hkN : k = s.size := by omega
        have h := HX.out
        have e : s.data.toList.take k = s.data.toList.take 8 := by rw [take_all8 s 8 (by omega), take_all8 s k (by omega)]
        rw [e] at h
        have HH := Lib.hid h
        clear h e hkN
        go_wp2
        go_ret
        exact ⟨by rw [← HH.out]; rfl, rfl⟩
  · go_enter Try.func34, Try.ntmps34
    go_wp2
    go_loop [3, 8] (fun v i => ∃ k : Nat, k ≤ 8 ∧ i = .int .i64 k ∧ v = .int .u64 (litN (s.data.toList.take k))) (fun _ i => 8 - (intOf i).toNat)
    case atStart => exact ⟨0, Nat.zero_le _, rfl, rfl⟩
    case round =>
      obtain ⟨k, hk, rfl, rfl⟩ := hrel
      obtain ⟨X, hX⟩ : ∃ X, X = litN (s.data.toList.take k) := ⟨_, rfl⟩
      have hlt := litN_lt (s.data.toList.take k)
      have hlen : (s.data.toList.take k).length = k := by rw [List.length_take, Array.length_toList]; have : s.data.size = s.size := rfl; omega
      rw [← hX]
      rw [← hX, hlen] at hlt
      have HX := Lib.hid hX
      have HL := Lib.hid hlen
      have HLT := Lib.hid hlt
      clear hX hlen hlt
      by_cases hlt : k < 8
      · have hks : k < s.size := by omega
        have hby := s[k].toNat_lt
        have hw := little_w X k s[k] (by omega) HLT.out
        have HS := Lib.hid (take_snoc s k hks)
        go_wp2
        go_round
        case rel => exact ⟨k + 1, by omega, by go_num, by rw [HS.out, litN_snoc, HL.out, ← HX.out]; exact congrArg (Value.int .u64) (by simp)⟩
        case measure => simp [intOf]; omega
      · have hkN : k = 8 := by omega
        have h := HX.out
        have e : s.data.toList.take k = s.data.toList.take 8 := by rw [hkN]
        rw [e] at h
        have HH := Lib.hid h
        clear h e hkN
        go_wp2
        go_ret
        exact ⟨by rw [← HH.out]; rfl, rfl⟩

set_option maxRecDepth 100000 in
set_option maxHeartbeats 1000000 in
theorem turn_any (s : ByteArray) (w : World) (hs : (s.size : Int) ≤ 1000000) :
    Calls Try.prog 35 #[.string s] w fun e w' => e = .returned (.string ⟨s.data.toList.reverse.toArray⟩) ∧ Below w.heap.size w w' := by
  go_enter Try.func35, Try.ntmps35
  go_wp2
  go_loopw [3, 4] (fun v i wr => ∃ j : Nat, j ≤ s.size ∧ i = .int .i64 ((j : Int) - 1) ∧ ownsB wr w.heap.size v (s.data.toList.drop j).reverse ∧ Below w.heap.size w wr) (fun _ i _ => (intOf i + 1).toNat)
  case atStart => exact ⟨s.size, Nat.le_refl _, rfl, by rw [List.drop_of_length_le (by rw [Array.length_toList]; exact Nat.le_refl _)]; exact ownsB_empty w, (Below.refl _ _).alloc (Nat.le_refl _) _⟩
  case round =>
    obtain ⟨j, hj, rfl, hown, hb⟩ := hrel
    have hB := hb.size
    have hl : (s.data.toList.drop j).reverse.length + 1 ≤ 140737488355328 := by rw [List.length_reverse, List.length_drop, Array.length_toList]; have : s.data.size = s.size := rfl; omega
    by_cases hlt : 0 < j
    · obtain ⟨k, rfl⟩ : ∃ k, j = k + 1 := ⟨j - 1, by omega⟩
      have hks : k < s.size := by omega
      have hd : s.data.toList.drop k = s[k] :: s.data.toList.drop (k + 1) := by
        rw [List.drop_eq_getElem_cons (by rw [Array.length_toList]; exact hks)]; rfl
      have HD := Lib.hid hd
      have i1 : ((k + 1 : Nat) : Int) - 1 = (k : Int) := by omega
      rw [i1]
      clear hd i1
      go_wp2_with (at_builtin; refine append_bytes _ rfl (.tmp 13) (.tmp 17) rfl w.heap.size _ _ [s[k]] rfl (hown.alloc _) ⟨wr.heap.size, 0, none⟩ 1 rfl (new_cells wr _ _) hl (by simp; omega) ?_; intro v' w' hown' hg')
      go_roundw
      case rel =>
        refine ⟨k, by omega, by first | rfl | go_num, ?_, (hb.alloc hB _).grown hg' (by simp; omega) fun k hk => (hown.lt k hk).1⟩
        rw [HD.out, List.reverse_cons]
        exact hown'
      case measure => first | (simp [intOf]; done) | (simp [intOf]; omega)
    · obtain rfl : j = 0 := by omega
      have hc := run_own_string wr _ _ _ hown
      go_wp2
      go_ret
      exact ⟨rfl, hb⟩

set_option maxRecDepth 100000 in
set_option maxHeartbeats 1000000 in
theorem refLittle_any (x : Nat) (n : Int) (N : Nat) (hN : Counts n N) (h64 : N ≤ 64) (hx : x < U64) (w : World) :
    Calls Try.prog 31 #[.int .u64 x, .int .i64 n] w fun e w' => e = .returned (.string ⟨(lits x N).toArray⟩) ∧ Below w.heap.size w w' := by
  have HU := Lib.hid hx
  clear hx
  rcases hN with ⟨hneg, rfl⟩ | rfl
  · have hc := run_own_string (w.alloc (.cells #[] 5)) _ _ _ (ownsB_empty w)
    go_enter Try.func31, Try.ntmps31
    go_wp2
    go_rounds 1
    go_ret
    exact ⟨rfl, (Below.refl _ _).alloc (Nat.le_refl _) _⟩
  go_enter Try.func31, Try.ntmps31
  go_wp2
  go_loopw [0, 5, 6] (fun xv v i wr => ∃ k : Nat, k ≤ N ∧ i = .int .i64 k ∧ xv = .int .u64 ((x / 256 ^ k : Nat) : Int) ∧ ownsB wr w.heap.size v (lits x k) ∧ Below w.heap.size w wr) (fun _ _ i _ => N - (intOf i).toNat)
  case atStart => exact ⟨0, Nat.zero_le _, rfl, by simp, ownsB_empty w, (Below.refl _ _).alloc (Nat.le_refl _) _⟩
  case round =>
    obtain ⟨k, hk, rfl, rfl, hown, hb⟩ := hrel
    have hB := hb.size
    have hl : (lits x k).length + 1 ≤ 140737488355328 := by rw [lits_length]; omega
    have hbw := low_byte_w x k
    have hdd := quo_w x k HU.out
    obtain ⟨y, hy⟩ : ∃ y, y = x / 256 ^ k := ⟨_, rfl⟩
    rw [← hy] at hbw hdd ⊢
    have HDD := Lib.hid hdd
    clear hdd hy
    by_cases hlt : k < N
    · have HS := Lib.hid (lits_succ x k)
      go_wp2_with (at_builtin; go_loud (refine append_bytes _ rfl (.tmp 13) (.tmp 17) rfl w.heap.size _ _ [lb x k] rfl (hown.alloc _) ⟨wr.heap.size, 0, none⟩ 1 rfl (new_cells wr _ _) hl (by simp; omega) ?_); intro v' w' hown' hg')
      go_roundw
      case rel =>
        refine ⟨k + 1, by omega, by go_num, by rw [HDD.out], ?_, (hb.alloc hB _).grown hg' (by simp; omega) fun k hk => (hown.lt k hk).1⟩
        rw [HS.out]
        exact hown'
      case measure => simp [intOf]; omega
    · obtain rfl : k = N := by omega
      have hc := run_own_string wr _ _ _ hown
      go_wp2
      go_ret
      exact ⟨rfl, hb⟩

theorem refBig_any (x : Nat) (n : Int) (N : Nat) (hN : Counts n N) (h64 : N ≤ 64) (hx : x < U64) (w : World) :
    Calls Try.prog 29 #[.int .u64 x, .int .i64 n] w fun e w' => e = .returned (.string ⟨(bigs x N).toArray⟩) ∧ Below w.heap.size w w' := by
  have c1 := refLittle_any x n N hN h64 hx w
  have hs : ((⟨(lits x N).toArray⟩ : ByteArray).size : Int) ≤ 1000000 := by
    show (((lits x N).toArray.size : Nat) : Int) ≤ 1000000
    rw [List.size_toArray, lits_length]; omega
  have c2 : ∀ W, _ := fun W => turn_any ⟨(lits x N).toArray⟩ W hs
  have e : (⟨(lits x N).toArray⟩ : ByteArray).data.toList = lits x N := rfl
  rw [e] at c2
  change ∀ W, Calls _ _ _ _ fun e w' => e = .returned (.string ⟨(bigs x N).toArray⟩) ∧ _ at c2
  generalize (⟨(lits x N).toArray⟩ : ByteArray) = L at c1 c2
  generalize (⟨(bigs x N).toArray⟩ : ByteArray) = B at c2 ⊢
  have C1 := Lib.hid c1
  have C2 := Lib.hid c2
  clear c1 c2 hs e
  go_enter Try.func29, Try.ntmps29
  go_wp2_with fail
  refine C1.out.mono ?_
  rintro e w1 ⟨rfl, hb1⟩
  go_wp2_with fail
  refine (C2.out _).mono ?_
  rintro e w2 ⟨rfl, hb2⟩
  go_wp2
  go_ret
  exact ⟨rfl, hb1.trans (hb2.mono hb1.size)⟩
end Go.Proofs.Ytdhafmjhohnclaa
