/- THE WALK of 'SumsNumbers'. -/
import Derived.Test.YtdhafmjhohnclaaSumsNumWalks2
import Derived.Test.YtdhafmjhohnclaaSumsDigitsWalk
namespace Go.Proofs.Ytdhafmjhohnclaa
open Go.RowKit Sums
set_option linter.unusedVariables false

set_option maxRecDepth 100000 in
set_option maxHeartbeats 2000000 in
theorem numbers_core (x : Nat) (n m : Int) (s la fi Bg Lt Tu : ByteArray) (p q : Nat) (w : World)
    (k1 : ∀ W, Calls Try.prog 28 #[.int .u64 x, .int .i64 m] W fun e w' => e = .returned (.string Bg) ∧ Below W.heap.size W w')
    (k2 : ∀ W, Calls Try.prog 29 #[.int .u64 x, .int .i64 m] W fun e w' => e = .returned (.string Bg) ∧ Below W.heap.size W w')
    (k3 : ∀ W, Calls Try.prog 30 #[.int .u64 x, .int .i64 m] W fun e w' => e = .returned (.string Lt) ∧ Below W.heap.size W w')
    (k4 : ∀ W, Calls Try.prog 31 #[.int .u64 x, .int .i64 m] W fun e w' => e = .returned (.string Lt) ∧ Below W.heap.size W w')
    (k5 : ∀ W, Calls Try.prog 32 #[.string s] W fun e w' => e = .returned (.int .u64 p) ∧ W = w')
    (k6 : ∀ W, Calls Try.prog 33 #[.string la] W fun e w' => e = .returned (.int .u64 p) ∧ W = w')
    (k7 : ∀ W, Calls Try.prog 34 #[.string s] W fun e w' => e = .returned (.int .u64 q) ∧ W = w')
    (k8 : ∀ W, Calls Try.prog 35 #[.string fi] W fun e w' => e = .returned (.string Tu) ∧ Below W.heap.size W w')
    (k9 : ∀ W, Calls Try.prog 33 #[.string Tu] W fun e w' => e = .returned (.int .u64 q) ∧ W = w')
    (hn : (64 < n ∧ m = 64) ∨ (¬ 64 < n ∧ m = n)) (hs : (s.size : Int) ≤ 9223372036854775807)
    (hl : (8 < s.size ∧ la = s.extract (s.size - 8) s.size ∧ fi = s.extract 0 8) ∨ (s.size ≤ 8 ∧ la = s ∧ fi = s)) :
    Calls Try.prog 7 #[.int .u64 x, .int .i64 n, .string s] w fun e w' => e = .returned (.bool true) ∧ Below w.heap.size w w' := by
  have K1 := Lib.hid k1
  have K2 := Lib.hid k2
  have K3 := Lib.hid k3
  have K4 := Lib.hid k4
  have K5 := Lib.hid k5
  have K6 := Lib.hid k6
  have K7 := Lib.hid k7
  have K8 := Lib.hid k8
  have K9 := Lib.hid k9
  have H0 := Lib.hid (Bl.refl w)
  have eB : (Bg.toList == Bg.toList) = true := by simp
  have eL : (Lt.toList == Lt.toList) = true := by simp
  clear k1 k2 k3 k4 k5 k6 k7 k8 k9
  rcases hn with ⟨hn, rfl⟩ | ⟨hn, rfl⟩ <;> rcases hl with ⟨h8, rfl, rfl⟩ | ⟨h8, rfl, rfl⟩
  all_goals
    go_enter Try.func7, Try.ntmps7
    go_wp2_with fail
    refine (awake_any _).mono ?_; rintro e w1 ⟨rfl, hb⟩; have H1 := Lib.hid (H0.out.step hb); clear hb
    go_wp2_with fail
    refine (K1.out _).mono ?_; rintro e w2 ⟨rfl, hb⟩; have H2 := Lib.hid (H1.out.step hb); clear hb
    go_wp2_with fail
    refine (K2.out _).mono ?_; rintro e w3 ⟨rfl, hb⟩; have H3 := Lib.hid (H2.out.step hb); clear hb
    go_wp2_with fail
    refine (K3.out _).mono ?_; rintro e w4 ⟨rfl, hb⟩; have H4 := Lib.hid (H3.out.step hb); clear hb
    go_wp2_with fail
    refine (K4.out _).mono ?_; rintro e w5 ⟨rfl, hb⟩; have H5 := Lib.hid (H4.out.step hb); clear hb
    go_wp2_with fail
    refine (K5.out _).mono ?_; rintro e w6 ⟨rfl, rfl⟩
    go_wp2_with fail
    refine (K6.out _).mono ?_; rintro e w6 ⟨rfl, rfl⟩
    go_wp2_with fail
    refine (K7.out _).mono ?_; rintro e w6 ⟨rfl, rfl⟩
    go_wp2_with fail
    refine (K8.out _).mono ?_; rintro e w6 ⟨rfl, hb⟩; have H6 := Lib.hid (H5.out.step hb); clear hb
    go_wp2_with fail
    refine (K9.out _).mono ?_; rintro e w7 ⟨rfl, rfl⟩
    go_wp2
    go_ret
    exact ⟨rfl, H6.out⟩

theorem sumsNumbers_walk (x n : Int) (s : ByteArray) (hx : (Lit.int .u64 x).wf = true) (hn : (Lit.int .i64 n).wf = true) (hs : s.size ≤ maxLen) (w : World) :
    Calls Try.prog 7 #[.int .u64 x, .int .i64 n, .string s] w fun e w' => e = .returned (.bool true) ∧ Below w.heap.size w w' := by
  unfold maxLen at hs
  have hxb : 0 ≤ x ∧ x ≤ 18446744073709551615 := by simpa [Lit.wf, IntKind.min, IntKind.max, IntKind.signed, IntKind.bits] using hx
  obtain ⟨X, rfl⟩ := Int.eq_ofNat_of_zero_le hxb.1
  have hX : X < U64 := by unfold U64; omega
  clear hx hn
  obtain ⟨m, hm⟩ : ∃ m : Int, (64 < n ∧ m = 64) ∨ (¬ 64 < n ∧ m = n) := by
    by_cases h : 64 < n
    · exact ⟨64, .inl ⟨h, rfl⟩⟩
    · exact ⟨n, .inr ⟨h, rfl⟩⟩
  obtain ⟨N, hN, h64⟩ : ∃ N, Counts m N ∧ N ≤ 64 := by
    by_cases h : m < 0
    · exact ⟨0, .inl ⟨h, rfl⟩, by omega⟩
    · exact ⟨m.toNat, .inr (by omega), by omega⟩
  have hlist : s.data.toList.length = s.size := by rw [Array.length_toList]; rfl
  have hrev : ∀ t : ByteArray, (t.size : Int) ≤ 8 → t.data.toList = s.data.toList.take 8 →
      ∀ W, Calls Try.prog 33 #[.string ⟨t.data.toList.reverse.toArray⟩] W fun e w' => e = .returned (.int .u64 (litN (s.data.toList.take 8))) ∧ W = w' := by
    intro t ht htl W
    have hsz : ((⟨t.data.toList.reverse.toArray⟩ : ByteArray).size : Int) ≤ 9223372036854775807 := by
      show (((t.data.toList.reverse.toArray).size : Nat) : Int) ≤ _
      rw [List.size_toArray, List.length_reverse, Array.length_toList]
      have : t.data.size = t.size := rfl
      omega
    have := number_any ⟨t.data.toList.reverse.toArray⟩ W hsz
    have e : fromBig (⟨t.data.toList.reverse.toArray⟩ : ByteArray).data.toList = litN (s.data.toList.take 8) := by
      show fromBig t.data.toList.reverse = _
      rw [fromBig_rev _ (by rw [Array.length_toList]; have : t.data.size = t.size := rfl; omega), htl]
    rw [e] at this
    exact this
  by_cases h8 : 8 < s.size
  · have hla : fromBig (s.extract (s.size - 8) s.size).data.toList = fromBig s.data.toList := by
      rw [extract_drop]
      conv => rhs; rw [← List.take_append_drop (s.size - 8) s.data.toList]
      rw [fromBig_last _ _ (by rw [List.length_drop, hlist]; omega)]
    have hfl : (s.extract 0 8).data.toList = s.data.toList.take 8 := by rw [Lib.extract_data]; rfl
    have hfs : (s.extract 0 8).size = 8 := by rw [ByteArray.size_extract]; omega
    have hls : (s.extract (s.size - 8) s.size).size = 8 := by rw [ByteArray.size_extract]; omega
    refine numbers_core X n m s _ _ _ _ _ _ _ w (fun W => big_any X m N hN h64 hX W) (fun W => refBig_any X m N hN h64 hX W) (fun W => little_any X m N hN h64 hX W) (fun W => refLittle_any X m N hN h64 hX W)
      (fun W => fromBig_any s W (by omega)) (fun W => ?_) (fun W => fromLittle_any s W (by omega)) (fun W => turn_any (s.extract 0 8) W (by omega)) (hrev _ (by omega) hfl) hm (by omega) (.inl ⟨h8, rfl, rfl⟩)
    have := number_any (s.extract (s.size - 8) s.size) W (by omega)
    rw [hla] at this
    exact this
  · refine numbers_core X n m s _ _ _ _ _ _ _ w (fun W => big_any X m N hN h64 hX W) (fun W => refBig_any X m N hN h64 hX W) (fun W => little_any X m N hN h64 hX W) (fun W => refLittle_any X m N hN h64 hX W)
      (fun W => fromBig_any s W (by omega)) (fun W => number_any s W (by omega)) (fun W => fromLittle_any s W (by omega)) (fun W => turn_any s W (by omega)) (hrev _ (by omega) (take_all8 s 8 (by omega)).symm) hm (by omega) (.inr ⟨by omega, rfl, rfl⟩)
end Go.Proofs.Ytdhafmjhohnclaa
