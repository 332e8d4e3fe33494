/- THE WALK of 'SumsApart'. -/
import Derived.Test.YtdhafmjhohnclaaSumsSumsWalk
import Derived.RegionTactic
import Derived.BigRegion
namespace Go.Proofs.Ytdhafmjhohnclaa
open Go.RowKit Sums
set_option linter.unusedVariables false

theorem list_split (s : ByteArray) (k : Nat) (h : k < s.size) : s.data.toList = s.data.toList.take k ++ [s[k]] ++ s.data.toList.drop (k + 1) := by
  rw [← take_snoc s k h, List.take_append_drop]
theorem changed_list (s : ByteArray) (k : Nat) (C : UInt8) : (s.extract 0 k ++ ⟨#[C]⟩ ++ s.extract (k + 1) s.size).data.toList = s.data.toList.take k ++ [C] ++ s.data.toList.drop (k + 1) := by
  rw [ByteArray.data_append, ByteArray.data_append, Array.toList_append, Array.toList_append, extract_drop, Lib.extract_data]
  simp
theorem one_byte (w : World) (C : UInt8) : (convert 35 9 (.slice (some ⟨w.heap.size, 0, none⟩) 1 1)).run Try.prog (w.alloc (.cells #[.int .u8 (C.toNat : Int)] 5)).drew = .ok (.string ⟨#[C]⟩) (w.alloc (.cells #[.int .u8 (C.toNat : Int)] 5)).drew := by
  refine run_convert_bytes_back _ _ _ 5 ⟨w.heap.size, 0, none⟩ 1 [C] Try.underlying35 Try.underlying5 Try.underlying9 ?_
  intro j hj
  exact new_cells w [C] 5 j _ (by simp at hj; subst hj; rfl)

/-- The answer where nothing is changed. -/
theorem apart_none (f : ByteArray) (at_ : Int) (c : Int) (w : World) (t : ByteArray) (hf : ∀ W, Calls Try.prog 10 #[.string t, .int .i64 2000] W fun e w' => e = .returned (.string f) ∧ W = w')
    (hs : (f.size : Int) ≤ 2000) (h : at_ < 0 ∨ ¬ at_ < 0 ∧ (f.size : Int) ≤ at_ ∨ ∃ (k : Nat) (hk : k < f.size), at_ = k ∧ (f[k].toNat : Int) = c) :
    Calls Try.prog 5 #[.string t, .int .i64 at_, .int .u8 c] w fun e w' => e = .returned (.bool true) ∧ Below w.heap.size w w' := by
  have C0 := Lib.hid hf
  clear hf
  rcases h with h | ⟨h, h2⟩ | ⟨k, hk, rfl, rfl⟩
  all_goals
    go_enter Try.func5, Try.ntmps5
    go_wp2_with fail
    refine (C0.out _).mono ?_
    rintro e w1 ⟨rfl, rfl⟩
    go_wp2_with fail
    refine (awake_any _).mono ?_
    rintro e w1 ⟨rfl, hb1⟩
    go_wp2
    go_ret
    exact ⟨rfl, hb1⟩

set_option maxHeartbeats 1000000 in
theorem apart_some (f : ByteArray) (k : Nat) (hk : k < f.size) (C : UInt8) (hC : f[k] ≠ C) (w : World) (t : ByteArray) (hf : ∀ W, Calls Try.prog 10 #[.string t, .int .i64 2000] W fun e w' => e = .returned (.string f) ∧ W = w')
    (hs : (f.size : Int) ≤ 2000) :
    Calls Try.prog 5 #[.string t, .int .i64 k, .int .u8 C.toNat] w fun e w' => e = .returned (.bool true) ∧ Below w.heap.size w w' := by
  have C0 := Lib.hid hf
  clear hf
  obtain ⟨u, hu⟩ : ∃ u, u = f.extract 0 k ++ ⟨#[C]⟩ ++ f.extract (k + 1) f.size := ⟨_, rfl⟩
  have hl := changed_list f k C
  rw [← hu] at hl
  have hus : (u.size : Int) ≤ 9223372036854775807 := by
    have : u.size = u.data.toList.length := by rw [Array.length_toList]; rfl
    rw [this, hl, List.length_append, List.length_append, List.length_take, List.length_drop, Array.length_toList]
    have : f.data.size = f.size := rfl
    simp only [List.length_cons, List.length_nil]
    omega
  have hl0 := list_split f k hk
  have hne : (crcW 0 f.data.toList).toNat ≠ (crcW 0 u.data.toList).toNat := by
    rw [hl, hl0]
    intro e
    exact hC (crcW_apart 0 _ _ _ _ (BitVec.eq_of_toNat_eq (by rw [← hl0] at e; rw [← hl0]; exact e)))
  have hne2 : adSum (adL (0, 0) f.data.toList) ≠ adSum (adL (0, 0) u.data.toList) := by
    rw [hl, hl0]
    intro e
    exact hC (adSum_apart _ _ _ _ (by rw [← hl0] at e; rw [← hl0]; exact e))
  have c1 : ∀ W, _ := fun W => crc32_any f W (by omega)
  have c2 : ∀ W, _ := fun W => crc32_any u W hus
  have c3 : ∀ W, _ := fun W => adler32_any f W (by omega)
  have c4 : ∀ W, _ := fun W => adler32_any u W hus
  generalize (crcW 0 f.data.toList).toNat = A1 at hne c1
  generalize (crcW 0 u.data.toList).toNat = A2 at hne c2
  generalize adSum (adL (0, 0) f.data.toList) = A3 at hne2 c3
  generalize adSum (adL (0, 0) u.data.toList) = A4 at hne2 c4
  have C1 := Lib.hid c1
  have C2 := Lib.hid c2
  have C3 := Lib.hid c3
  have C4 := Lib.hid c4
  have HU := Lib.hid hu
  clear c1 c2 c3 c4 hl hl0 hu
  have n1 : ((A1 : Int) != (A2 : Int)) = true := by rw [bne_iff_ne]; omega
  have n2 : ((A3 : Int) != (A4 : Int)) = true := by rw [bne_iff_ne]; omega
  clear hne hne2
  have hcv := one_byte w C
  have hfc : ((f[k].toNat : Int) == (C.toNat : Int)) = false := by
    rw [beq_eq_false_iff_ne]
    intro e
    exact hC (UInt8.toNat_inj.1 (by omega))
  go_enter Try.func5, Try.ntmps5
  go_wp2_with fail
  refine (C0.out _).mono ?_
  rintro e w1 ⟨rfl, rfl⟩
  go_wp2_with fail
  go_region
  rw [← HU.out]
  go_wp2_with fail
  refine (awake_any _).mono ?_
  rintro e w1 ⟨rfl, hb1⟩
  go_wp2_with fail
  refine (C1.out _).mono ?_
  rintro e w2 ⟨rfl, hb2⟩
  go_wp2_with fail
  refine (C2.out _).mono ?_
  rintro e w3 ⟨rfl, hb3⟩
  go_wp2_with fail
  refine (C3.out _).mono ?_
  rintro e w4 ⟨rfl, hb4⟩
  go_wp2_with fail
  refine (C4.out _).mono ?_
  rintro e w5 ⟨rfl, hb5⟩
  go_wp2
  go_ret
  have s1 := hb1.size
  have s2 := hb2.size
  have s3 := hb3.size
  have s4 := hb4.size
  have s0 : w.heap.size ≤ (w.alloc (.cells #[.int .u8 (C.toNat : Int)] 5)).drew.heap.size := by simp
  have b0 : Below w.heap.size w (w.alloc (.cells #[.int .u8 (C.toNat : Int)] 5)).drew := ((Below.refl _ _).alloc (Nat.le_refl _) _).drew
  exact ⟨rfl, ((((b0.trans (hb1.mono s0)).trans (hb2.mono (by omega))).trans (hb3.mono (by omega))).trans (hb4.mono (by omega))).trans (hb5.mono (by omega))⟩

theorem sumsApart_walk (t : ByteArray) (at_ c : Int) (ht : t.size ≤ maxLen) (ha : (Lit.int .i64 at_).wf = true) (hc : (Lit.int .u8 c).wf = true) (w : World) :
    Calls Try.prog 5 #[.string t, .int .i64 at_, .int .u8 c] w fun e w' => e = .returned (.bool true) ∧ Below w.heap.size w w' := by
  unfold maxLen at ht
  have hs := few_size t 2000
  have hf : ∀ W, _ := fun W => few_any t 2000 W (by omega) (by omega)
  have hcb : 0 ≤ c ∧ c ≤ 255 := by simpa [Lit.wf, IntKind.min, IntKind.max, IntKind.signed, IntKind.bits] using hc
  by_cases h1 : at_ < 0
  · exact apart_none _ _ _ w t hf (by omega) (.inl h1)
  by_cases h2 : ((fewB t 2000).size : Int) ≤ at_
  · exact apart_none _ _ _ w t hf (by omega) (.inr (.inl ⟨h1, h2⟩))
  obtain ⟨k, rfl⟩ := Int.eq_ofNat_of_zero_le (show 0 ≤ at_ by omega)
  obtain ⟨d, rfl⟩ := Int.eq_ofNat_of_zero_le hcb.1
  have hk : k < (fewB t 2000).size := by omega
  have hd : d = (UInt8.ofNat d).toNat := by rw [UInt8.toNat_ofNat']; omega
  by_cases h3 : (fewB t 2000)[k] = UInt8.ofNat d
  · exact apart_none _ _ _ w t hf (by omega) (.inr (.inr ⟨k, hk, rfl, by rw [h3, ← hd]⟩))
  · rw [hd]
    exact apart_some _ k hk _ h3 w t hf (by omega)
end Go.Proofs.Ytdhafmjhohnclaa
