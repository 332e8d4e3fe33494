/- THE WALK of fixed: the two sets of codes of a fixed block. Conditions: none. -/
import Derived.Test.YtncdaohjjhcaaaaFrMath
import Derived.Test.YtncdaohjjhcaaaaCodNew
namespace Go.Proofs.Ytncdaohjjhcaaaa
open Go.RowKit Sums
set_option linter.unusedVariables false

theorem ownsI_in {w : World} {B : Nat} {v : Value} {l : List Int} (h : ownsI w B v l) : ∃ A cap, v = .slice A l.length cap ∧ IntsIn w A l.length cap l := by
  rcases h.2 with ⟨e, e2⟩ | ⟨g, cap, cur, e, hB, hg, hle, hcap, _⟩
  · exact ⟨none, 0, by rw [e, e2], rfl, by omega, Nat.zero_le _, fun _ => ⟨e2, rfl⟩, fun i hi => absurd hi (by omega)⟩
  · subst e
    refine ⟨_, cap, rfl, rfl, hle, hcap, fun e => (by cases e), fun i hi => ⟨⟨g, 0, none⟩, rfl, lt_of_block hg, ?_⟩⟩
    have hadd : (⟨g, 0, none⟩ : Addr).add i = ⟨g, i, none⟩ := by unfold Addr.add; split <;> simp_all
    rw [hadd, h.cell rfl i hi]
    show some (iv l[i]) = _
    rw [List.getD_eq_getElem?_getD, List.getElem?_eq_getElem hi]
    rfl
set_option maxRecDepth 100000 in
theorem lit_next (i : Nat) (h : i < 288) : litL.take (i + 1) = litL.take i ++ [if i < 144 ∨ 280 ≤ i then 8 else if i < 256 then 9 else 7] := by
  have h0 : ∀ i : Fin 288, litL.take (i.val + 1) = litL.take i.val ++ [if i.val < 144 ∨ 280 ≤ i.val then 8 else if i.val < 256 then 9 else 7] := by decide +kernel
  exact h0 ⟨i, h⟩
theorem dist_next (i : Nat) (h : i < 32) : distL.take (i + 1) = distL.take i ++ [5] := by
  have h0 : ∀ i : Fin 32, distL.take (i.val + 1) = distL.take i.val ++ [5] := by decide +kernel
  exact h0 ⟨i, h⟩

set_option maxRecDepth 100000 in
set_option maxHeartbeats 2000000 in
theorem fixed_any (w : World) :
    Calls Try.prog 35 #[] w fun e w' => (∃ b1 b2 LV1 SV1 LV2 SV2, e = .returned (.tuple #[.pointer (some ⟨b1, 0, none⟩), .pointer (some ⟨b2, 0, none⟩)]) ∧ TAt w' b1 w.heap.size litL LV1 SV1 ∧ TAt w' b2 w.heap.size distL LV2 SV2 ∧ w.heap.size ≤ b1 ∧ w.heap.size ≤ b2) ∧ Below w.heap.size w w' := by
  go_enter Try.func35, Try.ntmps35
  go_wp2_with fail
  go_loopw [2, 9] (fun lv l9 wr => ∃ (i : Nat), i ≤ 288 ∧ l9 = .int .i64 (i : Int) ∧ ownsI wr w.heap.size lv (litL.take i) ∧ Below w.heap.size w wr) (fun _ l9 _ => 288 - (intOf l9).toNat)
  case atStart => exact ⟨0, Nat.zero_le _, rfl, ownsI_nil _ _, Below.refl _ _⟩
  case round =>
    obtain ⟨i, hi, rfl, hown, hb⟩ := hrel
    have HO := Lib.hid hown
    have HB := Lib.hid hb
    have hB := hb.size
    clear hown hb
    by_cases h288 : i < 288
    · have hn := lit_next i h288
      have hl : (litL.take i).length + 1 ≤ 17592186044416 := by rw [List.length_take]; omega
      by_cases h1 : i < 144
      · rw [if_pos (Or.inl h1)] at hn
        have HN := Lib.hid hn
        clear hn
        go_wp2_with (at_builtin; refine append_ints _ rfl (.tmp 20) (.tmp 21) rfl w.heap.size _ _ [8] rfl (HO.out.alloc _) ⟨wr.heap.size, 0, none⟩ 1 rfl (new_ints wr _ _) hl (by simp; omega) ?_; intro v' w' hown' hg')
        go_roundw
        case rel => exact ⟨i + 1, by omega, by go_num, by rw [HN.out]; exact hown', (HB.out.alloc hB _).grown hg' (by simp; omega) fun k hk => (HO.out.lt k hk).1⟩
        case measure => simp [intOf]; omega
      · by_cases h2 : 280 ≤ i
        · rw [if_pos (Or.inr h2)] at hn
          have HN := Lib.hid hn
          clear hn
          go_wp2_with (at_builtin; refine append_ints _ rfl (.tmp 20) (.tmp 21) rfl w.heap.size _ _ [8] rfl (HO.out.alloc _) ⟨wr.heap.size, 0, none⟩ 1 rfl (new_ints wr _ _) hl (by simp; omega) ?_; intro v' w' hown' hg')
          go_roundw
          case rel => exact ⟨i + 1, by omega, by go_num, by rw [HN.out]; exact hown', (HB.out.alloc hB _).grown hg' (by simp; omega) fun k hk => (HO.out.lt k hk).1⟩
          case measure => simp [intOf]; omega
        · rw [if_neg (by omega)] at hn
          by_cases h3 : i < 256
          · rw [if_pos h3] at hn
            have HN := Lib.hid hn
            clear hn
            go_wp2_with (at_builtin; refine append_ints _ rfl (.tmp 26) (.tmp 27) rfl w.heap.size _ _ [9] rfl (HO.out.alloc _) ⟨wr.heap.size, 0, none⟩ 1 rfl (new_ints wr _ _) hl (by simp; omega) ?_; intro v' w' hown' hg')
            go_roundw
            case rel => exact ⟨i + 1, by omega, by go_num, by rw [HN.out]; exact hown', (HB.out.alloc hB _).grown hg' (by simp; omega) fun k hk => (HO.out.lt k hk).1⟩
            case measure => simp [intOf]; omega
          · rw [if_neg h3] at hn
            have HN := Lib.hid hn
            clear hn
            go_wp2_with (at_builtin; refine append_ints _ rfl (.tmp 12) (.tmp 13) rfl w.heap.size _ _ [7] rfl (HO.out.alloc _) ⟨wr.heap.size, 0, none⟩ 1 rfl (new_ints wr _ _) hl (by simp; omega) ?_; intro v' w' hown' hg')
            go_roundw
            case rel => exact ⟨i + 1, by omega, by go_num, by rw [HN.out]; exact hown', (HB.out.alloc hB _).grown hg' (by simp; omega) fun k hk => (HO.out.lt k hk).1⟩
            case measure => simp [intOf]; omega
    · have hi288 : i = 288 := by omega
      rw [hi288] at HO
      clear hi288
      rw [show litL.take 288 = litL from by decide +kernel] at HO
      obtain ⟨A1, cap1, rfl, hin1⟩ := ownsI_in HO.out
      rw [show litL.length = 288 from by decide +kernel] at hin1 ⊢
      have HW1 := Lib.hid hin1
      clear hin1 HO
      go_wp2_with fail
      clear h288
      go_loopw [3, 30] (fun dv l30 wq => ∃ (j : Nat), j ≤ 32 ∧ l30 = .int .i64 (j : Int) ∧ ownsI wq wr.heap.size dv (distL.take j) ∧ Below wr.heap.size wr wq) (fun _ l30 _ => 32 - (intOf l30).toNat)
      case atStart => exact ⟨0, Nat.zero_le _, rfl, ownsI_nil _ _, Below.refl _ _⟩
      case round =>
        obtain ⟨j, hj, rfl, hown, hb⟩ := hrel
        have HO := Lib.hid hown
        have HB2 := Lib.hid hb
        have hB2 := hb.size
        clear hown hb
        by_cases h32 : j < 32
        · have HN := Lib.hid (dist_next j h32)
          have hl : (distL.take j).length + 1 ≤ 17592186044416 := by rw [List.length_take]; omega
          go_wp2_with (at_builtin; refine append_ints _ rfl (.tmp 32) (.tmp 33) rfl _ _ _ [5] rfl (HO.out.alloc _) ⟨wr.heap.size, 0, none⟩ 1 rfl (new_ints wr _ _) hl (by simp; omega) ?_; intro v' w' hown' hg')
          go_roundw
          case rel => exact ⟨j + 1, by omega, by go_num, by rw [HN.out]; exact hown', (HB2.out.alloc hB2 _).grown hg' (by simp; omega) fun k hk => (HO.out.lt k hk).1⟩
          case measure => simp [intOf]; omega
        · obtain rfl : j = 32 := by omega
          rw [show distL.take 32 = distL from by decide +kernel] at HO
          obtain ⟨A2, cap2, rfl, hin2⟩ := ownsI_in HO.out
          rw [show distL.length = 32 from by decide +kernel] at hin2 ⊢
          have HBW := Lib.hid (HB.out.trans (HB2.out.mono hB))
          have C := Lib.hid (new_any A1 288 cap1 litL wr (HW1.out.below HB2.out) (by decide))
          have HIN2 := Lib.hid hin2
          clear hin2 HO h32 hB2 HB HB2 HW1 hB
          go_wp2_with fail
          refine (C.out).mono ?_
          rintro e w5 ⟨hne, hb5⟩
          rcases hne with ⟨_, b1, LV1, SV1, rfl, ht1, hb1⟩ | ⟨hng, _⟩
          rotate_left
          · exact absurd good_lit hng
          have D := Lib.hid (new_any A2 32 cap2 distL w5 (HIN2.out.below hb5) (by decide))
          have HB5 := Lib.hid (HBW.out.trans (hb5.mono HBW.out.size))
          have HT1 : RowKit.Hid (TAt w5 b1 w.heap.size litL LV1 SV1 ∧ w.heap.size ≤ b1) := Lib.hid ⟨⟨ht1.cell, ownsI_mono ht1.len HBW.out.size, ownsI_mono ht1.srt HBW.out.size⟩, Nat.le_trans HBW.out.size hb1⟩
          clear C hb5 ht1 hb1 HIN2
          go_wp2_with fail
          refine (D.out).mono ?_
          rintro e w6 ⟨hne, hb6⟩
          rcases hne with ⟨_, b2, LV2, SV2, rfl, ht2, hb2⟩ | ⟨hng, _⟩
          rotate_left
          · exact absurd good_dist hng
          have HB6 := Lib.hid (HB5.out.trans (hb6.mono HB5.out.size))
          have HT2 : RowKit.Hid (TAt w6 b2 w.heap.size distL LV2 SV2 ∧ w.heap.size ≤ b2) := Lib.hid ⟨⟨ht2.cell, ownsI_mono ht2.len HB5.out.size, ownsI_mono ht2.srt HB5.out.size⟩, Nat.le_trans HB5.out.size hb2⟩
          have HT3 : RowKit.Hid (TAt w6 b1 w.heap.size litL LV1 SV1) := Lib.hid ⟨below_heap hb6 HT1.out.1.cell (lt_of_block HT1.out.1.cell), HT1.out.1.len.below hb6, HT1.out.1.srt.below hb6⟩
          clear D hb6 ht2 hb2 HB5
          go_wp2
          go_ret2
          exact ⟨⟨b1, b2, LV1, SV1, LV2, SV2, rfl, HT3.out, HT2.out.1, HT1.out.2, HT2.out.2⟩, HB6.out⟩
end Go.Proofs.Ytncdaohjjhcaaaa
