/- THE WALKS: a digit's number; hexadecimal texts read back; is a text hexadecimal. -/
import Derived.Test.YtgojmckfabhkaaaDoorSumsHex
import Derived.Test.YtgojmckfabhkaaaDoorSumsDigMath
import Derived.Deep.QuietTactic
import Derived.BigQuiet
namespace Go.Proofs.YtgojmckfabhkaaaDoor
open Go.RowKit Sums
set_option linter.unusedVariables false

set_option maxHeartbeats 400000 in
theorem digit_any (c : UInt8) (w : World) : Calls Tryd.prog 48 #[.int .u8 (c.toNat : Int)] w fun e w' => e = .returned (.int .i64 (dig c)) ∧ w' = w := by
  have hc := c.toNat_lt
  obtain ⟨n, hn⟩ : ∃ n, n = c.toNat := ⟨_, rfl⟩
  have hd : dig c = if (48 ≤ n ∧ n ≤ 57) then (n : Int) - 48 else if (97 ≤ n ∧ n ≤ 102) then (n : Int) - 87 else -1 := by
    unfold dig isHex hv
    rw [← hn]
    simp only [Bool.or_eq_true, Bool.and_eq_true, decide_eq_true_eq]
    by_cases h1 : 48 ≤ n ∧ n ≤ 57
    · rw [if_pos (.inl h1), if_pos h1, if_pos h1.2]; omega
    · by_cases h2 : 97 ≤ n ∧ n ≤ 102
      · rw [if_pos (.inr h2), if_neg h1, if_pos h2, if_neg (by omega)]; omega
      · rw [if_neg (by omega), if_neg h1, if_neg h2]
  rw [← hn] at hc ⊢
  rw [hd]
  clear hd hn
  by_cases h1 : 48 ≤ n
  · by_cases h2 : n ≤ 57
    · rw [if_pos ⟨h1, h2⟩]
      go_enter Tryd.func48, Tryd.ntmps48
      go_wp2
      go_ret
      exact ⟨rfl, rfl⟩
    · rw [if_neg (by omega)]
      by_cases h3 : 97 ≤ n
      · by_cases h4 : n ≤ 102
        · rw [if_pos ⟨h3, h4⟩]
          go_enter Tryd.func48, Tryd.ntmps48
          go_wp2
          go_ret
          refine ⟨?_, rfl⟩
          show Ending.returned (.int .i64 ((n : Int) - 97 + 10)) = _
          rw [show (n : Int) - 97 + 10 = (n : Int) - 87 by omega]
        · rw [if_neg (by omega)]
          go_enter Tryd.func48, Tryd.ntmps48
          go_wp2
          go_ret
          exact ⟨rfl, rfl⟩
      · rw [if_neg (by omega)]
        go_enter Tryd.func48, Tryd.ntmps48
        go_wp2
        go_ret
        exact ⟨rfl, rfl⟩
  · rw [if_neg (by omega), if_neg (by omega)]
    go_enter Tryd.func48, Tryd.ntmps48
    go_wp2
    go_ret
    exact ⟨rfl, rfl⟩

theorem take_two (s : ByteArray) (j : Nat) (h : j + 1 < s.size) : s.data.toList.take (j + 2) = s.data.toList.take j ++ [s[j], s[j + 1]] := by
  rw [take_snoc s (j + 1) h, take_snoc s j (by omega), List.append_assoc]; rfl

/-- What Unhex answers. -/
def unhexV (l : List UInt8) : Value := if hexed l then .tuple #[.string ⟨(pairs l).toArray⟩, .bool true] else .tuple #[.string ⟨#[]⟩, .bool false]

set_option maxRecDepth 100000 in
set_option maxHeartbeats 1000000 in
theorem unhex_any (s : ByteArray) (w : World) (hs : (s.size : Int) ≤ 140737488355328) :
    Calls Tryd.prog 30 #[.string s] w fun e w' => e = .returned (unhexV s.data.toList) ∧ Below w.heap.size w w' := by
  go_enter Tryd.func30, Tryd.ntmps30
  go_wp2
  go_loopw [4, 5] (fun v i wr => ∃ j : Nat, j ≤ s.size ∧ j % 2 = 0 ∧ i = .int .i64 j ∧ (∀ c ∈ s.data.toList.take j, isHex c = true) ∧ ownsB wr w.heap.size v (pairs (s.data.toList.take j)) ∧ Below w.heap.size w wr) (fun _ i _ => s.size - (intOf i).toNat)
  case atStart => exact ⟨0, Nat.zero_le _, rfl, rfl, by simp, ownsB_nil _ _, Below.refl _ _⟩
  case round =>
    obtain ⟨j, hj, hev, rfl, hall, hown, hb⟩ := hrel
    have HA := Lib.hid hall
    clear hall
    have hB := hb.size
    have hlt : (s.data.toList.take j).length = j := by rw [List.length_take, Array.length_toList]; have : s.data.size = s.size := rfl; omega
    have hl : (pairs (s.data.toList.take j)).length + 1 ≤ 140737488355328 := by rw [pairs_length _ (by omega)]; omega
    have HL := Lib.hid hlt
    have HV := Lib.hid hev
    clear hlt hev
    by_cases hlt : j + 1 < s.size
    · have h1 : IntKind.i64.wrap ((j : Int) + 1) = (j : Int) + 1 := IntWalk.i64_in _ (by omega)
      have h2 : ((j : Int) + 1).toNat = j + 1 := by omega
      have h3 : (j : Int) + 1 < s.size := by omega
      have h4 : (j : Int) < s.size := by omega
      have h5 : (0 : Int) ≤ (j : Int) + 1 := by omega
      go_wp2_with fail
      go_quiet ((go_at_call 48; exact Calls.quiet_of_same (digit_any _ _)))
      have hbq := below_drewN hb nq
      have hownq : ownsB (wr.drewN nq) w.heap.size _ _ := hown
      have hBq : w.heap.size ≤ (wr.drewN nq).heap.size := hB
      clear hown hb hB h1
      generalize wr.drewN nq = wq at hbq hownq hBq
      have m1 : s[j] ∈ s.data.toList := Array.getElem_mem_toList _
      have m2 : s[j + 1] ∈ s.data.toList := Array.getElem_mem_toList _
      cases x1 : isHex s[j]
      · have d1 : dig s[j] < 0 := (dig_neg _).2 x1
        have HX := Lib.hid (hexed_bad _ _ m1 x1)
        clear x1 m1 m2
        go_wp2
        go_ret2
        exact ⟨by rw [unhexV, HX.out]; rfl, hbq⟩
      · cases x2 : isHex s[j + 1]
        · have d1 : 0 ≤ dig s[j] := by rw [dig_pos _ x1]; omega
          have d2 : dig s[j + 1] < 0 := (dig_neg _).2 x2
          have HX := Lib.hid (hexed_bad _ _ m2 x2)
          clear x1 x2 m1 m2
          go_wp2
          go_ret2
          exact ⟨by rw [unhexV, HX.out]; rfl, hbq⟩
        · have e1 := dig_pos _ x1
          have e2 := dig_pos _ x2
          have l1 := hv_lt _ x1
          have l2 := hv_lt _ x2
          have hp := pair_w _ _ l1 l2
          have ho := ofNat_pair _ _ l1 l2
          obtain ⟨D, hD⟩ : ∃ D, D = UInt8.ofNat (16 * hv s[j] + hv s[j + 1]) := ⟨_, rfl⟩
          rw [← hD] at ho
          have HD := Lib.hid hD
          have HX1 := Lib.hid x1
          have HX2 := Lib.hid x2
          have hDl := D.toNat_lt
          have hp2 : (((hv s[j] : Int) * 16) + (hv s[j + 1] : Int)) = (D.toNat : Int) := by omega
          have hp3 : bits .or .i64 ((hv s[j] : Int) * 16) (hv s[j + 1] : Int) = (D.toNat : Int) := by rw [hp, ho]
          clear hp ho hp2 x1 x2 m1 m2 hD
          rw [e1, e2]
          clear e1 e2
          go_wp2_with (at_builtin; refine append_bytes _ rfl (.tmp 30) (.tmp 36) rfl w.heap.size _ _ [D] rfl (hownq.alloc _) ⟨wq.heap.size, 0, none⟩ 1 rfl (new_cells wq _ _) hl (by simp; omega) ?_; intro v' w' hown' hg')
          have hjs : j < s.size := by omega
          have hv2 := HV.out
          go_roundw
          case rel =>
            refine ⟨j + 2, by omega, by omega, by go_num, ?_, ?_, (hbq.alloc hBq _).grown hg' (by simp; omega) fun k hk => (hownq.lt k hk).1⟩
            · intro c hc
              rw [take_two s j hlt, List.mem_append] at hc
              rcases hc with hc | hc
              · exact HA.out c hc
              · simp only [List.mem_cons, List.not_mem_nil, or_false] at hc
                rcases hc with rfl | rfl
                · exact HX1.out
                · exact HX2.out
            · rw [take_two s j hlt, pairs_snoc _ _ _ (by rw [HL.out]; exact hv2), ← HD.out]
              exact hown'
          case measure => simp [intOf]; omega
    · have hv2 := HV.out
      by_cases hodd : s.size % 2 = 1
      · have HX := Lib.hid (hexed_odd s.data.toList (by rw [Array.length_toList]; exact hodd))
        have h1 : IntKind.i64.wrap ((j : Int) + 1) = (j : Int) + 1 := IntWalk.i64_in _ (by omega)
        have h2 : ((s.size : Int) % 2 != 0) = true := by rw [bne_iff_ne]; omega
        clear hv2
        go_wp2
        go_ret2
        exact ⟨by rw [unhexV, HX.out]; rfl, hb⟩
      · obtain rfl : j = s.size := by omega
        have hall := HA.out
        rw [take_all] at hown hall
        have HX := Lib.hid ((hexed_iff s.data.toList).2 ⟨hall, by rw [Array.length_toList]; exact hv2⟩)
        have hc := run_own_string wr _ _ _ hown
        have h2 : ((s.size : Int) % 2 != 0) = false := by rw [bne_eq_false_iff_eq]; omega
        clear hall hv2
        go_wp2
        go_ret2
        exact ⟨by rw [unhexV, HX.out]; rfl, hb⟩

end Go.Proofs.YtgojmckfabhkaaaDoor
