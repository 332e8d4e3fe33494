/- THE WALK of 'SumsDigits'. -/
import Derived.Test.YtdhafmjhohnclaaSumsRefB64
import Derived.Test.YtdhafmjhohnclaaSumsRefHex
import Derived.Test.YtdhafmjhohnclaaSumsSumsWalk
namespace Go.Proofs.Ytdhafmjhohnclaa
open Go.RowKit Sums
set_option linter.unusedVariables false

/-- 'Below' in one name, kept from the walk: what a chain of calls leaves. -/
def Bl (w w' : World) : Prop := Below w.heap.size w w'
theorem Bl.refl (w : World) : Bl w w := Below.refl _ _
theorem Bl.step {w a b : World} (h : Bl w a) (k : Below a.heap.size a b) : Bl w b := Below.trans h (k.mono h.size)

set_option maxRecDepth 100000 in
set_option maxHeartbeats 2000000 in
theorem digits_core (t s F S H B P : ByteArray) (hx b40 : Bool) (w : World)
    (k1 : ∀ W, Calls Try.prog 10 #[.string t, .int .i64 300] W fun e w' => e = .returned (.string F) ∧ W = w')
    (k2 : ∀ W, Calls Try.prog 10 #[.string s, .int .i64 600] W fun e w' => e = .returned (.string S) ∧ W = w')
    (k3 : ∀ W, Calls Try.prog 20 #[.string F] W fun e w' => e = .returned (.string H) ∧ Below W.heap.size W w')
    (k4 : ∀ W, Calls Try.prog 21 #[.string H] W fun e w' => e = .returned (.tuple #[.string F, .bool true]) ∧ Below W.heap.size W w')
    (k5 : ∀ W, Calls Try.prog 21 #[.string S] W fun e w' => e = .returned (.tuple #[.string P, .bool hx]) ∧ Below W.heap.size W w')
    (k6 : ∀ W, Calls Try.prog 22 #[.string F] W fun e w' => e = .returned (.string H) ∧ Below W.heap.size W w')
    (k7 : ∀ W, Calls Try.prog 23 #[.string F] W fun e w' => e = .returned (.string B) ∧ Below W.heap.size W w')
    (k8 : ∀ W, Calls Try.prog 24 #[.string F] W fun e w' => e = .returned (.string B) ∧ Below W.heap.size W w')
    (k9 : ∀ W, Calls Try.prog 25 #[.string S] W fun e w' => e = .returned (.bool (hx && b40)) ∧ Below W.heap.size W w')
    (k10 : ∀ W, Calls Try.prog 26 #[.string S] W fun e w' => e = .returned (.bool hx) ∧ W = w')
    (k11 : hx = true → ∀ W, Calls Try.prog 27 #[.string S] W fun e w' => e = .returned (.string P) ∧ Below W.heap.size W w')
    (h40 : ((S.size : Int) == 40) = b40) (hP : hx = false → P = ⟨#[]⟩) :
    Calls Try.prog 6 #[.string t, .string s] w fun e w' => e = .returned (.bool true) ∧ Below w.heap.size w w' := by
  have K1 := Lib.hid k1
  have K2 := Lib.hid k2
  have K3 := Lib.hid k3
  have K4 := Lib.hid k4
  have K5 := Lib.hid k5
  have K6 := Lib.hid k6
  have K7 := Lib.hid k7
  have K8 := Lib.hid k8
  have K9 := Lib.hid k9
  have K10 := Lib.hid k10
  have K11 := Lib.hid k11
  have HP := Lib.hid hP
  have H0 := Lib.hid (Bl.refl w)
  have eH : (H.toList == H.toList) = true := by simp
  have eF : (F.toList == F.toList) = true := by simp
  have eB : (B.toList == B.toList) = true := by simp
  have eP : (P.toList == P.toList) = true := by simp
  clear k1 k2 k3 k4 k5 k6 k7 k8 k9 k10 k11 hP
  cases hx
  case false =>
    have hp := HP.out rfl
    subst hp
    cases b40
    all_goals
      go_enter Try.func6, Try.ntmps6
      go_wp2_with fail
      refine (K1.out _).mono ?_; rintro e w1 ⟨rfl, rfl⟩
      go_wp2_with fail
      refine (K2.out _).mono ?_; rintro e w1 ⟨rfl, rfl⟩
      go_wp2_with fail
      refine (K3.out _).mono ?_; rintro e w1 ⟨rfl, hb⟩; have H1 := Lib.hid (H0.out.step hb); clear hb
      go_wp2_with fail
      refine (K4.out _).mono ?_; rintro e w2 ⟨rfl, hb⟩; have H2 := Lib.hid (H1.out.step hb); clear hb
      go_wp2_with fail
      refine (K5.out _).mono ?_; rintro e w3 ⟨rfl, hb⟩; have H3 := Lib.hid (H2.out.step hb); clear hb
      go_wp2_with fail
      refine (awake_any _).mono ?_; rintro e w4 ⟨rfl, hb⟩; have H4 := Lib.hid (H3.out.step hb); clear hb
      go_wp2_with fail
      refine (K6.out _).mono ?_; rintro e w5 ⟨rfl, hb⟩; have H5 := Lib.hid (H4.out.step hb); clear hb
      go_wp2_with fail
      refine (K7.out _).mono ?_; rintro e w6 ⟨rfl, hb⟩; have H6 := Lib.hid (H5.out.step hb); clear hb
      go_wp2_with fail
      refine (K8.out _).mono ?_; rintro e w7 ⟨rfl, hb⟩; have H7 := Lib.hid (H6.out.step hb); clear hb
      go_wp2_with fail
      refine (K9.out _).mono ?_; rintro e w8 ⟨rfl, hb⟩; have H8 := Lib.hid (H7.out.step hb); clear hb
      go_wp2_with fail
      refine (K10.out _).mono ?_; rintro e w9 ⟨rfl, rfl⟩
      go_wp2_with fail
      refine (K10.out _).mono ?_; rintro e w9 ⟨rfl, rfl⟩
      go_wp2
      go_ret
      exact ⟨rfl, H8.out⟩
  case true =>
    have K12 := Lib.hid (K11.out rfl)
    cases b40
    all_goals
      go_enter Try.func6, Try.ntmps6
      go_wp2_with fail
      refine (K1.out _).mono ?_; rintro e w1 ⟨rfl, rfl⟩
      go_wp2_with fail
      refine (K2.out _).mono ?_; rintro e w1 ⟨rfl, rfl⟩
      go_wp2_with fail
      refine (K3.out _).mono ?_; rintro e w1 ⟨rfl, hb⟩; have H1 := Lib.hid (H0.out.step hb); clear hb
      go_wp2_with fail
      refine (K4.out _).mono ?_; rintro e w2 ⟨rfl, hb⟩; have H2 := Lib.hid (H1.out.step hb); clear hb
      go_wp2_with fail
      refine (K5.out _).mono ?_; rintro e w3 ⟨rfl, hb⟩; have H3 := Lib.hid (H2.out.step hb); clear hb
      go_wp2_with fail
      refine (awake_any _).mono ?_; rintro e w4 ⟨rfl, hb⟩; have H4 := Lib.hid (H3.out.step hb); clear hb
      go_wp2_with fail
      refine (K6.out _).mono ?_; rintro e w5 ⟨rfl, hb⟩; have H5 := Lib.hid (H4.out.step hb); clear hb
      go_wp2_with fail
      refine (K7.out _).mono ?_; rintro e w6 ⟨rfl, hb⟩; have H6 := Lib.hid (H5.out.step hb); clear hb
      go_wp2_with fail
      refine (K8.out _).mono ?_; rintro e w7 ⟨rfl, hb⟩; have H7 := Lib.hid (H6.out.step hb); clear hb
      go_wp2_with fail
      refine (K9.out _).mono ?_; rintro e w8 ⟨rfl, hb⟩; have H8 := Lib.hid (H7.out.step hb); clear hb
      go_wp2_with fail
      refine (K10.out _).mono ?_; rintro e w9 ⟨rfl, rfl⟩
      go_wp2_with fail
      refine (K10.out _).mono ?_; rintro e w9 ⟨rfl, rfl⟩
      go_wp2_with fail
      refine (K12.out _).mono ?_; rintro e w9 ⟨rfl, hb⟩; have H9 := Lib.hid (H8.out.step hb); clear hb
      go_wp2
      go_ret
      exact ⟨rfl, H9.out⟩

theorem sumsDigits_walk (t s : ByteArray) (ht : t.size ≤ maxLen) (hs : s.size ≤ maxLen) (w : World) :
    Calls Try.prog 6 #[.string t, .string s] w fun e w' => e = .returned (.bool true) ∧ Below w.heap.size w w' := by
  unfold maxLen at ht hs
  have f1 := few_size t 300
  have f2 := few_size s 600
  have k1 : ∀ W, _ := fun W => few_any t 300 W (by omega) (by omega)
  have k2 : ∀ W, _ := fun W => few_any s 600 W (by omega) (by omega)
  generalize fewB t 300 = F at f1 k1
  generalize fewB s 600 = S at f2 k2
  have hHs : (⟨(hexL F.data.toList).toArray⟩ : ByteArray).size ≤ 600 := by
    show (hexL F.data.toList).toArray.size ≤ 600
    rw [List.size_toArray, hexL_length, Array.length_toList]
    have : F.data.size = F.size := rfl
    omega
  have hFF : (⟨F.data.toList.toArray⟩ : ByteArray) = F := by rfl
  have k4 : ∀ W, Calls Try.prog 21 #[.string ⟨(hexL F.data.toList).toArray⟩] W fun e w' => e = .returned (.tuple #[.string F, .bool true]) ∧ Below W.heap.size W w' := by
    intro W
    have := unhex_any ⟨(hexL F.data.toList).toArray⟩ W (by omega)
    rw [unhexV] at this
    simp only [hexed_hexL, pairs_hexL, if_true, hFF] at this
    exact this
  have e40 : ((S.size : Int) == 40) = (S.size == 40) := by rw [Bool.eq_iff_iff, beq_iff_eq, beq_iff_eq]; omega
  cases hx : hexed S.data.toList
  · refine digits_core t s F S _ _ ⟨#[]⟩ false (S.size == 40) w k1 k2 (fun W => hex_any F W (by omega)) k4 ?_ (fun W => refHex_any F W (by omega)) (fun W => b64_any F W (by omega)) (fun W => refB64_any F W (by omega)) ?_ ?_ (fun h => by cases h) e40 (fun _ => rfl)
    · intro W
      have := unhex_any S W (by omega)
      rw [unhexV, hx] at this
      exact this
    · intro W
      have := id_any S W (by omega)
      rw [hx] at this
      exact this
    · intro W
      have := hexed_any S W (by omega)
      rw [hx] at this
      exact this
  · refine digits_core t s F S _ _ ⟨(pairs S.data.toList).toArray⟩ true (S.size == 40) w k1 k2 (fun W => hex_any F W (by omega)) k4 ?_ (fun W => refHex_any F W (by omega)) (fun W => b64_any F W (by omega)) (fun W => refB64_any F W (by omega)) ?_ ?_ (fun _ W => refUnhex_any S W (by omega) hx) e40 (fun h => by cases h)
    · intro W
      have := unhex_any S W (by omega)
      rw [unhexV, hx] at this
      exact this
    · intro W
      have := id_any S W (by omega)
      rw [hx] at this
      exact this
    · intro W
      have := hexed_any S W (by omega)
      rw [hx] at this
      exact this
end Go.Proofs.Ytdhafmjhohnclaa
