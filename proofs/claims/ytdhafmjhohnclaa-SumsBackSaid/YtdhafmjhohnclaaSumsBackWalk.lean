/- THE WALK of 'SumsBack'. -/
import Derived.Test.YtdhafmjhohnclaaSumsNumbersWalk
import Derived.Deep.QuietTactic
import Derived.BigQuiet
import Derived.RegionTactic
import Derived.BigRegion
namespace Go.Proofs.Ytdhafmjhohnclaa
open Go.RowKit Sums
set_option linter.unusedVariables false

set_option maxRecDepth 100000 in
set_option maxHeartbeats 2000000 in
theorem back_core (x : Nat) (B L : ByteArray) (w : World) (hB : B.size = 8) (hL : L.size = 8) (hBL : ∀ k (h : k < 8), (B[k]'(by omega)).toNat = (L[7 - k]'(by omega)).toNat)
    (k1 : ∀ W, Calls Try.prog 28 #[.int .u64 x, .int .i64 8] W fun e w' => e = .returned (.string B) ∧ Below W.heap.size W w')
    (k3 : ∀ W, Calls Try.prog 30 #[.int .u64 x, .int .i64 8] W fun e w' => e = .returned (.string L) ∧ Below W.heap.size W w')
    (k5 : ∀ W, Calls Try.prog 32 #[.string B] W fun e w' => e = .returned (.int .u64 x) ∧ W = w')
    (k7 : ∀ W, Calls Try.prog 34 #[.string L] W fun e w' => e = .returned (.int .u64 x) ∧ W = w') :
    Calls Try.prog 8 #[.int .u64 x] w fun e w' => e = .returned (.bool true) ∧ Below w.heap.size w w' := by
  have K1 := Lib.hid k1
  have K3 := Lib.hid k3
  have K5 := Lib.hid k5
  have K7 := Lib.hid k7
  have HBL := Lib.hid hBL
  have H0 := Lib.hid (Bl.refl w)
  clear k1 k3 k5 k7 hBL
  go_enter Try.func8, Try.ntmps8
  go_wp2_with fail
  refine (K1.out _).mono ?_; rintro e w1 ⟨rfl, hb⟩; have H1 := Lib.hid (H0.out.step hb); clear hb
  go_wp2_with fail
  refine (K3.out _).mono ?_; rintro e w2 ⟨rfl, hb⟩; have H2 := Lib.hid (H1.out.step hb); clear hb
  go_wp2
  go_loopw [5] (fun i wr => ∃ k : Nat, k ≤ 8 ∧ i = .int .i64 k ∧ Bl w wr) (fun i _ => 8 - (intOf i).toNat)
  case atStart => exact ⟨0, Nat.zero_le _, rfl, H2.out⟩
  case round =>
    obtain ⟨k, hk, rfl, hb⟩ := hrel
    by_cases hlt : k < 8
    · have h1 := HBL.out k hlt
      have e0 : IntKind.i64.wrap 7 = 7 := by decide
      have i3 : (k : Int) ≤ 7 := by omega
      have i4 : (0 : Int) ≤ 7 - (k : Int) := by omega
      have i5 : 7 - (k : Int) < 8 := by omega
      have e2 : IntKind.i64.wrap (7 - (k : Int)) = 7 - (k : Int) := IntWalk.i64_in _ (by omega)
      have e3 : (7 - (k : Int)).toNat = 7 - k := by omega
      have i1 : (k : Int) < 8 := by omega
      go_wp2
      go_quiet (fail)
      go_wp2
      go_roundw
      case rel => exact ⟨k + 1, by omega, by go_num, below_drewN hb nq⟩
      case measure => simp [intOf]; omega
    · have hk8 : ¬ (k : Int) < 8 := by omega
      have HB := Lib.hid hb
      clear hb hk hlt
      go_wp2_with fail
      refine (awake_any _).mono ?_; rintro e w3 ⟨rfl, hb⟩; have H3 := Lib.hid (HB.out.step hb); clear hb
      go_wp2_with fail
      refine (K5.out _).mono ?_; rintro e w4 ⟨rfl, rfl⟩
      go_wp2_with fail
      refine (K7.out _).mono ?_; rintro e w4 ⟨rfl, rfl⟩
      go_wp2
      go_ret
      exact ⟨rfl, H3.out⟩

theorem sumsBack_walk (x : Int) (hx : (Lit.int .u64 x).wf = true) (w : World) :
    Calls Try.prog 8 #[.int .u64 x] w fun e w' => e = .returned (.bool true) ∧ Below w.heap.size w w' := by
  have hxb : 0 ≤ x ∧ x ≤ 18446744073709551615 := by simpa [Lit.wf, IntKind.min, IntKind.max, IntKind.signed, IntKind.bits] using hx
  obtain ⟨X, rfl⟩ := Int.eq_ofNat_of_zero_le hxb.1
  have hX : X < U64 := by unfold U64; omega
  clear hx
  have hc : Counts 8 8 := .inr rfl
  have s1 : (⟨(bigs X 8).toArray⟩ : ByteArray).size = 8 := by show (bigs X 8).toArray.size = 8; rw [List.size_toArray]; simp [bigs, lits_length]
  have s2 : (⟨(lits X 8).toArray⟩ : ByteArray).size = 8 := by show (lits X 8).toArray.size = 8; rw [List.size_toArray, lits_length]
  refine back_core X ⟨(bigs X 8).toArray⟩ ⟨(lits X 8).toArray⟩ w s1 s2 ?_ (fun W => big_any X 8 8 hc (by omega) hX W) (fun W => little_any X 8 8 hc (by omega) hX W) (fun W => ?_) (fun W => ?_)
  · intro k hk
    show ((bigs X 8).toArray[k]'_).toNat = ((lits X 8).toArray[7 - k]'_).toNat
    congr 1
    simp only [List.getElem_toArray, bigs, List.getElem_reverse, lits_length]
  · have := fromBig_any ⟨(bigs X 8).toArray⟩ W (by omega)
    have e : fromBig (⟨(bigs X 8).toArray⟩ : ByteArray).data.toList = X := back_big X hX
    rw [e] at this
    exact this
  · have := fromLittle_any ⟨(lits X 8).toArray⟩ W (by omega)
    have e : litN ((⟨(lits X 8).toArray⟩ : ByteArray).data.toList.take 8) = X := by
      show litN ((lits X 8).take 8) = X
      rw [List.take_of_length_le (by rw [lits_length]; exact Nat.le_refl _)]
      exact back_little X hX
    rw [e] at this
    exact this
end Go.Proofs.Ytdhafmjhohnclaa
