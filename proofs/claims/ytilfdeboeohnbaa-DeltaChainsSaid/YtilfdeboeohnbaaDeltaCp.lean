/- THE WALK of a copy's place and length. -/
import Derived.Test.YtilfdeboeohnbaaDeltaRd
namespace Go.Proofs.Ytilfdeboeohnbaa
open Go.RowKit Delta
set_option linter.unusedVariables false

def CopyEnd (b : Nat) (d : ByteArray) (r : Except Nat (Nat × Nat × List UInt8)) (e : Ending) (w' : World) : Prop :=
  match r with
  | .ok (o, n, l) => e = .returned (.tuple #[.int .i64 (o : Int), .int .i64 ((if n = 0 then 65536 else n : Nat) : Int)]) ∧ rdrL w' b d l
  | .error x => e = .panicked (wrong x)

set_option maxRecDepth 100000 in
set_option maxHeartbeats 2000000 in
theorem copied_any (d : ByteArray) (l : List UInt8) (b c : Nat) (w : World) (hd : (d.size : Int) ≤ 1000000) (hc : c < 256) (h : rdrL w b d l) :
    Calls Try.prog 17 #[.pointer (some ⟨b, 0, none⟩), .int .i64 (c : Int)] w fun e w' => CopyEnd b d (cp c 7 l 0 0) e w' ∧ w.grownBy w' (some b) := by
  obtain ⟨R, hR⟩ : ∃ R, R = cp c 7 l 0 0 := ⟨_, rfl⟩
  rw [← hR]
  have HR := Lib.hid hR
  have H := Lib.hid h
  clear hR h
  go_enter Try.func17, Try.ntmps17
  go_wp2_with fail
  go_loopw [6, 7, 10] (fun ov nv iv wr => ∃ (i o n : Nat) (r : List UInt8), i ≤ 7 ∧ o < 2 ^ (8 * min i 4) ∧ n < 2 ^ (8 * (i - 4)) ∧ iv = .int .i64 (i : Int) ∧ ov = .int .i64 (o : Int) ∧ nv = .int .i64 (n : Int) ∧ rdrL wr b d r ∧ R = cp c (7 - i) r o n ∧ w.grownBy wr (some b)) (fun _ _ iv _ => 7 - (intOf iv).toNat)
  case atStart => exact ⟨0, 0, 0, l, by omega, by decide, by decide, rfl, rfl, rfl, H.out, HR.out, gb_refl _ _⟩
  case round =>
    obtain ⟨i, o, n, r, hi, ho, hn, rfl, rfl, rfl, hr, hcp, hg⟩ := hrel
    have HG := Lib.hid hg
    have HO := Lib.hid ho
    have HN := Lib.hid hn
    have HP := Lib.hid hcp
    have HQ := Lib.hid hr
    clear hg ho hn hcp hr
    by_cases hi7 : i < 7
    · have hbit := bit_i64 c i (by omega)
      have hB2 : c / 2 ^ i % 2 < 2 := Nat.mod_lt _ (by omega)
      obtain ⟨B, hB⟩ : ∃ B, B = c / 2 ^ i % 2 := ⟨_, rfl⟩
      rw [← hB] at hbit hB2
      have HB := Lib.hid hB
      clear hB
      by_cases hB0 : B = 0
      · have hbit' : bits .and .i64 ((c : Int) / 2 ^ i) 1 = 0 := by rw [hbit, hB0]; rfl
        have HB0 := Lib.hid hB0
        clear hbit hB0
        go_wp2_with fail
        go_roundw
        case rel =>
          refine ⟨i + 1, o, n, r, by omega, Nat.lt_of_lt_of_le HO.out (Nat.pow_le_pow_right (by omega) (by omega)), Nat.lt_of_lt_of_le HN.out (Nat.pow_le_pow_right (by omega) (by omega)), by go_num, rfl, rfl, HQ.out, ?_, HG.out⟩
          rw [HP.out, cp_skip c i r o n hi7 (by rw [← HB.out]; exact HB0.out)]
        case measure => simp [intOf]; omega
      · have hbit' : bits .and .i64 ((c : Int) / 2 ^ i) 1 = 1 := by rw [hbit]; omega
        have hne : ¬ c / 2 ^ i % 2 = 0 := by rw [← HB.out]; exact hB0
        have HNE := Lib.hid hne
        clear hbit hB0 hne hB2
        cases r with
        | nil =>
          go_wp2_with fail
          refine (byte_nil d b _ hd HQ.out).mono ?_
          rintro e w1 ⟨rfl, hg1⟩
          go_wp2
          exact ⟨rfl, by rw [HP.out, cp_nil c i o n hi7 HNE.out]; exact rfl, gb_trans HG.out hg1⟩
        | cons x r =>
          by_cases h4 : i < 4
          · have ho' := HO.out
            rw [Nat.min_eq_left (by omega)] at ho'
            obtain ⟨hw, hlt⟩ := byte_at_w o i x (by omega) ho'
            obtain ⟨o', ho2⟩ : ∃ o', o' = o + x.toNat * 256 ^ i := ⟨_, rfl⟩
            rw [← ho2] at hw hlt
            have HO2 := Lib.hid ho2
            have HLT := Lib.hid hlt
            clear ho2 hlt ho'
            go_wp2_with fail
            refine (byte_cons d x r b _ hd HQ.out).mono ?_
            rintro e w1 ⟨rfl, hr1, hg1⟩
            go_wp2
            go_roundw
            case rel =>
              refine ⟨i + 1, o', n, r, by omega, ?_, Nat.lt_of_lt_of_le HN.out (Nat.pow_le_pow_right (by omega) (by omega)), by go_num, rfl, rfl, hr1, ?_, gb_trans HG.out hg1⟩
              · rw [Nat.min_eq_left (by omega)]; exact HLT.out
              · rw [HP.out, cp_lo c i x r o n hi7 h4 HNE.out, ← HO2.out]
            case measure => simp [intOf]; omega
          · obtain ⟨hw, hlt⟩ := byte_at_w n (i - 4) x (by omega) HN.out
            obtain ⟨n', hn2⟩ : ∃ n', n' = n + x.toNat * 256 ^ (i - 4) := ⟨_, rfl⟩
            rw [← hn2] at hw hlt
            have HN2 := Lib.hid hn2
            have HLT := Lib.hid hlt
            clear hn2 hlt
            go_wp2_with fail
            refine (byte_cons d x r b _ hd HQ.out).mono ?_
            rintro e w1 ⟨rfl, hr1, hg1⟩
            go_wp2
            go_roundw
            case rel =>
              refine ⟨i + 1, o, n', r, by omega, Nat.lt_of_lt_of_le HO.out (Nat.pow_le_pow_right (by omega) (by omega)), ?_, by go_num, rfl, rfl, hr1, ?_, gb_trans HG.out hg1⟩
              · rw [show i + 1 - 4 = (i - 4) + 1 by omega]; exact HLT.out
              · rw [HP.out, cp_hi c i x r o n hi7 h4 HNE.out, ← HN2.out]
            case measure => simp [intOf]; omega
    · obtain rfl : i = 7 := by omega
      have hR : R = .ok (o, n, r) := by rw [HP.out]; rfl
      have HR2 := Lib.hid hR
      clear hR
      by_cases hn0 : n = 0
      · subst hn0
        go_wp2
        go_ret2
        exact ⟨by rw [HR2.out]; exact ⟨rfl, HQ.out⟩, HG.out⟩
      · have hnb : ((n : Int) == 0) = false := by rw [beq_eq_false_iff_ne]; omega
        have HN0 := Lib.hid hn0
        clear hn0
        go_wp2
        go_ret2
        refine ⟨?_, HG.out⟩
        rw [HR2.out]
        refine ⟨?_, HQ.out⟩
        rw [if_neg HN0.out]
        rfl
end Go.Proofs.Ytilfdeboeohnbaa
