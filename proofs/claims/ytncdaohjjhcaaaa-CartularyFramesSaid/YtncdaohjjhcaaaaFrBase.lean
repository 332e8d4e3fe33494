/- THE WALKS of lengthBase, distBase, symbolOf. Conditions: the numbers. -/
import Derived.Test.YtncdaohjjhcaaaaFrMath
import Derived.Test.YtncdaohjjhcaaaaBytes
import Derived.LoopTactic
namespace Go.Proofs.Ytncdaohjjhcaaaa
open Go.RowKit Sums
set_option linter.unusedVariables false

set_option maxRecDepth 100000 in
set_option maxHeartbeats 1000000 in
theorem lbase_any (i : Nat) (hi : i ≤ 28) (w : World) :
    Calls Try.prog 37 #[.int .i64 (i : Int)] w fun e w' => e = .returned (.tuple #[.int .i64 (((lbase i).1 : Nat) : Int), .int .i64 (((lbase i).2 : Nat) : Int)]) ∧ w' = w := by
  by_cases h28 : i = 28
  · subst h28
    go_enter Try.func37, Try.ntmps37
    go_wp2
    go_ret2
    exact ⟨rfl, rfl⟩
  · have h28e : ((i : Int) == 28) = false := by rw [beq_eq_false_iff_ne]; omega
    by_cases h8 : i < 8
    · have e : lbase i = (3 + i, 0) := by unfold lbase; rw [if_neg h28, if_pos h8]
      have h8I : (i : Int) < 8 := by omega
      have hw : IntKind.i64.wrap (3 + (i : Int)) = ((3 + i : Nat) : Int) := by rw [IntWalk.i64_in _ (by omega)]; omega
      rw [e]
      clear e h28
      go_enter Try.func37, Try.ntmps37
      go_wp2
      go_ret2
      exact ⟨rfl, rfl⟩
    · obtain ⟨n, hn⟩ : ∃ n, n = i / 4 - 1 := ⟨_, rfl⟩
      obtain ⟨r, hr⟩ : ∃ r, r = i % 4 := ⟨_, rfl⟩
      have e : lbase i = (3 + (4 + r) * 2 ^ n, n) := by unfold lbase; rw [if_neg h28, if_neg h8, hn, hr]
      have h8I : ¬ (i : Int) < 8 := by omega
      have hi0 : (0 : Int) ≤ (i : Int) := by omega
      have hn6 : n ≤ 6 := by omega
      have hq : (i : Int) / 4 = ((i / 4 : Nat) : Int) := by omega
      obtain ⟨q, hqe⟩ : ∃ q, q = i / 4 := ⟨_, rfl⟩
      rw [← hqe] at hq
      have hw1 : IntKind.i64.wrap ((q : Int) - 1) = (n : Int) := by rw [IntWalk.i64_in _ (by omega)]; omega
      have hrI : (i : Int) % 4 = (r : Int) := by omega
      have hw2 : IntKind.i64.wrap (4 + (r : Int)) = ((4 + r : Nat) : Int) := by rw [IntWalk.i64_in _ (by omega)]; omega
      obtain ⟨x, hx⟩ : ∃ x, x = 4 + r := ⟨_, rfl⟩
      rw [← hx] at hw2 e
      have hp : 2 ^ n ≤ 2 ^ 6 := Nat.pow_le_pow_right (by decide) hn6
      have hm : x * 2 ^ n ≤ 7 * 64 := Nat.mul_le_mul (by omega) hp
      obtain ⟨y, hy⟩ : ∃ y, y = x * 2 ^ n := ⟨_, rfl⟩
      have hw3 : IntKind.i64.wrap ((x : Int) * 2 ^ n) = (y : Int) := by
        rw [show (x : Int) * 2 ^ n = ((x * 2 ^ n : Nat) : Int) by simp, ← hy, IntWalk.i64_in _ (by omega)]
      have hw4 : IntKind.i64.wrap (3 + (y : Int)) = ((3 + y : Nat) : Int) := by rw [IntWalk.i64_in _ (by omega)]; omega
      rw [← hy] at e
      rw [e]
      have hn0 : (0 : Int) ≤ (n : Int) := by omega
      clear e h28 h8 hn hr hqe hx hp hm hy
      go_enter Try.func37, Try.ntmps37
      go_wp2
      go_ret2
      exact ⟨rfl, rfl⟩

set_option maxRecDepth 100000 in
set_option maxHeartbeats 1000000 in
theorem dbase_any (i : Nat) (hi : i ≤ 29) (w : World) :
    Calls Try.prog 38 #[.int .i64 (i : Int)] w fun e w' => e = .returned (.tuple #[.int .i64 (((dbase i).1 : Nat) : Int), .int .i64 (((dbase i).2 : Nat) : Int)]) ∧ w' = w := by
  by_cases h4 : i < 4
  · have e : dbase i = (1 + i, 0) := by unfold dbase; rw [if_pos h4]
    have h4I : (i : Int) < 4 := by omega
    have hw : IntKind.i64.wrap (1 + (i : Int)) = ((1 + i : Nat) : Int) := by rw [IntWalk.i64_in _ (by omega)]; omega
    rw [e]
    clear e
    go_enter Try.func38, Try.ntmps38
    go_wp2
    go_ret2
    exact ⟨rfl, rfl⟩
  · obtain ⟨n, hn⟩ : ∃ n, n = i / 2 - 1 := ⟨_, rfl⟩
    obtain ⟨r, hr⟩ : ∃ r, r = i % 2 := ⟨_, rfl⟩
    have e : dbase i = (1 + (2 + r) * 2 ^ n, n) := by unfold dbase; rw [if_neg h4, hn, hr]
    have h4I : ¬ (i : Int) < 4 := by omega
    have hi0 : (0 : Int) ≤ (i : Int) := by omega
    have hn13 : n ≤ 13 := by omega
    have hq : (i : Int) / 2 = ((i / 2 : Nat) : Int) := by omega
    obtain ⟨q, hqe⟩ : ∃ q, q = i / 2 := ⟨_, rfl⟩
    rw [← hqe] at hq
    have hw1 : IntKind.i64.wrap ((q : Int) - 1) = (n : Int) := by rw [IntWalk.i64_in _ (by omega)]; omega
    have hrI : (i : Int) % 2 = (r : Int) := by omega
    have hw2 : IntKind.i64.wrap (2 + (r : Int)) = ((2 + r : Nat) : Int) := by rw [IntWalk.i64_in _ (by omega)]; omega
    obtain ⟨x, hx⟩ : ∃ x, x = 2 + r := ⟨_, rfl⟩
    rw [← hx] at hw2 e
    have hp : 2 ^ n ≤ 2 ^ 13 := Nat.pow_le_pow_right (by decide) hn13
    have hm : x * 2 ^ n ≤ 3 * 8192 := Nat.mul_le_mul (by omega) hp
    obtain ⟨y, hy⟩ : ∃ y, y = x * 2 ^ n := ⟨_, rfl⟩
    have hw3 : IntKind.i64.wrap ((x : Int) * 2 ^ n) = (y : Int) := by
      rw [show (x : Int) * 2 ^ n = ((x * 2 ^ n : Nat) : Int) by simp, ← hy, IntWalk.i64_in _ (by omega)]
    have hw4 : IntKind.i64.wrap (1 + (y : Int)) = ((1 + y : Nat) : Int) := by rw [IntWalk.i64_in _ (by omega)]; omega
    rw [← hy] at e
    rw [e]
    have hn0 : (0 : Int) ≤ (n : Int) := by omega
    clear e h4 hn hr hqe hx hp hm hy
    go_enter Try.func38, Try.ntmps38
    go_wp2
    go_ret2
    exact ⟨rfl, rfl⟩

/-- What a base's function does. -/
structure BaseC (f : FuncId) (B : Nat → Nat × Nat) (most : Nat) : Prop where
  enter : ∀ (args : Array Value) (w : World), (callFunc f args).run Try.prog w = .ok (.enter f args) w
  goes : ∀ (i : Nat) (w : World), i ≤ most → Calls Try.prog f #[.int .i64 (i : Int)] w fun e w' => e = .returned (.tuple #[.int .i64 (((B i).1 : Nat) : Int), .int .i64 (((B i).2 : Nat) : Int)]) ∧ w' = w
  small : ∀ i, i ≤ most → (B i).1 ≤ 100000
theorem baseC_l : BaseC 37 lbase 28 := ⟨fun args w => by rfl, fun i w hi => lbase_any i hi w, fun i hi => by have := (bases_small.1 i hi).1; omega⟩
theorem baseC_d : BaseC 38 dbase 29 := ⟨fun args w => by rfl, fun i w hi => dbase_any i hi w, fun i hi => by have := (bases_small.2 i hi).1; omega⟩

set_option maxRecDepth 100000 in
set_option maxHeartbeats 1000000 in
theorem symbol_any (f : FuncId) (B : Nat → Nat × Nat) (most n : Nat) (hB : BaseC f B most) (hm : most ≤ 100) (h0 : (B 0).1 ≤ n) (hn : n ≤ 100000) (w : World) :
    Calls Try.prog 36 #[.int .i64 (n : Int), .int .i64 (most : Int), .func (.func f) #[] #[]] w fun e w' => e = .returned (.tuple #[.int .i64 ((symOf B n most : Nat) : Int), .int .u32 ((n - (B (symOf B n most)).1 : Nat) : Int), .int .i64 (((B (symOf B n most)).2 : Nat) : Int)]) ∧ w' = w := by
  have HB := Lib.hid hB
  have H0 := Lib.hid h0
  have hent := hB.enter
  clear hB h0
  go_enter Try.func36, Try.ntmps36
  go_wp2_with fail
  go_loopw [9] (fun l9 wr => ∃ (i : Nat), i ≤ most ∧ l9 = .int .i64 (i : Int) ∧ symOf B n i = symOf B n most ∧ w = wr) (fun l9 _ => (intOf l9).toNat)
  case atStart => exact ⟨most, Nat.le_refl _, rfl, rfl, rfl⟩
  case round =>
    obtain ⟨i, hi, rfl, hs, rfl⟩ := hrel
    have HS := Lib.hid hs
    have C := Lib.hid (HB.out.goes i w hi)
    have hsm := HB.out.small i hi
    obtain ⟨b, hb⟩ : ∃ b, b = (B i).1 := ⟨_, rfl⟩
    obtain ⟨k, hk⟩ : ∃ k, k = (B i).2 := ⟨_, rfl⟩
    rw [← hb, ← hk] at C
    rw [← hb] at hsm
    have HBE := Lib.hid hb
    have HKE := Lib.hid hk
    by_cases hle : b ≤ n
    · have he : symOf B n most = i := by
        rw [← hs]
        cases i with
        | zero => rfl
        | succ j =>
          unfold symOf
          rw [← hb, if_pos hle]
      have HE := Lib.hid he
      have hw : IntKind.i64.wrap ((n : Int) - (b : Int)) = ((n - b : Nat) : Int) := by rw [IntWalk.i64_in _ (by omega)]; omega
      obtain ⟨d, hd⟩ : ∃ d, d = n - b := ⟨_, rfl⟩
      rw [← hd] at hw
      have hd2 : d ≤ 100000 := by omega
      have hw2 : IntKind.u32.wrap (d : Int) = (d : Int) := IntWalk.u32_in _ (by omega)
      have hw2b : (d : Int) % 4294967296 = (d : Int) := by omega
      have HD := Lib.hid hd
      clear hs hb hk he hd
      go_wp2_with fail
      refine (C.out).mono ?_
      rintro e w1 ⟨rfl, rfl⟩
      clear C
      go_wp2
      go_ret3
      refine ⟨?_, rfl⟩
      rw [HE.out, ← HBE.out, ← HKE.out, ← HD.out]
      rfl
    · obtain ⟨j, rfl⟩ : ∃ j, i = j + 1 := ⟨i - 1, by
        rcases Nat.eq_zero_or_pos i with e | e
        · subst e
          have := H0.out
          omega
        · omega⟩
      have he : symOf B n j = symOf B n most := by
        rw [← hs]
        conv => rhs; unfold symOf
        rw [← hb, if_neg hle]
      have HE := Lib.hid he
      clear hs hb hk he
      go_wp2_with fail
      refine (C.out).mono ?_
      rintro e w1 ⟨rfl, rfl⟩
      clear C
      go_wp2
      refine ⟨⟨j, by omega, by go_num, HE.out, by trivial⟩, by simp [intOf]⟩
end Go.Proofs.Ytncdaohjjhcaaaa
