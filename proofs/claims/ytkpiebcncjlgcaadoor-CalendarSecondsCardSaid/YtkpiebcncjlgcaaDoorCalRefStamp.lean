/- THE WALKS of the reference's digits and of its Stamp. Conditions: the second lies in the range. -/
import Derived.Test.YtkpiebcncjlgcaaDoorCalRefFrom
import Derived.BigQuiet
import Derived.Deep.QuietTactic
namespace Go.Proofs.YtkpiebcncjlgcaaDoor
open Go.RowKit
set_option linter.unusedVariables false

theorem dig_cut (d : Nat) (h : d < 10) : (⟨#[48, 49, 50, 51, 52, 53, 54, 55, 56, 57]⟩ : ByteArray).extract d (d + 1) = ⟨#[UInt8.ofNat (48 + d)]⟩ := by
  have hd : d = 0 ∨ d = 1 ∨ d = 2 ∨ d = 3 ∨ d = 4 ∨ d = 5 ∨ d = 6 ∨ d = 7 ∨ d = 8 ∨ d = 9 := by omega
  rcases hd with rfl | rfl | rfl | rfl | rfl | rfl | rfl | rfl | rfl | rfl <;> rfl

set_option maxHeartbeats 1000000 in
theorem r8_one (z : Int) (h0 : 0 ≤ z) (h1 : z < 10) (w : World) :
    Calls Tryd.prog 44 #[.int .i64 z] w fun e w' => e = .returned (.string ⟨(Lib.decDigits z.toNat).toArray⟩) ∧ w' = w := by
  have hd : z = 0 ∨ z = 1 ∨ z = 2 ∨ z = 3 ∨ z = 4 ∨ z = 5 ∨ z = 6 ∨ z = 7 ∨ z = 8 ∨ z = 9 := by omega
  have hdd : (⟨(Lib.decDigits z.toNat).toArray⟩ : ByteArray) = ⟨#[UInt8.ofNat (48 + z.toNat)]⟩ := by rw [Lib.decDigits_one (by omega)]
  rw [hdd]
  clear hdd h0 h1
  rcases hd with rfl | rfl | rfl | rfl | rfl | rfl | rfl | rfl | rfl | rfl
  all_goals
    go_enter Tryd.func44, Tryd.ntmps44
    go_wp2
    go_ret
    exact ⟨rfl, rfl⟩

set_option maxHeartbeats 1000000 in
theorem r8_any (k : Nat) : ∀ (z : Int), 0 ≤ z → z < 10 ^ (k + 1) → k ≤ 3 → ∀ w : World,
    Calls Tryd.prog 44 #[.int .i64 z] w fun e w' => e = .returned (.string ⟨(Lib.decDigits z.toNat).toArray⟩) ∧ ∃ n, w' = w.drewN n := by
  induction k with
  | zero =>
    intro z h0 h1 _ w
    exact (r8_one z h0 (by omega) w).mono fun e w' ⟨he, hw⟩ => ⟨he, 0, by rw [hw]; rfl⟩
  | succ k ih =>
    intro z h0 h1 hk w
    by_cases hz : z < 10
    · exact (r8_one z h0 hz w).mono fun e w' ⟨he, hw⟩ => ⟨he, 0, by rw [hw]; rfl⟩
    · have hq : z / 10 < 10 ^ (k + 1) := by
        rw [Int.pow_succ] at h1
        generalize (10 : Int) ^ (k + 1) = P at *
        omega
      have hb : z ≤ 9999 := by
        have : (10 : Int) ^ (k + 1 + 1) ≤ 10 ^ 4 := by
          have h3 : k = 0 ∨ k = 1 ∨ k = 2 := by omega
          rcases h3 with rfl | rfl | rfl <;> decide
        have e4 : (10 : Int) ^ 4 = 10000 := by decide
        omega
      have hc := fun W => ih (z / 10) (by omega) hq (by omega) W
      have hr : 0 ≤ z % 10 ∧ z % 10 < 10 := by omega
      have hdd : (⟨(Lib.decDigits z.toNat).toArray⟩ : ByteArray) = (⟨(Lib.decDigits (z / 10).toNat).toArray⟩ : ByteArray) ++ ⟨#[UInt8.ofNat (48 + (z % 10).toNat)]⟩ := by
        rw [dig_big (show ¬ z.toNat < 10 by omega), show (z / 10).toNat = z.toNat / 10 by omega, show (z % 10).toNat = z.toNat % 10 by omega]
        apply ByteArray.ext
        simp [ByteArray.data_append]
      have hll : (⟨(Lib.decDigits (z / 10).toNat).toArray⟩ : ByteArray).size ≤ 4 := by
        have := dig_len 3 (z / 10).toNat (by omega)
        show (Lib.decDigits (z / 10).toNat).toArray.size ≤ 4
        rw [List.size_toArray]
        omega
      have hcut := dig_cut (z % 10).toNat (by omega)
      rw [hdd]
      generalize (⟨(Lib.decDigits (z / 10).toNat).toArray⟩ : ByteArray) = s at *
      clear hdd ih hq h1
      generalize hqq : z / 10 = q at *
      generalize hrr : z % 10 = r at *
      have e1 : (r + 1).toNat = r.toNat + 1 := by omega
      have e2 : r + 1 ≤ 10 := by omega
      have e3 : 0 ≤ r + 1 := by omega
      have e4 : r ≤ r + 1 := by omega
      have HC := Lib.hid hc
      clear hc
      go_enter Tryd.func44, Tryd.ntmps44
      go_wp2_with fail
      go_quiet ((go_at_call 44; exact Calls.quiet_of (HC.out _)))
      go_wp2
      go_ret
      refine ⟨?_, _, rfl⟩
      rw [UInt8.ofNat_add]
      rfl
theorem r8_below (z : Int) (h0 : 0 ≤ z) (h1 : z ≤ 9999) (w : World) :
    Calls Tryd.prog 44 #[.int .i64 z] w fun e w' => e = .returned (.string ⟨(Lib.decDigits z.toNat).toArray⟩) ∧ Below w.heap.size w w' :=
  (r8_any 3 z h0 (by omega) (by omega) w).mono fun e w' ⟨he, n, hw⟩ => ⟨he, by rw [hw]; exact below_drewN (Below.refl _ _) n⟩

set_option maxHeartbeats 1000000 in
theorem refDigits_any (z : Int) (k : Nat) (v : Value) (hv : v = .int .i64 (k : Int)) (h0 : 0 ≤ z) (h1 : z ≤ 9999) (hk : k ≤ 4) (w : World) :
    Calls Tryd.prog 31 #[.int .i64 z, v] w fun e w' => e = .returned (.string ⟨(padL k (Lib.decDigits z.toNat)).toArray⟩) ∧ Below w.heap.size w w' := by
  subst hv
  have R8 := Lib.hid (r8_below z h0 h1)
  go_enter Tryd.func31, Tryd.ntmps31
  go_wp2_with fail
  refine (R8.out _).mono ?_
  rintro e w1 ⟨rfl, hb⟩
  obtain ⟨l0, hl0⟩ : ∃ l, l = Lib.decDigits z.toNat := ⟨_, rfl⟩
  have hll : l0.length ≤ 4 := by rw [hl0]; exact dig_len 3 z.toNat (by omega)
  rw [← hl0]
  have HL0 := Lib.hid hl0
  clear hl0
  go_wp2
  go_loop [5] (fun sv => ∃ (j : Nat) (u : ByteArray), j + l0.length ≤ max k l0.length ∧ sv = .string u ∧ u = ⟨(List.replicate j 48 ++ l0).toArray⟩) (fun sv => match sv with | .string u => 100 - u.size | _ => 0)
  case atStart => exact ⟨0, _, by omega, rfl, rfl⟩
  case round =>
    obtain ⟨j, u, hj, rfl, hu⟩ := hrel
    have hus : u.size = j + l0.length := by rw [hu]; show (List.replicate j (48 : UInt8) ++ l0).toArray.size = _; rw [List.size_toArray, List.length_append, List.length_replicate]
    have hun : (⟨#[48]⟩ : ByteArray) ++ u = ⟨(List.replicate (j + 1) 48 ++ l0).toArray⟩ := by
      apply ByteArray.ext
      rw [hu, ByteArray.data_append]
      simp [List.replicate_succ]
    have HU := Lib.hid hu
    have HN := Lib.hid hun
    clear hu hun
    by_cases hlt : u.size < k
    · go_wp2
      go_round
      case rel => exact ⟨j + 1, _, by omega, rfl, HN.out⟩
      case measure => simp only [ByteArray.size_append]; have : (⟨#[48]⟩ : ByteArray).size = 1 := rfl; omega
    · go_wp2
      go_ret
      refine ⟨?_, hb⟩
      have hp : padL k l0 = List.replicate j 48 ++ l0 := by unfold padL; rw [show k - l0.length = j by omega]
      rw [← HL0.out, hp, ← HU.out]
      rfl

theorem refDigits_of (n : Int) (k : Nat) (v : Value) (hv : v = .int .i64 (k : Int)) (hn : 0 ≤ n ∧ n ≤ 9999) (hk : k ≤ 4) : ∃ u : ByteArray, u = ⟨(padL k (Lib.decDigits n.toNat)).toArray⟩ ∧ u.size ≤ 4 ∧ RowKit.Hid (∀ w, Calls Tryd.prog 31 #[.int .i64 n, v] w fun e w' => e = .returned (.string u) ∧ Below w.heap.size w w') :=
  ⟨_, rfl, padL_len k _ hk (by omega), Lib.hid (fun w => refDigits_any n k v hv hn.1 hn.2 hk w)⟩

set_option maxRecDepth 100000 in
set_option maxHeartbeats 2000000 in
theorem refStamp_in (t : Int) (w : World) (h1 : -62135596800 ≤ t) (h2 : t ≤ 253402300799) :
    Calls Tryd.prog 18 #[.int .i64 t] w fun e w' => e = .returned (.string ⟨(stampOf t).toArray⟩) ∧ Below w.heap.size w w' := by
  obtain ⟨y1, y2, m1, m2, a1, a2, a3, s1, s2⟩ := fields t h1 h2
  have hf := refFrom_in t w h1 h2
  have hs : stampOf t = stampL (dY (dayOf t)) (dM (dayOf t)) (dD (dayOf t)) (secIn t / 3600) (secIn t / 60 % 60) (secIn t % 60) := rfl
  rw [hs]
  clear hs
  generalize dY (dayOf t) = Y at *
  generalize dM (dayOf t) = M at *
  generalize dD (dayOf t) = D at *
  have hh : 0 ≤ secIn t / 3600 ∧ secIn t / 3600 ≤ 23 := by omega
  have hn : 0 ≤ secIn t / 60 % 60 ∧ secIn t / 60 % 60 ≤ 59 := by omega
  have hss : 0 ≤ secIn t % 60 ∧ secIn t % 60 ≤ 59 := by omega
  generalize secIn t / 3600 = H at *
  generalize secIn t / 60 % 60 = N at *
  generalize secIn t % 60 = S at *
  generalize (dayOf t + 1) % 7 = K at *
  obtain ⟨u0, hu0, z0, C0⟩ := refDigits_of Y 4 (.int .i64 4) rfl (by omega) (by omega)
  obtain ⟨u1, hu1, z1, C1⟩ := refDigits_of M 2 (.int .i64 2) rfl (by omega) (by omega)
  obtain ⟨u2, hu2, z2, C2⟩ := refDigits_of D 2 (.int .i64 2) rfl (by omega) (by omega)
  obtain ⟨u3, hu3, z3, C3⟩ := refDigits_of H 2 (.int .i64 2) rfl (by omega) (by omega)
  obtain ⟨u4, hu4, z4, C4⟩ := refDigits_of N 2 (.int .i64 2) rfl (by omega) (by omega)
  obtain ⟨u5, hu5, z5, C5⟩ := refDigits_of S 2 (.int .i64 2) rfl (by omega) (by omega)
  have hall : u0 ++ u1 ++ u2 ++ u3 ++ u4 ++ u5 = ⟨(stampL Y M D H N S).toArray⟩ := by
    rw [hu0, hu1, hu2, hu3, hu4, hu5, six]
    rfl
  have HALL := Lib.hid hall
  have HF := Lib.hid hf
  clear hall hu0 hu1 hu2 hu3 hu4 hu5 hf y1 y2 m1 m2 a1 a2 a3 s1 s2 hh hn hss h1 h2
  have q1 : (9223372036854775807 < u0.size + u1.size) = False := by simp; omega
  have q2 : (9223372036854775807 < u0.size + u1.size + u2.size) = False := by simp; omega
  have q3 : (9223372036854775807 < u0.size + u1.size + u2.size + u3.size) = False := by simp; omega
  have q4 : (9223372036854775807 < u0.size + u1.size + u2.size + u3.size + u4.size) = False := by simp; omega
  have q5 : (9223372036854775807 < u0.size + u1.size + u2.size + u3.size + u4.size + u5.size) = False := by simp; omega
  go_enter Tryd.func18, Tryd.ntmps18
  go_wp2_with fail
  refine HF.out.mono ?_
  rintro e w1 ⟨g, rfl, hg, hg1, hb1⟩
  obtain ⟨l0, l1, l2, l3, l4, l5, l6⟩ := hg.cells
  have HG := Lib.hid hg
  have HB1 := Lib.hid hb1
  clear hg hg1 hb1
  go_wp2_with fail
  refine (C0.out _).mono ?_
  rintro e w2 ⟨rfl, hb2⟩
  have HB2 := Lib.hid hb2
  clear hb2 l0 l1 l2 l3 l4 l5 l6
  go_wp2
  go_loopw [4, 16] (fun sv iv wr => (iv = .int .i64 0 ∧ sv = .string u0 ∨ iv = .int .i64 1 ∧ sv = .string (u0 ++ u1) ∨ iv = .int .i64 2 ∧ sv = .string (u0 ++ u1 ++ u2) ∨ iv = .int .i64 3 ∧ sv = .string (u0 ++ u1 ++ u2 ++ u3) ∨ iv = .int .i64 4 ∧ sv = .string (u0 ++ u1 ++ u2 ++ u3 ++ u4) ∨ iv = .int .i64 5 ∧ sv = .string (u0 ++ u1 ++ u2 ++ u3 ++ u4 ++ u5)) ∧ Below w1.heap.size w1 wr) (fun _ iv _ => 5 - (intOf iv).toNat)
  case atStart => exact ⟨Or.inl ⟨rfl, rfl⟩, HB2.out⟩
  case round =>
    obtain ⟨hc, hb⟩ := hrel
    obtain ⟨l0, l1, l2, l3, l4, l5, l6⟩ := (HG.out.below hb HG.out.lt).cells
    have HB := Lib.hid hb
    clear hb
    rcases hc with ⟨rfl, rfl⟩ | ⟨rfl, rfl⟩ | ⟨rfl, rfl⟩ | ⟨rfl, rfl⟩ | ⟨rfl, rfl⟩ | ⟨rfl, rfl⟩
    case inr.inr.inr.inr.inr =>
      go_wp2
      go_ret
      exact ⟨by rw [← HALL.out]; rfl, HB1.out.trans (HB.out.mono HB1.out.size)⟩
    all_goals
      go_wp2_with fail
      first
        | (with_reducible refine (C1.out _).mono ?_)
        | (with_reducible refine (C2.out _).mono ?_)
        | (with_reducible refine (C3.out _).mono ?_)
        | (with_reducible refine (C4.out _).mono ?_)
        | (with_reducible refine (C5.out _).mono ?_)
      rintro e w3 ⟨rfl, hb3⟩
      have HB3 := Lib.hid (HB.out.trans (hb3.mono HB.out.size))
      clear hb3
      go_wp2
      refine ⟨⟨?_, HB3.out⟩, by simp [intOf]⟩
      first
        | exact Or.inr (Or.inl ⟨rfl, rfl⟩)
        | exact Or.inr (Or.inr (Or.inl ⟨rfl, rfl⟩))
        | exact Or.inr (Or.inr (Or.inr (Or.inl ⟨rfl, rfl⟩)))
        | exact Or.inr (Or.inr (Or.inr (Or.inr (Or.inl ⟨rfl, rfl⟩))))
        | exact Or.inr (Or.inr (Or.inr (Or.inr (Or.inr ⟨rfl, rfl⟩))))
end Go.Proofs.YtkpiebcncjlgcaaDoor
