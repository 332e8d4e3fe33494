/- PLAIN LAWS OF THE CALENDAR: a stamp is read back; a second's date has that second. No program in sight. No conditions. -/
import Derived.Test.YtgojmckfabhkaaaDoorCalOrder
import Derived.Test.YtgojmckfabhkaaaDoorCalUnstamp
namespace Go.Proofs.YtgojmckfabhkaaaDoor
open Go

theorem list_two {l : List UInt8} (h : l.length = 2) : ∃ a b, l = [a, b] := by
  match l, h with
  | [a, b], _ => exact ⟨a, b, rfl⟩
theorem list_four {l : List UInt8} (h : l.length = 4) : ∃ a b c d, l = [a, b, c, d] := by
  match l, h with
  | [a, b, c, d], _ => exact ⟨a, b, c, d, rfl⟩
theorem sec_of (t : Int) (h1 : -62135596800 ≤ t) (h2 : t ≤ 253402300799) : okD (dY (dayOf t)) (dM (dayOf t)) (dD (dayOf t)) (secIn t / 3600) (secIn t / 60 % 60) (secIn t % 60) ∧ secF (dY (dayOf t)) (dM (dayOf t)) (dD (dayOf t)) (secIn t / 3600) (secIn t / 60 % 60) (secIn t % 60) = t := by
  obtain ⟨y1, y2, m1, m2, a1, a2, a3, s1, s2⟩ := fields t h1 h2
  have et : dayOf t * 86400 + secIn t = t + 62135596800 := by unfold dayOf secIn; omega
  have o1 := (date_ok (dayOf t) (by unfold dayOf; omega) (by unfold dayOf; omega)).2
  refine ⟨⟨y1, y2, a1, a2, by omega, by omega, by omega, by omega, by omega, by omega⟩, ?_⟩
  unfold secF
  rw [o1]
  generalize secIn t = S at *
  generalize dayOf t = D at *
  omega
theorem stamp_back (t : Int) (h1 : -62135596800 ≤ t) (h2 : t ≤ 253402300799) : (⟨(stampOf t).toArray⟩ : ByteArray).size = 14 ∧ unstampR ⟨(stampOf t).toArray⟩ (t, 0) := by
  obtain ⟨ok, hsec⟩ := sec_of t h1 h2
  obtain ⟨y1, y2, m1, m2, a1, a2, a3, s1, s2⟩ := fields t h1 h2
  unfold stampOf at *
  generalize dY (dayOf t) = Y at *
  generalize dM (dayOf t) = M at *
  generalize dD (dayOf t) = D at *
  have hh : 0 ≤ secIn t / 3600 ∧ secIn t / 3600 ≤ 99 := by omega
  have hn : 0 ≤ secIn t / 60 % 60 ∧ secIn t / 60 % 60 ≤ 99 := by omega
  have hs : 0 ≤ secIn t % 60 ∧ secIn t % 60 ≤ 99 := by omega
  generalize secIn t / 3600 = H at *
  generalize secIn t / 60 % 60 = N at *
  generalize secIn t % 60 = S at *
  obtain ⟨i0, v0, n0⟩ := d4_is Y (by omega) y2
  obtain ⟨i1, v1, n1⟩ := d2_is M (by omega) (by omega)
  obtain ⟨i2, v2, n2⟩ := d2_is D (by omega) (by omega)
  obtain ⟨i3, v3, n3⟩ := d2_is H hh.1 hh.2
  obtain ⟨i4, v4, n4⟩ := d2_is N hn.1 hn.2
  obtain ⟨i5, v5, n5⟩ := d2_is S hs.1 hs.2
  obtain ⟨b0, b1, b2, b3, e0⟩ := list_four n0
  obtain ⟨b4, b5, e1⟩ := list_two n1
  obtain ⟨b6, b7, e2⟩ := list_two n2
  obtain ⟨b8, b9, e3⟩ := list_two n3
  obtain ⟨b10, b11, e4⟩ := list_two n4
  obtain ⟨b12, b13, e5⟩ := list_two n5
  rw [e0] at i0 v0
  rw [e1] at i1 v1
  rw [e2] at i2 v2
  rw [e3] at i3 v3
  rw [e4] at i4 v4
  rw [e5] at i5 v5
  have c0 := i0 b0 (by simp)
  have c1 := i0 b1 (by simp)
  have c2 := i0 b2 (by simp)
  have c3 := i0 b3 (by simp)
  have c4 := i1 b4 (by simp)
  have c5 := i1 b5 (by simp)
  have c6 := i2 b6 (by simp)
  have c7 := i2 b7 (by simp)
  have c8 := i3 b8 (by simp)
  have c9 := i3 b9 (by simp)
  have c10 := i4 b10 (by simp)
  have c11 := i4 b11 (by simp)
  have c12 := i5 b12 (by simp)
  have c13 := i5 b13 (by simp)
  simp only [numv, List.length_cons, List.length_nil] at v0 v1 v2 v3 v4 v5
  have hl : stampL Y M D H N S = [b0, b1, b2, b3, b4, b5, b6, b7, b8, b9, b10, b11, b12, b13] := by
    unfold stampL
    rw [e0, e1, e2, e3, e4, e5]
    rfl
  rw [hl]
  refine ⟨rfl, fun h => absurd ?_ h, fun _ => ?_⟩
  · intro j hj
    show 48 ≤ (([b0, b1, b2, b3, b4, b5, b6, b7, b8, b9, b10, b11, b12, b13] : List UInt8).getD j 0).toNat ∧ (([b0, b1, b2, b3, b4, b5, b6, b7, b8, b9, b10, b11, b12, b13] : List UInt8).getD j 0).toNat ≤ 57
    have hc : j = 0 ∨ j = 1 ∨ j = 2 ∨ j = 3 ∨ j = 4 ∨ j = 5 ∨ j = 6 ∨ j = 7 ∨ j = 8 ∨ j = 9 ∨ j = 10 ∨ j = 11 ∨ j = 12 ∨ j = 13 := by omega
    rcases hc with rfl | rfl | rfl | rfl | rfl | rfl | rfl | rfl | rfl | rfl | rfl | rfl | rfl | rfl <;> assumption
  · have w0 : 100 * (10 * ((b0.toNat : Int) - 48) + ((b1.toNat : Int) - 48)) + (10 * ((b2.toNat : Int) - 48) + ((b3.toNat : Int) - 48)) = Y := by omega
    have w1 : 10 * ((b4.toNat : Int) - 48) + ((b5.toNat : Int) - 48) = M := by omega
    have w2 : 10 * ((b6.toNat : Int) - 48) + ((b7.toNat : Int) - 48) = D := by omega
    have w3 : 10 * ((b8.toNat : Int) - 48) + ((b9.toNat : Int) - 48) = H := by omega
    have w4 : 10 * ((b10.toNat : Int) - 48) + ((b11.toNat : Int) - 48) = N := by omega
    have w5 : 10 * ((b12.toNat : Int) - 48) + ((b13.toNat : Int) - 48) = S := by omega
    show unixR (100 * (10 * ((b0.toNat : Int) - 48) + ((b1.toNat : Int) - 48)) + (10 * ((b2.toNat : Int) - 48) + ((b3.toNat : Int) - 48))) (10 * ((b4.toNat : Int) - 48) + ((b5.toNat : Int) - 48)) (10 * ((b6.toNat : Int) - 48) + ((b7.toNat : Int) - 48)) (10 * ((b8.toNat : Int) - 48) + ((b9.toNat : Int) - 48)) (10 * ((b10.toNat : Int) - 48) + ((b11.toNat : Int) - 48)) (10 * ((b12.toNat : Int) - 48) + ((b13.toNat : Int) - 48)) (t, 0)
    rw [w0, w1, w2, w3, w4, w5]
    exact ⟨fun _ => by rw [hsec], fun h => absurd ok h⟩
end Go.Proofs.YtgojmckfabhkaaaDoor
