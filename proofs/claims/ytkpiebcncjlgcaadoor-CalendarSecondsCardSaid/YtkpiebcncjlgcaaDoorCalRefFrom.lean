/- THE WALK of the reference's From. Conditions: the second lies in the range. -/
import Derived.Test.YtkpiebcncjlgcaaDoorCalListed
import Derived.Test.YtkpiebcncjlgcaaDoorCalOrder
namespace Go.Proofs.YtkpiebcncjlgcaaDoor
open Go.RowKit
set_option linter.unusedVariables false

theorem dim_pos (y m : Int) (h1 : 1 ≤ m) (h2 : m ≤ 12) : 1 ≤ dim y m := by
  have hl := lp_le y
  unfold dim
  split
  · omega
  · split
    · omega
    · rw [if_pos ⟨h1, h2⟩]; omega

set_option maxRecDepth 100000 in
set_option maxHeartbeats 4000000 in
theorem refFrom_in (t : Int) (w : World) (h1 : -62135596800 ≤ t) (h2 : t ≤ 253402300799) :
    Calls Tryd.prog 20 #[.int .i64 t] w fun e w' => ∃ g, e = .returned (.slice (some ⟨g, 0, none⟩) 7 7) ∧ block7 w' g (dY (dayOf t)) (dM (dayOf t)) (dD (dayOf t)) (secIn t / 3600) (secIn t / 60 % 60) (secIn t % 60) ((dayOf t + 1) % 7) ∧ w.heap.size ≤ g ∧ Below w.heap.size w w' := by
  obtain ⟨D, hD⟩ : ∃ D, D = dayOf t := ⟨_, rfl⟩
  obtain ⟨S, hS⟩ : ∃ S, S = secIn t := ⟨_, rfl⟩
  rw [← hD, ← hS]
  have e1 : (t + 62135596800) / 86400 = D := hD.symm
  have e2 : (t + 62135596800) % 86400 = S := hS.symm
  have hD0 : 0 ≤ D ∧ D ≤ 3652058 := by omega
  have hS0 : 0 ≤ S ∧ S < 86400 := by omega
  have hu : ∀ y m d : Int, 1 ≤ m → m ≤ 12 → 1 ≤ d → d ≤ dim y m → ordF y m d = D → y = dY D ∧ m = dM D ∧ d = dD D := by
    intro y m d m1 m2 d1 d2 ho
    obtain ⟨ok, oo⟩ := date_ok D hD0.1 hD0.2
    obtain ⟨k1, k2⟩ := okD_month ok
    obtain ⟨y1, y2, q1, q2, -⟩ := ok
    exact ord_inj _ _ _ _ _ _ m1 m2 d1 d2 k1 k2 q1 q2 (by rw [ho, oo])
  have HU := Lib.hid hu
  obtain ⟨q, hq⟩ : ∃ q, q = D / 146097 := ⟨_, rfl⟩
  obtain ⟨r, hr⟩ : ∃ r, r = D % 146097 := ⟨_, rfl⟩
  have hq0 : 0 ≤ q ∧ q ≤ 24 := by omega
  have hr0 : 0 ≤ r ∧ r ≤ 146096 := by omega
  have hjb : D = ja (1 + q * 400) + r := by rw [ja_base]; omega
  have HJB := Lib.hid hjb
  have hq' : D / 146097 = q := hq.symm
  have hr' : D % 146097 = r := hr.symm
  clear hD hS hu hq hr hjb
  go_enter Tryd.func20, Tryd.ntmps20
  go_wp2
  try simp only [e1, e2, hq', hr']
  clear e1 e2 hq' hr'
  go_loop [3, 6] (fun dv yv => ∃ n y : Int, 1 ≤ y ∧ y ≤ 9999 ∧ 0 ≤ n ∧ yv = .int .i64 y ∧ dv = .int .i64 n ∧ D = ja y + n) (fun dv _ => (intOf dv).toNat)
  case atStart => exact ⟨r, 1 + q * 400, by omega, by omega, hr0.1, by go_num, by go_num, HJB.out⟩
  case round =>
    obtain ⟨n, y, hy1, hy2, hn0, rfl, rfl, hjy⟩ := hrel
    have hjs := ja_succ y
    have hlp := lp_le y
    have hlen := fun W => length_any y W
    have hjb := ja_bound y hy1 (by omega)
    have hmf := mo_first y
    have HMF := Lib.hid hmf
    clear hmf
    obtain ⟨l, hl⟩ : ∃ l, l = lp y := ⟨_, rfl⟩
    obtain ⟨J, hJ⟩ : ∃ J, J = ja y := ⟨_, rfl⟩
    rw [← hl] at hjs hlp hlen
    rw [← hJ] at hjs hjb hjy
    have hn1 : n ≤ 3652058 := by omega
    have HL := Lib.hid hl
    have HJ := Lib.hid hJ
    have HJS := Lib.hid hjs
    have HJY := Lib.hid hjy
    clear hl hJ hjs hjy hjb
    by_cases hlt : 365 + l ≤ n
    · have hy3 : y ≤ 9998 := by
        by_cases h : y ≤ 9998
        · exact h
        · have h9 := ja_mono 10000 (y + 1) (by omega)
          have e10 : ja 10000 = 3652059 := by decide
          have a1 := HJS.out
          have a2 := HJY.out
          omega
      go_wp2_with fail
      refine (hlen _).mono ?_
      rintro e w1 ⟨rfl, rfl⟩
      go_wp2_with fail
      refine (hlen _).mono ?_
      rintro e w2 ⟨rfl, rfl⟩
      go_wp2
      go_round
      case rel => exact ⟨n - (365 + l), y + 1, by omega, by omega, by omega, by go_num, by go_num, by rw [HJS.out]; have := HJY.out; omega⟩
      case measure => simp [intOf]; omega
    · have hin : D < ja (y + 1) := by rw [HJS.out]; have := HJY.out; omega
      have HIN := Lib.hid hin
      have hmo : D = mo y 1 + n := by rw [HMF.out, ← HJ.out]; exact HJY.out
      have HMO := Lib.hid hmo
      clear hin hmo
      go_wp2_with fail
      refine (hlen _).mono ?_
      rintro e w1 ⟨rfl, rfl⟩
      clear hlen
      go_wp2
      go_loopw [3, 7] (fun dv mv wr => ∃ n m : Int, 1 ≤ m ∧ m ≤ 12 ∧ 0 ≤ n ∧ n ≤ 3652058 ∧ mv = .int .i64 m ∧ dv = .int .i64 n ∧ D = mo y m + n ∧ Below w.heap.size w wr) (fun _ mv _ => 20 - (intOf mv).toNat)
      case atStart => exact ⟨n, 1, by omega, by omega, hn0, hn1, rfl, rfl, HMO.out, Below.refl _ _⟩
      case round =>
        clear hn0 hn1 hlt HMO
        obtain ⟨n, m, hm1, hm2, hn0, hn1, rfl, rfl, hmo, hb⟩ := hrel
        have HB := Lib.hid hb
        have HMO := Lib.hid hmo
        have hd := fun W => refDays_any y m W
        have hdp := dim_pos y m hm1 hm2
        have hdl := dim_le' y m
        have hu := HU.out y m (n + 1) hm1 hm2 (by omega)
        have ho : ordF y m (n + 1) = D := by rw [ordF_day]; have := HMO.out; omega
        have hms : m ≤ 11 → mo y (m + 1) = mo y m + dim y m := fun h => mo_succ y m hm1 h
        have hml : m = 12 → mo y m + dim y m = ja (y + 1) := fun h => by subst h; rw [← mo_last, (dim_val y 12).2.2 (by omega)]
        obtain ⟨d, hdd⟩ : ∃ d, d = dim y m := ⟨_, rfl⟩
        rw [← hdd] at hd hdp hdl hu hms hml
        have HD := Lib.hid hd
        have HUU := Lib.hid hu
        have HO := Lib.hid ho
        have HMS := Lib.hid hms
        have HML := Lib.hid hml
        clear hb hmo hd hu ho hms hml hdd
        by_cases hlt : d ≤ n
        · have hm3 : m ≤ 11 := by
            by_cases h : m ≤ 11
            · exact h
            · have h12 := HML.out (by omega)
              have a1 := HIN.out
              have a2 := HMO.out
              omega
          go_wp2_with fail
          refine (HD.out _).mono ?_
          rintro e w1 ⟨rfl, hb1⟩
          have HB1 := Lib.hid (below_next' HB.out hb1)
          clear hb1
          go_wp2_with fail
          refine (HD.out _).mono ?_
          rintro e w2 ⟨rfl, hb2⟩
          have HB2 := Lib.hid (below_next' HB1.out hb2)
          clear hb2
          go_wp2
          refine ⟨⟨n - d, m + 1, by omega, by omega, by omega, by omega, by go_num, by go_num, by rw [HMS.out hm3]; have := HMO.out; omega, HB2.out⟩, by simp [intOf]; omega⟩
        · have X := Lib.hid (HUU.out (by omega) HO.out)
          go_wp2_with fail
          refine (HD.out _).mono ?_
          rintro e w1 ⟨rfl, hb1⟩
          have HB1 := Lib.hid (below_next' HB.out hb1)
          clear hb1
          go_wp2
          go_ret
          refine ⟨_, rfl, ?_, HB1.out.size, HB1.out.alloc HB1.out.size _⟩
          obtain ⟨x1, x2, x3⟩ := X.out
          rw [← x1, ← x2, ← x3]
          exact ⟨_, heap_alloc_same _ _⟩
end Go.Proofs.YtkpiebcncjlgcaaDoor
