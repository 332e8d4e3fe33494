/- THE WALK of 'CalendarSeconds'. Conditions: the library's table stands. -/
import Derived.Test.YtkpiebcncjlgcaaDoorCalAwake
import Derived.Test.YtkpiebcncjlgcaaDoorCalBack
import Derived.Test.YtkpiebcncjlgcaaDoorCalText
import Derived.Test.YtkpiebcncjlgcaaDoorCalRefStamp
import Derived.Deep.RegionHeld3
namespace Go.Proofs.YtkpiebcncjlgcaaDoor
open Go.RowKit
set_option linter.unusedVariables false

theorem next_b {a w w' : World} (h : Below a.heap.size a w) (hb : Below w.heap.size w w') : Below a.heap.size a w' := h.trans (hb.mono h.size)

set_option maxRecDepth 100000 in
set_option maxHeartbeats 4000000 in
theorem calendarSeconds_out (t : Int) (w : World) (ht : tabOk w) (h : t < -62135596800 ∨ 253402300799 < t) :
    Calls Tryd.prog 6 #[.int .i64 t] w fun e w' => e = .returned (.bool true) ∧ Below w.heap.size w w' := by
  have HT := Lib.hid ht
  have hf := from_out t w h
  unfold dateV at hf
  have HF := Lib.hid hf
  have HS := Lib.hid (fun W => stamp_out t W h)
  have HX := Lib.hid (fun W => text_out t W h)
  have hh : t < -62135596800 ∨ ¬ t < -62135596800 ∧ 253402300799 < t := by omega
  clear ht hf h
  go_enter Tryd.func6, Tryd.ntmps6
  go_wp2_with fail
  refine HF.out.mono ?_
  rintro e w1 ⟨rfl, hb1⟩
  have HC := Lib.hid (heap_alloc_same w1 (.cells #[.int .i64 0, .int .i64 0, .int .i64 0, .int .i64 0, .int .i64 0, .int .i64 0, .int .i64 0] 23))
  have HB1 := Lib.hid (hb1.alloc hb1.size (.cells #[.int .i64 0, .int .i64 0, .int .i64 0, .int .i64 0, .int .i64 0, .int .i64 0, .int .i64 0] 23))
  clear hb1
  go_wp2_with fail
  obtain ⟨B, hB⟩ : ∃ B, B = w1.heap.size := ⟨_, rfl⟩
  rw [← hB] at HC ⊢
  have HBB := Lib.hid hB
  clear hB
  generalize w1.alloc (.cells #[.int .i64 0, .int .i64 0, .int .i64 0, .int .i64 0, .int .i64 0, .int .i64 0, .int .i64 0] 23) = W1 at HC HB1 ⊢
  refine (HS.out _).mono ?_
  rintro e w2 ⟨rfl, hb2⟩
  have HB2 := Lib.hid hb2
  clear hb2
  go_wp2_with fail
  refine (HX.out _).mono ?_
  rintro e w3 ⟨rfl, hb3⟩
  have HB3 := Lib.hid (next_b HB2.out hb3)
  clear hb3
  have HT3 := Lib.hid (HT.out.below (next_b HB1.out HB3.out))
  rcases hh with c1 | ⟨c1, c2⟩
  all_goals
    go_wp2_with fail
    refine (awake_any _ HT3.out).mono ?_
    rintro e w4 ⟨rfl, hb4⟩
    have hb4' := next_b HB3.out hb4
    have hc4 := below_heap hb4' HC.out (lt_of_block HC.out)
    have l0 := cell_at hc4 0
    have l1 := cell_at hc4 1
    have l2 := cell_at hc4 2
    have l3 := cell_at hc4 3
    have l4 := cell_at hc4 4
    have l5 := cell_at hc4 5
    have l6 := cell_at hc4 6
    simp only [List.getElem?_toArray, List.getElem?_cons_zero, List.getElem?_cons_succ] at l0 l1 l2 l3 l4 l5 l6
    have HFIN := Lib.hid (next_b HB1.out hb4')
    clear hb4 hb4' hc4
    go_wp2
    go_ret
    exact ⟨rfl, HFIN.out⟩

set_option maxRecDepth 100000 in
set_option maxHeartbeats 8000000 in
theorem calendarSeconds_in (t : Int) (w : World) (ht : tabOk w) (h1 : -62135596800 ≤ t) (h2 : t ≤ 253402300799) :
    Calls Tryd.prog 6 #[.int .i64 t] w fun e w' => e = .returned (.bool true) ∧ Below w.heap.size w w' := by
  have HT := Lib.hid ht
  obtain ⟨hsz, hback⟩ := stamp_back t h1 h2
  obtain ⟨ok, hsec⟩ := sec_of t h1 h2
  have hf := from_in t w h1 h2
  have hst := fun W hW => stamp_in t W h1 h2 hW
  have htx := fun W hW => text_in t W h1 h2 hW hsz
  have hrs := fun W => refStamp_in t W h1 h2
  have hrf := fun W => refFrom_in t W h1 h2
  have hux := fun W => unix_ok _ _ _ _ _ _ ((dayOf t + 1) % 7) W ok
  rw [hsec] at hux
  unfold textB at htx
  unfold fromV dateV at hf
  generalize dY (dayOf t) = Y at *
  generalize dM (dayOf t) = M at *
  generalize dD (dayOf t) = D at *
  generalize secIn t / 3600 = H at *
  generalize secIn t / 60 % 60 = N at *
  generalize secIn t % 60 = S at *
  generalize (dayOf t + 1) % 7 = K at *
  generalize (⟨(stampOf t).toArray⟩ : ByteArray) = s at *
  have hun := fun W => unstamp_14 s W hsz (t, 0) hback
  have HF := Lib.hid hf
  have HST := Lib.hid hst
  have HTX := Lib.hid htx
  have HRS := Lib.hid hrs
  have HRF := Lib.hid hrf
  have HUX := Lib.hid hux
  have HUN := Lib.hid hun
  have HSZ := Lib.hid hsz
  have c1 : ¬ t < -62135596800 := by omega
  have c2 : ¬ 253402300799 < t := by omega
  clear hf hst htx hrs hrf hux hun ok hsec hback ht hsz
  go_enter Tryd.func6, Tryd.ntmps6
  go_wp2_with fail
  refine HF.out.mono ?_
  rintro e w1 ⟨rfl, hb1⟩
  have HC := Lib.hid (heap_alloc_same w1 (.cells #[.int .i64 Y, .int .i64 M, .int .i64 D, .int .i64 H, .int .i64 N, .int .i64 S, .int .i64 K] 23))
  have HB1 := Lib.hid (hb1.alloc hb1.size (.cells #[.int .i64 Y, .int .i64 M, .int .i64 D, .int .i64 H, .int .i64 N, .int .i64 S, .int .i64 K] 23))
  have HW1 := Lib.hid hb1.size
  clear hb1
  go_wp2_with fail
  obtain ⟨B, hB⟩ : ∃ B, B = w1.heap.size := ⟨_, rfl⟩
  rw [← hB] at HC ⊢
  have HWB : RowKit.Hid (w.heap.size ≤ B) := Lib.hid (by rw [hB]; exact HW1.out)
  clear hB
  generalize w1.alloc (.cells #[.int .i64 Y, .int .i64 M, .int .i64 D, .int .i64 H, .int .i64 N, .int .i64 S, .int .i64 K] 23) = W1 at HC HB1 ⊢
  have HT1 := Lib.hid (HT.out.below HB1.out)
  refine (HST.out _ HT1.out).mono ?_
  rintro e w2 ⟨rfl, hb2⟩
  have HB2 := Lib.hid hb2
  clear hb2
  have HT2 := Lib.hid (HT1.out.below HB2.out)
  go_wp2_with fail
  refine (HTX.out _ HT2.out).mono ?_
  rintro e w3 ⟨rfl, hb3⟩
  have HB3 := Lib.hid (next_b HB2.out hb3)
  clear hb3
  go_wp2_with fail
  refine (HRS.out _).mono ?_
  rintro e w4 ⟨rfl, hb4⟩
  have HB4 := Lib.hid (next_b HB3.out hb4)
  have hc4 := below_heap HB4.out HC.out (lt_of_block HC.out)
  have l0 := cell_at hc4 0
  have l1 := cell_at hc4 1
  have l2 := cell_at hc4 2
  have l3 := cell_at hc4 3
  have l4 := cell_at hc4 4
  have l5 := cell_at hc4 5
  have l6 := cell_at hc4 6
  simp only [List.getElem?_toArray, List.getElem?_cons_zero, List.getElem?_cons_succ] at l0 l1 l2 l3 l4 l5 l6
  clear hb4 hc4
  go_wp2_with fail
  refine (HUX.out _).mono ?_
  rintro e w5 ⟨rfl, hb5⟩
  have HB5 := Lib.hid (next_b HB4.out hb5)
  clear hb5 l0 l1 l2 l3 l4 l5 l6
  go_wp2_with fail
  refine (HUN.out _).mono ?_
  rintro e w6 ⟨rfl, hb6⟩
  have HB6 := Lib.hid (next_b HB5.out hb6)
  clear hb6
  have HT6 := Lib.hid (HT1.out.below HB6.out)
  have hc6 := below_heap HB6.out HC.out (lt_of_block HC.out)
  have HS6 : RowKit.Hid (B + 1 ≤ w6.heap.size) := Lib.hid (lt_of_block hc6)
  have HFIN := Lib.hid (next_b HB1.out HB6.out)
  have HSV : RowKit.Hid (∀ w', Below (B + 1) w6 w' → tabOk w' → (w'.cell? ⟨B, 0, none⟩ = some (.int .i64 Y) ∧ w'.cell? ⟨B, 1, none⟩ = some (.int .i64 M) ∧ w'.cell? ⟨B, 2, none⟩ = some (.int .i64 D) ∧ w'.cell? ⟨B, 3, none⟩ = some (.int .i64 H) ∧ w'.cell? ⟨B, 4, none⟩ = some (.int .i64 N) ∧ w'.cell? ⟨B, 5, none⟩ = some (.int .i64 S) ∧ w'.cell? ⟨B, 6, none⟩ = some (.int .i64 K) ∧ Below (B + 1) w6 w' ∧ tabOk w')) := Lib.hid (fun w' hb ht => by
    have h := below_heap hb hc6 (Nat.lt_succ_self B)
    exact ⟨cell_at h 0, cell_at h 1, cell_at h 2, cell_at h 3, cell_at h 4, cell_at h 5, cell_at h 6, hb, ht⟩)
  have hbd : Below (B + 1) w6 w6.drew := (Below.refl _ _).drew
  have htd : tabOk w6.drew := HT6.out
  have hsz := HSZ.out
  have e12 : s.extract 12 s.size = s.extract 12 14 := by rw [hsz]
  have z0 : (s.extract 0 4).size = 4 := by rw [ByteArray.size_extract, hsz]; rfl
  have z1 : (s.extract 4 6).size = 2 := by rw [ByteArray.size_extract, hsz]; rfl
  have z2 : (s.extract 6 8).size = 2 := by rw [ByteArray.size_extract, hsz]; rfl
  have z3 : (s.extract 8 10).size = 2 := by rw [ByteArray.size_extract, hsz]; rfl
  have z4 : (s.extract 10 12).size = 2 := by rw [ByteArray.size_extract, hsz]; rfl
  have z5 : (s.extract 12 14).size = 2 := by rw [ByteArray.size_extract, hsz]; rfl
  clear hc6 HF HST HTX HRS HUX HUN HC HT HB2 HB3 HB4 HB5 HT1 HT2 HB6 HB1
  go_wp2_with fail
  try simp only [List.append_eq, List.cons_append, List.nil_append]
  go_region_held3 (fun w' => w'.cell? ⟨B, 0, none⟩ = some (.int .i64 Y) ∧ w'.cell? ⟨B, 1, none⟩ = some (.int .i64 M) ∧ w'.cell? ⟨B, 2, none⟩ = some (.int .i64 D) ∧ w'.cell? ⟨B, 3, none⟩ = some (.int .i64 H) ∧ w'.cell? ⟨B, 4, none⟩ = some (.int .i64 N) ∧ w'.cell? ⟨B, 5, none⟩ = some (.int .i64 S) ∧ w'.cell? ⟨B, 6, none⟩ = some (.int .i64 K) ∧ Below (B + 1) w6 w' ∧ tabOk w')
    (first
      | exact HSV.out _ hq ht'
      | exact HSV.out _ hbd htd)
    (first
      | (go_at_call 11
         (with_reducible refine (awake_any _ ?_).mono ?_)
         · assumption
         rintro e w' ⟨rfl, hb⟩
         have hq : Below (B + 1) w6 w' := below_next (by assumption) hb HS6.out
         have ht' : tabOk w' := tabOk.below (by assumption) hb)
      | (go_at_call 10
         (with_reducible refine (list_any Y M D H N S K _).mono ?_)
         rintro e w' ⟨g, rfl, hg, hg1, hb⟩
         have HG := Lib.hid hg
         have hq : Below (B + 1) w6 w' := below_next (by assumption) hb HS6.out
         have ht' : tabOk w' := tabOk.below (by assumption) hb
         clear hg hg1)
      | (go_at_call 20
         (with_reducible refine (HRF.out _).mono ?_)
         rintro e w' ⟨g', rfl, hg', hg1', hb⟩
         have HG9 := Lib.hid (HG.out.below hb HG.out.lt)
         have HG' := Lib.hid hg'
         have hq : Below (B + 1) w6 w' := below_next (by assumption) hb HS6.out
         have ht' : tabOk w' := tabOk.below (by assumption) hb
         clear hg' hg1')
      | (go_at_call 19
         (with_reducible refine (same_7 Y M D H N S K _ _ _ HG9.out HG'.out).mono ?_)
         rintro e w' ⟨rfl, hb⟩
         have hq : Below (B + 1) w6 w' := below_next (by assumption) hb HS6.out
         have ht' : tabOk w' := tabOk.below (by assumption) hb))
  clear hsz e12 z0 z1 z2 z3 z4 z5
  go_wp2
  go_ret
  exact ⟨rfl, HFIN.out.trans (hq.mono (Nat.le_succ_of_le HWB.out))⟩

theorem calendarSeconds_walk (t : Int) (htw : (Lit.int .i64 t).wf = true) (w : World) (ht : tabOk w) :
    Calls Tryd.prog 6 #[.int .i64 t] w fun e w' => e = .returned (.bool true) ∧ Below w.heap.size w w' := by
  by_cases h : -62135596800 ≤ t ∧ t ≤ 253402300799
  · exact calendarSeconds_in t w ht h.1 h.2
  · exact calendarSeconds_out t w ht (by omega)
end Go.Proofs.YtkpiebcncjlgcaaDoor
