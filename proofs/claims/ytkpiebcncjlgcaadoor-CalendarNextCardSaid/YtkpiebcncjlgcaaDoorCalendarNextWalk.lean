/- THE WALK of 'CalendarNext'. Conditions: the library's table stands. -/
import Derived.Test.YtkpiebcncjlgcaaDoorCalAwake
import Derived.Test.YtkpiebcncjlgcaaDoorCalOrder
import Derived.BigQuiet
import Derived.Deep.QuietTactic
import Derived.Deep.DeepCutAuto
import Derived.Deep.CutBlock
namespace Go.Proofs.YtkpiebcncjlgcaaDoor
open Go.RowKit
set_option linter.unusedVariables false

/-- The fields of a second and of the next one. -/
theorem next_cases (t : Int) (h1 : -62135596800 ≤ t) (h2 : t < 253402300799) : ∃ Y M D H N S K Y' M' D' H' N' S' K' : Int, fromV t = dateV Y M D H N S K ∧ fromV (t + 1) = dateV Y' M' D' H' N' S' K' ∧
    1 ≤ Y ∧ Y ≤ 9999 ∧ 1 ≤ M ∧ M ≤ 12 ∧ 1 ≤ D ∧ D ≤ dim Y M ∧ D ≤ 31 ∧ 0 ≤ H ∧ H ≤ 23 ∧ 0 ≤ N ∧ N ≤ 59 ∧ 0 ≤ S ∧ S ≤ 59 ∧ 0 ≤ K ∧ K ≤ 6 ∧
    ((S < 59 ∧ Y' = Y ∧ M' = M ∧ D' = D ∧ H' = H ∧ N' = N ∧ S' = S + 1 ∧ K' = K) ∨
     (S = 59 ∧ N < 59 ∧ Y' = Y ∧ M' = M ∧ D' = D ∧ H' = H ∧ N' = N + 1 ∧ S' = 0 ∧ K' = K) ∨
     (S = 59 ∧ N = 59 ∧ H < 23 ∧ Y' = Y ∧ M' = M ∧ D' = D ∧ H' = H + 1 ∧ N' = 0 ∧ S' = 0 ∧ K' = K) ∨
     (S = 59 ∧ N = 59 ∧ H = 23 ∧ D < dim Y M ∧ Y' = Y ∧ M' = M ∧ D' = D + 1 ∧ H' = 0 ∧ N' = 0 ∧ S' = 0 ∧ K' = (K + 1) % 7) ∨
     (S = 59 ∧ N = 59 ∧ H = 23 ∧ D = dim Y M ∧ M < 12 ∧ Y' = Y ∧ M' = M + 1 ∧ D' = 1 ∧ H' = 0 ∧ N' = 0 ∧ S' = 0 ∧ K' = (K + 1) % 7) ∨
     (S = 59 ∧ N = 59 ∧ H = 23 ∧ D = dim Y M ∧ M = 12 ∧ Y' = Y + 1 ∧ M' = 1 ∧ D' = 1 ∧ H' = 0 ∧ N' = 0 ∧ S' = 0 ∧ K' = (K + 1) % 7)) := by
  obtain ⟨y1, y2, m1, m2, a1, a2, a3, s1, s2⟩ := fields t h1 (by omega)
  refine ⟨_, _, _, _, _, _, _, _, _, _, _, _, _, _, rfl, rfl, y1, y2, m1, m2, a1, a2, a3, by omega, by omega, by omega, by omega, by omega, by omega, by omega, by omega, ?_⟩
  rcases next_sec t h1 h2 with ⟨hs, hd, hn⟩ | ⟨hs, hd, hn⟩
  · rw [hd, hn]
    generalize secIn t = s at *
    by_cases c1 : s % 60 < 59
    · left
      exact ⟨c1, rfl, rfl, rfl, by omega, by omega, by omega, rfl⟩
    · by_cases c2 : s / 60 % 60 < 59
      · right; left
        exact ⟨by omega, c2, rfl, rfl, rfl, by omega, by omega, by omega, rfl⟩
      · right; right; left
        exact ⟨by omega, by omega, by omega, rfl, rfl, rfl, by omega, by omega, by omega, rfl⟩
  · have hD : 0 ≤ dayOf t ∧ dayOf t < 3652058 := by unfold dayOf secIn at *; omega
    rw [hd, hn, hs]
    have hk : (dayOf t + 1 + 1) % 7 = ((dayOf t + 1) % 7 + 1) % 7 := by omega
    rcases next_day (dayOf t) hD.1 hD.2 with ⟨q, e1, e2, e3⟩ | ⟨q, q2, e1, e2, e3⟩ | ⟨q, q2, e1, e2, e3⟩
    · right; right; right; left
      exact ⟨by omega, by omega, by omega, q, e1, e2, e3, by omega, by omega, by omega, hk⟩
    · right; right; right; right; left
      exact ⟨by omega, by omega, by omega, q, q2, e1, e2, e3, by omega, by omega, by omega, hk⟩
    · right; right; right; right; right
      exact ⟨by omega, by omega, by omega, q, q2, e1, e2, e3, by omega, by omega, by omega, hk⟩

/-- What a stamp answers, in range or not. -/
theorem stamp_any (u : Int) : ∃ (y : ByteArray) (g : Int), (g = 0 ∨ g = 1) ∧ (g = 0 → -62135596800 ≤ u ∧ u ≤ 253402300799 ∧ y = ⟨(stampOf u).toArray⟩) ∧ ∀ w, tabOk w → Calls Tryd.prog 16 #[.int .i64 u] w fun e w' => e = .returned (.tuple #[.string y, .int .i64 g]) ∧ Below w.heap.size w w' := by
  by_cases h : -62135596800 ≤ u ∧ u ≤ 253402300799
  · exact ⟨_, 0, Or.inl rfl, fun _ => ⟨h.1, h.2, rfl⟩, fun w ht => stamp_in u w h.1 h.2 ht⟩
  · exact ⟨_, 1, Or.inr rfl, fun h => by omega, fun w ht => stamp_out u w (by omega)⟩

set_option maxRecDepth 100000 in
set_option maxHeartbeats 4000000 in
theorem calendarNext_walk (t u : Int) (ht0 : (Lit.int .i64 t).wf = true) (hu0 : (Lit.int .i64 u).wf = true) (w : World) (ht : tabOk w) :
    Calls Tryd.prog 4 #[.int .i64 t, .int .i64 u] w fun e w' => e = .returned (.bool true) ∧ Below w.heap.size w w' := by
  have HT := Lib.hid ht
  clear ht
  by_cases hin : -62135596800 ≤ t ∧ t ≤ 253402300799
  · have hf := fun W => from_in t W hin.1 hin.2
    by_cases hg : t < 253402300799
    · have hf2 := fun W => from_in (t + 1) W (by omega) (by omega)
      obtain ⟨Y, M, D, H, N, S, K, Y', M', D', H', N', S', K', hv1, hv2, by1, by2, bm1, bm2, bd1, bd2, bd3, bh1, bh2, bn1, bn2, bs1, bs2, bk1, bk2, hcase⟩ := next_cases t hin.1 hg
      rw [hv1] at hf
      rw [hv2] at hf2
      clear hv1 hv2
      unfold dateV at hf hf2
      have hdays := fun W => days_q Y M W
      generalize dim Y M = L at *
      have HF := Lib.hid hf
      have HF2 := Lib.hid hf2
      have HDY := Lib.hid hdays
      clear hf hf2 hdays
      have g1 : ¬ 253402300799 ≤ t := by omega
      go_enter Tryd.func4, Tryd.ntmps4
      go_wp2_with fail
      refine (HF.out _).mono ?_
      rintro e w1 ⟨rfl, hb1⟩
      have c1 : (w1.alloc (.cells #[.int .i64 Y, .int .i64 M, .int .i64 D, .int .i64 H, .int .i64 N, .int .i64 S, .int .i64 K] 23)).heap[w1.heap.size]? = some (.cells #[.int .i64 Y, .int .i64 M, .int .i64 D, .int .i64 H, .int .i64 N, .int .i64 S, .int .i64 K] 23 (0, 0)) := heap_alloc_same w1 _
      have hs1 : w1.heap.size < (w1.alloc (.cells #[.int .i64 Y, .int .i64 M, .int .i64 D, .int .i64 H, .int .i64 N, .int .i64 S, .int .i64 K] 23)).heap.size := by rw [World.size_alloc]; omega
      have hb1' := hb1.alloc hb1.size (.cells #[.int .i64 Y, .int .i64 M, .int .i64 D, .int .i64 H, .int .i64 N, .int .i64 S, .int .i64 K] 23)
      have C1 := Lib.hid c1
      have HS1 := Lib.hid hs1
      have HB1 := Lib.hid hb1'
      have HZ := Lib.hid hb1.size
      clear c1 hs1 hb1' hb1
      go_wp2_with fail
      obtain ⟨A, hA⟩ : ∃ A, A = w1.heap.size := ⟨_, rfl⟩
      rw [← hA] at C1 HS1 HZ ⊢
      have HA := Lib.hid hA
      clear hA
      generalize w1.alloc (.cells #[.int .i64 Y, .int .i64 M, .int .i64 D, .int .i64 H, .int .i64 N, .int .i64 S, .int .i64 K] 23) = W1 at C1 HS1 HB1 ⊢
      refine (HF2.out _).mono ?_
      rintro e w2 ⟨rfl, hb2⟩
      have hb2' := hb2.alloc hb2.size (.cells #[.int .i64 Y', .int .i64 M', .int .i64 D', .int .i64 H', .int .i64 N', .int .i64 S', .int .i64 K'] 23)
      have c2 := below_heap hb2' C1.out HS1.out
      have c3 : (w2.alloc (.cells #[.int .i64 Y', .int .i64 M', .int .i64 D', .int .i64 H', .int .i64 N', .int .i64 S', .int .i64 K'] 23)).heap[w2.heap.size]? = some (.cells #[.int .i64 Y', .int .i64 M', .int .i64 D', .int .i64 H', .int .i64 N', .int .i64 S', .int .i64 K'] 23 (0, 0)) := heap_alloc_same w2 _
      have hs2 : w2.heap.size < (w2.alloc (.cells #[.int .i64 Y', .int .i64 M', .int .i64 D', .int .i64 H', .int .i64 N', .int .i64 S', .int .i64 K'] 23)).heap.size := by rw [World.size_alloc]; omega
      have hbw : Below w.heap.size w (w2.alloc (.cells #[.int .i64 Y', .int .i64 M', .int .i64 D', .int .i64 H', .int .i64 N', .int .i64 S', .int .i64 K'] 23)) := HB1.out.trans (hb2'.mono HB1.out.size)
      have HC3 := Lib.hid c3
      have HS2 := Lib.hid hs2
      have HBW := Lib.hid hbw
      have l0 := cell_at c2 0
      have l1 := cell_at c2 1
      have l2 := cell_at c2 2
      have l3 := cell_at c2 3
      have l4 := cell_at c2 4
      have l5 := cell_at c2 5
      have l6 := cell_at c2 6
      simp only [List.getElem?_toArray, List.getElem?_cons_zero, List.getElem?_cons_succ] at l0 l1 l2 l3 l4 l5 l6
      have L := Lib.hid (And.intro l0 (And.intro l1 (And.intro l2 (And.intro l3 (And.intro l4 (And.intro l5 l6))))))
      clear c2 c3 hs2 hbw hb2' hb2 l0 l1 l2 l3 l4 l5 l6
      go_upto_region 7 with fail
      obtain ⟨B, hB⟩ : ∃ B, B = w2.heap.size := ⟨_, rfl⟩
      rw [← hB] at HC3 HS2 ⊢
      clear hB
      generalize w2.alloc (.cells #[.int .i64 Y', .int .i64 M', .int .i64 D', .int .i64 H', .int .i64 N', .int .i64 S', .int .i64 K'] 23) = W2 at HC3 HS2 HBW L ⊢
      obtain ⟨l0, l1, l2, l3, l4, l5, l6⟩ := L.out
      have HV1 := Lib.hid (heap_alloc_same W2 (.cells #[.int .i64 Y, .int .i64 M, .int .i64 D, .int .i64 H, .int .i64 N, .int .i64 (S + 1), .int .i64 K] 23))
      have HBB := Lib.hid ((Below.refl W2.heap.size W2).alloc (Nat.le_refl _) (.cells #[.int .i64 Y, .int .i64 M, .int .i64 D, .int .i64 H, .int .i64 N, .int .i64 (S + 1), .int .i64 K] 23))
      go_upto_if 41 with fail
      clear l0 l1 l2 l3 l4 l5 l6 L
      obtain ⟨V, hV⟩ : ∃ V, V = W2.heap.size := ⟨_, rfl⟩
      rw [← hV] at HV1 HBB ⊢
      have HWV : RowKit.Hid (w.heap.size ≤ V) := Lib.hid (by rw [hV]; exact HBW.out.size)
      have HVB : RowKit.Hid (B < V) := Lib.hid (by rw [hV]; exact HS2.out)
      clear hV
      generalize W2.alloc (.cells #[.int .i64 Y, .int .i64 M, .int .i64 D, .int .i64 H, .int .i64 N, .int .i64 (S + 1), .int .i64 K] 23) = W4 at HV1 HBB ⊢
      go_cut [] (fun wx => ∃ N1 S1 : Int, (S < 59 ∧ N1 = N ∧ S1 = S + 1 ∨ S = 59 ∧ N1 = N + 1 ∧ S1 = 0) ∧ wx.heap[V]? = some (.cells #[.int .i64 Y, .int .i64 M, .int .i64 D, .int .i64 H, .int .i64 N1, .int .i64 S1, .int .i64 K] 23 (0, 0)) ∧ Below V W2 wx)
      case first =>
        have l0 := cell_at HV1.out 0
        have l1 := cell_at HV1.out 1
        have l2 := cell_at HV1.out 2
        have l3 := cell_at HV1.out 3
        have l4 := cell_at HV1.out 4
        have l5 := cell_at HV1.out 5
        have l6 := cell_at HV1.out 6
        simp only [Array.set!_eq_setIfInBounds, List.setIfInBounds_toArray, List.set_cons_zero, List.set_cons_succ, List.getElem?_toArray, List.getElem?_cons_zero, List.getElem?_cons_succ] at l0 l1 l2 l3 l4 l5 l6
        have f0 := free_at HV1.out 0
        have f1 := free_at HV1.out 1
        have f2 := free_at HV1.out 2
        have f3 := free_at HV1.out 3
        have f4 := free_at HV1.out 4
        have f5 := free_at HV1.out 5
        have f6 := free_at HV1.out 6
        by_cases c1 : S < 59
        · have e1 : (S + 1 == 60) = false := by rw [beq_eq_false_iff_ne]; omega
          have hh := Lib.hid HV1.out
          have bb := Lib.hid HBB.out
          go_wp2
          go_meet
          exact ⟨N, S + 1, Or.inl ⟨c1, rfl, rfl⟩, hh.out, bb.out⟩
        · obtain rfl : S = 59 := by omega
          have hh := Lib.hid (heap_set (heap_set HV1.out 5 (.int .i64 (0))) 4 (.int .i64 (N + 1)))
          have bb := Lib.hid ((HBB.out.setCell (Nat.le_refl _) (p := ⟨V, 5, none⟩) (.int .i64 (0))).setCell (Nat.le_refl _) (p := ⟨V, 4, none⟩) (.int .i64 (N + 1)))
          go_wp2
          go_meet
          exact ⟨N + 1, 0, Or.inr ⟨by trivial, rfl, rfl⟩, hh.out, bb.out⟩
      case rest =>
        obtain ⟨N1, S1, hr0, hv0, hbb0⟩ := hcut
        have HVc0 := Lib.hid hv0
        have HBc0 := Lib.hid hbb0
        clear hv0 hbb0
        have l0 := cell_at HVc0.out 0
        have l1 := cell_at HVc0.out 1
        have l2 := cell_at HVc0.out 2
        have l3 := cell_at HVc0.out 3
        have l4 := cell_at HVc0.out 4
        have l5 := cell_at HVc0.out 5
        have l6 := cell_at HVc0.out 6
        simp only [Array.set!_eq_setIfInBounds, List.setIfInBounds_toArray, List.set_cons_zero, List.set_cons_succ, List.getElem?_toArray, List.getElem?_cons_zero, List.getElem?_cons_succ] at l0 l1 l2 l3 l4 l5 l6
        have f0 := free_at HVc0.out 0
        have f1 := free_at HVc0.out 1
        have f2 := free_at HVc0.out 2
        have f3 := free_at HVc0.out 3
        have f4 := free_at HVc0.out 4
        have f5 := free_at HVc0.out 5
        have f6 := free_at HVc0.out 6
        go_upto_if 49 with fail
        clear l0 l1 l2 l3 l4 l5 l6 f0 f1 f2 f3 f4 f5 f6
        go_cut [] (fun wx => ∃ H2 N2 : Int, (N1 < 60 ∧ H2 = H ∧ N2 = N1 ∨ N1 = 60 ∧ H2 = H + 1 ∧ N2 = 0) ∧ wx.heap[V]? = some (.cells #[.int .i64 Y, .int .i64 M, .int .i64 D, .int .i64 H2, .int .i64 N2, .int .i64 S1, .int .i64 K] 23 (0, 0)) ∧ Below V W2 wx)
        case first =>
          have l0 := cell_at HVc0.out 0
          have l1 := cell_at HVc0.out 1
          have l2 := cell_at HVc0.out 2
          have l3 := cell_at HVc0.out 3
          have l4 := cell_at HVc0.out 4
          have l5 := cell_at HVc0.out 5
          have l6 := cell_at HVc0.out 6
          simp only [Array.set!_eq_setIfInBounds, List.setIfInBounds_toArray, List.set_cons_zero, List.set_cons_succ, List.getElem?_toArray, List.getElem?_cons_zero, List.getElem?_cons_succ] at l0 l1 l2 l3 l4 l5 l6
          have f0 := free_at HVc0.out 0
          have f1 := free_at HVc0.out 1
          have f2 := free_at HVc0.out 2
          have f3 := free_at HVc0.out 3
          have f4 := free_at HVc0.out 4
          have f5 := free_at HVc0.out 5
          have f6 := free_at HVc0.out 6
          by_cases c1 : N1 < 60
          · have e1 : (N1 == 60) = false := by rw [beq_eq_false_iff_ne]; omega
            have hh := Lib.hid HVc0.out
            have bb := Lib.hid HBc0.out
            go_wp2
            go_meet
            exact ⟨H, N1, Or.inl ⟨c1, rfl, rfl⟩, hh.out, bb.out⟩
          · obtain rfl : N1 = 60 := by omega
            have hh := Lib.hid (heap_set (heap_set HVc0.out 4 (.int .i64 (0))) 3 (.int .i64 (H + 1)))
            have bb := Lib.hid ((HBc0.out.setCell (Nat.le_refl _) (p := ⟨V, 4, none⟩) (.int .i64 (0))).setCell (Nat.le_refl _) (p := ⟨V, 3, none⟩) (.int .i64 (H + 1)))
            go_wp2
            go_meet
            exact ⟨H + 1, 0, Or.inr ⟨by trivial, rfl, rfl⟩, hh.out, bb.out⟩
        case rest =>
          obtain ⟨H2, N2, hr1, hv1, hbb1⟩ := hcut
          have HVc1 := Lib.hid hv1
          have HBc1 := Lib.hid hbb1
          clear hv1 hbb1
          have l0 := cell_at HVc1.out 0
          have l1 := cell_at HVc1.out 1
          have l2 := cell_at HVc1.out 2
          have l3 := cell_at HVc1.out 3
          have l4 := cell_at HVc1.out 4
          have l5 := cell_at HVc1.out 5
          have l6 := cell_at HVc1.out 6
          simp only [Array.set!_eq_setIfInBounds, List.setIfInBounds_toArray, List.set_cons_zero, List.set_cons_succ, List.getElem?_toArray, List.getElem?_cons_zero, List.getElem?_cons_succ] at l0 l1 l2 l3 l4 l5 l6
          have f0 := free_at HVc1.out 0
          have f1 := free_at HVc1.out 1
          have f2 := free_at HVc1.out 2
          have f3 := free_at HVc1.out 3
          have f4 := free_at HVc1.out 4
          have f5 := free_at HVc1.out 5
          have f6 := free_at HVc1.out 6
          go_upto_if 57 with fail
          clear l0 l1 l2 l3 l4 l5 l6 f0 f1 f2 f3 f4 f5 f6
          go_cut [] (fun wx => ∃ D3 H3 K3 : Int, (H2 < 24 ∧ H3 = H2 ∧ D3 = D ∧ K3 = K ∨ H2 = 24 ∧ H3 = 0 ∧ D3 = D + 1 ∧ K3 = (K + 1) % 7) ∧ wx.heap[V]? = some (.cells #[.int .i64 Y, .int .i64 M, .int .i64 D3, .int .i64 H3, .int .i64 N2, .int .i64 S1, .int .i64 K3] 23 (0, 0)) ∧ Below V W2 wx)
          case first =>
            have l0 := cell_at HVc1.out 0
            have l1 := cell_at HVc1.out 1
            have l2 := cell_at HVc1.out 2
            have l3 := cell_at HVc1.out 3
            have l4 := cell_at HVc1.out 4
            have l5 := cell_at HVc1.out 5
            have l6 := cell_at HVc1.out 6
            simp only [Array.set!_eq_setIfInBounds, List.setIfInBounds_toArray, List.set_cons_zero, List.set_cons_succ, List.getElem?_toArray, List.getElem?_cons_zero, List.getElem?_cons_succ] at l0 l1 l2 l3 l4 l5 l6
            have f0 := free_at HVc1.out 0
            have f1 := free_at HVc1.out 1
            have f2 := free_at HVc1.out 2
            have f3 := free_at HVc1.out 3
            have f4 := free_at HVc1.out 4
            have f5 := free_at HVc1.out 5
            have f6 := free_at HVc1.out 6
            by_cases c1 : H2 < 24
            · have e1 : (H2 == 24) = false := by rw [beq_eq_false_iff_ne]; omega
              have hh := Lib.hid HVc1.out
              have bb := Lib.hid HBc1.out
              go_wp2
              go_meet
              exact ⟨D, H2, K, Or.inl ⟨c1, rfl, rfl, rfl⟩, hh.out, bb.out⟩
            · obtain rfl : H2 = 24 := by omega
              have hh := Lib.hid (heap_set (heap_set (heap_set HVc1.out 3 (.int .i64 (0))) 2 (.int .i64 (D + 1))) 6 (.int .i64 ((K + 1) % 7)))
              have bb := Lib.hid (((HBc1.out.setCell (Nat.le_refl _) (p := ⟨V, 3, none⟩) (.int .i64 (0))).setCell (Nat.le_refl _) (p := ⟨V, 2, none⟩) (.int .i64 (D + 1))).setCell (Nat.le_refl _) (p := ⟨V, 6, none⟩) (.int .i64 ((K + 1) % 7)))
              go_wp2
              go_meet
              exact ⟨D + 1, 0, (K + 1) % 7, Or.inr ⟨by trivial, rfl, rfl, rfl⟩, hh.out, bb.out⟩
          case rest =>
            obtain ⟨D3, H3, K3, hr2, hv2, hbb2⟩ := hcut
            have HVc2 := Lib.hid hv2
            have HBc2 := Lib.hid hbb2
            clear hv2 hbb2
            have l0 := cell_at HVc2.out 0
            have l1 := cell_at HVc2.out 1
            have l2 := cell_at HVc2.out 2
            have l3 := cell_at HVc2.out 3
            have l4 := cell_at HVc2.out 4
            have l5 := cell_at HVc2.out 5
            have l6 := cell_at HVc2.out 6
            simp only [Array.set!_eq_setIfInBounds, List.setIfInBounds_toArray, List.set_cons_zero, List.set_cons_succ, List.getElem?_toArray, List.getElem?_cons_zero, List.getElem?_cons_succ] at l0 l1 l2 l3 l4 l5 l6
            have f0 := free_at HVc2.out 0
            have f1 := free_at HVc2.out 1
            have f2 := free_at HVc2.out 2
            have f3 := free_at HVc2.out 3
            have f4 := free_at HVc2.out 4
            have f5 := free_at HVc2.out 5
            have f6 := free_at HVc2.out 6
            go_upto_region 19 with fail
            go_quiet ((go_at_call 12; exact Calls.quiet_of_same (HDY.out _)))
            go_upto_if 75 with fail
            clear l0 l1 l2 l3 l4 l5 l6 f0 f1 f2 f3 f4 f5 f6
            go_cut [] (fun wx => ∃ M4 D4 : Int, (D3 ≤ L ∧ D4 = D3 ∧ M4 = M ∨ L < D3 ∧ D4 = 1 ∧ M4 = M + 1) ∧ wx.heap[V]? = some (.cells #[.int .i64 Y, .int .i64 M4, .int .i64 D4, .int .i64 H3, .int .i64 N2, .int .i64 S1, .int .i64 K3] 23 (0, 0)) ∧ Below V W2 wx)
            case first =>
              have l0 := cell_at HVc2.out 0
              have l1 := cell_at HVc2.out 1
              have l2 := cell_at HVc2.out 2
              have l3 := cell_at HVc2.out 3
              have l4 := cell_at HVc2.out 4
              have l5 := cell_at HVc2.out 5
              have l6 := cell_at HVc2.out 6
              simp only [Array.set!_eq_setIfInBounds, List.setIfInBounds_toArray, List.set_cons_zero, List.set_cons_succ, List.getElem?_toArray, List.getElem?_cons_zero, List.getElem?_cons_succ] at l0 l1 l2 l3 l4 l5 l6
              have f0 := free_at HVc2.out 0
              have f1 := free_at HVc2.out 1
              have f2 := free_at HVc2.out 2
              have f3 := free_at HVc2.out 3
              have f4 := free_at HVc2.out 4
              have f5 := free_at HVc2.out 5
              have f6 := free_at HVc2.out 6
              by_cases c1 : D3 ≤ L
              · have e1 : ¬ L < D3 := by omega
                have hh := Lib.hid HVc2.out
                go_wp2
                go_meet
                exact ⟨M, D3, Or.inl ⟨c1, rfl, rfl⟩, hh.out, (below_drewN HBc2.out _)⟩
              · have e1 : L < D3 := by omega
                have hh := Lib.hid (heap_set (heap_set HVc2.out 2 (.int .i64 (1))) 1 (.int .i64 (M + 1)))
                go_wp2
                go_meet
                exact ⟨M + 1, 1, Or.inr ⟨e1, rfl, rfl⟩, hh.out, (((below_drewN HBc2.out _).setCell (Nat.le_refl _) (p := ⟨V, 2, none⟩) (.int .i64 (1))).setCell (Nat.le_refl _) (p := ⟨V, 1, none⟩) (.int .i64 (M + 1)))⟩
            case rest =>
              obtain ⟨M4, D4, hr3, hv3, hbb3⟩ := hcut
              have HVc3 := Lib.hid hv3
              have HBc3 := Lib.hid hbb3
              clear hv3 hbb3
              have l0 := cell_at HVc3.out 0
              have l1 := cell_at HVc3.out 1
              have l2 := cell_at HVc3.out 2
              have l3 := cell_at HVc3.out 3
              have l4 := cell_at HVc3.out 4
              have l5 := cell_at HVc3.out 5
              have l6 := cell_at HVc3.out 6
              simp only [Array.set!_eq_setIfInBounds, List.setIfInBounds_toArray, List.set_cons_zero, List.set_cons_succ, List.getElem?_toArray, List.getElem?_cons_zero, List.getElem?_cons_succ] at l0 l1 l2 l3 l4 l5 l6
              have f0 := free_at HVc3.out 0
              have f1 := free_at HVc3.out 1
              have f2 := free_at HVc3.out 2
              have f3 := free_at HVc3.out 3
              have f4 := free_at HVc3.out 4
              have f5 := free_at HVc3.out 5
              have f6 := free_at HVc3.out 6
              go_upto_if 83 with fail
              clear l0 l1 l2 l3 l4 l5 l6 f0 f1 f2 f3 f4 f5 f6
              go_cut [] (fun wx => ∃ Y5 M5 : Int, (M4 < 13 ∧ M5 = M4 ∧ Y5 = Y ∨ M4 = 13 ∧ M5 = 1 ∧ Y5 = Y + 1) ∧ wx.heap[V]? = some (.cells #[.int .i64 Y5, .int .i64 M5, .int .i64 D4, .int .i64 H3, .int .i64 N2, .int .i64 S1, .int .i64 K3] 23 (0, 0)) ∧ Below V W2 wx)
              case first =>
                have l0 := cell_at HVc3.out 0
                have l1 := cell_at HVc3.out 1
                have l2 := cell_at HVc3.out 2
                have l3 := cell_at HVc3.out 3
                have l4 := cell_at HVc3.out 4
                have l5 := cell_at HVc3.out 5
                have l6 := cell_at HVc3.out 6
                simp only [Array.set!_eq_setIfInBounds, List.setIfInBounds_toArray, List.set_cons_zero, List.set_cons_succ, List.getElem?_toArray, List.getElem?_cons_zero, List.getElem?_cons_succ] at l0 l1 l2 l3 l4 l5 l6
                have f0 := free_at HVc3.out 0
                have f1 := free_at HVc3.out 1
                have f2 := free_at HVc3.out 2
                have f3 := free_at HVc3.out 3
                have f4 := free_at HVc3.out 4
                have f5 := free_at HVc3.out 5
                have f6 := free_at HVc3.out 6
                by_cases c1 : M4 < 13
                · have e1 : (M4 == 13) = false := by rw [beq_eq_false_iff_ne]; omega
                  have hh := Lib.hid HVc3.out
                  have bb := Lib.hid HBc3.out
                  go_wp2
                  go_meet
                  exact ⟨Y, M4, Or.inl ⟨c1, rfl, rfl⟩, hh.out, bb.out⟩
                · obtain rfl : M4 = 13 := by omega
                  have hh := Lib.hid (heap_set (heap_set HVc3.out 1 (.int .i64 (1))) 0 (.int .i64 (Y + 1)))
                  have bb := Lib.hid ((HBc3.out.setCell (Nat.le_refl _) (p := ⟨V, 1, none⟩) (.int .i64 (1))).setCell (Nat.le_refl _) (p := ⟨V, 0, none⟩) (.int .i64 (Y + 1)))
                  go_wp2
                  go_meet
                  exact ⟨Y + 1, 1, Or.inr ⟨by trivial, rfl, rfl⟩, hh.out, bb.out⟩
              case rest =>
                obtain ⟨Y5, M5, hr4, hv4, hbb4⟩ := hcut
                have HVc4 := Lib.hid hv4
                have HBc4 := Lib.hid hbb4
                clear hv4 hbb4
                have hfin : Y5 = Y' ∧ M5 = M' ∧ D4 = D' ∧ H3 = H' ∧ N2 = N' ∧ S1 = S' ∧ K3 = K' := by
                  clear HVc0 HVc1 HVc2 HVc3 HVc4 HBc0 HBc1 HBc2 HBc3 HBc4
                  rcases hcase with h | h | h | h | h | h <;> omega
                obtain ⟨rfl, rfl, rfl, rfl, rfl, rfl, rfl⟩ := hfin
                clear hr0 hr1 hr2 hr3 hr4 hcase
                have cB := Lib.hid (below_heap HBc4.out HC3.out HVB.out)
                have hbx := HBW.out.trans (HBc4.out.mono HWV.out)
                have tx := HT.out.below hbx
                obtain ⟨y, g, hg01, hgy, hst⟩ := stamp_any u
                have HST := Lib.hid hst
                have HGY := Lib.hid hgy
                have HBX := Lib.hid hbx
                have TX := Lib.hid tx
                clear hbx tx hst hgy HVc0 HVc1 HVc2 HVc3 HBc0 HBc1 HBc2 HBc3
                go_wp2_with fail
                refine (stamp_in t _ hin.1 hin.2 TX.out).mono ?_
                rintro e w5 ⟨rfl, hb5⟩
                have HB5 := Lib.hid hb5
                have T5 := Lib.hid (TX.out.below hb5)
                clear hb5
                go_wp2_with fail
                refine (HST.out _ T5.out).mono ?_
                rintro e w6 ⟨rfl, hb6⟩
                have hb6' := HB5.out.trans (hb6.mono HB5.out.size)
                have HB6 := Lib.hid hb6'
                have T6 := Lib.hid (T5.out.below hb6)
                clear hb6 hb6'
                go_wp2_with fail
                refine (awake_any _ T6.out).mono ?_
                rintro e w7 ⟨rfl, hb7⟩
                have hb7' := HB6.out.trans (hb7.mono HB6.out.size)
                have cV7 := below_heap hb7' HVc4.out (lt_of_block HVc4.out)
                have cB7 := below_heap hb7' cB.out (lt_of_block cB.out)
                have HB7 := Lib.hid (HBX.out.trans (hb7'.mono HBX.out.size))
                have CV7 := Lib.hid cV7
                have CB7 := Lib.hid cB7
                clear hb7 hb7' cV7 cB7
                clear HF HF2 HDY C1 HS1 HB1 HZ HA HC3 HS2 HBW HBc4 HVc4 cB HWV HVB TX T5 T6 HST HB5 HB6 HBX
                have l0 := cell_at CV7.out 0
                have m0 := cell_at CB7.out 0
                have l1 := cell_at CV7.out 1
                have m1 := cell_at CB7.out 1
                have l2 := cell_at CV7.out 2
                have m2 := cell_at CB7.out 2
                have l3 := cell_at CV7.out 3
                have m3 := cell_at CB7.out 3
                have l4 := cell_at CV7.out 4
                have m4 := cell_at CB7.out 4
                have l5 := cell_at CV7.out 5
                have m5 := cell_at CB7.out 5
                have l6 := cell_at CV7.out 6
                have m6 := cell_at CB7.out 6
                simp only [List.getElem?_toArray, List.getElem?_cons_zero, List.getElem?_cons_succ] at l0 l1 l2 l3 l4 l5 l6 m0 m1 m2 m3 m4 m5 m6
                rcases hg01 with rfl | rfl
                · obtain ⟨u1, u2, hy⟩ := HGY.out rfl
                  subst hy
                  have hl := stamp_less t u hin.1 hin.2 u1 u2
                  have he := stamp_eq t u hin.1 hin.2 u1 u2
                  go_wp2
                  go_ret
                  refine ⟨?_, HB7.out⟩
                  have e2 : ((stampOf t == stampOf u) == (t == u)) = true := by
                    by_cases h : t = u
                    · rw [h]; simp
                    · rw [beq_eq_false_iff_ne.2 h, beq_eq_false_iff_ne.2 (fun e => h (he.1 e))]; rfl
                  show Ending.returned (.bool ((stampOf t == stampOf u) == (t == u))) = _
                  rw [e2]
                · go_wp2
                  go_ret
                  exact ⟨rfl, HB7.out⟩
    · have g1 : t = 253402300799 := by omega
      subst g1
      have hf2 : ∀ W, _ := fun W => hf W
      unfold fromV dateV at hf2
      generalize dY (dayOf 253402300799) = Y at hf2
      generalize dM (dayOf 253402300799) = M at hf2
      generalize dD (dayOf 253402300799) = D at hf2
      generalize secIn 253402300799 / 3600 = H at hf2
      generalize secIn 253402300799 / 60 % 60 = N at hf2
      generalize secIn 253402300799 % 60 = S at hf2
      generalize (dayOf 253402300799 + 1) % 7 = K at hf2
      have HF := Lib.hid hf2
      clear hf hf2
      go_enter Tryd.func4, Tryd.ntmps4
      go_wp2_with fail
      refine (HF.out _).mono ?_
      rintro e w1 ⟨rfl, hb1⟩
      have hb1' := hb1.alloc hb1.size (.cells #[.int .i64 Y, .int .i64 M, .int .i64 D, .int .i64 H, .int .i64 N, .int .i64 S, .int .i64 K] 23)
      have T1 := Lib.hid (HT.out.below hb1')
      have HB1 := Lib.hid hb1'
      clear hb1 hb1'
      go_wp2_with fail
      refine (awake_any _ T1.out).mono ?_
      rintro e w2 ⟨rfl, hb2⟩
      go_wp2
      go_ret
      exact ⟨rfl, HB1.out.trans (hb2.mono HB1.out.size)⟩
  · have hf := fun W => from_out t W (by omega)
    unfold dateV at hf
    have HF := Lib.hid hf
    clear hf hin
    go_enter Tryd.func4, Tryd.ntmps4
    go_wp2_with fail
    refine (HF.out _).mono ?_
    rintro e w1 ⟨rfl, hb1⟩
    have hb1' := hb1.alloc hb1.size (.cells #[.int .i64 0, .int .i64 0, .int .i64 0, .int .i64 0, .int .i64 0, .int .i64 0, .int .i64 0] 23)
    have T1 := Lib.hid (HT.out.below hb1')
    have HB1 := Lib.hid hb1'
    clear hb1 hb1'
    go_wp2_with fail
    refine (awake_any _ T1.out).mono ?_
    rintro e w2 ⟨rfl, hb2⟩
    go_wp2
    go_ret
    exact ⟨rfl, HB1.out.trans (hb2.mono HB1.out.size)⟩
end Go.Proofs.YtkpiebcncjlgcaaDoor
