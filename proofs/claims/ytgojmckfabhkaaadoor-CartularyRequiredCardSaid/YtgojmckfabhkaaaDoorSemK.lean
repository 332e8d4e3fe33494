/- THE WALK of semver.Compare at two versions that have the same three numbers. Conditions: bounds on lengths. -/
import Derived.Test.YtgojmckfabhkaaaDoorSemJ
import Derived.Test.YtgojmckfabhkaaaDoorSemE
import Derived.Deep.RegionHeld3
namespace Go.Proofs.YtgojmckfabhkaaaDoor.Sem
open Go Go.RowKit
set_option linter.unusedVariables false

set_option maxRecDepth 100000 in
set_option maxHeartbeats 8000000 in
theorem compare_raw (S1 S2 M N P X Y b b' : ByteArray) (s s' z : Int) (w : World)
    (H1 : Hid (∀ W, Calls Tryd.prog 14 #[.string S1] W fun e w' => e = .returned (.tuple #[.agg #[.string M, .string N, .string P, .string X, .string b, .int .i64 s], .bool true]) ∧ Below W.heap.size W w'))
    (H2 : Hid (∀ W, Calls Tryd.prog 14 #[.string S2] W fun e w' => e = .returned (.tuple #[.agg #[.string M, .string N, .string P, .string Y, .string b', .int .i64 s'], .bool true]) ∧ Below W.heap.size W w'))
    (HM : Hid (∀ W, Calls Tryd.prog 28 #[.string M, .string M] W fun e w' => e = .returned (.int .i64 0) ∧ W = w'))
    (HN : Hid (∀ W, Calls Tryd.prog 28 #[.string N, .string N] W fun e w' => e = .returned (.int .i64 0) ∧ W = w'))
    (HP : Hid (∀ W, Calls Tryd.prog 28 #[.string P, .string P] W fun e w' => e = .returned (.int .i64 0) ∧ W = w'))
    (HW : Hid (∀ W, Calls Tryd.prog 29 #[.string X, .string Y] W fun e w' => e = .returned (.int .i64 z) ∧ Below W.heap.size W w')) :
    Calls Tryd.prog 12 #[.string S1, .string S2] w fun e w' => e = .returned (.int .i64 z) ∧ Below w.heap.size w w' := by
  go_enter Tryd.func12, Tryd.ntmps12
  go_wp2_with fail
  refine (H1.out _).mono ?_
  rintro e w1 ⟨rfl, hb1⟩
  have HC5 := Lib.hid (heap_alloc_same w1 (.cells #[.string M, .string N, .string P, .string X, .string b, .int .i64 s] 44))
  have HB1 := Lib.hid (hb1.alloc hb1.size (.cells #[.string M, .string N, .string P, .string X, .string b, .int .i64 s] 44))
  clear hb1
  go_wp2_with fail
  refine (H2.out _).mono ?_
  rintro e w2 ⟨rfl, hb2⟩
  have hl5 := lt_of_block HC5.out
  have hc5 := below_heap hb2 HC5.out hl5
  have hb2' := below_next HB1.out hb2 HB1.out.size
  have HC5' := Lib.hid (heap_alloc_keep hc5 (.cells #[.string M, .string N, .string P, .string Y, .string b', .int .i64 s'] 44))
  have HC7 := Lib.hid (heap_alloc_same w2 (.cells #[.string M, .string N, .string P, .string Y, .string b', .int .i64 s'] 44))
  have HB2 := Lib.hid (hb2'.alloc hb2'.size (.cells #[.string M, .string N, .string P, .string Y, .string b', .int .i64 s'] 44))
  have hlt5 := lt_of_block hc5
  have hsz : (w2.alloc (.cells #[.string M, .string N, .string P, .string Y, .string b', .int .i64 s'] 44)).heap.size = w2.heap.size + 1 := World.size_alloc _ _
  obtain ⟨B5, hB5⟩ : ∃ B5, B5 = w1.heap.size := ⟨_, rfl⟩
  obtain ⟨B7, hB7⟩ : ∃ B7, B7 = w2.heap.size := ⟨_, rfl⟩
  clear hc5 hb2 hb2' hl5 HB1 HC5
  go_wp2_with fail
  obtain ⟨W0, hW0⟩ : ∃ W0, W0 = w2.alloc (.cells #[.string M, .string N, .string P, .string Y, .string b', .int .i64 s'] 44) := ⟨_, rfl⟩
  rw [← hW0] at HC5' HC7 HB2 hsz ⊢
  rw [← hB5] at HC5' hlt5 ⊢
  rw [← hB7] at HC7 hlt5 hsz ⊢
  clear hW0 hB5 hB7
  have HSZ := Lib.hid hsz
  have HL5 := Lib.hid hlt5
  clear hsz hlt5
  have HS : Hid (∀ w', Below (B7 + 1) W0 w' → (w'.cell? ⟨B5, 0, none⟩ = some (.string M) ∧ w'.cell? ⟨B5, 1, none⟩ = some (.string N) ∧ w'.cell? ⟨B5, 2, none⟩ = some (.string P) ∧ w'.cell? ⟨B5, 3, none⟩ = some (.string X) ∧
      w'.cell? ⟨B7, 0, none⟩ = some (.string M) ∧ w'.cell? ⟨B7, 1, none⟩ = some (.string N) ∧ w'.cell? ⟨B7, 2, none⟩ = some (.string P) ∧ w'.cell? ⟨B7, 3, none⟩ = some (.string Y) ∧ Below (B7 + 1) W0 w')) :=
    Lib.hid (fun w' hb => by
      have h5 := below_heap hb HC5'.out (by have := HL5.out; omega)
      have h7 := below_heap hb HC7.out (by omega)
      exact ⟨cell_at h5 0, cell_at h5 1, cell_at h5 2, cell_at h5 3, cell_at h7 0, cell_at h7 1, cell_at h7 2, cell_at h7 3, hb⟩)
  have hbd : Below (B7 + 1) W0 W0.drew := (Below.refl _ _).drew
  go_region_held3 (fun w' => w'.cell? ⟨B5, 0, none⟩ = some (.string M) ∧ w'.cell? ⟨B5, 1, none⟩ = some (.string N) ∧ w'.cell? ⟨B5, 2, none⟩ = some (.string P) ∧ w'.cell? ⟨B5, 3, none⟩ = some (.string X) ∧
      w'.cell? ⟨B7, 0, none⟩ = some (.string M) ∧ w'.cell? ⟨B7, 1, none⟩ = some (.string N) ∧ w'.cell? ⟨B7, 2, none⟩ = some (.string P) ∧ w'.cell? ⟨B7, 3, none⟩ = some (.string Y) ∧ Below (B7 + 1) W0 w')
    (first
      | exact HS.out _ hq
      | exact HS.out _ hbd
      | exact HS.out _ (hq.alloc (by have h8 := hq.size; have h9 := HSZ.out; omega) _))
    (first
      | (go_at_call 28
         (with_reducible refine (HM.out _).mono ?_)
         rintro e w' ⟨rfl, hw⟩
         have hq : Below (B7 + 1) W0 w' := hw ▸ (by assumption))
      | (go_at_call 28
         (with_reducible refine (HN.out _).mono ?_)
         rintro e w' ⟨rfl, hw⟩
         have hq : Below (B7 + 1) W0 w' := hw ▸ (by assumption))
      | (go_at_call 28
         (with_reducible refine (HP.out _).mono ?_)
         rintro e w' ⟨rfl, hw⟩
         have hq : Below (B7 + 1) W0 w' := hw ▸ (by assumption))
      | (go_at_call 29
         (with_reducible refine (HW.out _).mono ?_)
         rintro e w' ⟨rfl, hb⟩
         have hq : Below (B7 + 1) W0 w' := below_next (by assumption) hb (Below.size (by assumption)) (by rw [HSZ.out]; exact Nat.le_refl _)))
  have hfin := hq.alloc (by have h8 := hq.size; have h9 := HSZ.out; omega) (.cells #[.int .i64 0, .int .i64 0, .int .i64 0, .int .i64 z] 3)
  have hrow := heap_alloc_same w' (.cells #[.int .i64 0, .int .i64 0, .int .i64 0, .int .i64 z] 3)
  have k0 := cell_at hrow 0
  have k1 := cell_at hrow 1
  have k2 := cell_at hrow 2
  have k3 := cell_at hrow 3
  simp only [List.getElem?_toArray, List.getElem?_cons_zero, List.getElem?_cons_succ] at k0 k1 k2 k3
  generalize w'.heap.size = G at k0 k1 k2 k3 ⊢
  generalize w'.alloc (.cells #[.int .i64 0, .int .i64 0, .int .i64 0, .int .i64 z] 3) = W9 at k0 k1 k2 k3 hfin ⊢
  have HF : Hid (Below w.heap.size w W9) := Lib.hid (HB2.out.trans (hfin.mono (by have h8 := HB2.out.size; have h9 := HSZ.out; omega)))
  clear hfin hrow hbd
  clear hq hw hb HS
  go_wp2
  go_loop [53] (fun iv => ∃ i : Nat, i ≤ 4 ∧ iv = .int .i64 (i : Int) ∧ (i = 4 → z = 0)) (fun iv => 4 - (intOf iv).toNat)
  case atStart => exact ⟨0, by omega, rfl, fun h => by omega⟩
  case round =>
    obtain ⟨i, hi, rfl, hz0⟩ := hrel
    have HZ := Lib.hid hz0
    clear hz0
    have hc : i = 0 ∨ i = 1 ∨ i = 2 ∨ i = 3 ∨ i = 4 := by omega
    rcases hc with rfl | rfl | rfl | rfl | rfl
    · go_wp2
      go_round
      case rel => exact ⟨1, by omega, rfl, fun h => by omega⟩
      case measure => simp [intOf]
    · go_wp2
      go_round
      case rel => exact ⟨2, by omega, rfl, fun h => by omega⟩
      case measure => simp [intOf]
    · go_wp2
      go_round
      case rel => exact ⟨3, by omega, rfl, fun h => by omega⟩
      case measure => simp [intOf]
    · by_cases hz : z = 0
      · have HZ2 := Lib.hid hz
        have q : (z != 0) = false := by rw [hz]; rfl
        clear hz
        go_wp2
        go_round
        case rel => exact ⟨4, by omega, rfl, fun _ => HZ2.out⟩
        case measure => simp [intOf]
      · have q : (z != 0) = true := by rw [bne_iff_ne]; exact hz
        go_wp2
        go_ret
        exact ⟨rfl, HF.out⟩
    · have HZ3 : Hid (z = 0) := Lib.hid (HZ.out rfl)
      go_wp2
      go_ret
      exact ⟨by rw [HZ3.out]; rfl, HF.out⟩

theorem parse_some (l : List UInt8) (v : Ver) (w : World) (hz : l.length ≤ 1000000) (h : pparse l = some v) :
    Calls Tryd.prog 14 #[.string (tx l)] w fun e w' => e = .returned (.tuple #[.agg #[.string (tx v.maj), .string (tx v.mnr), .string (tx v.pat), .string (tx v.pre), .string (tx v.bld), .int .i64 (v.short : Int)], .bool true]) ∧ Below w.heap.size w w' := by
  have h1 := parse_any l w (by omega)
  unfold ParseV at h1
  rw [h] at h1
  exact h1
theorem parse_none (l : List UInt8) (w : World) (hz : l.length ≤ 1000000) (h : pparse l = none) :
    Calls Tryd.prog 14 #[.string (tx l)] w fun e w' => e = .returned (.tuple #[.agg zerA, .bool false]) ∧ Below w.heap.size w w' := by
  have h1 := parse_any l w (by omega)
  unfold ParseV at h1
  rw [h] at h1
  exact h1

theorem compare_any (l l' M m p P P' b b' : List UInt8) (s s' : Nat) (z : Int) (w : World) (hz : l.length ≤ 1000) (hz' : l'.length ≤ 1000) (hM : M.length ≤ 1000) (hm : m.length ≤ 1000) (hp : p.length ≤ 1000) (h : pparse l = some ⟨M, m, p, P, b, s⟩) (h' : pparse l' = some ⟨M, m, p, P', b', s'⟩)
    (hw : ∀ W, Calls Tryd.prog 29 #[.string (tx P), .string (tx P')] W fun e w' => e = .returned (.int .i64 z) ∧ Below W.heap.size W w') :
    Calls Tryd.prog 12 #[.string (tx l), .string (tx l')] w fun e w' => e = .returned (.int .i64 z) ∧ Below w.heap.size w w' :=
  compare_raw (tx l) (tx l') (tx M) (tx m) (tx p) (tx P) (tx P') (tx b) (tx b') s s' z w
    (Lib.hid (fun W => parse_some l _ W (by omega) h)) (Lib.hid (fun W => parse_some l' _ W (by omega) h'))
    (Lib.hid (fun W => by have h9 := byNumber_len M M W (by omega) rfl; rw [cmp_self] at h9; exact h9)) (Lib.hid (fun W => by have h9 := byNumber_len m m W (by omega) rfl; rw [cmp_self] at h9; exact h9))
    (Lib.hid (fun W => by have h9 := byNumber_len p p W (by omega) rfl; rw [cmp_self] at h9; exact h9)) (Lib.hid hw)
end Go.Proofs.YtgojmckfabhkaaaDoor.Sem
