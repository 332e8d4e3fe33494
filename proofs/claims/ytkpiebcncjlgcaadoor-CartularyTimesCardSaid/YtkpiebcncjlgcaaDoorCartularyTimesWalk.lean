/- THE WALK of 'CartularyTimes'. Conditions: the library's table stands. -/
import Derived.Test.YtkpiebcncjlgcaaDoorSemM
import Derived.Test.YtkpiebcncjlgcaaDoorSemL
import Derived.Test.YtkpiebcncjlgcaaDoorCalAwake
namespace Go.Proofs.YtkpiebcncjlgcaaDoor.Sem
open Go Go.RowKit
set_option linter.unusedVariables false

/-- What a stamp answers, in range or not. -/
theorem stamp_ans (u : Int) : ∃ (y : ByteArray) (g : Int), (g = 0 ∨ g = 1) ∧ (g = 0 → -62135596800 ≤ u ∧ u ≤ 253402300799 ∧ y = tx (stampOf u)) ∧ ∀ w, tabOk w → Calls Tryd.prog 16 #[.int .i64 u] w fun e w' => e = .returned (.tuple #[.string y, .int .i64 g]) ∧ Below w.heap.size w w' := by
  by_cases h : -62135596800 ≤ u ∧ u ≤ 253402300799
  · exact ⟨_, 0, Or.inl rfl, fun _ => ⟨h.1, h.2, rfl⟩, fun w ht => stamp_in u w h.1 h.2 ht⟩
  · exact ⟨_, 1, Or.inr rfl, fun h => by omega, fun w ht => stamp_out u w (by omega)⟩
theorem stamp_first (w : World) (ht : tabOk w) : Calls Tryd.prog 16 #[.int .i64 1136214245] w fun e w' => e = .returned (.tuple #[.string ⟨#[50, 48, 48, 54, 48, 49, 48, 50, 49, 53, 48, 52, 48, 53]⟩, .int .i64 0]) ∧ Below w.heap.size w w' := by
  have := stamp_in 1136214245 w (by omega) (by omega) ht
  rw [stamp_known] at this
  exact this

set_option maxRecDepth 100000 in
set_option maxHeartbeats 8000000 in
theorem times_main (t u : Int) (front : List UInt8) (w : World) (ht : tabOk w) (h1 : 0 ≤ t) (h2 : t ≤ 253402300799) (k1 : 0 ≤ u) (k2 : u ≤ 253402300799) (hf : front.length ≤ 40) (e1 : ∀ w, tabOk w → Calls Tryd.prog 16 #[.int .i64 t] w fun e w' => e = .returned (.tuple #[.string (tx (stampOf t)), .int .i64 0]) ∧ Below w.heap.size w w')
    (e2 : ∀ w, tabOk w → Calls Tryd.prog 16 #[.int .i64 u] w fun e w' => e = .returned (.tuple #[.string (tx (stampOf u)), .int .i64 0]) ∧ Below w.heap.size w w') :
    Calls Tryd.prog 7 #[.int .i64 t, .int .i64 u, .string (tx front)] w fun e w' => e = .returned (.bool true) ∧ Below w.heap.size w w' := by
  have HT := Lib.hid ht
  have HE1 := Lib.hid e1
  have HE2 := Lib.hid e2
  have a2 := (stampOf_is t (by omega) h2).2.1
  have b2 := (stampOf_is u (by omega) k2).2.1
  have hxl : (front ++ 45 :: stampOf t).length ≤ 1000 := by simp [a2]; omega
  have hyl : (front ++ 45 :: stampOf u).length ≤ 1000 := by simp [b2]; omega
  have HXL := Lib.hid hxl
  have HYL := Lib.hid hyl
  have hx : tx front ++ ⟨#[45]⟩ ++ tx (stampOf t) = tx (front ++ 45 :: stampOf t) := by
    rw [show (⟨#[45]⟩ : ByteArray) = tx [45] from rfl, tx_append, tx_append]; simp
  have hy : tx front ++ ⟨#[45]⟩ ++ tx (stampOf u) = tx (front ++ 45 :: stampOf u) := by
    rw [show (⟨#[45]⟩ : ByteArray) = tx [45] from rfl, tx_append, tx_append]; simp
  have s1 := tx_size front
  have s2 := tx_size (stampOf t)
  have s3 := tx_size (stampOf u)
  rw [a2] at s2
  rw [b2] at s3
  obtain ⟨F, hF⟩ : ∃ F, F = tx front := ⟨_, rfl⟩
  obtain ⟨A, hA⟩ : ∃ A, A = tx (stampOf t) := ⟨_, rfl⟩
  obtain ⟨B, hB⟩ : ∃ B, B = tx (stampOf u) := ⟨_, rfl⟩
  have hFs : F.size ≤ 40 := by rw [hF, s1]; exact hf
  rw [← hF] at hx hy ⊢
  rw [← hA] at hx s2 HE1
  rw [← hB] at hy s3 HE2
  have HA := Lib.hid hA
  have HFL := Lib.hid hf
  clear ht e1 e2 hxl hyl s1 hF hA hB hf a2 b2
  go_enter Tryd.func7, Tryd.ntmps7
  go_wp2_with fail
  refine (stamp_first w HT.out).mono ?_
  rintro e w1 ⟨rfl, hb1⟩
  have HT1 := Lib.hid (HT.out.below hb1)
  have HB1 := Lib.hid hb1
  clear hb1 HT
  go_wp2_with fail
  refine (HE1.out _ HT1.out).mono ?_
  rintro e w2 ⟨rfl, hb2⟩
  have HT2 := Lib.hid (HT1.out.below hb2)
  have HB2 := Lib.hid (below_next HB1.out hb2 HB1.out.size)
  clear hb2 HT1 HB1
  go_wp2_with fail
  refine (HE2.out _ HT2.out).mono ?_
  rintro e w3 ⟨rfl, hb3⟩
  have HB3 := Lib.hid (below_next HB2.out hb3 HB2.out.size)
  clear hb3 HT2 HB2 HE1 HE2
  go_wp2_with fail
  refine (rparse_all _ _ HXL.out).mono ?_
  rintro e w4 ⟨hrp, hb4⟩
  have HB4 := Lib.hid (below_next HB3.out hb4 HB3.out.size)
  clear hb4 HB3 hx hy
  rcases hrp with ⟨hn, rfl⟩ | ⟨v, q0, q1, q2, q5, hv, rfl⟩
  · -- none: the program takes it for none, too
    have hpn : pparse (front ++ 45 :: stampOf t) = none := by
      cases hp : pparse (front ++ 45 :: stampOf t) with
      | none => rfl
      | some v => exact absurd hn (rparse_ne hp)
    have HCN := Lib.hid (fun W => canonical_none _ W (by have := HXL.out; omega) hpn)
    have HB5 := Lib.hid (HB4.out.alloc HB4.out.size (.cells #[.string ⟨#[]⟩, .string ⟨#[]⟩, .string ⟨#[]⟩, .string ⟨#[]⟩, .string ⟨#[]⟩, .int .i64 0] 45))
    unfold zerA
    clear hn hpn
    go_wp2_with fail
    refine (HCN.out _).mono ?_
    rintro e w6 ⟨rfl, hb6⟩
    have HB6 := Lib.hid (below_next HB5.out hb6 HB5.out.size)
    clear hb6
    go_wp2
    go_ret
    exact ⟨rfl, HB6.out⟩
  · have tb := tx_toList v.bld
    have HB5 := Lib.hid (HB4.out.alloc HB4.out.size (.cells #[.string q0, .string q1, .string q2, .string (tx v.pre), .string (tx v.bld), .int .i64 q5] 45))
    by_cases hbl : v.bld = []
    · obtain ⟨M, m, p, C, x, y, px, py, lM, lm, lp, lx, ly, hC, x46, y46, x0, y0, xl, xd, xe, c1, c2, D, hD⟩ := times_law front t u v h1 h2 k1 k2 (by have := HFL.out; omega) hv hbl
      have hcx := fun W => compare_any _ _ M m p (C ++ x) (C ++ y) [] [] 0 0 _ W HXL.out HYL.out (by omega) (by omega) (by omega) px py (fun W => byWords_end C x y W hC x46 y46 x0 y0 xl xd (by omega))
      have hcy := fun W => compare_any _ _ M m p (C ++ y) (C ++ x) [] [] 0 0 _ W HYL.out HXL.out (by omega) (by omega) (by omega) py px (fun W => byWords_end C y x W hC y46 x46 y0 x0 xl.symm xd.symm (by omega))
      rw [c1] at hcx
      rw [c2] at hcy
      have hps := fun W => parse_some (front ++ 45 :: stampOf t) _ W (by have := HXL.out; omega) px
      simp only [] at hps
      rw [hD] at hps
      have hXY : wantI t u = 0 → tx (front ++ 45 :: stampOf t) = tx (front ++ 45 :: stampOf u) := fun h => by
        have : t = u := by unfold wantI at h; split at h; cases h; split at h; assumption; cases h
        rw [this]
      obtain ⟨X, hX⟩ : ∃ X, X = tx (front ++ 45 :: stampOf t) := ⟨_, rfl⟩
      obtain ⟨Y, hY⟩ : ∃ Y, Y = tx (front ++ 45 :: stampOf u) := ⟨_, rfl⟩
      have HCX : Hid (∀ W, Calls Tryd.prog 25 #[.string X, .string Y] W fun e w' => e = .returned (.int .i64 (wantI t u)) ∧ Below W.heap.size W w') := Lib.hid (fun W => by rw [hX, hY]; exact hcx W)
      have HCY : Hid (∀ W, Calls Tryd.prog 25 #[.string Y, .string X] W fun e w' => e = .returned (.int .i64 (wantI u t)) ∧ Below W.heap.size W w') := Lib.hid (fun W => by rw [hX, hY]; exact hcy W)
      have HPS : Hid (∀ W, Calls Tryd.prog 23 #[.string X] W fun e w' => e = .returned (.tuple #[.agg #[.string (tx M), .string (tx m), .string (tx p), .string (tx (D ++ stampOf t)), .string (tx []), .int .i64 0], .bool true]) ∧ Below W.heap.size W w') := Lib.hid (fun W => by rw [hX]; exact hps W)
      have HXY : Hid (wantI t u = 0 → X = Y) := Lib.hid (fun h => by rw [hX, hY]; exact hXY h)
      have HBE := Lib.hid (fun W => before_any X Y (wantI t u) W HCX HXY.out)
      rw [← hX, ← hY]
      -- the last fourteen bytes
      have z2 : (stampOf t).length = 14 := (stampOf_is t (by omega) h2).2.1
      have z1 : (tx (D ++ stampOf t)).size = D.length + 14 := by rw [tx_size]; simp [z2]
      have zD : D.length ≤ 100 := by have h9 := lx; rw [hD] at h9; simp at h9; omega
      have z3 : (tx (D ++ stampOf t)).extract D.length (D.length + 14) = tx (stampOf t) := by
        rw [tx_extract, List.take_of_length_le (by simp [z2]), List.drop_left' rfl]
      have z4 : (tx (D ++ stampOf t)).extract D.length (tx (D ++ stampOf t)).size = tx (stampOf t) := by rw [z1]; exact z3
      have hub := stamp_back t (by omega) h2
      have HUN : Hid (∀ W, Calls Tryd.prog 14 #[.string (tx (stampOf t))] W fun e w' => e = .returned (.tuple #[.int .i64 t, .int .i64 0]) ∧ Below W.heap.size W w') := Lib.hid (fun W => unstamp_14 _ W hub.1 (t, 0) hub.2)
      obtain ⟨E, hE⟩ : ∃ E, E = tx (D ++ stampOf t) := ⟨_, rfl⟩
      rw [← hE] at z1 z3 z4 HPS
      generalize tx (stampOf t) = G at z3 z4 HUN
      generalize tx M = SM at HPS
      generalize tx m = Sm at HPS
      generalize tx p = Sp at HPS
      generalize D.length = n at z1 z3 z4 zD
      clear hv px py lM lm lp lx ly hC x46 y46 x0 y0 xl xd xe c1 c2 hD hcx hcy hps hXY hX hY hE z2 hub s2 s3
      rw [hbl] at tb HB5 ⊢
      generalize tx v.pre = PS at HB5 ⊢
      clear hbl
      have key : (t < u ∧ wantI t u = -1 ∧ wantI u t = 1) ∨ (t = u ∧ wantI t u = 0 ∧ wantI u t = 0) ∨ (u < t ∧ wantI t u = 1 ∧ wantI u t = -1) := by
        unfold wantI
        rcases Int.lt_trichotomy t u with h | h | h
        · left; exact ⟨h, by rw [if_pos h], by rw [if_neg (by omega), if_neg (by omega)]⟩
        · right; left; subst h; exact ⟨rfl, by simp, by simp⟩
        · right; right; exact ⟨h, by rw [if_neg (by omega), if_neg (by omega)], by rw [if_pos h]⟩
      rcases key with ⟨k, kx, ky⟩ | ⟨k, kx, ky⟩ | ⟨k, kx, ky⟩
      · rw [kx] at HCX HBE
        rw [ky] at HCY
        rw [show decide ((-1 : Int) < 0) = true from rfl] at HBE
        clear kx ky HXY
        have hgt : ¬ u < t := by omega
        go_wp2_with fail
        refine (HPS.out _).mono ?_
        rintro e w5 ⟨rfl, hb5⟩
        have HB6 := Lib.hid ((below_next HB5.out hb5 HB5.out.size).alloc (below_next HB5.out hb5 HB5.out.size).size (.cells #[.string SM, .string Sm, .string Sp, .string E, .string (tx []), .int .i64 0] 49))
        clear hb5 HB5 HPS
        go_wp2_with fail
        refine (HUN.out _).mono ?_
        rintro e w6 ⟨rfl, hb6⟩
        have HB7 := Lib.hid ((below_next HB6.out hb6 HB6.out.size).alloc (below_next HB6.out hb6 HB6.out.size).size (.cells #[.string Y, .string X] 9))
        have hrow := heap_alloc_same w6 (.cells #[.string Y, .string X] 9)
        have HSORT := Lib.hid (sort_two X Y true (w6.alloc (.cells #[.string Y, .string X] 9)) w6.heap.size (cell_at hrow 0) (cell_at hrow 1) HBE)
        clear hb6 HB6 HUN hrow
        go_wp2_with fail
        refine (HSORT.out).mono ?_
        rintro e W7 ⟨v7, rfl, hown, hb7⟩
        have HB8 := Lib.hid (below_next HB7.out hb7 HB7.out.size)
        have hown' : ownsS W7 (w6.alloc (.cells #[.string Y, .string X] 9)).heap.size v7 [X, Y] := hown
        obtain ⟨g, cap, hv7, hgB, hgl⟩ := hown'.form (by simp)
        subst hv7
        have j0 : W7.cell? ⟨g, 0, none⟩ = some (.string X) := hown'.cell rfl 0 (by simp)
        have j1 : W7.cell? ⟨g, 1, none⟩ = some (.string Y) := hown'.cell rfl 1 (by simp)
        obtain ⟨B7, hB7⟩ : ∃ B7, B7 = W7.heap.size := ⟨_, rfl⟩
        have HS7 : Hid (B7 + 0 = W7.heap.size) := Lib.hid (by omega)
        have hgl' : g < B7 + 0 := by omega
        have HSS : Hid (∀ w', Below (B7 + 0) W7 w' → (w'.cell? ⟨g, 0, none⟩ = some (.string X) ∧ w'.cell? ⟨g, 1, none⟩ = some (.string Y) ∧ Below (B7 + 0) W7 w')) :=
          Lib.hid (fun w' hb => ⟨(hb.cell (p := ⟨g, 0, none⟩) hgl').trans j0, (hb.cell (p := ⟨g, 1, none⟩) hgl').trans j1, hb⟩)
        have hbd : Below (B7 + 0) W7 W7.drew := (Below.refl _ _).drew
        clear hown hown' hb7 HSORT HB7 HBE hgB hgl hB7 hgl' j0 j1
        go_wp2_with fail
        go_region_held3 (fun w' => w'.cell? ⟨g, 0, none⟩ = some (.string X) ∧ w'.cell? ⟨g, 1, none⟩ = some (.string Y) ∧ Below (B7 + 0) W7 w')
          (first
            | exact HSS.out _ hq
            | exact HSS.out _ hbd)
          (first
          | (go_at_call 25
             (with_reducible refine (HCX.out _).mono ?_)
             rintro e w' ⟨rfl, hb⟩
             have hq : Below (B7 + 0) W7 w' := below_next (by assumption) hb (Below.size (by assumption)) (by rw [HS7.out]; exact Nat.le_refl _))
          | (go_at_call 25
             (with_reducible refine (HCY.out _).mono ?_)
             rintro e w' ⟨rfl, hb⟩
             have hq : Below (B7 + 0) W7 w' := below_next (by assumption) hb (Below.size (by assumption)) (by rw [HS7.out]; exact Nat.le_refl _)))
        have HQ9 := Lib.hid (HB8.out.trans (hq.mono (by have h8 := HB8.out.size; have h9 := HS7.out; omega)))
        clear hq HSS
        go_wp2
        go_ret
        exact ⟨rfl, HQ9.out⟩
      · rw [kx] at HCX HBE
        rw [ky] at HCY
        rw [show decide ((0 : Int) < 0) = false from rfl] at HBE
        clear kx ky HXY
        have hgt : ¬ u < t := by omega
        have hlt : ¬ t < u := by omega
        go_wp2_with fail
        refine (HPS.out _).mono ?_
        rintro e w5 ⟨rfl, hb5⟩
        have HB6 := Lib.hid ((below_next HB5.out hb5 HB5.out.size).alloc (below_next HB5.out hb5 HB5.out.size).size (.cells #[.string SM, .string Sm, .string Sp, .string E, .string (tx []), .int .i64 0] 49))
        clear hb5 HB5 HPS
        go_wp2_with fail
        refine (HUN.out _).mono ?_
        rintro e w6 ⟨rfl, hb6⟩
        have HB7 := Lib.hid ((below_next HB6.out hb6 HB6.out.size).alloc (below_next HB6.out hb6 HB6.out.size).size (.cells #[.string Y, .string X] 9))
        have hrow := heap_alloc_same w6 (.cells #[.string Y, .string X] 9)
        have HSORT := Lib.hid (sort_two X Y false (w6.alloc (.cells #[.string Y, .string X] 9)) w6.heap.size (cell_at hrow 0) (cell_at hrow 1) HBE)
        clear hb6 HB6 HUN hrow
        go_wp2_with fail
        refine (HSORT.out).mono ?_
        rintro e W7 ⟨v7, rfl, hown, hb7⟩
        have HB8 := Lib.hid (below_next HB7.out hb7 HB7.out.size)
        have hown' : ownsS W7 (w6.alloc (.cells #[.string Y, .string X] 9)).heap.size v7 [Y, X] := hown
        obtain ⟨g, cap, hv7, hgB, hgl⟩ := hown'.form (by simp)
        subst hv7
        have j0 : W7.cell? ⟨g, 0, none⟩ = some (.string Y) := hown'.cell rfl 0 (by simp)
        have j1 : W7.cell? ⟨g, 1, none⟩ = some (.string X) := hown'.cell rfl 1 (by simp)
        obtain ⟨B7, hB7⟩ : ∃ B7, B7 = W7.heap.size := ⟨_, rfl⟩
        have HS7 : Hid (B7 + 0 = W7.heap.size) := Lib.hid (by omega)
        have hgl' : g < B7 + 0 := by omega
        have HSS : Hid (∀ w', Below (B7 + 0) W7 w' → (w'.cell? ⟨g, 0, none⟩ = some (.string Y) ∧ w'.cell? ⟨g, 1, none⟩ = some (.string X) ∧ Below (B7 + 0) W7 w')) :=
          Lib.hid (fun w' hb => ⟨(hb.cell (p := ⟨g, 0, none⟩) hgl').trans j0, (hb.cell (p := ⟨g, 1, none⟩) hgl').trans j1, hb⟩)
        have hbd : Below (B7 + 0) W7 W7.drew := (Below.refl _ _).drew
        clear hown hown' hb7 HSORT HB7 HBE hgB hgl hB7 hgl' j0 j1
        go_wp2_with fail
        go_region_held3 (fun w' => w'.cell? ⟨g, 0, none⟩ = some (.string Y) ∧ w'.cell? ⟨g, 1, none⟩ = some (.string X) ∧ Below (B7 + 0) W7 w')
          (first
            | exact HSS.out _ hq
            | exact HSS.out _ hbd)
          (first
          | (go_at_call 25
             (with_reducible refine (HCX.out _).mono ?_)
             rintro e w' ⟨rfl, hb⟩
             have hq : Below (B7 + 0) W7 w' := below_next (by assumption) hb (Below.size (by assumption)) (by rw [HS7.out]; exact Nat.le_refl _))
          | (go_at_call 25
             (with_reducible refine (HCY.out _).mono ?_)
             rintro e w' ⟨rfl, hb⟩
             have hq : Below (B7 + 0) W7 w' := below_next (by assumption) hb (Below.size (by assumption)) (by rw [HS7.out]; exact Nat.le_refl _)))
        have HQ9 := Lib.hid (HB8.out.trans (hq.mono (by have h8 := HB8.out.size; have h9 := HS7.out; omega)))
        clear hq HSS
        go_wp2
        go_ret
        exact ⟨rfl, HQ9.out⟩
      · rw [kx] at HCX HBE
        rw [ky] at HCY
        rw [show decide ((1 : Int) < 0) = false from rfl] at HBE
        clear kx ky HXY
        have hlt : ¬ t < u := by omega
        go_wp2_with fail
        refine (HPS.out _).mono ?_
        rintro e w5 ⟨rfl, hb5⟩
        have HB6 := Lib.hid ((below_next HB5.out hb5 HB5.out.size).alloc (below_next HB5.out hb5 HB5.out.size).size (.cells #[.string SM, .string Sm, .string Sp, .string E, .string (tx []), .int .i64 0] 49))
        clear hb5 HB5 HPS
        go_wp2_with fail
        refine (HUN.out _).mono ?_
        rintro e w6 ⟨rfl, hb6⟩
        have HB7 := Lib.hid ((below_next HB6.out hb6 HB6.out.size).alloc (below_next HB6.out hb6 HB6.out.size).size (.cells #[.string Y, .string X] 9))
        have hrow := heap_alloc_same w6 (.cells #[.string Y, .string X] 9)
        have HSORT := Lib.hid (sort_two X Y false (w6.alloc (.cells #[.string Y, .string X] 9)) w6.heap.size (cell_at hrow 0) (cell_at hrow 1) HBE)
        clear hb6 HB6 HUN hrow
        go_wp2_with fail
        refine (HSORT.out).mono ?_
        rintro e W7 ⟨v7, rfl, hown, hb7⟩
        have HB8 := Lib.hid (below_next HB7.out hb7 HB7.out.size)
        have hown' : ownsS W7 (w6.alloc (.cells #[.string Y, .string X] 9)).heap.size v7 [Y, X] := hown
        obtain ⟨g, cap, hv7, hgB, hgl⟩ := hown'.form (by simp)
        subst hv7
        have j0 : W7.cell? ⟨g, 0, none⟩ = some (.string Y) := hown'.cell rfl 0 (by simp)
        have j1 : W7.cell? ⟨g, 1, none⟩ = some (.string X) := hown'.cell rfl 1 (by simp)
        obtain ⟨B7, hB7⟩ : ∃ B7, B7 = W7.heap.size := ⟨_, rfl⟩
        have HS7 : Hid (B7 + 0 = W7.heap.size) := Lib.hid (by omega)
        have hgl' : g < B7 + 0 := by omega
        have HSS : Hid (∀ w', Below (B7 + 0) W7 w' → (w'.cell? ⟨g, 0, none⟩ = some (.string Y) ∧ w'.cell? ⟨g, 1, none⟩ = some (.string X) ∧ Below (B7 + 0) W7 w')) :=
          Lib.hid (fun w' hb => ⟨(hb.cell (p := ⟨g, 0, none⟩) hgl').trans j0, (hb.cell (p := ⟨g, 1, none⟩) hgl').trans j1, hb⟩)
        have hbd : Below (B7 + 0) W7 W7.drew := (Below.refl _ _).drew
        clear hown hown' hb7 HSORT HB7 HBE hgB hgl hB7 hgl' j0 j1
        go_wp2_with fail
        go_region_held3 (fun w' => w'.cell? ⟨g, 0, none⟩ = some (.string Y) ∧ w'.cell? ⟨g, 1, none⟩ = some (.string X) ∧ Below (B7 + 0) W7 w')
          (first
            | exact HSS.out _ hq
            | exact HSS.out _ hbd)
          (first
          | (go_at_call 25
             (with_reducible refine (HCX.out _).mono ?_)
             rintro e w' ⟨rfl, hb⟩
             have hq : Below (B7 + 0) W7 w' := below_next (by assumption) hb (Below.size (by assumption)) (by rw [HS7.out]; exact Nat.le_refl _))
          | (go_at_call 25
             (with_reducible refine (HCY.out _).mono ?_)
             rintro e w' ⟨rfl, hb⟩
             have hq : Below (B7 + 0) W7 w' := below_next (by assumption) hb (Below.size (by assumption)) (by rw [HS7.out]; exact Nat.le_refl _)))
        have HQ9 := Lib.hid (HB8.out.trans (hq.mono (by have h8 := HB8.out.size; have h9 := HS7.out; omega)))
        clear hq HSS
        go_wp2
        go_ret
        exact ⟨rfl, HQ9.out⟩
    · have hbl2 := emp hbl
      clear hv
      generalize v.bld = L at tb hbl hbl2 HB5 ⊢
      generalize tx L = LS at tb HB5 ⊢
      generalize tx v.pre = PS at HB5 ⊢
      go_wp2
      go_ret
      exact ⟨rfl, HB5.out⟩

set_option maxRecDepth 100000 in
set_option maxHeartbeats 8000000 in
/-- The ways that are left at once. -/
theorem times_out (t u : Int) (F : ByteArray) (w : World) (ht : tabOk w) (hF : F.size ≤ 9223372036854775807) (a b : ByteArray) (g h : Int) (hg : g = 0 ∨ g = 1) (hh : h = 0 ∨ h = 1)
    (e1 : ∀ w, tabOk w → Calls Tryd.prog 16 #[.int .i64 t] w fun e w' => e = .returned (.tuple #[.string a, .int .i64 g]) ∧ Below w.heap.size w w')
    (e2 : ∀ w, tabOk w → Calls Tryd.prog 16 #[.int .i64 u] w fun e w' => e = .returned (.tuple #[.string b, .int .i64 h]) ∧ Below w.heap.size w w')
    (hc : g = 1 ∨ h = 1 ∨ t < 0 ∨ u < 0 ∨ 40 < F.size) :
    Calls Tryd.prog 7 #[.int .i64 t, .int .i64 u, .string F] w fun e w' => e = .returned (.bool true) ∧ Below w.heap.size w w' := by
  have HT := Lib.hid ht
  have HE1 := Lib.hid e1
  have HE2 := Lib.hid e2
  clear ht e1 e2
  have hcase : g = 1 ∨ (g = 0 ∧ h = 1) ∨ (g = 0 ∧ h = 0 ∧ t < 0) ∨ (g = 0 ∧ h = 0 ∧ ¬ t < 0 ∧ u < 0) ∨ (g = 0 ∧ h = 0 ∧ ¬ t < 0 ∧ ¬ u < 0 ∧ 40 < F.size) := by omega
  clear hc hg hh
  rcases hcase with rfl | ⟨rfl, rfl⟩ | ⟨rfl, rfl, c1⟩ | ⟨rfl, rfl, c1, c2⟩ | ⟨rfl, rfl, c1, c2, c3⟩
  all_goals
    go_enter Tryd.func7, Tryd.ntmps7
    go_wp2_with fail
    refine (stamp_first w HT.out).mono ?_
    rintro e w1 ⟨rfl, hb1⟩
    have HT1 := Lib.hid (HT.out.below hb1)
    have HB1 := Lib.hid hb1
    clear hb1 HT
    go_wp2_with fail
    refine (HE1.out _ HT1.out).mono ?_
    rintro e w2 ⟨rfl, hb2⟩
    have HT2 := Lib.hid (HT1.out.below hb2)
    have HB2 := Lib.hid (below_next HB1.out hb2 HB1.out.size)
    clear hb2 HT1 HB1
    go_wp2_with fail
    refine (HE2.out _ HT2.out).mono ?_
    rintro e w3 ⟨rfl, hb3⟩
    have HB3 := Lib.hid (below_next HB2.out hb3 HB2.out.size)
    clear hb3 HT2 HB2 HE1 HE2
    go_wp2_with fail
    go_ret
    exact ⟨rfl, HB3.out⟩

theorem cartularyTimes_walk (t u : Int) (F : ByteArray) (hF : F.size ≤ 9223372036854775807) (w : World) (ht : tabOk w) :
    Calls Tryd.prog 7 #[.int .i64 t, .int .i64 u, .string F] w fun e w' => e = .returned (.bool true) ∧ Below w.heap.size w w' := by
  obtain ⟨a, g, hg, hga, ha⟩ := stamp_ans t
  obtain ⟨b, h, hh, hhb, hb⟩ := stamp_ans u
  by_cases hc : g = 1 ∨ h = 1 ∨ t < 0 ∨ u < 0 ∨ 40 < F.size
  · exact times_out t u F w ht hF a b g h hg hh ha hb hc
  · have g0 : g = 0 := by omega
    have h0 : h = 0 := by omega
    subst g0
    subst h0
    obtain ⟨l1, l2, rfl⟩ := hga rfl
    obtain ⟨m1, m2, rfl⟩ := hhb rfl
    have hFl : F.data.toList.length ≤ 40 := by have : F.data.toList.length = F.size := Array.length_toList; omega
    rw [tx_of F]
    exact times_main t u F.data.toList w ht (by omega) l2 (by omega) m2 hFl ha hb
end Go.Proofs.YtkpiebcncjlgcaaDoor.Sem
