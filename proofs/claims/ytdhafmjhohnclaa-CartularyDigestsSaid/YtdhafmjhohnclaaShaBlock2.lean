/- THE WALK of SHA-256's block. Conditions: the eight words lie in memory; the text has 64 bytes. -/
import Derived.Test.YtdhafmjhohnclaaShaTab
import Derived.Test.YtdhafmjhohnclaaQuietC
namespace Go.Proofs.Ytdhafmjhohnclaa
open Go.RowKit Sums
set_option linter.unusedVariables false

set_option maxRecDepth 100000 in
set_option maxHeartbeats 4000000 in
theorem block256_any (s : ByteArray) (h : List (BitVec 32)) (g cap : Nat) (w : World) (hs : s.size = 64) (hl : h.length = 8) (hw : words w g h) (hg : g < w.heap.size) :
    Calls Try.prog 47 #[.slice (some ⟨g, 0, none⟩) 8 cap, .string s] w fun e w' => e = .returned (.tuple #[]) ∧ ∃ W1, Below w.heap.size w W1 ∧ w' = putW W1 g (blk2 s h) 8 := by
  have HS := Lib.hid hs
  have HW := Lib.hid hw
  have hsl : (s.size : Int) = 64 := by omega
  obtain ⟨Z, hZ⟩ : ∃ Z, Z = arrW [] 64 := ⟨_, rfl⟩
  have hz : ∀ w : World, (zeroValue 68).run Try.prog w = .ok (.agg Z) w := fun w => by rw [hZ]; kernel_rfl
  obtain ⟨TK, hTK⟩ : ∃ Z, Z = arrW tabK 64 := ⟨_, rfl⟩
  have HT := Lib.hid (fun W => table_any TK (Lib.hid hTK) W)
  have HZS : RowKit.Hid (TK.size ≤ Z.size) := Lib.hid (by rw [hZ, hTK, arrW_size, arrW_size]; exact Nat.le_refl _)
  have HZE : RowKit.Hid (Z.size = TK.size) := Lib.hid (by rw [hZ, hTK, arrW_size, arrW_size])
  have HI : RowKit.Hid ((Try.prog.info? 68).map (·.size) = some TK.size) := Lib.hid (by rw [hTK, arrW_size]; kernel_rfl)
  have HO : RowKit.Hid (TK.all (·.oneCell') = true) := Lib.hid (by rw [hTK]; exact arrW_one _ _)
  have HZ := Lib.hid hZ
  have HTK := Lib.hid hTK
  clear hs hw hZ hTK
  go_enter Try.func47, Try.ntmps47
  go_wp2_with fail
  have h40 := heap_alloc_same w (.cells Z 68)
  have hb40 := (Below.refl w.heap.size w).alloc (Nat.le_refl _) (.cells Z 68)
  have hs40 : w.heap.size < (w.alloc (.cells Z 68)).heap.size := by rw [World.size_alloc]; omega
  have H40 := Lib.hid h40
  have HB40 := Lib.hid hb40
  have HS40 := Lib.hid hs40
  clear h40 hb40 hs40
  generalize w.alloc (.cells Z 68) = W0 at H40 HB40 HS40 ⊢
  refine (HT.out _).mono ?_
  rintro e w1 ⟨rfl, hb1⟩
  have HB1 := Lib.hid hb1
  have H41 := Lib.hid (below_heap hb1 H40.out HS40.out)
  have H5 := Lib.hid (heap_alloc_same w1 (.cells Z 68))
  clear hb1
  go_wp2_with (refine wpList_store_mid rfl _ _ _ rfl w1.heap.size 0 TK rfl rfl (there_of H5.out HZS.out) HI.out HO.out ?_)
  obtain ⟨B5, hB5⟩ : ∃ B, B = w1.heap.size := ⟨_, rfl⟩
  have hlt : w.heap.size < B5 := by rw [hB5]; exact lt_of_block H41.out
  have h50 := heap_stored H5.out HZE.out
  have hbw1 := below_setCells (Nat.le_refl w1.heap.size) TK.toList 0 _ ((Below.refl w1.heap.size w1).alloc (Nat.le_refl _) (.cells Z 68))
  have h42 := below_heap hbw1 H41.out (lt_of_block H41.out)
  have hbw := (HB40.out.trans (HB1.out.mono (Nat.le_of_lt HS40.out))).trans (hbw1.mono (Nat.le_of_lt (lt_of_block H41.out)))
  rw [← hB5] at h50 hbw h42 ⊢
  generalize (w1.alloc (.cells Z 68)).setCells B5 0 TK.toList = W2 at h50 hbw h42 ⊢
  have H50 := Lib.hid h50
  have HBW := Lib.hid hbw
  have h43 : W2.heap[w.heap.size]? = some (.cells (arrW (sched2 s 0) 64) 68 (0, 0)) := by rw [h42, HZ.out]; rfl
  have H43 := Lib.hid h43
  have HLT := Lib.hid hlt
  clear h50 hbw1 h42 hbw hB5 h43 hlt hz
  go_loopw [17] (fun iv wr => ∃ i : Nat, i ≤ 64 ∧ iv = .int .i64 (i : Int) ∧ wr.heap[w.heap.size]? = some (.cells (arrW (sched2 s i) 64) 68 (0, 0)) ∧ wr.heap[B5]? = some (.cells TK 68 (0, 0)) ∧ Below w.heap.size w wr) (fun iv _ => 64 - (intOf iv).toNat)
  case atStart => exact ⟨0, by omega, rfl, H43.out, H50.out, HBW.out⟩
  case round =>
    obtain ⟨i, hi, rfl, hc, h5, hb⟩ := hrel
    have HC := Lib.hid hc
    have HB := Lib.hid hb
    have H5i := Lib.hid h5
    have HKEEP : RowKit.Hid (∀ (W : World) (v : Value) (j : Nat), W.heap = wr.heap → (W.setCell ⟨w.heap.size, j, none⟩ v).heap[B5]? = some (.cells TK 68 (0, 0))) := Lib.hid (fun W v j hW => by
      rw [Below.heap_setCell _ _ _ _ (Nat.ne_of_gt HLT.out), hW]; exact H5i.out)
    clear hc hb h5
    by_cases h80 : i < 64
    · by_cases h16 : i < 16
      · have hex : (s.extract (4 * i) s.size).size = 64 - 4 * i := by rw [ByteArray.size_extract, HS.out]; omega
        have h4 : 4 ≤ (s.extract (4 * i) s.size).size := by omega
        have hwd := fun W => word_any (s.extract (4 * i) s.size) W h4
        rw [word_at s (4 * i) (by rw [HS.out]; omega) h4] at hwd
        have hs1 : sched2 s (i + 1) = sched2 s i ++ [wordAt s (4 * i)] := by rw [sched2, if_pos h16]
        have hst := fun n => heap_set (show (wr.drewN n).heap[w.heap.size]? = _ from HC.out) i (.int .u32 ((wordAt s (4 * i)).toNat : Int))
        have has := arrW_set (sched2 s i) 64 (wordAt s (4 * i)) (by rw [sched2_len]; exact h80)
        rw [sched2_len, ← hs1] at has
        rw [has] at hst
        have hfr := free_at HC.out i
        obtain ⟨v0, hce⟩ : ∃ v0, wr.cell? ⟨w.heap.size, i, none⟩ = some v0 := ⟨_, (cell_at HC.out i).trans (arrW_at _ _ _ h80)⟩
        have HST := Lib.hid hst
        have HWD := Lib.hid hwd
        have e4 : (4 * (i : Int)).toNat = 4 * i := by omega
        clear hex h4 hwd hs1 hst has
        obtain ⟨x, hx⟩ : ∃ x, x = wordAt s (4 * i) := ⟨_, rfl⟩
        rw [← hx] at HST HWD
        have HX := Lib.hid hx
        clear hx HW
        go_wp2_with fail
        refine (HWD.out _).mono ?_
        rintro e w1 ⟨rfl, n, rfl⟩
        go_wp2
        refine ⟨⟨i + 1, by omega, by go_num, by rw [HX.out] at HST ⊢; exact HST.out n, HKEEP.out _ _ _ rfl, (below_drewN HB.out n).setCell (Nat.le_refl _) _⟩, by simp [intOf]; omega⟩
      · skip
        have cA := (cell_at HC.out (i - 16)).trans (arrW_at _ _ _ (by omega))
        obtain ⟨A, hA⟩ : ∃ E, E = at32 (sched2 s i) (i - 16) := ⟨_, rfl⟩
        rw [← hA] at cA
        have cX := (cell_at HC.out (i - 15)).trans (arrW_at _ _ _ (by omega))
        obtain ⟨X, hX⟩ : ∃ E, E = at32 (sched2 s i) (i - 15) := ⟨_, rfl⟩
        rw [← hX] at cX
        have cCc := (cell_at HC.out (i - 7)).trans (arrW_at _ _ _ (by omega))
        obtain ⟨Cc, hCc⟩ : ∃ E, E = at32 (sched2 s i) (i - 7) := ⟨_, rfl⟩
        rw [← hCc] at cCc
        have cY := (cell_at HC.out (i - 2)).trans (arrW_at _ _ _ (by omega))
        obtain ⟨Y, hY⟩ : ∃ E, E = at32 (sched2 s i) (i - 2) := ⟨_, rfl⟩
        rw [← hY] at cY
        have t16 : ((i : Int) - 16).toNat = i - 16 := by omega
        have p16 : 0 ≤ (i : Int) - 16 := by omega
        have u16 : (i : Int) - 16 < 64 := by omega
        have y16 : IntKind.i64.wrap ((i : Int) - 16) = (i : Int) - 16 := IntWalk.i64_in _ (by omega)
        have g16 : (16 : Int) ≤ (i : Int) := by omega
        have t15 : ((i : Int) - 15).toNat = i - 15 := by omega
        have p15 : 0 ≤ (i : Int) - 15 := by omega
        have u15 : (i : Int) - 15 < 64 := by omega
        have y15 : IntKind.i64.wrap ((i : Int) - 15) = (i : Int) - 15 := IntWalk.i64_in _ (by omega)
        have g15 : (15 : Int) ≤ (i : Int) := by omega
        have t7 : ((i : Int) - 7).toNat = i - 7 := by omega
        have p7 : 0 ≤ (i : Int) - 7 := by omega
        have u7 : (i : Int) - 7 < 64 := by omega
        have y7 : IntKind.i64.wrap ((i : Int) - 7) = (i : Int) - 7 := IntWalk.i64_in _ (by omega)
        have g7 : (7 : Int) ≤ (i : Int) := by omega
        have t2 : ((i : Int) - 2).toNat = i - 2 := by omega
        have p2 : 0 ≤ (i : Int) - 2 := by omega
        have u2 : (i : Int) - 2 < 64 := by omega
        have y2 : IntKind.i64.wrap ((i : Int) - 2) = (i : Int) - 2 := IntWalk.i64_in _ (by omega)
        have g2 : (2 : Int) ≤ (i : Int) := by omega
        have rR1 := fun W => rot_m7 X W
        obtain ⟨R1, hR1⟩ : ∃ E, E = rotl X 25 := ⟨_, rfl⟩
        rw [← hR1] at rR1
        have CR1 := Lib.hid rR1
        clear rR1
        have rR2 := fun W => rot_m18 X W
        obtain ⟨R2, hR2⟩ : ∃ E, E = rotl X 14 := ⟨_, rfl⟩
        rw [← hR2] at rR2
        have CR2 := Lib.hid rR2
        clear rR2
        have x1 := xorW R1 R2
        obtain ⟨X1, hX1⟩ : ∃ E, E = R1 ^^^ R2 := ⟨_, rfl⟩
        rw [← hX1] at x1
        have x2 : (X.toNat : Int) / (8 : Int) = _ := shr_w X 3
        obtain ⟨X2, hX2⟩ : ∃ E, E = X >>> 3 := ⟨_, rfl⟩
        rw [← hX2] at x2
        have x3 := xorW X1 X2
        obtain ⟨X3, hX3⟩ : ∃ E, E = X1 ^^^ X2 := ⟨_, rfl⟩
        rw [← hX3] at x3
        have s1 := addW A X3
        obtain ⟨S1, hS1⟩ : ∃ E, E = A + X3 := ⟨_, rfl⟩
        rw [← hS1] at s1
        have s2 := addW S1 Cc
        obtain ⟨S2, hS2⟩ : ∃ E, E = S1 + Cc := ⟨_, rfl⟩
        rw [← hS2] at s2
        have rR3 := fun W => rot_m17 Y W
        obtain ⟨R3, hR3⟩ : ∃ E, E = rotl Y 15 := ⟨_, rfl⟩
        rw [← hR3] at rR3
        have CR3 := Lib.hid rR3
        clear rR3
        have rR4 := fun W => rot_m19 Y W
        obtain ⟨R4, hR4⟩ : ∃ E, E = rotl Y 13 := ⟨_, rfl⟩
        rw [← hR4] at rR4
        have CR4 := Lib.hid rR4
        clear rR4
        have z1 := xorW R3 R4
        obtain ⟨Y1, hY1⟩ : ∃ E, E = R3 ^^^ R4 := ⟨_, rfl⟩
        rw [← hY1] at z1
        have z2 : (Y.toNat : Int) / (1024 : Int) = _ := shr_w Y 10
        obtain ⟨Y2, hY2⟩ : ∃ E, E = Y >>> 10 := ⟨_, rfl⟩
        rw [← hY2] at z2
        have z3 := xorW Y1 Y2
        obtain ⟨Y3, hY3⟩ : ∃ E, E = Y1 ^^^ Y2 := ⟨_, rfl⟩
        rw [← hY3] at z3
        have s3 := addW S2 Y3
        obtain ⟨S3, hS3⟩ : ∃ E, E = S2 + Y3 := ⟨_, rfl⟩
        rw [← hS3] at s3
        have hs1 : sched2 s (i + 1) = sched2 s i ++ [S3] := by
          rw [sched2, if_neg h16]
          unfold sx sy
          rw [← hA, ← hX, ← hCc, ← hY]
          subst hS3 hS2 hS1 hX3 hX1 hX2 hY3 hY1 hY2 hR1 hR2 hR3 hR4
          rfl
        have hst := fun n => heap_set (show ((wr.drewN n).drew).heap[w.heap.size]? = _ from HC.out) i (.int .u32 (S3.toNat : Int))
        have has := arrW_set (sched2 s i) 64 S3 (by rw [sched2_len]; exact h80)
        rw [sched2_len, ← hs1] at has
        rw [has] at hst
        have hfr : ∀ n : Nat, ((wr.drewN n).drew).frozen? ⟨w.heap.size, i, none⟩ = false := fun n => free_at (show ((wr.drewN n).drew).heap[w.heap.size]? = _ from HC.out) i
        obtain ⟨v0, hce⟩ : ∃ v0, ∀ n : Nat, ((wr.drewN n).drew).cell? ⟨w.heap.size, i, none⟩ = some v0 := ⟨_, fun n => (cell_at (show ((wr.drewN n).drew).heap[w.heap.size]? = _ from HC.out) i).trans (arrW_at _ _ _ h80)⟩
        have HST := Lib.hid hst
        have HFR := Lib.hid hfr
        have HCE := Lib.hid hce
        have hi8 : (i : Int) < 64 := by omega
        clear hs1 hst has hA hX hCc hY hS3 hS2 hS1 hX3 hX1 hX2 hY3 hY1 hY2 hR1 hR2 hR3 hR4 HW hfr hce
        go_wp2_with fail
        go_quiet (fail)
        have dA : (wr.drewN nq).cell? ⟨w.heap.size, i - 16, none⟩ = some (.int .u32 (A.toNat : Int)) := cA
        have dC : (wr.drewN nq).cell? ⟨w.heap.size, i - 7, none⟩ = some (.int .u32 (Cc.toNat : Int)) := cCc
        have hst := HST.out nq
        have hfr := HFR.out nq
        have hce := HCE.out nq
        have hkp := HKEEP.out (wr.drewN nq).drew (.int .u32 (S3.toNat : Int)) i rfl
        have hbb := ((below_drewN HB.out nq).drew).setCell (p := ⟨w.heap.size, i, none⟩) (Nat.le_refl _) (.int .u32 (S3.toNat : Int))
        have HST2 := Lib.hid hst
        have HKP := Lib.hid hkp
        have HBB := Lib.hid hbb
        clear hst hkp hbb cA cX cCc cY
        generalize wr.drewN nq = Wq at dA dC hfr hce HST2 HKP HBB ⊢
        go_wp2_with fail
        refine wp_region_still_tail 29 (by kernel_rfl) (by kernel_rfl) ?_
        simp only [List.take_succ_cons, List.take_zero, List.drop_succ_cons, List.drop_zero]
        repeat still_step
        still_call (CR1.out _)
        repeat still_step
        still_call (CR2.out _)
        repeat still_step
        still_call (CR3.out _)
        repeat still_step
        still_call (CR4.out _)
        repeat still_step
        refine wpStill_nil ?_
        change wpList _ _ _ _ _ Wq.drew
        generalize Wq.drew = W0 at hfr hce HST2 HKP HBB ⊢
        go_wp2
        refine ⟨⟨i + 1, by omega, by go_num, HST2.out, HKP.out, HBB.out⟩, by simp [intOf]; omega⟩
    · have hi80 : i = 64 := by omega
      rw [hi80] at HC
      clear hi80
      obtain ⟨k0, zz0⟩ := HW.out 0 (by omega)
      have c0 : wr.cell? ⟨g, 0, none⟩ = some (.int .u32 ((at32 h 0).toNat : Int)) := (HB.out.cell (p := ⟨g, 0, none⟩) hg).trans k0
      obtain ⟨h0, hh0⟩ : ∃ x, x = at32 h 0 := ⟨_, rfl⟩
      rw [← hh0] at c0
      obtain ⟨k1, zz1⟩ := HW.out 1 (by omega)
      have c1 : wr.cell? ⟨g, 1, none⟩ = some (.int .u32 ((at32 h 1).toNat : Int)) := (HB.out.cell (p := ⟨g, 1, none⟩) hg).trans k1
      obtain ⟨h1, hh1⟩ : ∃ x, x = at32 h 1 := ⟨_, rfl⟩
      rw [← hh1] at c1
      obtain ⟨k2, zz2⟩ := HW.out 2 (by omega)
      have c2 : wr.cell? ⟨g, 2, none⟩ = some (.int .u32 ((at32 h 2).toNat : Int)) := (HB.out.cell (p := ⟨g, 2, none⟩) hg).trans k2
      obtain ⟨h2, hh2⟩ : ∃ x, x = at32 h 2 := ⟨_, rfl⟩
      rw [← hh2] at c2
      obtain ⟨k3, zz3⟩ := HW.out 3 (by omega)
      have c3 : wr.cell? ⟨g, 3, none⟩ = some (.int .u32 ((at32 h 3).toNat : Int)) := (HB.out.cell (p := ⟨g, 3, none⟩) hg).trans k3
      obtain ⟨h3, hh3⟩ : ∃ x, x = at32 h 3 := ⟨_, rfl⟩
      rw [← hh3] at c3
      obtain ⟨k4, zz4⟩ := HW.out 4 (by omega)
      have c4 : wr.cell? ⟨g, 4, none⟩ = some (.int .u32 ((at32 h 4).toNat : Int)) := (HB.out.cell (p := ⟨g, 4, none⟩) hg).trans k4
      obtain ⟨h4, hh4⟩ : ∃ x, x = at32 h 4 := ⟨_, rfl⟩
      rw [← hh4] at c4
      obtain ⟨k5, zz5⟩ := HW.out 5 (by omega)
      have c5 : wr.cell? ⟨g, 5, none⟩ = some (.int .u32 ((at32 h 5).toNat : Int)) := (HB.out.cell (p := ⟨g, 5, none⟩) hg).trans k5
      obtain ⟨h5, hh5⟩ : ∃ x, x = at32 h 5 := ⟨_, rfl⟩
      rw [← hh5] at c5
      obtain ⟨k6, zz6⟩ := HW.out 6 (by omega)
      have c6 : wr.cell? ⟨g, 6, none⟩ = some (.int .u32 ((at32 h 6).toNat : Int)) := (HB.out.cell (p := ⟨g, 6, none⟩) hg).trans k6
      obtain ⟨h6, hh6⟩ : ∃ x, x = at32 h 6 := ⟨_, rfl⟩
      rw [← hh6] at c6
      obtain ⟨k7, zz7⟩ := HW.out 7 (by omega)
      have c7 : wr.cell? ⟨g, 7, none⟩ = some (.int .u32 ((at32 h 7).toNat : Int)) := (HB.out.cell (p := ⟨g, 7, none⟩) hg).trans k7
      obtain ⟨h7, hh7⟩ : ∃ x, x = at32 h 7 := ⟨_, rfl⟩
      rw [← hh7] at c7
      have HH := Lib.hid (And.intro hh0 (And.intro hh1 (And.intro hh2 (And.intro hh3 (And.intro hh4 (And.intro hh5 (And.intro hh6 hh7)))))))
      clear k0 zz0 hh0 k1 zz1 hh1 k2 zz2 hh2 k3 zz3 hh3 k4 zz4 hh4 k5 zz5 hh5 k6 zz6 hh6 k7 zz7 hh7
      obtain ⟨l, hll⟩ : ∃ l, l = sched2 s 64 := ⟨_, rfl⟩
      rw [← hll] at HC
      have HLL := Lib.hid hll
      clear hll hi
      go_upto_region 11 with fail
      obtain ⟨N, hN⟩ : ∃ N, N = wr.heap.size := ⟨_, rfl⟩
      have ha := heap_alloc_same wr (.cells #[.int .u32 0, .int .u32 0, .int .u32 0, .int .u32 0, .int .u32 0, .int .u32 0, .int .u32 0, .int .u32 0] 70)
      have hba := (Below.refl wr.heap.size wr).alloc (Nat.le_refl _) (.cells #[.int .u32 0, .int .u32 0, .int .u32 0, .int .u32 0, .int .u32 0, .int .u32 0, .int .u32 0, .int .u32 0] 70)
      rw [← hN] at ha hba ⊢
      have hN4 : w.heap.size < N := by rw [hN]; exact lt_of_block HC.out
      have hN5 : B5 < N := by rw [hN]; exact lt_of_block H5i.out
      have hNg : g < N := Nat.lt_trans hg hN4
      have HN := Lib.hid hN
      clear hN
      generalize wr.alloc (.cells #[.int .u32 0, .int .u32 0, .int .u32 0, .int .u32 0, .int .u32 0, .int .u32 0, .int .u32 0, .int .u32 0] 70) = Wa at ha hba ⊢
      have b0 : Wa.cell? ⟨g, 0, none⟩ = some (.int .u32 (h0.toNat : Int)) := (hba.cell (p := ⟨g, 0, none⟩) hNg).trans c0
      have b1 : Wa.cell? ⟨g, 1, none⟩ = some (.int .u32 (h1.toNat : Int)) := (hba.cell (p := ⟨g, 1, none⟩) hNg).trans c1
      have b2 : Wa.cell? ⟨g, 2, none⟩ = some (.int .u32 (h2.toNat : Int)) := (hba.cell (p := ⟨g, 2, none⟩) hNg).trans c2
      have b3 : Wa.cell? ⟨g, 3, none⟩ = some (.int .u32 (h3.toNat : Int)) := (hba.cell (p := ⟨g, 3, none⟩) hNg).trans c3
      have b4 : Wa.cell? ⟨g, 4, none⟩ = some (.int .u32 (h4.toNat : Int)) := (hba.cell (p := ⟨g, 4, none⟩) hNg).trans c4
      have b5 : Wa.cell? ⟨g, 5, none⟩ = some (.int .u32 (h5.toNat : Int)) := (hba.cell (p := ⟨g, 5, none⟩) hNg).trans c5
      have b6 : Wa.cell? ⟨g, 6, none⟩ = some (.int .u32 (h6.toNat : Int)) := (hba.cell (p := ⟨g, 6, none⟩) hNg).trans c6
      have b7 : Wa.cell? ⟨g, 7, none⟩ = some (.int .u32 (h7.toNat : Int)) := (hba.cell (p := ⟨g, 7, none⟩) hNg).trans c7
      have hcp : (Builtin.copy_ #[46, 46] 3 #[.slice (some ⟨N, 0, none⟩) 8 8, .slice (some ⟨g, 0, none⟩) 8 cap]).run Try.prog Wa = .ok (goInt 8) (Wa.setCells N 0 [.int .u32 (h0.toNat : Int), .int .u32 (h1.toNat : Int), .int .u32 (h2.toNat : Int), .int .u32 (h3.toNat : Int), .int .u32 (h4.toNat : Int), .int .u32 (h5.toNat : Int), .int .u32 (h6.toNat : Int), .int .u32 (h7.toNat : Int)]) :=
        run_copy_cells (P := Try.prog) Wa _ _ _ _ N 0 8 8 ⟨g, 0, none⟩ 8 cap [.int .u32 (h0.toNat : Int), .int .u32 (h1.toNat : Int), .int .u32 (h2.toNat : Int), .int .u32 (h3.toNat : Int), .int .u32 (h4.toNat : Int), .int .u32 (h5.toNat : Int), .int .u32 (h6.toNat : Int), .int .u32 (h7.toNat : Int)] Try.underlying46 (by kernel_rfl) rfl (fun j v hv => by
          rw [Addr.add_mid, Nat.zero_add]
          have hj : j < 8 := by
            have := (List.getElem?_eq_some_iff.1 hv).1
            simpa using this
          have h8 : j = 0 ∨ j = 1 ∨ j = 2 ∨ j = 3 ∨ j = 4 ∨ j = 5 ∨ j = 6 ∨ j = 7 := by omega
          rcases h8 with rfl | rfl | rfl | rfl | rfl | rfl | rfl | rfl
          · exact b0.trans hv
          · exact b1.trans hv
          · exact b2.trans hv
          · exact b3.trans hv
          · exact b4.trans hv
          · exact b5.trans hv
          · exact b6.trans hv
          · exact b7.trans hv) (fun j hj => (there_of ha (n := 8) (by decide) j (by simpa using hj)).1) (fun j hj => (there_of ha (n := 8) (by decide) j (by simpa using hj)).2) (fun v hv => by
          simp only [List.mem_cons, List.not_mem_nil, or_false] at hv
          rcases hv with rfl | rfl | rfl | rfl | rfl | rfl | rfl | rfl <;> rfl)
      have hv0 := heap_setCells [.int .u32 (h0.toNat : Int), .int .u32 (h1.toNat : Int), .int .u32 (h2.toNat : Int), .int .u32 (h3.toNat : Int), .int .u32 (h4.toNat : Int), .int .u32 (h5.toNat : Int), .int .u32 (h6.toNat : Int), .int .u32 (h7.toNat : Int)] 0 Wa _ ha
      have hbb := hba.trans (below_setCells (Nat.le_refl N) [.int .u32 (h0.toNat : Int), .int .u32 (h1.toNat : Int), .int .u32 (h2.toNat : Int), .int .u32 (h3.toNat : Int), .int .u32 (h4.toNat : Int), .int .u32 (h5.toNat : Int), .int .u32 (h6.toNat : Int), .int .u32 (h7.toNat : Int)] 0 Wa (Below.refl N Wa))
      have HV0 := Lib.hid (show (Wa.setCells N 0 [.int .u32 (h0.toNat : Int), .int .u32 (h1.toNat : Int), .int .u32 (h2.toNat : Int), .int .u32 (h3.toNat : Int), .int .u32 (h4.toNat : Int), .int .u32 (h5.toNat : Int), .int .u32 (h6.toNat : Int), .int .u32 (h7.toNat : Int)]).heap[N]? = some (.cells #[.int .u32 (h0.toNat : Int), .int .u32 (h1.toNat : Int), .int .u32 (h2.toNat : Int), .int .u32 (h3.toNat : Int), .int .u32 (h4.toNat : Int), .int .u32 (h5.toNat : Int), .int .u32 (h6.toNat : Int), .int .u32 (h7.toNat : Int)] 70 (0, 0)) from hv0)
      have HBB := Lib.hid hbb
      have HN4 := Lib.hid hN4
      have HN5 := Lib.hid hN5
      have HNg := Lib.hid hNg
      clear ha hba hv0 hbb b0 c0 b1 c1 b2 c2 b3 c3 b4 c4 b5 c5 b6 c6 b7 c7 hN4 hN5 hNg
      go_wp2
      generalize Wa.setCells N 0 [.int .u32 (h0.toNat : Int), .int .u32 (h1.toNat : Int), .int .u32 (h2.toNat : Int), .int .u32 (h3.toNat : Int), .int .u32 (h4.toNat : Int), .int .u32 (h5.toNat : Int), .int .u32 (h6.toNat : Int), .int .u32 (h7.toNat : Int)] = Wb at HV0 HBB ⊢
      clear h80 hcp
      go_loopw [70] (fun iv wq => ∃ (i : Nat) (v : W8), i ≤ 64 ∧ iv = .int .i64 (i : Int) ∧ steps2 l ⟨h0, h1, h2, h3, h4, h5, h6, h7⟩ i = v ∧ wq.heap[N]? = some (.cells #[.int .u32 (v.v0.toNat : Int), .int .u32 (v.v1.toNat : Int), .int .u32 (v.v2.toNat : Int), .int .u32 (v.v3.toNat : Int), .int .u32 (v.v4.toNat : Int), .int .u32 (v.v5.toNat : Int), .int .u32 (v.v6.toNat : Int), .int .u32 (v.v7.toNat : Int)] 70 (0, 0)) ∧ Below N wr wq) (fun iv _ => 64 - (intOf iv).toNat)
      case atStart => exact ⟨0, ⟨h0, h1, h2, h3, h4, h5, h6, h7⟩, by omega, rfl, rfl, HV0.out, HBB.out⟩
      case round =>
        obtain ⟨i, ⟨v0, v1, v2, v3, v4, v5, v6, v7⟩, hi, rfl, hv, hq, hb⟩ := hrel
        have HV := Lib.hid hv
        have HQ := Lib.hid hq
        have HBq := Lib.hid hb
        clear hv hq hb
        by_cases h80 : i < 64
        · obtain ⟨x, hx⟩ : ∃ x, x = at32 l i := ⟨_, rfl⟩
          obtain ⟨kk, hkk⟩ : ∃ x, x = at32 tabK i := ⟨_, rfl⟩
          have hss : steps2 l ⟨h0, h1, h2, h3, h4, h5, h6, h7⟩ (i + 1) = step2 kk x ⟨v0, v1, v2, v3, v4, v5, v6, v7⟩ := by rw [steps2, HV.out, hx, hkk]
          have hcx := (cell_at (below_heap HBq.out HC.out HN4.out) i).trans (arrW_at l 64 i h80)
          have hck := (cell_at (below_heap HBq.out H5i.out HN5.out) i).trans (show TK[i]? = some (.int .u32 ((at32 tabK i).toNat : Int)) by rw [HTK.out]; exact arrW_at tabK 64 i h80)
          rw [← hx] at hcx
          rw [← hkk] at hck
          have HALL : RowKit.Hid (∀ W : World, W.heap = wr.heap → W.heap[N]? = some (.cells #[.int .u32 (v0.toNat : Int), .int .u32 (v1.toNat : Int), .int .u32 (v2.toNat : Int), .int .u32 (v3.toNat : Int), .int .u32 (v4.toNat : Int), .int .u32 (v5.toNat : Int), .int .u32 (v6.toNat : Int), .int .u32 (v7.toNat : Int)] 70 (0, 0)) ∧ W.cell? ⟨w.heap.size, i, none⟩ = some (.int .u32 (x.toNat : Int)) ∧ W.cell? ⟨B5, i, none⟩ = some (.int .u32 (kk.toNat : Int))) := Lib.hid (fun W hW => by
            refine ⟨by rw [hW]; exact HQ.out, ?_, ?_⟩
            · rw [← hcx]; simp only [World.cell?, hW]
            · rw [← hck]; simp only [World.cell?, hW])
          have hi8 : (i : Int) < 64 := by omega
          clear hcx hck hx hkk
          have rR1 := fun W => rot_m6 v4 W
          obtain ⟨R1, hR1⟩ : ∃ E, E = rotl v4 26 := ⟨_, rfl⟩
          rw [← hR1] at rR1
          have CR1 := Lib.hid rR1
          clear rR1
          have rR2 := fun W => rot_m11 v4 W
          obtain ⟨R2, hR2⟩ : ∃ E, E = rotl v4 21 := ⟨_, rfl⟩
          rw [← hR2] at rR2
          have CR2 := Lib.hid rR2
          clear rR2
          have rR3 := fun W => rot_m25 v4 W
          obtain ⟨R3, hR3⟩ : ∃ E, E = rotl v4 7 := ⟨_, rfl⟩
          rw [← hR3] at rR3
          have CR3 := Lib.hid rR3
          clear rR3
          have x1 := xorW R1 R2
          obtain ⟨P1, hP1⟩ : ∃ E, E = R1 ^^^ R2 := ⟨_, rfl⟩
          rw [← hP1] at x1
          have x2 := xorW P1 R3
          obtain ⟨P2, hP2⟩ : ∃ E, E = P1 ^^^ R3 := ⟨_, rfl⟩
          rw [← hP2] at x2
          have s1 := addW v7 P2
          obtain ⟨S1, hS1⟩ : ∃ E, E = v7 + P2 := ⟨_, rfl⟩
          rw [← hS1] at s1
          have y1 := andW v4 v5
          obtain ⟨Q1, hQ1⟩ : ∃ E, E = v4 &&& v5 := ⟨_, rfl⟩
          rw [← hQ1] at y1
          have n1 := not_w v4
          have n2 := not_w' v4
          obtain ⟨NE, hNE⟩ : ∃ E, E = ~~~v4 := ⟨_, rfl⟩
          rw [← hNE] at n1 n2
          have y2 := andW NE v6
          obtain ⟨Q2, hQ2⟩ : ∃ E, E = NE &&& v6 := ⟨_, rfl⟩
          rw [← hQ2] at y2
          have y3 := xorW Q1 Q2
          obtain ⟨Q3, hQ3⟩ : ∃ E, E = Q1 ^^^ Q2 := ⟨_, rfl⟩
          rw [← hQ3] at y3
          have s2 := addW S1 Q3
          obtain ⟨S2, hS2⟩ : ∃ E, E = S1 + Q3 := ⟨_, rfl⟩
          rw [← hS2] at s2
          have s3 := addW S2 kk
          obtain ⟨S3, hS3⟩ : ∃ E, E = S2 + kk := ⟨_, rfl⟩
          rw [← hS3] at s3
          have s4 := addW S3 x
          obtain ⟨S4, hS4⟩ : ∃ E, E = S3 + x := ⟨_, rfl⟩
          rw [← hS4] at s4
          have rR4 := fun W => rot_m2 v0 W
          obtain ⟨R4, hR4⟩ : ∃ E, E = rotl v0 30 := ⟨_, rfl⟩
          rw [← hR4] at rR4
          have CR4 := Lib.hid rR4
          clear rR4
          have rR5 := fun W => rot_m13 v0 W
          obtain ⟨R5, hR5⟩ : ∃ E, E = rotl v0 19 := ⟨_, rfl⟩
          rw [← hR5] at rR5
          have CR5 := Lib.hid rR5
          clear rR5
          have rR6 := fun W => rot_m22 v0 W
          obtain ⟨R6, hR6⟩ : ∃ E, E = rotl v0 10 := ⟨_, rfl⟩
          rw [← hR6] at rR6
          have CR6 := Lib.hid rR6
          clear rR6
          have x3 := xorW R4 R5
          obtain ⟨P3, hP3⟩ : ∃ E, E = R4 ^^^ R5 := ⟨_, rfl⟩
          rw [← hP3] at x3
          have x4 := xorW P3 R6
          obtain ⟨P4, hP4⟩ : ∃ E, E = P3 ^^^ R6 := ⟨_, rfl⟩
          rw [← hP4] at x4
          have m1 := andW v0 v1
          obtain ⟨M1, hM1⟩ : ∃ E, E = v0 &&& v1 := ⟨_, rfl⟩
          rw [← hM1] at m1
          have m2 := andW v0 v2
          obtain ⟨M2, hM2⟩ : ∃ E, E = v0 &&& v2 := ⟨_, rfl⟩
          rw [← hM2] at m2
          have m3 := xorW M1 M2
          obtain ⟨M3, hM3⟩ : ∃ E, E = M1 ^^^ M2 := ⟨_, rfl⟩
          rw [← hM3] at m3
          have m4 := andW v1 v2
          obtain ⟨M4, hM4⟩ : ∃ E, E = v1 &&& v2 := ⟨_, rfl⟩
          rw [← hM4] at m4
          have m5 := xorW M3 M4
          obtain ⟨M5, hM5⟩ : ∃ E, E = M3 ^^^ M4 := ⟨_, rfl⟩
          rw [← hM5] at m5
          have uu := addW P4 M5
          obtain ⟨U, hU⟩ : ∃ E, E = P4 + M5 := ⟨_, rfl⟩
          rw [← hU] at uu
          have e0 := addW S4 U
          obtain ⟨E0, hE0⟩ : ∃ E, E = S4 + U := ⟨_, rfl⟩
          rw [← hE0] at e0
          have e4 := addW v3 S4
          obtain ⟨E4, hE4⟩ : ∃ E, E = v3 + S4 := ⟨_, rfl⟩
          rw [← hE4] at e4
          have hstep : step2 kk x ⟨v0, v1, v2, v3, v4, v5, v6, v7⟩ = ⟨E0, v0, v1, v2, E4, v4, v5, v6⟩ := by
            unfold step2 tT uU
            subst hE4 hE0 hU hM5 hM4 hM3 hM2 hM1 hP4 hP3 hR6 hR5 hR4 hS4 hS3 hS2 hQ3 hQ2 hNE hQ1 hS1 hP2 hP1 hR3 hR2 hR1
            rfl
          have HST := Lib.hid (hss.trans hstep)
          clear hss hstep hE4 hE0 hU hM5 hM4 hM3 hM2 hM1 hP4 hP3 hR6 hR5 hR4 hS4 hS3 hS2 hQ3 hQ2 hNE hQ1 hS1 hP2 hP1 hR3 hR2 hR1 HH
          have G1 := Lib.hid (And.intro x1 (And.intro x2 (And.intro s1 (And.intro y1 (And.intro n1 (And.intro n2 (And.intro y2 (And.intro y3 (And.intro s2 (And.intro s3 s4))))))))))
          clear x1 x2 s1 y1 n1 n2 y2 y3 s2 s3 s4
          have G2 := Lib.hid (And.intro x3 (And.intro x4 (And.intro m1 (And.intro m2 (And.intro m3 (And.intro m4 (And.intro m5 uu)))))))
          clear x3 x4 m1 m2 m3 m4 m5 uu
          have G3 := Lib.hid (And.intro e0 e4)
          clear e0 e4
          have ha := (HALL.out wr rfl).1
          have l0 : wr.cell? ⟨N, 0, none⟩ = some (.int .u32 (v0.toNat : Int)) := cell_at ha 0
          have l4 : wr.cell? ⟨N, 4, none⟩ = some (.int .u32 (v4.toNat : Int)) := cell_at ha 4
          clear ha
          go_wp2_with fail
          go_quiet (fail)
          clear l0 l4
          have hq1 : (wr.drewN nq).heap = wr.heap := rfl
          have HW1 := Lib.hid hq1
          have HB1q := Lib.hid (below_drewN HBq.out nq)
          clear hq1
          generalize wr.drewN nq = W1 at HW1 HB1q ⊢
          obtain ⟨ha, cx, ck⟩ := HALL.out W1 HW1.out
          obtain ⟨x1, x2, s1, y1, n1, n2, y2, y3, s2, s3, s4⟩ := G1.out
          have l5 : W1.cell? ⟨N, 5, none⟩ = some (.int .u32 (v5.toNat : Int)) := cell_at ha 5
          have l6 : W1.cell? ⟨N, 6, none⟩ = some (.int .u32 (v6.toNat : Int)) := cell_at ha 6
          have l7 : W1.cell? ⟨N, 7, none⟩ = some (.int .u32 (v7.toNat : Int)) := cell_at ha 7
          clear ha
          go_wp2_with fail
          have n3 : bits .xor .u32 (if IntKind.u32.signed = true then -1 else IntKind.u32.max) (v4.toNat : Int) = (NE.toNat : Int) := n1
          have s1w := wrap_of s1
          have s2w := wrap_of s2
          have s3w := wrap_of s3
          have s4w := wrap_of s4
          refine region_class (fun w' => ∃ n, w' = W1.drewN n) (by kernel_rfl) (by kernel_rfl) ⟨1, rfl⟩ ?_
          repeat (first
            | (refine qtake (v := ?_) (by rfl) (fun w9 hSw => ?_) ?_
               rotate_left
               · obtain ⟨n9, rfl⟩ := hSw
                 go_simp
                 try with_reducible rfl
               simp only [Act.put, List.setIfInBounds_toArray, List.set_cons_zero, List.set_cons_succ, n3, y2, y3, s1w, s2w, s3w, s4w])
            | (refine qcall (v := .int .u32 (R1.toNat : Int)) (f := 50) (args := #[.int .u32 (v4.toNat : Int), .int .i64 (-6)]) (by rfl) (fun w9 => ?_) (fun w9 hSw => ?_) ?_
               · go_simp
               · obtain ⟨n9, rfl⟩ := hSw
                 exact (CR1.out _).mono fun e w' ⟨he, hw⟩ => ⟨he, n9, hw⟩
               simp only [Act.put, List.setIfInBounds_toArray, List.set_cons_zero, List.set_cons_succ, n3, y2, y3, s1w, s2w, s3w, s4w])
            | (refine qcall (v := .int .u32 (R2.toNat : Int)) (f := 50) (args := #[.int .u32 (v4.toNat : Int), .int .i64 (-11)]) (by rfl) (fun w9 => ?_) (fun w9 hSw => ?_) ?_
               · go_simp
               · obtain ⟨n9, rfl⟩ := hSw
                 exact (CR2.out _).mono fun e w' ⟨he, hw⟩ => ⟨he, n9, hw⟩
               simp only [Act.put, List.setIfInBounds_toArray, List.set_cons_zero, List.set_cons_succ, n3, y2, y3, s1w, s2w, s3w, s4w])
            | (refine qcall (v := .int .u32 (R3.toNat : Int)) (f := 50) (args := #[.int .u32 (v4.toNat : Int), .int .i64 (-25)]) (by rfl) (fun w9 => ?_) (fun w9 hSw => ?_) ?_
               · go_simp
               · obtain ⟨n9, rfl⟩ := hSw
                 exact (CR3.out _).mono fun e w' ⟨he, hw⟩ => ⟨he, n9, hw⟩
               simp only [Act.put, List.setIfInBounds_toArray, List.set_cons_zero, List.set_cons_succ, n3, y2, y3, s1w, s2w, s3w, s4w]))
          refine wpQuiet_nil ?_
          intro W2q hSq
          obtain ⟨nq2, hnq⟩ := hSq
          have HW2 : RowKit.Hid (W2q.heap = wr.heap) := Lib.hid (by rw [hnq]; exact HW1.out)
          have HB2q : RowKit.Hid (Below N _ W2q) := Lib.hid (by rw [hnq]; exact below_drewN HB1q.out nq2)
          clear hnq n3 s1w s2w s3w s4w l5 l6 l7 cx ck x1 x2 s1 y1 n1 n2 y2 y3 s2 s3 s4
          have ha := (HALL.out W2q HW2.out).1
          obtain ⟨x3, x4, m1, m2, m3, m4, m5, uu⟩ := G2.out
          have l1 : W2q.cell? ⟨N, 1, none⟩ = some (.int .u32 (v1.toNat : Int)) := cell_at ha 1
          have l2 : W2q.cell? ⟨N, 2, none⟩ = some (.int .u32 (v2.toNat : Int)) := cell_at ha 2
          clear ha
          go_wp2_with fail
          have uuw := wrap_of uu
          refine region_class (fun w' => ∃ n, w' = W2q.drewN n) (by kernel_rfl) (by kernel_rfl) ⟨1, rfl⟩ ?_
          repeat (first
            | (refine qtake (v := ?_) (by rfl) (fun w9 hSw => ?_) ?_
               rotate_left
               · obtain ⟨n9, rfl⟩ := hSw
                 go_simp
                 try with_reducible rfl
               simp only [Act.put, List.setIfInBounds_toArray, List.set_cons_zero, List.set_cons_succ, uuw])
            | (refine qcall (v := .int .u32 (R4.toNat : Int)) (f := 50) (args := #[.int .u32 (v0.toNat : Int), .int .i64 (-2)]) (by rfl) (fun w9 => ?_) (fun w9 hSw => ?_) ?_
               · go_simp
               · obtain ⟨n9, rfl⟩ := hSw
                 exact (CR4.out _).mono fun e w' ⟨he, hw⟩ => ⟨he, n9, hw⟩
               simp only [Act.put, List.setIfInBounds_toArray, List.set_cons_zero, List.set_cons_succ, uuw])
            | (refine qcall (v := .int .u32 (R5.toNat : Int)) (f := 50) (args := #[.int .u32 (v0.toNat : Int), .int .i64 (-13)]) (by rfl) (fun w9 => ?_) (fun w9 hSw => ?_) ?_
               · go_simp
               · obtain ⟨n9, rfl⟩ := hSw
                 exact (CR5.out _).mono fun e w' ⟨he, hw⟩ => ⟨he, n9, hw⟩
               simp only [Act.put, List.setIfInBounds_toArray, List.set_cons_zero, List.set_cons_succ, uuw])
            | (refine qcall (v := .int .u32 (R6.toNat : Int)) (f := 50) (args := #[.int .u32 (v0.toNat : Int), .int .i64 (-22)]) (by rfl) (fun w9 => ?_) (fun w9 hSw => ?_) ?_
               · go_simp
               · obtain ⟨n9, rfl⟩ := hSw
                 exact (CR6.out _).mono fun e w' ⟨he, hw⟩ => ⟨he, n9, hw⟩
               simp only [Act.put, List.setIfInBounds_toArray, List.set_cons_zero, List.set_cons_succ, uuw]))
          refine wpQuiet_nil ?_
          intro W3q hSq
          obtain ⟨nq2, hnq⟩ := hSq
          have HW3 : RowKit.Hid (W3q.heap = wr.heap) := Lib.hid (by rw [hnq]; exact HW2.out)
          have HB3q : RowKit.Hid (Below N _ W3q) := Lib.hid (by rw [hnq]; exact below_drewN HB2q.out nq2)
          clear hnq uuw l1 l2 x3 x4 m1 m2 m3 m4 m5 uu
          have ha := (HALL.out W3q HW3.out).1
          obtain ⟨e0, e4⟩ := G3.out
          have l0 : W3q.cell? ⟨N, 0, none⟩ = some (.int .u32 (v0.toNat : Int)) := cell_at ha 0
          have l1 : W3q.cell? ⟨N, 1, none⟩ = some (.int .u32 (v1.toNat : Int)) := cell_at ha 1
          have l2 : W3q.cell? ⟨N, 2, none⟩ = some (.int .u32 (v2.toNat : Int)) := cell_at ha 2
          have l3 : W3q.cell? ⟨N, 3, none⟩ = some (.int .u32 (v3.toNat : Int)) := cell_at ha 3
          have l4 : W3q.cell? ⟨N, 4, none⟩ = some (.int .u32 (v4.toNat : Int)) := cell_at ha 4
          have l5 : W3q.cell? ⟨N, 5, none⟩ = some (.int .u32 (v5.toNat : Int)) := cell_at ha 5
          have l6 : W3q.cell? ⟨N, 6, none⟩ = some (.int .u32 (v6.toNat : Int)) := cell_at ha 6
          have l7 : W3q.cell? ⟨N, 7, none⟩ = some (.int .u32 (v7.toNat : Int)) := cell_at ha 7
          have f0 := free_at ha 0
          have f1 := free_at ha 1
          have f2 := free_at ha 2
          have f3 := free_at ha 3
          have f4 := free_at ha 4
          have f5 := free_at ha 5
          have f6 := free_at ha 6
          have f7 := free_at ha 7
          have he := (heap_set (heap_set (heap_set (heap_set (heap_set (heap_set (heap_set (heap_set ha 0 (.int .u32 (E0.toNat : Int))) 1 (.int .u32 (v0.toNat : Int))) 2 (.int .u32 (v1.toNat : Int))) 3 (.int .u32 (v2.toNat : Int))) 4 (.int .u32 (E4.toNat : Int))) 5 (.int .u32 (v4.toNat : Int))) 6 (.int .u32 (v5.toNat : Int))) 7 (.int .u32 (v6.toNat : Int)))
          simp only [List.setIfInBounds_toArray, List.set_cons_zero, List.set_cons_succ] at he
          have HE := Lib.hid he
          clear he
          have HBE := Lib.hid ((((((((HB3q.out.setCell (p := ⟨N, 0, none⟩) (Nat.le_refl _) (.int .u32 (E0.toNat : Int))).setCell (p := ⟨N, 1, none⟩) (Nat.le_refl _) (.int .u32 (v0.toNat : Int))).setCell (p := ⟨N, 2, none⟩) (Nat.le_refl _) (.int .u32 (v1.toNat : Int))).setCell (p := ⟨N, 3, none⟩) (Nat.le_refl _) (.int .u32 (v2.toNat : Int))).setCell (p := ⟨N, 4, none⟩) (Nat.le_refl _) (.int .u32 (E4.toNat : Int))).setCell (p := ⟨N, 5, none⟩) (Nat.le_refl _) (.int .u32 (v4.toNat : Int))).setCell (p := ⟨N, 6, none⟩) (Nat.le_refl _) (.int .u32 (v5.toNat : Int))).setCell (p := ⟨N, 7, none⟩) (Nat.le_refl _) (.int .u32 (v6.toNat : Int)))
          clear ha
          go_wp2
          refine ⟨⟨i + 1, ⟨E0, v0, v1, v2, E4, v4, v5, v6⟩, by omega, by go_num, HST.out, HE.out, HBE.out⟩, by simp [intOf]; omega⟩
        · have hi64 : i = 64 := by omega
          rw [hi64] at HV
          clear hi64
          obtain ⟨h_, hh_⟩ : ∃ x, x = h := ⟨_, rfl⟩
          obtain ⟨X, hX⟩ : ∃ X, X = blk2 s h := ⟨_, rfl⟩
          obtain ⟨VL, hVL⟩ : ∃ X : List (BitVec 32), X = [v0, v1, v2, v3, v4, v5, v6, v7] := ⟨_, rfl⟩
          have hxs : ∀ j, j < 8 → at32 X j = at32 h j + at32 VL j := by
            obtain ⟨e0, e1, e2, e3, e4, e5, e6, e7⟩ := HH.out
            intro j hj
            have hb2 : blk2 s h = [at32 h 0 + v0, at32 h 1 + v1, at32 h 2 + v2, at32 h 3 + v3, at32 h 4 + v4, at32 h 5 + v5, at32 h 6 + v6, at32 h 7 + v7] := by
              unfold blk2
              rw [← HLL.out, ← e0, ← e1, ← e2, ← e3, ← e4, ← e5, ← e6, ← e7, HV.out]
            rw [hX, hb2, hVL]
            have h8 : j = 0 ∨ j = 1 ∨ j = 2 ∨ j = 3 ∨ j = 4 ∨ j = 5 ∨ j = 6 ∨ j = 7 := by omega
            rcases h8 with rfl | rfl | rfl | rfl | rfl | rfl | rfl | rfl <;> rfl
          obtain ⟨VA, hVA⟩ : ∃ A : Array Value, A = #[.int .u32 (v0.toNat : Int), .int .u32 (v1.toNat : Int), .int .u32 (v2.toNat : Int), .int .u32 (v3.toNat : Int), .int .u32 (v4.toNat : Int), .int .u32 (v5.toNat : Int), .int .u32 (v6.toNat : Int), .int .u32 (v7.toNat : Int)] := ⟨_, rfl⟩
          have hva : ∀ j, j < 8 → VA[j]? = some (.int .u32 ((at32 VL j).toNat : Int)) := by
            intro j hj
            rw [hVA, hVL]
            have h8 : j = 0 ∨ j = 1 ∨ j = 2 ∨ j = 3 ∨ j = 4 ∨ j = 5 ∨ j = 6 ∨ j = 7 := by omega
            rcases h8 with rfl | rfl | rfl | rfl | rfl | rfl | rfl | rfl <;> rfl
          rw [← hVA] at HQ
          have hXX := Lib.hid hX
          have HXS := Lib.hid hxs
          have HVA := Lib.hid hva
          clear hX hVL hVA hxs hva hh_ h_
          go_wp2_with fail
          go_loopw [152] (fun iv wq => ∃ (j : Nat) (W1 : World), j ≤ 8 ∧ iv = .int .i64 (j : Int) ∧ wq = putW W1 g X j ∧ W1.heap[N]? = some (.cells VA 70 (0, 0)) ∧ Below w.heap.size w W1) (fun iv _ => 8 - (intOf iv).toNat)
          case atStart => exact ⟨0, _, by omega, rfl, rfl, HQ.out, HB.out.trans (HBq.out.mono (Nat.le_of_lt HN4.out))⟩
          case round =>
            obtain ⟨j, W1, hj, rfl, rfl, hq, hb⟩ := hrel
            have HQ1 := Lib.hid hq
            have HB1 := Lib.hid hb
            clear hq hb
            by_cases h8 : j < 8
            · obtain ⟨k1, z1⟩ := HW.out j (by omega)
              have l1 : (putW W1 g X j).cell? ⟨g, j, none⟩ = some (.int .u32 ((at32 h j).toNat : Int)) := (putW_cell_ge g W1 X j j (Nat.le_refl _)).trans ((HB1.out.cell (p := ⟨g, j, none⟩) hg).trans k1)
              have f1 : (putW W1 g X j).drew.frozen? ⟨g, j, none⟩ = false := (putW_frozen g W1 X j ⟨g, j, none⟩).trans ((HB1.out.frozen (p := ⟨g, j, none⟩) hg).trans z1)
              have d1 : (putW W1 g X j).drew.cell? ⟨g, j, none⟩ = some (.int .u32 ((at32 h j).toNat : Int)) := l1
              have l2 : (putW W1 g X j).cell? ⟨N, j, none⟩ = some (.int .u32 ((at32 VL j).toNat : Int)) := (cell_at ((putW_heap (Nat.ne_of_gt HNg.out) W1 X j).trans HQ1.out) j).trans (HVA.out j h8)
              have hsum := HXS.out j h8
              obtain ⟨A, hA⟩ : ∃ x, x = at32 h j := ⟨_, rfl⟩
              obtain ⟨B, hB⟩ : ∃ x, x = at32 VL j := ⟨_, rfl⟩
              rw [← hA] at l1 d1
              rw [← hB] at l2
              rw [← hA, ← hB] at hsum
              have aw := addW A B
              obtain ⟨C, hC⟩ : ∃ x, x = A + B := ⟨_, rfl⟩
              rw [← hC] at aw hsum
              have hp1 : ((putW W1 g X j).drew).setCell ⟨g, j, none⟩ (.int .u32 (C.toNat : Int)) = putW W1.drew g X (j + 1) := by rw [putW, ← hsum, putW_drew]
              have HP := Lib.hid hp1
              have hj8 : (j : Int) < 8 := by omega
              clear hp1 hA hB hC hsum k1 z1
              obtain ⟨WW, hWW⟩ : ∃ W, W = putW W1 g X j := ⟨_, rfl⟩
              rw [← hWW] at l1 f1 d1 l2 HP ⊢
              clear hWW
              go_wp2_with fail
              refine wp_region_still_tail 9 (by kernel_rfl) (by kernel_rfl) ?_
              simp only [List.take_succ_cons, List.take_zero, List.drop_succ_cons, List.drop_zero]
              repeat still_step
              refine wpStill_nil ?_
              change wpList _ _ _ _ _ WW.drew
              generalize WW.drew = W0 at f1 d1 HP ⊢
              go_wp2
              refine ⟨⟨j + 1, W1.drew, by omega, by go_num, HP.out, HQ1.out, HB1.out.drew⟩, by simp [intOf]; omega⟩
            · have hj8 : j = 8 := by omega
              subst hj8
              go_wp2
              go_end0
              exact ⟨rfl, W1, HB1.out, by rw [hXX.out]⟩
end Go.Proofs.Ytdhafmjhohnclaa
