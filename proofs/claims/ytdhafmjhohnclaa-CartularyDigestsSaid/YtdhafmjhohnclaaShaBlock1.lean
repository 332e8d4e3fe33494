/- THE WALK of SHA-1's block. Conditions: the five words lie in memory; the text has 64 bytes. -/
import Derived.Test.YtdhafmjhohnclaaShaMath
import Derived.StillTailTactics
import Derived.Deep.MidRow
import Derived.Deep.CutBlock
namespace Go.Proofs.Ytdhafmjhohnclaa
open Go.RowKit Sums
set_option linter.unusedVariables false

/-- Words from a cell on. -/
def words (w : World) (g : Nat) (h : List (BitVec 32)) : Prop := ∀ j, j < h.length → w.cell? ⟨g, j, none⟩ = some (.int .u32 ((at32 h j).toNat : Int)) ∧ w.frozen? ⟨g, j, none⟩ = false
/-- The words are written, one behind the other. -/
def putW (w : World) (g : Nat) (x : List (BitVec 32)) : Nat → World
  | 0 => w
  | i + 1 => (putW w g x i).setCell ⟨g, i, none⟩ (.int .u32 ((at32 x i).toNat : Int))

set_option maxRecDepth 100000 in
set_option maxHeartbeats 2000000 in
theorem block1_any (s : ByteArray) (h : List (BitVec 32)) (g cap : Nat) (w : World) (hs : s.size = 64) (hl : h.length = 5) (hw : words w g h) (hg : g < w.heap.size) :
    Calls Try.prog 45 #[.slice (some ⟨g, 0, none⟩) 5 cap, .string s] w fun e w' => e = .returned (.tuple #[]) ∧ ∃ W1, Below w.heap.size w W1 ∧ w' = putW W1 g (blk1 s h) 5 := by
  have HS := Lib.hid hs
  have HW := Lib.hid hw
  have hz : ∀ w : World, (zeroValue 66).run Try.prog w = .ok (.agg (arrW [] 80)) w := fun w => by kernel_rfl
  have hsl : (s.size : Int) = 64 := by omega
  have H0 := Lib.hid (show (w.alloc (.cells (arrW [] 80) 66)).heap[w.heap.size]? = some (.cells (arrW [] 80) 66 (0, 0)) from heap_alloc_same w _)
  clear hs hw
  go_enter Try.func45, Try.ntmps45
  go_wp2
  go_loopw [15] (fun iv wr => ∃ i : Nat, i ≤ 80 ∧ iv = .int .i64 (i : Int) ∧ wr.heap[w.heap.size]? = some (.cells (arrW (sched1 s i) 80) 66 (0, 0)) ∧ Below w.heap.size w wr) (fun iv _ => 80 - (intOf iv).toNat)
  case atStart => exact ⟨0, by omega, rfl, (show arrW (sched1 s 0) 80 = arrW [] 80 from congrArg (fun l => arrW l 80) rfl) ▸ H0.out, (Below.refl _ _).alloc (Nat.le_refl _) _⟩
  case round =>
    obtain ⟨i, hi, rfl, hc, hb⟩ := hrel
    have HC := Lib.hid hc
    have HB := Lib.hid hb
    clear hc hb hz
    by_cases h80 : i < 80
    · by_cases h16 : i < 16
      · have hex : (s.extract (4 * i) s.size).size = 64 - 4 * i := by rw [ByteArray.size_extract, HS.out]; omega
        have h4 : 4 ≤ (s.extract (4 * i) s.size).size := by omega
        have hwd := fun W => word_any (s.extract (4 * i) s.size) W h4
        rw [word_at s (4 * i) (by rw [HS.out]; omega) h4] at hwd
        have hs1 : sched1 s (i + 1) = sched1 s i ++ [wordAt s (4 * i)] := by rw [sched1, if_pos h16]
        have hst := fun n => heap_set (show (wr.drewN n).heap[w.heap.size]? = _ from HC.out) i (.int .u32 ((wordAt s (4 * i)).toNat : Int))
        have has := arrW_set (sched1 s i) 80 (wordAt s (4 * i)) (by rw [sched1_len]; exact h80)
        rw [sched1_len, ← hs1] at has
        rw [has] at hst
        have hfr := free_at HC.out i
        obtain ⟨v0, hce⟩ : ∃ v0, wr.cell? ⟨w.heap.size, i, none⟩ = some v0 := ⟨_, (cell_at HC.out i).trans (arrW_at _ _ _ h80)⟩
        have HST := Lib.hid hst
        have HWD := Lib.hid hwd
        have e4 : (4 * (i : Int)).toNat = 4 * i := by omega
        clear hex h4 hwd hs1 hst has
        obtain ⟨x, hx⟩ : ∃ x, x = wordAt s (4 * i) := ⟨_, rfl⟩
        rw [← hx] at HST HWD
        have HX := Lib.hid hx
        clear hx HW H0
        go_wp2_with fail
        refine (HWD.out _).mono ?_
        rintro e w1 ⟨rfl, n, rfl⟩
        go_wp2
        refine ⟨⟨i + 1, by omega, by go_num, by rw [HX.out] at HST ⊢; exact HST.out n, (below_drewN HB.out n).setCell (Nat.le_refl _) _⟩, by simp [intOf]; omega⟩
      · obtain ⟨A, hA⟩ : ∃ A, A = at32 (sched1 s i) (i - 3) := ⟨_, rfl⟩
        obtain ⟨B, hB⟩ : ∃ B, B = at32 (sched1 s i) (i - 8) := ⟨_, rfl⟩
        obtain ⟨C, hC⟩ : ∃ C, C = at32 (sched1 s i) (i - 14) := ⟨_, rfl⟩
        obtain ⟨D, hD⟩ : ∃ D, D = at32 (sched1 s i) (i - 16) := ⟨_, rfl⟩
        have x1 := xorW A B
        obtain ⟨E1, hE1⟩ : ∃ E, E = A ^^^ B := ⟨_, rfl⟩
        rw [← hE1] at x1
        have x2 := xorW E1 C
        obtain ⟨E2, hE2⟩ : ∃ E, E = E1 ^^^ C := ⟨_, rfl⟩
        rw [← hE2] at x2
        have x3 := xorW E2 D
        obtain ⟨E3, hE3⟩ : ∃ E, E = E2 ^^^ D := ⟨_, rfl⟩
        rw [← hE3] at x3
        have hs1 : sched1 s (i + 1) = sched1 s i ++ [rotl E3 1] := by rw [sched1, if_neg h16, hE3, hE2, hE1, hA, hB, hC, hD]
        have cA := (cell_at HC.out (i - 3)).trans (arrW_at _ _ _ (by omega))
        have cB := (cell_at HC.out (i - 8)).trans (arrW_at _ _ _ (by omega))
        have cC := (cell_at HC.out (i - 14)).trans (arrW_at _ _ _ (by omega))
        have cD := (cell_at HC.out (i - 16)).trans (arrW_at _ _ _ (by omega))
        rw [← hA] at cA
        rw [← hB] at cB
        rw [← hC] at cC
        rw [← hD] at cD
        have hst := heap_set (heap_drew HC.out) i (.int .u32 ((rotl E3 1).toNat : Int))
        have has := arrW_set (sched1 s i) 80 (rotl E3 1) (by rw [sched1_len]; exact h80)
        rw [sched1_len, ← hs1] at has
        rw [has] at hst
        have hfr := free_at (heap_drew HC.out) i
        obtain ⟨v0, hce⟩ : ∃ v0, wr.drew.cell? ⟨w.heap.size, i, none⟩ = some v0 := ⟨_, (cell_at (heap_drew HC.out) i).trans (arrW_at _ _ _ h80)⟩
        have hbb : Below w.heap.size w (wr.drew.setCell ⟨w.heap.size, i, none⟩ (.int .u32 ((rotl E3 1).toNat : Int))) := HB.out.drew.setCell (Nat.le_refl _) _
        have HST := Lib.hid hst
        have HBB := Lib.hid hbb
        have t3 : ((i : Int) - 3).toNat = i - 3 := by omega
        have t8 : ((i : Int) - 8).toNat = i - 8 := by omega
        have t14 : ((i : Int) - 14).toNat = i - 14 := by omega
        have t16 : ((i : Int) - 16).toNat = i - 16 := by omega
        have p3 : 0 ≤ (i : Int) - 3 := by omega
        have p8 : 0 ≤ (i : Int) - 8 := by omega
        have p14 : 0 ≤ (i : Int) - 14 := by omega
        have p16 : 0 ≤ (i : Int) - 16 := by omega
        have u3 : (i : Int) - 3 < 80 := by omega
        have u8 : (i : Int) - 8 < 80 := by omega
        have u14 : (i : Int) - 14 < 80 := by omega
        have u16 : (i : Int) - 16 < 80 := by omega
        have y3 : IntKind.i64.wrap ((i : Int) - 3) = (i : Int) - 3 := IntWalk.i64_in _ (by omega)
        have y8 : IntKind.i64.wrap ((i : Int) - 8) = (i : Int) - 8 := IntWalk.i64_in _ (by omega)
        have y14 : IntKind.i64.wrap ((i : Int) - 14) = (i : Int) - 14 := IntWalk.i64_in _ (by omega)
        have y16 : IntKind.i64.wrap ((i : Int) - 16) = (i : Int) - 16 := IntWalk.i64_in _ (by omega)
        have hi8 : (i : Int) < 80 := by omega
        have g3 : (3 : Int) ≤ (i : Int) := by omega
        have g8 : (8 : Int) ≤ (i : Int) := by omega
        have g14 : (14 : Int) ≤ (i : Int) := by omega
        have g16 : (16 : Int) ≤ (i : Int) := by omega
        clear hs1 hst has hbb hA hB hC hD hE1 hE2 hE3 HW H0
        go_wp2_with fail
        refine wp_region_still_tail 22 (by kernel_rfl) (by kernel_rfl) ?_
        simp only [List.take_succ_cons, List.take_zero, List.drop_succ_cons, List.drop_zero]
        repeat still_step
        still_call (rot_1 E3 _)
        repeat still_step
        refine wpStill_nil ?_
        change wpList _ _ _ _ _ wr.drew
        generalize wr.drew = W0 at hfr hce HST HBB ⊢
        go_wp2
        refine ⟨⟨i + 1, by omega, by go_num, HST.out, HBB.out⟩, by simp [intOf]; omega⟩
    · have hi80 : i = 80 := by omega
      rw [hi80] at HC
      clear hi80
      obtain ⟨k0, z0⟩ := HW.out 0 (by omega)
      have c0 : wr.cell? ⟨g, 0, none⟩ = some (.int .u32 ((at32 h 0).toNat : Int)) := (HB.out.cell (p := ⟨g, 0, none⟩) hg).trans k0
      obtain ⟨k1, z1⟩ := HW.out 1 (by omega)
      have c1 : wr.cell? ⟨g, 1, none⟩ = some (.int .u32 ((at32 h 1).toNat : Int)) := (HB.out.cell (p := ⟨g, 1, none⟩) hg).trans k1
      obtain ⟨k2, z2⟩ := HW.out 2 (by omega)
      have c2 : wr.cell? ⟨g, 2, none⟩ = some (.int .u32 ((at32 h 2).toNat : Int)) := (HB.out.cell (p := ⟨g, 2, none⟩) hg).trans k2
      obtain ⟨k3, z3⟩ := HW.out 3 (by omega)
      have c3 : wr.cell? ⟨g, 3, none⟩ = some (.int .u32 ((at32 h 3).toNat : Int)) := (HB.out.cell (p := ⟨g, 3, none⟩) hg).trans k3
      obtain ⟨k4, z4⟩ := HW.out 4 (by omega)
      have c4 : wr.cell? ⟨g, 4, none⟩ = some (.int .u32 ((at32 h 4).toNat : Int)) := (HB.out.cell (p := ⟨g, 4, none⟩) hg).trans k4
      obtain ⟨h0, hh0⟩ : ∃ x, x = at32 h 0 := ⟨_, rfl⟩
      rw [← hh0] at c0
      obtain ⟨h1, hh1⟩ : ∃ x, x = at32 h 1 := ⟨_, rfl⟩
      rw [← hh1] at c1
      obtain ⟨h2, hh2⟩ : ∃ x, x = at32 h 2 := ⟨_, rfl⟩
      rw [← hh2] at c2
      obtain ⟨h3, hh3⟩ : ∃ x, x = at32 h 3 := ⟨_, rfl⟩
      rw [← hh3] at c3
      obtain ⟨h4, hh4⟩ : ∃ x, x = at32 h 4 := ⟨_, rfl⟩
      rw [← hh4] at c4
      have HH := Lib.hid (And.intro hh0 (And.intro hh1 (And.intro hh2 (And.intro hh3 hh4))))
      clear k0 k1 k2 k3 k4 z0 z1 z2 z3 z4 hh0 hh1 hh2 hh3 hh4
      obtain ⟨l, hll⟩ : ∃ l, l = sched1 s 80 := ⟨_, rfl⟩
      rw [← hll] at HC
      have HLL := Lib.hid hll
      clear hll hi
      have HR : RowKit.Hid (∀ n : Nat, (wr.drewN n).rangeAt w.heap.size 0 (arrW l 80).toList) := Lib.hid (fun n j v hv => by
        rw [Nat.zero_add]
        rw [Array.getElem?_toList] at hv
        exact (cell_at HC.out j).trans hv)
      have HN : RowKit.Hid ((Try.prog.info? 66).map (·.size) = some (arrW l 80).toList.length) := Lib.hid (by rw [Array.length_toList, arrW_size]; kernel_rfl)
      go_wp2_with fail
      go_quiet (fail)
      go_wp2_with fail
      refine wp_load_mid _ _ rfl w.heap.size 0 rfl (arrW l 80).toList _ (HR.out nq) Try.underlying66 rfl HN.out ?_
      simp only [Array.toArray_toList, Act.put, List.setIfInBounds_toArray, List.set_cons_zero, List.set_cons_succ]
      obtain ⟨AR, hAR⟩ : ∃ AR, AR = arrW l 80 := ⟨_, rfl⟩
      rw [← hAR]
      have HAR : RowKit.Hid (∀ i, i < 80 → AR[i]? = some (.int .u32 ((at32 l i).toNat : Int))) := Lib.hid (fun i hi => by rw [hAR]; exact arrW_at l 80 i hi)
      clear h80 hAR HR HN
      go_wp2
      go_loopw [6, 7, 8, 9, 10, 66] (fun av bv cv dv ev iv wq => ∃ i : Nat, i ≤ 80 ∧ iv = .int .i64 (i : Int) ∧ av = .int .u32 ((steps1 l ⟨h0, h1, h2, h3, h4⟩ i).a.toNat : Int) ∧ bv = .int .u32 ((steps1 l ⟨h0, h1, h2, h3, h4⟩ i).b.toNat : Int) ∧ cv = .int .u32 ((steps1 l ⟨h0, h1, h2, h3, h4⟩ i).c.toNat : Int) ∧ dv = .int .u32 ((steps1 l ⟨h0, h1, h2, h3, h4⟩ i).d.toNat : Int) ∧ ev = .int .u32 ((steps1 l ⟨h0, h1, h2, h3, h4⟩ i).e.toNat : Int) ∧ Below w.heap.size w wq) (fun _ _ _ _ _ iv _ => 80 - (intOf iv).toNat)
      case atStart => exact ⟨0, by omega, rfl, rfl, rfl, rfl, rfl, rfl, below_drewN HB.out _⟩
      case round =>
        clear c0 c1 c2 c3 c4
        obtain ⟨i, hi, rfl, rfl, rfl, rfl, rfl, rfl, hb⟩ := hrel
        have HB2 := Lib.hid hb
        have hss : steps1 l ⟨h0, h1, h2, h3, h4⟩ (i + 1) = step1 (at32 l i) i (steps1 l ⟨h0, h1, h2, h3, h4⟩ i) := rfl
        obtain ⟨v, hvv⟩ : ∃ v, steps1 l ⟨h0, h1, h2, h3, h4⟩ i = v := ⟨_, rfl⟩
        rw [hvv] at hss ⊢
        obtain ⟨a, b, c, d, e⟩ := v
        have HV := Lib.hid hvv
        clear hvv
        have HSS := Lib.hid hss
        clear hb hss
        by_cases h80 : i < 80
        · have hx := HAR.out i h80
          obtain ⟨x, hxx⟩ : ∃ x, x = at32 l i := ⟨_, rfl⟩
          rw [← hxx] at hx HSS
          clear hxx
          have hix : ∀ W : World, (Instr.index 66 (.agg AR) (.int .i64 (i : Int))).run Try.prog W = .ok (.int .u32 (x.toNat : Int)) W := fun W => by
            have hI : (i : Int) < 80 := by omega
            simp [Instr.index, asIntOf, part, hx, hI, h80, go_sem]
          by_cases b20 : i < 20
          · skip
            have x1 := xorW b c
            obtain ⟨P1, hP1⟩ : ∃ E, E = b ^^^ c := ⟨_, rfl⟩
            rw [← hP1] at x1
            have x2 := xorW P1 d
            obtain ⟨P2, hP2⟩ : ∃ E, E = P1 ^^^ d := ⟨_, rfl⟩
            rw [← hP2] at x2
            have y1 := andW b c
            obtain ⟨Q1, hQ1⟩ : ∃ E, E = b &&& c := ⟨_, rfl⟩
            rw [← hQ1] at y1
            have n1 := not_w b
            have n2 := not_w' b
            obtain ⟨NB, hNB⟩ : ∃ E, E = ~~~b := ⟨_, rfl⟩
            rw [← hNB] at n1 n2
            have y2 := andW NB d
            obtain ⟨Q2, hQ2⟩ : ∃ E, E = NB &&& d := ⟨_, rfl⟩
            rw [← hQ2] at y2
            have y3 := orW Q1 Q2
            obtain ⟨F, hF⟩ : ∃ E, E = Q1 ||| Q2 := ⟨_, rfl⟩
            rw [← hF] at y3
            obtain ⟨R5, hR5⟩ : ∃ E, E = rotl a 5 := ⟨_, rfl⟩
            obtain ⟨R30, hR30⟩ : ∃ E, E = rotl b 30 := ⟨_, rfl⟩
            have a1 := addW R5 F
            obtain ⟨S1, hS1⟩ : ∃ E, E = R5 + F := ⟨_, rfl⟩
            rw [← hS1] at a1
            have a2 := addW S1 e
            obtain ⟨S2, hS2⟩ : ∃ E, E = S1 + e := ⟨_, rfl⟩
            rw [← hS2] at a2
            have a3 : ((S2.toNat : Int) + ((1518500249 : Nat) : Int)) % 4294967296 = _ := addW S2 1518500249#32
            obtain ⟨S3, hS3⟩ : ∃ E, E = S2 + 1518500249#32 := ⟨_, rfl⟩
            rw [← hS3] at a3
            have a3' : ((S2.toNat : Int) + (1518500249 : Int)) % (4294967296 : Int) = (S3.toNat : Int) := a3
            clear a3
            have a4 := addW S3 x
            obtain ⟨S4, hS4⟩ : ∃ E, E = S3 + x := ⟨_, rfl⟩
            rw [← hS4] at a4
            have hstep : step1 x i ⟨a, b, c, d, e⟩ = ⟨S4, a, R30, c, d⟩ := by
              unfold step1 f1 k1
              simp only [if_pos (show i < 20 by omega)]
              subst hP1 hP2 hQ1 hNB hQ2 hF hS1 hS2 hS3 hS4 hR5 hR30
              rfl
            have HST2 := Lib.hid (HSS.out.trans hstep)
            have r5 := fun W => rot_5 a W
            have r30 := fun W => rot_30 b W
            rw [← hR5] at r5
            rw [← hR30] at r30
            have HR5 := Lib.hid r5
            have HR30 := Lib.hid r30
            clear r5 r30 hstep hP1 hP2 hQ1 hNB hQ2 hF hS1 hS2 hS3 hS4 hR5 hR30 HSS
            have hq : (i : Int) / 20 = 0 := by omega
            go_wp2_with fail
            refine (HR5.out _).mono ?_
            rintro e1 w1 ⟨rfl, rfl⟩
            go_wp2_with fail
            refine (HR30.out _).mono ?_
            rintro e1 w1 ⟨rfl, rfl⟩
            go_wp2
            refine ⟨⟨i + 1, by omega, by go_num, by rw [HST2.out], by rw [HST2.out], by rw [HST2.out], by rw [HST2.out], by rw [HST2.out], HB2.out⟩, by simp [intOf]; omega⟩
          by_cases b40 : i < 40
          · skip
            have x1 := xorW b c
            obtain ⟨P1, hP1⟩ : ∃ E, E = b ^^^ c := ⟨_, rfl⟩
            rw [← hP1] at x1
            have x2 := xorW P1 d
            obtain ⟨P2, hP2⟩ : ∃ E, E = P1 ^^^ d := ⟨_, rfl⟩
            rw [← hP2] at x2
            obtain ⟨R5, hR5⟩ : ∃ E, E = rotl a 5 := ⟨_, rfl⟩
            obtain ⟨R30, hR30⟩ : ∃ E, E = rotl b 30 := ⟨_, rfl⟩
            have a1 := addW R5 P2
            obtain ⟨S1, hS1⟩ : ∃ E, E = R5 + P2 := ⟨_, rfl⟩
            rw [← hS1] at a1
            have a2 := addW S1 e
            obtain ⟨S2, hS2⟩ : ∃ E, E = S1 + e := ⟨_, rfl⟩
            rw [← hS2] at a2
            have a3 : ((S2.toNat : Int) + ((1859775393 : Nat) : Int)) % 4294967296 = _ := addW S2 1859775393#32
            obtain ⟨S3, hS3⟩ : ∃ E, E = S2 + 1859775393#32 := ⟨_, rfl⟩
            rw [← hS3] at a3
            have a3' : ((S2.toNat : Int) + (1859775393 : Int)) % (4294967296 : Int) = (S3.toNat : Int) := a3
            clear a3
            have a4 := addW S3 x
            obtain ⟨S4, hS4⟩ : ∃ E, E = S3 + x := ⟨_, rfl⟩
            rw [← hS4] at a4
            have hstep : step1 x i ⟨a, b, c, d, e⟩ = ⟨S4, a, R30, c, d⟩ := by
              unfold step1 f1 k1
              simp only [if_neg (show ¬ i < 20 by omega), if_pos (show i < 40 by omega)]
              subst hP1 hP2 hS1 hS2 hS3 hS4 hR5 hR30
              rfl
            have HST2 := Lib.hid (HSS.out.trans hstep)
            have r5 := fun W => rot_5 a W
            have r30 := fun W => rot_30 b W
            rw [← hR5] at r5
            rw [← hR30] at r30
            have HR5 := Lib.hid r5
            have HR30 := Lib.hid r30
            clear r5 r30 hstep hP1 hP2 hS1 hS2 hS3 hS4 hR5 hR30 HSS
            have hq : (i : Int) / 20 = 1 := by omega
            go_wp2_with fail
            refine (HR5.out _).mono ?_
            rintro e1 w1 ⟨rfl, rfl⟩
            go_wp2_with fail
            refine (HR30.out _).mono ?_
            rintro e1 w1 ⟨rfl, rfl⟩
            go_wp2
            refine ⟨⟨i + 1, by omega, by go_num, by rw [HST2.out], by rw [HST2.out], by rw [HST2.out], by rw [HST2.out], by rw [HST2.out], HB2.out⟩, by simp [intOf]; omega⟩
          by_cases b60 : i < 60
          · skip
            have x1 := xorW b c
            obtain ⟨P1, hP1⟩ : ∃ E, E = b ^^^ c := ⟨_, rfl⟩
            rw [← hP1] at x1
            have x2 := xorW P1 d
            obtain ⟨P2, hP2⟩ : ∃ E, E = P1 ^^^ d := ⟨_, rfl⟩
            rw [← hP2] at x2
            have y1 := andW b c
            obtain ⟨Q1, hQ1⟩ : ∃ E, E = b &&& c := ⟨_, rfl⟩
            rw [← hQ1] at y1
            have y2 := andW b d
            obtain ⟨Q2, hQ2⟩ : ∃ E, E = b &&& d := ⟨_, rfl⟩
            rw [← hQ2] at y2
            have y3 := andW c d
            obtain ⟨Q3, hQ3⟩ : ∃ E, E = c &&& d := ⟨_, rfl⟩
            rw [← hQ3] at y3
            have y4 := orW Q1 Q2
            obtain ⟨Q4, hQ4⟩ : ∃ E, E = Q1 ||| Q2 := ⟨_, rfl⟩
            rw [← hQ4] at y4
            have y5 := orW Q4 Q3
            obtain ⟨F, hF⟩ : ∃ E, E = Q4 ||| Q3 := ⟨_, rfl⟩
            rw [← hF] at y5
            obtain ⟨R5, hR5⟩ : ∃ E, E = rotl a 5 := ⟨_, rfl⟩
            obtain ⟨R30, hR30⟩ : ∃ E, E = rotl b 30 := ⟨_, rfl⟩
            have a1 := addW R5 F
            obtain ⟨S1, hS1⟩ : ∃ E, E = R5 + F := ⟨_, rfl⟩
            rw [← hS1] at a1
            have a2 := addW S1 e
            obtain ⟨S2, hS2⟩ : ∃ E, E = S1 + e := ⟨_, rfl⟩
            rw [← hS2] at a2
            have a3 : ((S2.toNat : Int) + ((2400959708 : Nat) : Int)) % 4294967296 = _ := addW S2 2400959708#32
            obtain ⟨S3, hS3⟩ : ∃ E, E = S2 + 2400959708#32 := ⟨_, rfl⟩
            rw [← hS3] at a3
            have a3' : ((S2.toNat : Int) + (2400959708 : Int)) % (4294967296 : Int) = (S3.toNat : Int) := a3
            clear a3
            have a4 := addW S3 x
            obtain ⟨S4, hS4⟩ : ∃ E, E = S3 + x := ⟨_, rfl⟩
            rw [← hS4] at a4
            have hstep : step1 x i ⟨a, b, c, d, e⟩ = ⟨S4, a, R30, c, d⟩ := by
              unfold step1 f1 k1
              simp only [if_neg (show ¬ i < 20 by omega), if_neg (show ¬ i < 40 by omega), if_pos (show i < 60 by omega)]
              subst hP1 hP2 hQ1 hQ2 hQ3 hQ4 hF hS1 hS2 hS3 hS4 hR5 hR30
              rfl
            have HST2 := Lib.hid (HSS.out.trans hstep)
            have r5 := fun W => rot_5 a W
            have r30 := fun W => rot_30 b W
            rw [← hR5] at r5
            rw [← hR30] at r30
            have HR5 := Lib.hid r5
            have HR30 := Lib.hid r30
            clear r5 r30 hstep hP1 hP2 hQ1 hQ2 hQ3 hQ4 hF hS1 hS2 hS3 hS4 hR5 hR30 HSS
            have hq : (i : Int) / 20 = 2 := by omega
            go_wp2_with fail
            refine (HR5.out _).mono ?_
            rintro e1 w1 ⟨rfl, rfl⟩
            go_wp2_with fail
            refine (HR30.out _).mono ?_
            rintro e1 w1 ⟨rfl, rfl⟩
            go_wp2
            refine ⟨⟨i + 1, by omega, by go_num, by rw [HST2.out], by rw [HST2.out], by rw [HST2.out], by rw [HST2.out], by rw [HST2.out], HB2.out⟩, by simp [intOf]; omega⟩
          · skip
            have x1 := xorW b c
            obtain ⟨P1, hP1⟩ : ∃ E, E = b ^^^ c := ⟨_, rfl⟩
            rw [← hP1] at x1
            have x2 := xorW P1 d
            obtain ⟨P2, hP2⟩ : ∃ E, E = P1 ^^^ d := ⟨_, rfl⟩
            rw [← hP2] at x2
            obtain ⟨R5, hR5⟩ : ∃ E, E = rotl a 5 := ⟨_, rfl⟩
            obtain ⟨R30, hR30⟩ : ∃ E, E = rotl b 30 := ⟨_, rfl⟩
            have a1 := addW R5 P2
            obtain ⟨S1, hS1⟩ : ∃ E, E = R5 + P2 := ⟨_, rfl⟩
            rw [← hS1] at a1
            have a2 := addW S1 e
            obtain ⟨S2, hS2⟩ : ∃ E, E = S1 + e := ⟨_, rfl⟩
            rw [← hS2] at a2
            have a3 : ((S2.toNat : Int) + ((3395469782 : Nat) : Int)) % 4294967296 = _ := addW S2 3395469782#32
            obtain ⟨S3, hS3⟩ : ∃ E, E = S2 + 3395469782#32 := ⟨_, rfl⟩
            rw [← hS3] at a3
            have a3' : ((S2.toNat : Int) + (3395469782 : Int)) % (4294967296 : Int) = (S3.toNat : Int) := a3
            clear a3
            have a4 := addW S3 x
            obtain ⟨S4, hS4⟩ : ∃ E, E = S3 + x := ⟨_, rfl⟩
            rw [← hS4] at a4
            have hstep : step1 x i ⟨a, b, c, d, e⟩ = ⟨S4, a, R30, c, d⟩ := by
              unfold step1 f1 k1
              simp only [if_neg (show ¬ i < 20 by omega), if_neg (show ¬ i < 40 by omega), if_neg (show ¬ i < 60 by omega)]
              subst hP1 hP2 hS1 hS2 hS3 hS4 hR5 hR30
              rfl
            have HST2 := Lib.hid (HSS.out.trans hstep)
            have r5 := fun W => rot_5 a W
            have r30 := fun W => rot_30 b W
            rw [← hR5] at r5
            rw [← hR30] at r30
            have HR5 := Lib.hid r5
            have HR30 := Lib.hid r30
            clear r5 r30 hstep hP1 hP2 hS1 hS2 hS3 hS4 hR5 hR30 HSS
            have hq : (i : Int) / 20 = 3 := by omega
            go_wp2_with fail
            refine (HR5.out _).mono ?_
            rintro e1 w1 ⟨rfl, rfl⟩
            go_wp2_with fail
            refine (HR30.out _).mono ?_
            rintro e1 w1 ⟨rfl, rfl⟩
            go_wp2
            refine ⟨⟨i + 1, by omega, by go_num, by rw [HST2.out], by rw [HST2.out], by rw [HST2.out], by rw [HST2.out], by rw [HST2.out], HB2.out⟩, by simp [intOf]; omega⟩
        · have hi80 : i = 80 := by omega
          obtain ⟨hh0, hh1, hh2, hh3, hh4⟩ := HH.out
          obtain ⟨k0, zz0⟩ := HW.out 0 (by omega)
          have c0 : wr.cell? ⟨g, 0, none⟩ = some (.int .u32 (h0.toNat : Int)) := by rw [hh0]; exact (HB2.out.cell (p := ⟨g, 0, none⟩) hg).trans k0
          have z0 : wr.frozen? ⟨g, 0, none⟩ = false := (HB2.out.frozen (p := ⟨g, 0, none⟩) hg).trans zz0
          obtain ⟨k1, zz1⟩ := HW.out 1 (by omega)
          have c1 : wr.cell? ⟨g, 1, none⟩ = some (.int .u32 (h1.toNat : Int)) := by rw [hh1]; exact (HB2.out.cell (p := ⟨g, 1, none⟩) hg).trans k1
          have z1 : wr.frozen? ⟨g, 1, none⟩ = false := (HB2.out.frozen (p := ⟨g, 1, none⟩) hg).trans zz1
          obtain ⟨k2, zz2⟩ := HW.out 2 (by omega)
          have c2 : wr.cell? ⟨g, 2, none⟩ = some (.int .u32 (h2.toNat : Int)) := by rw [hh2]; exact (HB2.out.cell (p := ⟨g, 2, none⟩) hg).trans k2
          have z2 : wr.frozen? ⟨g, 2, none⟩ = false := (HB2.out.frozen (p := ⟨g, 2, none⟩) hg).trans zz2
          obtain ⟨k3, zz3⟩ := HW.out 3 (by omega)
          have c3 : wr.cell? ⟨g, 3, none⟩ = some (.int .u32 (h3.toNat : Int)) := by rw [hh3]; exact (HB2.out.cell (p := ⟨g, 3, none⟩) hg).trans k3
          have z3 : wr.frozen? ⟨g, 3, none⟩ = false := (HB2.out.frozen (p := ⟨g, 3, none⟩) hg).trans zz3
          obtain ⟨k4, zz4⟩ := HW.out 4 (by omega)
          have c4 : wr.cell? ⟨g, 4, none⟩ = some (.int .u32 (h4.toNat : Int)) := by rw [hh4]; exact (HB2.out.cell (p := ⟨g, 4, none⟩) hg).trans k4
          have z4 : wr.frozen? ⟨g, 4, none⟩ = false := (HB2.out.frozen (p := ⟨g, 4, none⟩) hg).trans zz4
          have hv : steps1 l ⟨h0, h1, h2, h3, h4⟩ 80 = ⟨a, b, c, d, e⟩ := by rw [← hi80]; exact HV.out
          have a0 := addW h0 a
          obtain ⟨T0, hT0⟩ : ∃ E, E = h0 + a := ⟨_, rfl⟩
          rw [← hT0] at a0
          have a1 := addW h1 b
          obtain ⟨T1, hT1⟩ : ∃ E, E = h1 + b := ⟨_, rfl⟩
          rw [← hT1] at a1
          have a2 := addW h2 c
          obtain ⟨T2, hT2⟩ : ∃ E, E = h2 + c := ⟨_, rfl⟩
          rw [← hT2] at a2
          have a3 := addW h3 d
          obtain ⟨T3, hT3⟩ : ∃ E, E = h3 + d := ⟨_, rfl⟩
          rw [← hT3] at a3
          have a4 := addW h4 e
          obtain ⟨T4, hT4⟩ : ∃ E, E = h4 + e := ⟨_, rfl⟩
          rw [← hT4] at a4
          have hblk : blk1 s h = [T0, T1, T2, T3, T4] := by
            unfold blk1
            rw [← HLL.out, ← hh0, ← hh1, ← hh2, ← hh3, ← hh4, hv, hT0, hT1, hT2, hT3, hT4]
          have HBLK := Lib.hid hblk
          clear hblk hv hT0 hT1 hT2 hT3 hT4 hi80 hh0 hh1 hh2 hh3 hh4 k0 k1 k2 k3 k4 zz0 zz1 zz2 zz3 zz4
          go_wp2
          go_end0
          refine ⟨rfl, wr, HB2.out, ?_⟩
          rw [HBLK.out]
          rfl
end Go.Proofs.Ytdhafmjhohnclaa
