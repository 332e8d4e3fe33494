/- THE WALK of New: a set of codes out of lengths. Conditions: the lengths came in. -/
import Derived.Test.YtncdaohjjhcaaaaCodT
import Derived.StillTailTactics
import Derived.Deep.RegionLaw
namespace Go.Proofs.Ytncdaohjjhcaaaa
open Go.RowKit Sums
set_option linter.unusedVariables false

def NewEnd (L : List Int) (w0 : World) (e : Ending) (w' : World) : Prop :=
  (Good L ∧ ∃ b LV SV, e = .returned (.tuple #[.pointer (some ⟨b, 0, none⟩), .int .i64 0]) ∧ TAt w' b w0.heap.size L LV SV ∧ w0.heap.size ≤ b) ∨ (¬ Good L ∧ ∃ x : Int, x ≠ 0 ∧ e = .returned (.tuple #[.pointer none, .int .i64 x]))

set_option maxRecDepth 100000 in
set_option maxHeartbeats 4000000 in
theorem new_any (A : Option Addr) (n cap : Nat) (L : List Int) (w : World) (hL : IntsIn w A n cap L) (hn : n ≤ 1000000) :
    Calls Try.prog 5 #[.slice A n cap] w fun e w' => NewEnd L w e w' ∧ Below w.heap.size w w' := by
  have HL := Lib.hid hL
  have hll := hL.len
  by_cases h320 : n ≤ 320
  · have hnI : ¬ (320 : Int) < (n : Int) := by omega
    have HLL := Lib.hid hll
    clear hL hll
    go_enter Try.func5, Try.ntmps5
    go_wp2_with (refine append_src _ rfl _ _ rfl w.heap.size rfl A n cap L rfl HL.out hn (Nat.le_refl _) ?_)
    intro LV w1 hLV hb1
    obtain ⟨A1, m1, p1, rfl⟩ := row_shape hLV
    have HLV := Lib.hid hLV
    have HB1 := Lib.hid hb1
    have h0 := heap_alloc_same w1 (.cells (tabArr (.slice A1 m1 p1) (cntTo L 0) (.slice none 0 0)) 54)
    have H0 := Lib.hid h0
    clear hLV hb1 h0
    have hbw : Below w.heap.size w (w1.alloc (.cells (tabArr (.slice A1 m1 p1) (cntTo L 0) (.slice none 0 0)) 54)) := HB1.out.alloc HB1.out.size _
    have hlw := HLV.out.alloc (.cells (tabArr (.slice A1 m1 p1) (cntTo L 0) (.slice none 0 0)) 54)
    obtain ⟨LV, hLVe⟩ : ∃ V, V = Value.slice A1 m1 p1 := ⟨_, rfl⟩
    have HLE := Lib.hid hLVe
    have HBW := Lib.hid hbw
    have HLW := Lib.hid hlw
    have HBB : RowKit.Hid (w.heap.size ≤ w1.heap.size) := Lib.hid HB1.out.size
    have HLT : RowKit.Hid (∀ g, (Value.slice A1 m1 p1).ownBlock = some g → g < w1.heap.size) := Lib.hid (fun g hg => (HLV.out.lt g hg).2)
    clear hbw hlw hLVe
    go_wp2_with fail
    change Code.wp _ _ _ _ (w1.alloc (.cells (tabArr (.slice A1 m1 p1) (cntTo L 0) (.slice none 0 0)) 54))
    obtain ⟨b, hb⟩ : ∃ b, b = w1.heap.size := ⟨_, rfl⟩
    rw [← hb] at H0 HBB HLT ⊢
    rw [← HLE.out] at H0 HLW HBW HLT ⊢
    clear hb HB1 HLV
    generalize w1.alloc (.cells (tabArr LV (cntTo L 0) (.slice none 0 0)) 54) = W0 at H0 HBW HLW ⊢
    go_loopw [21] (fun iv wr => ∃ (i : Nat), i ≤ n ∧ iv = .int .i64 (i : Int) ∧ wr.heap[b]? = some (.cells (tabArr LV (cntTo L i) (.slice none 0 0)) 54 (0, 0)) ∧ (∀ s, s < i → 0 ≤ L.getD s 0 ∧ L.getD s 0 ≤ 15) ∧ ownsI wr w.heap.size LV L ∧ Below w.heap.size w wr) (fun iv _ => n - (intOf iv).toNat)
    case atStart => exact ⟨0, Nat.zero_le _, rfl, H0.out, fun s hs => absurd hs (Nat.not_lt_zero _), HLW.out, HBW.out⟩
    case round =>
      obtain ⟨i, hi, rfl, hc, hrg, ho, hbl⟩ := hrel
      have HC := Lib.hid hc
      have HRG := Lib.hid hrg
      have HO := Lib.hid ho
      have HBL := Lib.hid hbl
      clear hc hrg ho hbl
      by_cases hin : i < n
      · obtain ⟨ad, hA, hab, hcell⟩ := HL.out.at_ i hin
        subst hA
        have hcell' := (HBL.out.cell (p := ad.add i) (by rw [block_of_add]; exact hab)).trans hcell
        clear hcell
        obtain ⟨X, hX⟩ : ∃ X, X = L.getD i 0 := ⟨_, rfl⟩
        rw [← hX] at hcell'
        have HX := Lib.hid hX
        clear hX
        have hiI : (i : Int) < (n : Int) := by omega
        by_cases hneg : X < 0
        · have hng : ¬ Good L := fun hg => by
            have := (hg.range i (by have := HLL.out; omega)).1
            rw [← HX.out] at this
            omega
          have HNG := Lib.hid hng
          clear hng
          go_wp2
          go_ret2
          exact ⟨.inr ⟨HNG.out, 1, by decide, rfl⟩, HBL.out⟩
        · by_cases hbig : 15 < X
          · have hng : ¬ Good L := fun hg => by
              have := (hg.range i (by have := HLL.out; omega)).2
              rw [← HX.out] at this
              omega
            have HNG := Lib.hid hng
            clear hng
            go_wp2
            go_ret2
            exact ⟨.inr ⟨HNG.out, 1, by decide, rfl⟩, HBL.out⟩
          · obtain ⟨m, rfl⟩ : ∃ m : Nat, X = (m : Int) := ⟨X.toNat, by omega⟩
            have hm16 : m < 16 := by omega
            have hmI : (m : Int) < 16 := by omega
            have c1 := (cell_at HC.out (1 + m)).trans (tab_cnt _ _ _ _ hm16)
            have f1 := free_at HC.out (1 + m)
            go_wp2_with fail
            refine wp_region_still_tail 10 (by kernel_rfl) (by kernel_rfl) ?_
            simp only [List.take_succ_cons, List.take_zero, List.drop_succ_cons, List.drop_zero]
            repeat still_step
            refine wpStill_nil ?_
            change wpList _ _ _ _ _ wr.drew
            have hcle : cntTo L i m ≤ n := Nat.le_trans (idxTo_le L m i) hi
            have hw1 : IntKind.i64.wrap (((cntTo L i m : Nat) : Int) + 1) = ((cntTo L i m : Nat) : Int) + 1 := IntWalk.i64_in _ (by omega)
            have hs1 := heap_set (heap_drew HC.out) (1 + m) (.int .i64 (((cntTo L i m : Nat) : Int) + 1))
            rw [tab_bump _ _ _ _ hm16, cntTo_bump L i m HX.out.symm] at hs1
            have d1 : wr.drew.cell? ⟨b, 1 + m, none⟩ = some (.int .i64 ((cntTo L i m : Nat) : Int)) := c1
            have g1 : wr.drew.frozen? ⟨b, 1 + m, none⟩ = false := f1
            have ho2 : ownsI (wr.drew.setCell ⟨b, 1 + m, none⟩ (.int .i64 (((cntTo L i m : Nat) : Int) + 1))) w.heap.size LV L := HO.out.kept (row := some b) (gb_set (gb_drew (gb_refl wr _)) _ _) (.inr (row_ne HO.out HC.out (by decide)))
            have hb2 := (HBL.out.drew).setCell (p := ⟨b, 1 + m, none⟩) HBB.out (.int .i64 (((cntTo L i m : Nat) : Int) + 1))
            have E := Lib.hid (And.intro hs1 (And.intro ho2 hb2))
            clear hs1 ho2 hb2 c1 f1
            generalize wr.drew = W2 at d1 g1 E ⊢
            go_wp2
            obtain ⟨e1, e2, e3⟩ := E.out
            refine ⟨⟨i + 1, by omega, by go_num, e1, ?_, e2, e3⟩, by simp [intOf]; omega⟩
            intro s hs
            by_cases hsi : s = i
            · subst hsi
              rw [← HX.out]
              omega
            · exact HRG.out s (by omega)
      · obtain rfl : i = n := by omega
        have hinr : inRange L := fun s hs => HRG.out s (by have := HLL.out; omega)
        have HIR := Lib.hid hinr
        have hcl : cntTo L i = cntTo L L.length := by rw [HLL.out]
        rw [hcl] at HC
        have HLB : RowKit.Hid (∀ g, LV.ownBlock = some g → g < b) := Lib.hid HLT.out
        clear hinr hcl HRG
        have hk0 : ∀ m, m ≤ 0 → 0 ≤ lft L m := fun m hm => by
          have e : m = 0 := Nat.le_zero.1 hm
          rw [e]
          show (0 : Int) ≤ 1
          decide
        have HK0 := Lib.hid hk0
        clear hk0
        go_wp2_with fail
        go_loopw [7, 8, 9] (fun l7 l8 l9 wq => ∃ (k q : Nat) (SV : Value), q = k + 1 ∧ k ≤ 15 ∧ l7 = .int .i64 (lft L k) ∧ l8 = .int .i64 ((off L k : Nat) : Int) ∧ l9 = .int .i64 (q : Int) ∧ wq.heap[b]? = some (.cells (tabArr LV (cntTo L L.length) SV) 54 (0, 0)) ∧ ownsI wq b SV (ints (srt L k)) ∧ (∀ m, m ≤ k → 0 ≤ lft L m) ∧ ownsI wq w.heap.size LV L ∧ Below w.heap.size w wq) (fun _ _ l9 _ => (16 - intOf l9).toNat)
        case atStart => exact ⟨0, 1, .slice none 0 0, rfl, Nat.zero_le _, rfl, rfl, rfl, HC.out, ownsI_nil _ _, HK0.out, HO.out, HBL.out⟩
        case round =>
          clear HC HO HBL HK0
          obtain ⟨k, q, SV, hq, hk, rfl, rfl, rfl, hc, hsv, hkr, ho, hbl⟩ := hrel
          have HC := Lib.hid hc
          have HSV := Lib.hid hsv
          have HKR := Lib.hid hkr
          have HO := Lib.hid ho
          have HBL := Lib.hid hbl
          have HQ := Lib.hid hq
          clear hc hsv hkr ho hbl
          by_cases hk15 : q ≤ 15
          · have hqI : (q : Int) ≤ 15 := by omega
            have hq16 : (q : Int) < 16 := by omega
            have c1 := (cell_at HC.out (1 + q)).trans (tab_cnt _ _ _ _ (by omega))
            obtain ⟨cq, hcq⟩ : ∃ cq, cq = cntTo L L.length q := ⟨_, rfl⟩
            rw [← hcq] at c1
            have hcq2 : cnt L (k + 1) = cq := by rw [hcq, HQ.out]; rfl
            obtain ⟨lf, hlf⟩ : ∃ x, x = lft L k := ⟨_, rfl⟩
            obtain ⟨lf2, hlf2⟩ : ∃ x, x = lft L q := ⟨_, rfl⟩
            obtain ⟨oc, hoc⟩ : ∃ x, x = off L k := ⟨_, rfl⟩
            obtain ⟨oc2, hoc2⟩ : ∃ x, x = off L q := ⟨_, rfl⟩
            have e1 : lf2 = 2 * lf - (cq : Int) := by rw [hlf2, HQ.out, lft, hcq2, hlf]
            have e2 : oc2 = oc + cq := by rw [hoc2, HQ.out, off_succ, hcq2, hoc]
            have b1 : 0 ≤ lf := by rw [hlf]; exact HKR.out k (Nat.le_refl _)
            have b2 : lf ≤ 32768 := by rw [hlf]; exact lft_le L k hk
            have b3 : cq ≤ 320 := by
              have := cnt_le L (k + 1)
              rw [hcq2] at this
              have := HLL.out
              omega
            have b4 : oc ≤ 4800 := by
              have h1 := off_le L k
              rw [← hoc, HLL.out] at h1
              have := Nat.mul_le_mul (show k ≤ 15 from hk) h320
              omega
            rw [← hlf, ← hoc]
            have w1 : IntKind.i64.wrap (2 * lf) = 2 * lf := IntWalk.i64_in _ (by omega)
            have w2 : IntKind.i64.wrap (2 * lf - (cq : Int)) = lf2 := by rw [IntWalk.i64_in _ (by omega)]; exact e1.symm
            have w3 : IntKind.i64.wrap ((oc : Int) + (cq : Int)) = (oc2 : Int) := by rw [IntWalk.i64_in _ (by omega)]; omega
            have HLF := Lib.hid hlf
            have HLF2 := Lib.hid hlf2
            have HOC2 := Lib.hid hoc2
            have HWQ : RowKit.Hid (IntKind.i64.wrap ((q : Int) + 1) = (q : Int) + 1) := Lib.hid (IntWalk.i64_in _ (by omega))
            clear hcq hcq2 hlf hlf2 hoc hoc2 e1 e2 b1 b2 b3 b4 hq
            by_cases hneg : lf2 < 0
            · have hng : ¬ Good L := fun hg => by
                have := hg.kraft q hk15
                rw [← HLF2.out] at this
                omega
              have HNG := Lib.hid hng
              clear hng
              go_wp2
              go_ret2
              exact ⟨.inr ⟨HNG.out, 4, by decide, rfl⟩, HBL.out⟩
            · have hl20 : 0 ≤ lf2 := by omega
              have HL20 := Lib.hid hl20
              have hs0 : ints (srt L k) = ints (srt L k ++ idxTo L q 0) := by
                show ints (srt L k) = ints (srt L k ++ [])
                rw [List.append_nil]
              have HS0 := Lib.hid hs0
              clear hl20 hs0
              go_wp2_with fail
              clear w1 w2 w3 c1 hqI hq16 hneg
              go_loopw [67] (fun jv wq => ∃ (j : Nat) (SW : Value), j ≤ i ∧ jv = .int .i64 (j : Int) ∧ wq.heap[b]? = some (.cells (tabArr LV (cntTo L L.length) SW) 54 (0, 0)) ∧ ownsI wq b SW (ints (srt L k ++ idxTo L q j)) ∧ ownsI wq w.heap.size LV L ∧ Below w.heap.size w wq) (fun jv _ => i - (intOf jv).toNat)
              case atStart => exact ⟨0, SV, Nat.zero_le _, rfl, HC.out, by rw [← HS0.out]; exact HSV.out, HO.out, HBL.out⟩
              case round =>
                clear HC HSV HO HBL HS0
                obtain ⟨j, SW, hj, rfl, hc, hsv, ho, hbl⟩ := hrel
                have HC := Lib.hid hc
                have HSV := Lib.hid hsv
                have HO := Lib.hid ho
                have HBL := Lib.hid hbl
                clear hc hsv ho hbl
                by_cases hji : j < i
                · obtain ⟨ad, hA, hab, hcell⟩ := HL.out.at_ j hji
                  subst hA
                  have hcell' := (HBL.out.cell (p := ad.add j) (by rw [block_of_add]; exact hab)).trans hcell
                  clear hcell
                  obtain ⟨X, hX⟩ : ∃ X, X = L.getD j 0 := ⟨_, rfl⟩
                  rw [← hX] at hcell'
                  have hjI : (j : Int) < (i : Int) := by omega
                  by_cases hxq : X = (q : Int)
                  · have hnx : ints (srt L k ++ idxTo L q (j + 1)) = ints (srt L k ++ idxTo L q j) ++ [(j : Int)] := by
                      rw [idxTo_succ, if_pos (by rw [← hX]; exact hxq), ← List.append_assoc, ints_snoc]
                    have HNX := Lib.hid hnx
                    have hlen : (ints (srt L k ++ idxTo L q j)).length + 1 ≤ 17592186044416 := by
                      rw [ints_len, List.length_append]
                      have h1 := off_le L k
                      rw [HLL.out] at h1
                      have h2 := Nat.mul_le_mul (show k ≤ 15 from hk) h320
                      have h3 := idxTo_le L q j
                      unfold off at h1
                      omega
                    have hBb : b ≤ wr.heap.size := Nat.le_of_lt (lt_of_block HC.out)
                    have c17 := (cell_at HC.out 17).trans (tab_srt _ _ _)
                    subst hxq
                    clear hX hnx
                    go_wp2_with (at_builtin; refine append_ints _ rfl (.tmp 79) (.tmp 81) rfl b SW _ [(j : Int)] rfl (HSV.out.alloc _) ⟨wr.heap.size, 0, none⟩ 1 rfl (new_ints wr _ _) hlen (by simp; omega) ?_; intro v2 w2 hown2 hg2; obtain ⟨A2, m2, p2, rfl⟩ := row_shape hown2; have hc2 := gb_heap hg2 (heap_alloc_keep HC.out _) (fun e => row_ne HSV.out HC.out (by decide) e.symm); have r17 := (cell_at hc2 17).trans (tab_srt _ _ _); have s17 := free_at hc2 17)
                    have hs1 := heap_set hc2 17 (.slice A2 m2 p2)
                    rw [tab_setS] at hs1
                    have ho2 : ownsI (w2.setCell ⟨b, 17, none⟩ (.slice A2 m2 p2)) b (.slice A2 m2 p2) (ints (srt L k ++ idxTo L q (j + 1))) := by
                      rw [HNX.out]
                      exact hown2.kept (row := some b) (gb_set (gb_refl w2 _) 17 _) (.inr (row_ne hown2 hc2 (by decide)))
                    have hlv2 : ownsI w2 w.heap.size LV L := (HO.out.alloc _).kept hg2 (by
                      cases hv : LV.ownBlock with
                      | none => exact .inl rfl
                      | some g =>
                        refine .inr (fun e => ?_)
                        have h1 := HLB.out g hv
                        have h2 := (HSV.out.lt g e.symm).1
                        omega)
                    have hlv3 : ownsI (w2.setCell ⟨b, 17, none⟩ (.slice A2 m2 p2)) w.heap.size LV L := hlv2.kept (row := some b) (gb_set (gb_refl w2 _) 17 _) (.inr (row_ne hlv2 hc2 (by decide)))
                    have hbl3 : Below w.heap.size w (w2.setCell ⟨b, 17, none⟩ (.slice A2 m2 p2)) := ((HBL.out.alloc HBL.out.size _).grown hg2 (by rw [World.size_alloc]; exact Nat.le_succ_of_le HBL.out.size) (fun g hg => Nat.le_trans HBB.out (HSV.out.lt g hg).1)).setCell (p := ⟨b, 17, none⟩) HBB.out _
                    refine ⟨⟨j + 1, .slice A2 m2 p2, by omega, by go_num, hs1, ho2, hlv3, hbl3⟩, by simp [intOf]; omega⟩
                  · have hnx : ints (srt L k ++ idxTo L q (j + 1)) = ints (srt L k ++ idxTo L q j) := by
                      rw [idxTo_succ, if_neg (by rw [← hX]; exact hxq), List.append_nil]
                    have hsv2 := HSV.out
                    rw [← hnx] at hsv2
                    have HSV2 := Lib.hid hsv2
                    clear hX hnx hsv2
                    go_wp2
                    refine ⟨⟨j + 1, SW, by omega, by go_num, HC.out, HSV2.out, HO.out, HBL.out⟩, by simp [intOf]; omega⟩
                · obtain rfl : j = i := by omega
                  have hsq : srt L k ++ idxTo L q j = srt L q := by
                    rw [HQ.out, srt]
                    unfold idx
                    rw [HLL.out]
                  have hsv2 := HSV.out
                  rw [hsq] at hsv2
                  have hkr2 : ∀ m, m ≤ q → 0 ≤ lft L m := fun m hm => by
                    by_cases hmq : m = q
                    · rw [hmq, ← HLF2.out]; exact HL20.out
                    · exact HKR.out m (by have := HQ.out; omega)
                  have HSV2 := Lib.hid hsv2
                  have HKR2 := Lib.hid hkr2
                  have hwq := HWQ.out
                  clear hsq hsv2 hkr2
                  go_wp2
                  refine ⟨⟨q, q + 1, SW, rfl, hk15, by rw [HLF2.out], by rw [HOC2.out], by go_num, HC.out, HSV2.out, HKR2.out, HO.out, HBL.out⟩, by simp [intOf]; omega⟩
          · obtain rfl : k = 15 := by omega
            have hq16 : q = 16 := HQ.out
            subst hq16
            have hTA : ∃ SW, SW = SV := ⟨SV, rfl⟩
            have hta : TAt wr b w.heap.size L LV SV := ⟨HC.out, HO.out, ownsI_mono HSV.out HBB.out⟩
            have HTA := Lib.hid hta
            have c2 : wr.cell? ⟨b, 2, none⟩ = some (.int .i64 ((cntTo L L.length 1 : Nat) : Int)) := (cell_at HC.out (1 + 1)).trans (tab_cnt _ _ _ 1 (by decide))
            have hcq : cnt L 1 = cntTo L L.length 1 := rfl
            obtain ⟨c, hc⟩ : ∃ c, c = cntTo L L.length 1 := ⟨_, rfl⟩
            rw [← hc] at c2 hcq
            obtain ⟨lf, hlf⟩ : ∃ x, x = lft L 15 := ⟨_, rfl⟩
            obtain ⟨oc, hoc⟩ : ∃ x, x = off L 15 := ⟨_, rfl⟩
            rw [← hlf, ← hoc]
            have hgd : ¬ (0 < lf ∧ 0 < oc ∧ ¬ (oc = 1 ∧ c = 1)) → Good L := fun h => ⟨by rw [HLL.out]; exact h320, HIR.out, HKR.out, by rw [← hlf, ← hoc, hcq]; exact h⟩
            have hbd : (0 < lf ∧ 0 < oc ∧ ¬ (oc = 1 ∧ c = 1)) → ¬ Good L := fun h hg => by
              have := hg.whole
              rw [← hlf, ← hoc, hcq] at this
              exact this h
            have HGD := Lib.hid hgd
            have HBD := Lib.hid hbd
            clear hgd hbd hc hcq hlf hoc hta hTA
            have fin : ∀ (e : Ending) (w' : World), w' = wr → (Good L ∧ e = .returned (.tuple #[.pointer (some ⟨b, 0, none⟩), .int .i64 0])) ∨ (¬ Good L ∧ e = .returned (.tuple #[.pointer none, .int .i64 4])) → NewEnd L w e w' ∧ Below w.heap.size w w' := fun e w' hw h => by
              subst hw
              refine ⟨?_, HBL.out⟩
              rcases h with ⟨h1, h2⟩ | ⟨h1, h2⟩
              · exact .inl ⟨h1, b, LV, SV, h2, HTA.out, HBB.out⟩
              · exact .inr ⟨h1, 4, by decide, h2⟩
            have FIN := Lib.hid fin
            clear fin
            by_cases hl : 0 < lf
            · by_cases ho : 0 < oc
              · have hoI : (0 : Int) < (oc : Int) := by omega
                by_cases h1 : oc = 1
                · subst h1
                  by_cases h2 : c = 1
                  · subst h2
                    have hg : Good L := HGD.out (fun h => h.2.2 ⟨rfl, rfl⟩)
                    have HG := Lib.hid hg
                    clear hg
                    go_wp2
                    go_ret2
                    exact FIN.out _ _ rfl (.inl ⟨HG.out, rfl⟩)
                  · have hg : ¬ Good L := HBD.out ⟨hl, ho, fun h => h2 h.2⟩
                    have HG := Lib.hid hg
                    have h2I : ((c : Int) == 1) = false := by rw [beq_eq_false_iff_ne]; omega
                    clear hg
                    go_wp2
                    go_ret2
                    exact FIN.out _ _ rfl (.inr ⟨HG.out, rfl⟩)
                · have hg : ¬ Good L := HBD.out ⟨hl, ho, fun h => h1 h.1⟩
                  have HG := Lib.hid hg
                  have h1I : ((oc : Int) == 1) = false := by rw [beq_eq_false_iff_ne]; omega
                  clear hg
                  go_wp2
                  go_ret2
                  exact FIN.out _ _ rfl (.inr ⟨HG.out, rfl⟩)
              · have hg : Good L := HGD.out (fun h => ho h.2.1)
                have HG := Lib.hid hg
                have hoI : ¬ (0 : Int) < (oc : Int) := by omega
                clear hg
                go_wp2
                go_ret2
                exact FIN.out _ _ rfl (.inl ⟨HG.out, rfl⟩)
            · have hg : Good L := HGD.out (fun h => hl h.1)
              have HG := Lib.hid hg
              clear hg
              go_wp2
              go_ret2
              exact FIN.out _ _ rfl (.inl ⟨HG.out, rfl⟩)
  · have hnI : (320 : Int) < (n : Int) := by omega
    have hng : ¬ Good L := fun hg => by have := hg.len; omega
    have HNG := Lib.hid hng
    clear hL hll hng
    go_enter Try.func5, Try.ntmps5
    go_wp2
    go_ret2
    exact ⟨.inr ⟨HNG.out, 2, by decide, rfl⟩, Below.refl _ _⟩
end Go.Proofs.Ytncdaohjjhcaaaa
