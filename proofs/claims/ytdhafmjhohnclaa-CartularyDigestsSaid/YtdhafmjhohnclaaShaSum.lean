/- THE WALK of a sum's sum. Conditions: what the block's function does (BlkC); the text is short. -/
import Derived.Test.YtdhafmjhohnclaaShaWrite
import Derived.Deep.RegionHeld3
namespace Go.Proofs.Ytdhafmjhohnclaa
open Go.RowKit Sums
set_option linter.unusedVariables false

set_option maxRecDepth 100000 in
set_option maxHeartbeats 2000000 in
theorem sum_any (f : FuncId) (k : Nat) (F : Blk) (S : List (BitVec 32)) (T : TypeId) (hF : BlkC f k F) (hk : 0 < k) (hk2 : k ≤ 100) (b sg scap : Nat) (l : List UInt8) (row : Option Nat) (w : World)
    (h : holds w b T k F S l row) (hS : S.length = k) (hst : ∀ j u, (cv S)[j]? = some u → w.cell? ((⟨sg, 0, none⟩ : Addr).add j) = some u) (hsg : sg < w.heap.size) (hsz : l.length ≤ 10000) :
    Calls Try.prog 48 #[.pointer (some ⟨b, 0, none⟩), .slice (some ⟨sg, 0, none⟩) k scap, .func (.func f) #[] #[]] w fun e w' => e = .returned (.string ⟨(digest F S l).toArray⟩) ∧ Below w.heap.size w w' := by
  obtain ⟨A, n0, cap0, r, hr0, hc0, hA⟩ : ∃ A n0 cap0 r, r.data.toList = rst l ∧ hcell w b T (.slice A n0 cap0) r l.length ∧ ((A = none ∧ row = none ∧ n0 = 0 ∧ cap0 = 0 ∧ l = []) ∨ (∃ g, A = some ⟨g, 0, none⟩ ∧ n0 = k ∧ row = some g ∧ g ≠ b ∧ rowOf w g k cap0 (full F S l))) := by
    cases row with
    | none =>
      obtain ⟨rfl, h2⟩ := h
      exact ⟨none, 0, 0, ByteArray.empty, rfl, h2, .inl ⟨rfl, rfl, rfl, rfl, rfl⟩⟩
    | some g =>
      obtain ⟨hne, cap, r, h1, h2, h3⟩ := h
      exact ⟨some ⟨g, 0, none⟩, k, cap, r, h1, h2, .inr ⟨g, rfl, rfl, rfl, hne, h3⟩⟩
  have HF := hF
  have HA := Lib.hid hA
  have HR0 := Lib.hid hr0
  have HC0 := Lib.hid hc0
  have HST := Lib.hid hst
  have l0 := cell_at hc0 0
  have l1 := cell_at hc0 1
  have l2 := cell_at hc0 2
  simp only [List.getElem?_toArray, List.getElem?_cons_zero, List.getElem?_cons_succ] at l0 l1 l2
  clear hA hr0 hc0 h hF hst
  go_enter Try.func48, Try.ntmps48
  have hsrc : Src w A n0 cap0 k (full F S l) := by
    rcases HA.out with ⟨h1, h2, h3, h4, h5⟩ | ⟨g, h1, h2, h3, h4, h5⟩
    · exact .inl ⟨h1, h3, h4⟩
    · exact .inr ⟨g, h1, h2, h5⟩
  have HSRC := Lib.hid hsrc
  have hfl : (full F S l).length = k := eat_len F k HF.len S hS l _
  have HFL := Lib.hid hfl
  have HS : RowKit.Hid (∀ w', Below w.heap.size w w' → (w'.cell? ⟨b, 0, none⟩ = some (.slice A n0 cap0) ∧ w'.cell? ⟨b, 1, none⟩ = some (.string r) ∧ w'.cell? ⟨b, 2, none⟩ = some (.int .u64 (l.length : Int)) ∧ Below w.heap.size w w')) := Lib.hid (fun w' hb => by
    have hc := below_heap hb HC0.out (lt_of_block HC0.out)
    have l0 := cell_at hc 0
    have l1 := cell_at hc 1
    have l2 := cell_at hc 2
    simp only [List.getElem?_toArray, List.getElem?_cons_zero, List.getElem?_cons_succ] at l0 l1 l2
    exact ⟨l0, l1, l2, hb⟩)
  clear hsrc hfl
  go_upto_region 1 with fail
  go_cut [7] (fun s7 wx => ∃ E V, s7 = .pointer (some ⟨E, 0, none⟩) ∧ hcell wx E 48 V r l.length ∧ w.heap.size ≤ E ∧ Below w.heap.size w wx ∧ ((A = none ∧ V = .slice none 0 0) ∨ (A.isSome = true ∧ ∃ g cap, V = .slice (some ⟨g, 0, none⟩) k cap ∧ w.heap.size ≤ g ∧ g ≠ E ∧ rowOf wx g k cap (full F S l))))
  case first =>
    clear l0 l1 l2
    go_region_held3 (fun w' => w'.cell? ⟨b, 0, none⟩ = some (.slice A n0 cap0) ∧ w'.cell? ⟨b, 1, none⟩ = some (.string r) ∧ w'.cell? ⟨b, 2, none⟩ = some (.int .u64 (l.length : Int)) ∧ Below w.heap.size w w')
      (first
        | exact HS.out _ ((Below.refl _ _).drew)
        | exact HS.out _ hq
        | exact HS.out _ (hq.alloc hq.size _)
        | exact HS.out _ (below_alloc_of (by assumption) _)
        | exact HS.out _ (((hq.setCell (Nat.le_refl _) _).setCell (Nat.le_refl _) _).setCell (Nat.le_refl _) _))
      (first
        | (have hbl : Below w.heap.size w _ := last4 (by assumption)
           refine step_append_dup (by rfl) (.const (.slice none 0 0)) (.tmp 17) (by rfl) (by rfl) A n0 cap0 k (full F S l) (by rfl) HFL.out hk hk2 (HSRC.out.keep hbl) ?_
           intro V w1 hdup
           obtain ⟨A9, n9, c9, rfl⟩ := hdup.shape
           have hq := hbl.trans (hdup.below hbl.size)
           try (
             have hE : w1.heap[w.heap.size]? = some (.cells #[.slice none 0 0, .string ⟨#[]⟩, .int .u64 0] 48 (0, 0)) := hdup.heap (heap_alloc_same _ _)
             have e0 := cell_at hE 0
             have e1 := cell_at hE 1
             have e2 := cell_at hE 2
             simp only [List.getElem?_toArray, List.getElem?_cons_zero, List.getElem?_cons_succ] at e0 e1 e2
             have f0 := free_at hE 0
             have f1 := free_at hE 1
             have f2 := free_at hE 2)))
    · have hx := Lib.hid (Dup.after (B := w.heap.size) (E := w1.heap.size) (w3 := w1.alloc (.cells #[.slice A9 n9 c9, .string r, .int .u64 (l.length : Int)] 48)) hdup hbl.size (fun h => Nat.ne_of_lt h) (fun i _ hi => Below.heap_alloc _ _ _ hi))
      have hy := Lib.hid (hq.alloc hq.size (.cells #[.slice A9 n9 c9, .string r, .int .u64 (l.length : Int)] 48))
      have hz := Lib.hid hq.size
      go_wp2
      go_meet
      exact ⟨_, _, rfl, heap_alloc_same _ _, hz.out, hy.out, hx.out⟩
    · have hz := heap_set (heap_set (heap_set hE 0 (.slice A9 n9 c9)) 1 (.string r)) 2 (.int .u64 (l.length : Int))
      simp only [List.setIfInBounds_toArray, List.set_cons_zero, List.set_cons_succ] at hz
      have hz' := Lib.hid hz
      have hy := Lib.hid (((hq.setCell (p := ⟨w.heap.size, 0, none⟩) (Nat.le_refl _) (.slice A9 n9 c9)).setCell (p := ⟨w.heap.size, 1, none⟩) (Nat.le_refl _) (.string r)).setCell (p := ⟨w.heap.size, 2, none⟩) (Nat.le_refl _) (.int .u64 (l.length : Int)))
      have hx := Lib.hid (Dup.after (B := w.heap.size) (E := w.heap.size) (w3 := (((w1.setCell ⟨w.heap.size, 0, none⟩ (.slice A9 n9 c9)).setCell ⟨w.heap.size, 1, none⟩ (.string r)).setCell ⟨w.heap.size, 2, none⟩ (.int .u64 (l.length : Int)))) hdup hbl.size (fun h => by
        show (w.alloc _).heap.size ≠ w.heap.size
        rw [World.size_alloc]
        omega) (fun i hi _ => ((Below.heap_setCell _ _ _ _ hi).trans (Below.heap_setCell _ _ _ _ hi)).trans (Below.heap_setCell _ _ _ _ hi)))
      clear hz
      go_wp2
      go_meet
      exact ⟨_, _, rfl, hz'.out, Nat.le_refl _, hy.out, hx.out⟩
  case rest =>
    clear l0 l1 l2
    obtain ⟨E, V, rfl, hce, hE, hb, hV⟩ := hcut
    have HCE := Lib.hid hce
    have HB := Lib.hid hb
    have HV := Lib.hid hV
    have hcb := below_heap hb HC0.out (lt_of_block HC0.out)
    have l0 := cell_at hcb 0
    simp only [List.getElem?_toArray, List.getElem?_cons_zero, List.getElem?_cons_succ] at l0
    have e12 : ∀ W : World, (binOp .eql 46 (.slice A n0 cap0) (.slice none 0 0)).run Try.prog W = .ok (.bool A.isNone) W := fun W => by cases A <;> rfl
    clear hce hb hV hcb
    go_upto_if 32 with fail
    go_cut [] (fun wx => ∃ rowE, holds wx E 48 k F S l rowE ∧ Below w.heap.size w wx ∧ (∀ g, rowE = some g → w.heap.size ≤ g))
    case first =>
      rcases HA.out with ⟨rfl, hrow, rfl, rfl, hl⟩ | ⟨g0, rfl, rfl, hrow, hne, hro⟩
      · rcases HV.out with ⟨_, rfl⟩ | ⟨h1, _⟩
        · have f0 := free_at HCE.out 0
          have c0 := cell_at HCE.out 0
          simp only [List.getElem?_toArray, List.getElem?_cons_zero, List.getElem?_cons_succ] at c0
          have hre : r = ByteArray.empty := by
            have h1 := HR0.out
            rw [hl] at h1
            apply ByteArray.ext
            apply Array.ext'
            rw [h1]
            rfl
          have hset := heap_set HCE.out 0 (.slice none 0 0)
          simp only [List.setIfInBounds_toArray, List.set_cons_zero, List.set_cons_succ] at hset
          have hbb := HB.out.setCell (p := ⟨E, 0, none⟩) hE (.slice none 0 0)
          have E1 := Lib.hid (And.intro hset hbb)
          clear hset hbb
          go_wp2
          go_meet
          obtain ⟨e1, e2⟩ := E1.out
          refine ⟨none, ⟨hl, ?_⟩, e2, fun g h => by cases h⟩
          rw [hre, hl] at e1
          exact e1
        · cases h1
      · rcases HV.out with ⟨h1, _⟩ | ⟨_, g, cap, rfl, h2, h3, h4⟩
        · cases h1
        · have E1 := Lib.hid (And.intro h2 (And.intro h3 h4))
          clear h2 h3 h4 hrow hne hro
          go_wp2
          go_meet
          obtain ⟨e1, e2, e3⟩ := E1.out
          exact ⟨some g, ⟨e2, cap, r, HR0.out, HCE.out, e3⟩, HB.out, fun g' h => by cases h; exact e1⟩
    case rest =>
      obtain ⟨rowE, hhE, hbE, hrE⟩ := hcut
      have HHE := Lib.hid hhE
      have HBE := Lib.hid hbE
      have HRE := Lib.hid hrE
      have hcb := below_heap hbE HC0.out (lt_of_block HC0.out)
      have HCB := Lib.hid hcb
      have l1 := cell_at hcb 1
      have l2 := cell_at hcb 2
      simp only [List.getElem?_toArray, List.getElem?_cons_zero, List.getElem?_cons_succ] at l1 l2
      have hrz : r.size = l.length % 64 := by
        have := congrArg List.length HR0.out
        rw [rst_len] at this
        simpa using this
      have HRZ := Lib.hid hrz
      clear hhE hbE hrE hcb l0 e12 HV HCE HB hrz
      go_wp2_with fail
      go_loopw [8] (fun pv wr => ∃ (z : Nat) (p : ByteArray), pv = .string p ∧ p.data.toList = 128 :: List.replicate z 0 ∧ z ≤ zs r.size ∧ wc = wr) (fun pv _ => 100 - szOf pv)
      case atStart => exact ⟨0, _, rfl, rfl, Nat.zero_le _, rfl⟩
      case round =>
        obtain ⟨z, p, rfl, hp, hz, rfl⟩ := hrel
        have hpz : p.size = 1 + z := by
          have := congrArg List.length hp
          simp at this
          omega
        have he := zs_end r.size z hz
        have hzl : zs r.size ≤ 63 := by unfold zs; omega
        rw [← hpz] at he
        have HP := Lib.hid hp
        have hr64 : r.size < 64 := by have := HRZ.out; omega
        have hw : IntKind.i64.wrap ((r.size : Int) + (p.size : Int)) = (r.size : Int) + (p.size : Int) := IntWalk.i64_in _ (by omega)
        have hov : (9223372036854775807 < p.size + 1) = False := by simp; omega
        have HPZ := Lib.hid hpz
        have HZL := Lib.hid hzl
        have HZZ := Lib.hid hz
        clear hp hpz hr64 hzl hz
        by_cases hend : z = zs r.size
        · have hm : (r.size + p.size) % 64 = 56 := he.2 hend
          have hmi : ((r.size : Int) + (p.size : Int)) % 64 = 56 := by omega
          have HEND := Lib.hid hend
          clear he hm hend
          go_wp2_with fail
          clear hmi hw hov
          go_loopw [9, 10] (fun ov iv wr => ∃ (j : Nat), j ≤ 8 ∧ iv = .int .i64 (56 - 8 * (j : Int)) ∧ ownsB wr wc.heap.size ov (be8 (l.length * 8) j) ∧ Below wc.heap.size wc wr) (fun _ iv _ => (intOf iv + 8).toNat)
          case atStart => exact ⟨0, Nat.zero_le _, rfl, ownsB_nil _ _, Below.refl _ _⟩
          case round =>
            obtain ⟨j, hj, rfl, hown, hb⟩ := hrel
            have hcc := below_heap hb HCB.out (lt_of_block HCB.out)
            have d2 := cell_at hcc 2
            simp only [List.getElem?_toArray, List.getElem?_cons_zero, List.getElem?_cons_succ] at d2
            clear hcc
            by_cases h8 : j < 8
            · have hp0 : (0 : Int) ≤ 56 - 8 * (j : Int) := by omega
              obtain ⟨C, hC⟩ : ∃ C : UInt8, C = UInt8.ofNat (l.length * 8 / 2 ^ (56 - 8 * j)) := ⟨_, rfl⟩
              have hbw : (l.length : Int) * 8 / 2 ^ (56 - 8 * j) % 256 = (C.toNat : Int) := by
                rw [hC, UInt8.toNat_ofNat']
                simp
              have hbs : be8 (l.length * 8) (j + 1) = be8 (l.length * 8) j ++ [C] := by rw [be8, hC]
              have hl : (be8 (l.length * 8) j).length + 1 ≤ 140737488355328 := by rw [be8_len]; omega
              have hB := hb.size
              have HBS := Lib.hid hbs
              have HOW := Lib.hid hown
              have HBL := Lib.hid hb
              clear hC hbs hown hb
              go_wp2_with (at_builtin; refine append_bytes _ rfl (.tmp 50) (.tmp 59) rfl wc.heap.size _ _ [C] rfl (HOW.out.alloc _) ⟨wr.heap.size, 0, none⟩ 1 rfl (new_cells wr _ _) hl (by simp; omega) ?_; intro v' w' hown' hg')
              have hl := HBL.out
              go_roundw
              case rel =>
                refine ⟨j + 1, by omega, by go_num, ?_, (hl.alloc hB _).grown hg' (by simp; omega) fun k hk => (HOW.out.lt k hk).1⟩
                rw [HBS.out]
                exact hown'
              case measure => simp [intOf]; omega
            · obtain rfl : j = 8 := by omega
              have hc := run_own_string wr _ _ _ hown
              obtain ⟨pb, hpb⟩ : ∃ pb : ByteArray, pb = ⟨(be8 (l.length * 8) 8).toArray⟩ := ⟨_, rfl⟩
              rw [← hpb] at hc
              have hpl : (p ++ pb).data.toList = padOf l.length := by
                rw [toList_append, HP.out, hpb]
                unfold padOf
                rw [show z = zs l.length by
                  have h1 := HRZ.out
                  have h2 := HEND.out
                  rw [h2, h1]
                  unfold zs
                  omega]
              have hb8 : pb.size = 8 := by
                rw [hpb]
                show (be8 (l.length * 8) 8).toArray.size = 8
                simp [be8_len]
              have hov2 : (9223372036854775807 < p.size + pb.size) = False := by
                have := HPZ.out
                have := HZL.out
                have := HZZ.out
                simp
                omega
              have hpsz : (p ++ pb).size ≤ 100 := by
                have := HPZ.out
                have := HZL.out
                have := HZZ.out
                rw [ByteArray.size_append]
                omega
              have hEl := holds_lt HHE.out
              have hhe2 : holds wr E 48 k F S l rowE := holds_keep HHE.out (hb.block E hEl) (fun g hg => hb.block g (by subst hg; exact holds_row HHE.out))
              have hbw2 : Below w.heap.size w wr := HBE.out.trans (hb.mono HBE.out.size)
              have hst2 : ∀ j u, (cv S)[j]? = some u → wr.cell? ((⟨sg, 0, none⟩ : Addr).add j) = some u := fun j u hj => (hbw2.cell (p := (⟨sg, 0, none⟩ : Addr).add j) (by rw [block_of_add]; exact hsg)).trans (HST.out j u hj)
              have HW := Lib.hid (write_any f k F S 48 HF hk hk2 E sg scap (p ++ pb) l rowE wr hhe2 hS hst2 (by omega))
              have HBW := Lib.hid hbw2
              have HPL := Lib.hid hpl
              clear hpb hpl hb8 hhe2 hbw2 hst2 hown hb d2 hpsz
              go_wp2_with fail
              refine (HW.out).mono ?_
              rintro e w5 ⟨rfl, g5, h5, hg5, hk5⟩
              rw [HPL.out] at h5
              have hb5 : Below w.heap.size w w5 := HBW.out.trans (kb_to_below hk5 hE HBW.out.size HRE.out)
              obtain ⟨hne5, cap5, r5, hr5, hc5, hro5⟩ := h5
              obtain ⟨X, hX⟩ : ∃ X, X = full F S (l ++ padOf l.length) := ⟨_, rfl⟩
              have hXl : X.length = k := by rw [hX]; exact eat_len F k HF.len S hS _ _
              rw [← hX] at hro5
              have HX := Lib.hid hX
              have HR5 := Lib.hid hro5
              have HB5 := Lib.hid hb5
              have c0 := cell_at hc5 0
              simp only [List.getElem?_toArray, List.getElem?_cons_zero, List.getElem?_cons_succ] at c0
              clear hg5 hk5 hb5 hne5 hr5 hc5 hro5 hX hc hov2 l1 l2
              go_wp2_with fail
              go_loopw [11, 71] (fun ov iv wr => ∃ (j : Nat), j ≤ k ∧ iv = .int .i64 (j : Int) ∧ ownsB wr w5.heap.size ov (outW (X.take j)) ∧ Below w5.heap.size w5 wr) (fun _ iv _ => k - (intOf iv).toNat)
              case atStart => exact ⟨0, Nat.zero_le _, rfl, ownsB_nil _ _, Below.refl _ _⟩
              case round =>
                obtain ⟨j, hj, rfl, hown, hb⟩ := hrel
                have hg5 : g5 < w5.heap.size := row_lt HR5.out
                by_cases hjk : j < k
                · have hxj := (HR5.out.cellAt j (by omega)).trans (cv_at X j (by omega))
                  have d0 := (hb.cell (p := ⟨g5, j, none⟩) hg5).trans hxj
                  obtain ⟨x, hx⟩ : ∃ x, x = at32 X j := ⟨_, rfl⟩
                  rw [← hx] at d0
                  have hts : outW (X.take (j + 1)) = outW (X.take j) ++ bytes4 x := by
                    rw [← outW_snoc, hx, List.take_succ_eq_append_getElem (by omega)]
                    unfold at32
                    rw [List.getD_eq_getElem?_getD, List.getElem?_eq_getElem (by omega)]
                    rfl
                  unfold bytes4 at hts
                  obtain ⟨C0, hC0⟩ : ∃ C : UInt8, C = UInt8.ofNat (x.toNat / 16777216) := ⟨_, rfl⟩
                  obtain ⟨C1, hC1⟩ : ∃ C : UInt8, C = UInt8.ofNat (x.toNat / 65536) := ⟨_, rfl⟩
                  obtain ⟨C2, hC2⟩ : ∃ C : UInt8, C = UInt8.ofNat (x.toNat / 256) := ⟨_, rfl⟩
                  obtain ⟨C3, hC3⟩ : ∃ C : UInt8, C = UInt8.ofNat x.toNat := ⟨_, rfl⟩
                  rw [← hC0, ← hC1, ← hC2, ← hC3] at hts
                  have hb0 : (x.toNat : Int) / 16777216 = (C0.toNat : Int) := by
                    have := x.isLt
                    rw [hC0, UInt8.toNat_ofNat']
                    omega
                  have hb1 : (x.toNat : Int) / 65536 % 256 = (C1.toNat : Int) := by rw [hC1, UInt8.toNat_ofNat']; omega
                  have hb2 : (x.toNat : Int) / 256 % 256 = (C2.toNat : Int) := by rw [hC2, UInt8.toNat_ofNat']; omega
                  have hb3 : (x.toNat : Int) % 256 = (C3.toNat : Int) := by rw [hC3, UInt8.toNat_ofNat']; omega
                  have hl : (outW (X.take j)).length + 4 ≤ 140737488355328 := by rw [outW_len, List.length_take]; omega
                  have hB := hb.size
                  have hjI : (j : Int) < (k : Int) := by omega
                  have HTS := Lib.hid hts
                  have HOW := Lib.hid hown
                  have HBL := Lib.hid hb
                  clear hC0 hC1 hC2 hC3 hts hown hb hx hxj
                  go_wp2_with (at_builtin; refine append_bytes _ rfl (.tmp 75) (.tmp 87) rfl w5.heap.size _ _ [C0, C1, C2, C3] rfl (HOW.out.alloc _) ⟨wr.heap.size, 0, none⟩ 4 rfl (new_cells wr _ _) hl (by simp; omega) ?_; intro v' w' hown' hg')
                  have hl := HBL.out
                  go_roundw
                  case rel =>
                    refine ⟨j + 1, by omega, by go_num, ?_, (hl.alloc hB _).grown hg' (by simp; omega) fun k hk => (HOW.out.lt k hk).1⟩
                    rw [HTS.out]
                    exact hown'
                  case measure => simp [intOf]; omega
                · obtain rfl : j = k := by omega
                  have hc := run_own_string wr _ _ _ hown
                  rw [List.take_of_length_le (by omega)] at hc
                  have hbb := HB5.out.trans (hb.mono HB5.out.size)
                  have HBB := Lib.hid hbb
                  clear hown hb hbb
                  go_wp2
                  go_ret
                  refine ⟨?_, HBB.out⟩
                  unfold digest
                  rw [← HX.out]
                  rfl
        · have hm : ¬ (r.size + p.size) % 64 = 56 := fun h => hend (he.1 h)
          have hmi : ¬ ((r.size : Int) + (p.size : Int)) % 64 = 56 := by omega
          have HND := Lib.hid hend
          clear he hm hend
          go_wp2
          have hz := HZZ.out
          have hne := HND.out
          have hpz := HPZ.out
          refine ⟨⟨z + 1, _, rfl, ?_, by omega, by trivial⟩, ?_⟩
          · rw [toList_append, HP.out, List.replicate_succ']
            rfl
          · have hzl := HZL.out
            have hsz1 : (p ++ ({ data := #[0] } : ByteArray)).size = p.size + 1 := by rw [ByteArray.size_append]; rfl
            show 100 - (p ++ ({ data := #[0] } : ByteArray)).size < 100 - p.size
            omega
end Go.Proofs.Ytdhafmjhohnclaa
