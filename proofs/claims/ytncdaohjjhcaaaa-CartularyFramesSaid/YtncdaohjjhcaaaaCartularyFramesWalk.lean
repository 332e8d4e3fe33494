/- THE WALK of 'CartularyFrames'. -/
import Derived.Test.YtncdaohjjhcaaaaFrList
import Derived.Test.YtncdaohjjhcaaaaLawBools
namespace Go.Proofs.Ytncdaohjjhcaaaa
open Go.RowKit Sums
set_option linter.unusedVariables false

set_option maxRecDepth 100000 in
set_option maxHeartbeats 4000000 in
theorem cartularyFrames_walk (w : World) (A0 : Option Addr) (n0 cap0 : Nat) (ss : List ByteArray) (A1 : Option Addr) (n1 cap1 : Nat) (Z : Nat → Bool) (hS : StrsIn w A0 n0 cap0 ss) (hZ : BoolsIn w A1 n1 cap1 Z) :
    Calls Try.prog 4 #[.slice A0 n0 cap0, .slice A1 n1 cap1] w fun e w' => e = .returned (.bool true) ∧ Below w.heap.size w w' := by
  have hcap := hS.cap
  have hle := hS.le
  have hcap1 := hZ.small
  have hle1 := hZ.le
  unfold maxLen at hcap hcap1
  have HS := Lib.hid hS
  have HZ := Lib.hid hZ
  obtain ⟨P, hP⟩ : ∃ P : Nat → Bool, P = fun j => decide (j < n1) && Z j := ⟨_, rfl⟩
  obtain ⟨T, hT⟩ : ∃ T : Nat → ByteArray, T = fun j => fewB (ss.getD j ByteArray.empty) 400 := ⟨_, rfl⟩
  have HP : RowKit.Hid (∀ j, P j = (decide (j < n1) && Z j)) := Lib.hid (fun j => by rw [hP])
  have HT : RowKit.Hid (∀ j, T j = fewB (ss.getD j ByteArray.empty) 400) := Lib.hid (fun j => by rw [hT])
  obtain ⟨N, hN⟩ : ∃ N, N = min n0 8 := ⟨_, rfl⟩
  have hN0 : N ≤ n0 := by omega
  have hN8 : N ≤ 8 := by omega
  have HN := Lib.hid hN
  clear hN
  clear hS hZ hP hT
  have C0 := Lib.hid (plain_any ({ data := #[97] } : ByteArray) w (by decide))
  go_enter Try.func4, Try.ntmps4
  go_wp2_with fail
  refine (C0.out).mono ?_
  rintro e w1 ⟨f0, rfl, _, _, hf0, hb1⟩
  have e0 := (hf0 rfl).trans plain_a
  subst e0
  clear hf0
  have B1 := Lib.hid hb1
  clear hb1
  go_wp2
  all_goals
    go_loopw [5, 7] (fun av iv wr => ∃ (k : Nat) (a : ByteArray) (fs : List (List UInt8)), k ≤ N ∧ iv = .int .i64 (k : Int) ∧ av = .string a ∧ a = ⟨fs.flatten.toArray⟩ ∧ fs.length = k ∧ Frs P T fs ∧ fs.flatten.length ≤ 430 * k ∧ Below w.heap.size w wr) (fun _ iv _ => 8 - (intOf iv).toNat)
    case atStart => exact ⟨0, ⟨#[]⟩, [], by omega, rfl, rfl, rfl, rfl, Frs.nil _ _, by simp, B1.out⟩
    case round =>
      obtain ⟨k, a, fs, hk, rfl, rfl, ha, hfl, hfs, hfz, hb⟩ := hrel
      have hasz : a.size = fs.flatten.length := by rw [ha, list_size]
      have hasz2 : a.size ≤ 3440 := by omega
      have HB := Lib.hid hb
      have HF := Lib.hid hfs
      have HA := Lib.hid ha
      have HSZ := Lib.hid hasz
      have HFL := Lib.hid hfl
      have HFZ := Lib.hid hfz
      clear hb hfs ha hfz hasz hfl
      by_cases hkN : k < N
      · obtain ⟨ad, hA, hab, hcell⟩ := HS.out.at_ k (by omega)
        subst hA
        have hsz := HS.out.size k (by omega)
        have htk := HT.out k
        generalize ss.getD k ByteArray.empty = x0 at hcell hsz htk
        unfold maxLen at hsz
        have hcell' : wr.cell? (ad.add k) = some (.string x0) := (HB.out.cell (p := ad.add k) (by rw [block_of_add]; exact hab)).trans hcell
        obtain ⟨t, ht⟩ : ∃ t, t = T k := ⟨_, rfl⟩
        have hts : t.size ≤ 400 := by rw [ht, htk]; exact few_size x0 400
        rw [← ht] at htk
        have HTK := Lib.hid htk
        have HTT := Lib.hid ht
        have hkn0 : (k : Int) < (n0 : Int) := by omega
        have hkn8 : (k : Int) < 8 := by omega
        clear hcell hab ht htk
        have hpk := HP.out k
        have step : ∀ (x g : List UInt8), Frm g x → (P k = true → x = t.data.toList) → (P k = false → Frm x t.data.toList) → x.length ≤ 411 → g.length ≤ 430 → Frs P T (fs ++ [g]) ∧ (fs ++ [g]).flatten.length ≤ 430 * (k + 1) ∧ (a ++ (⟨g.toArray⟩ : ByteArray)) = ⟨(fs ++ [g]).flatten.toArray⟩ ∧ (fs ++ [g]).length = k + 1 := fun x g h1 h2 h3 h4 h5 => by
          refine ⟨HF.out.snoc ⟨x, h1, ?_, ?_, h4, h5⟩, ?_, ?_, ?_⟩
          · rw [HFL.out, ← HTT.out]; exact h2
          · rw [HFL.out, ← HTT.out]; exact h3
          · have := HFZ.out; simp at this ⊢; omega
          · rw [HA.out]; apply ByteArray.ext; apply Array.ext'; simp
          · have := HFL.out; simp; omega
        have STEP := Lib.hid step
        clear step
        by_cases hp1 : k < n1
        · obtain ⟨ad1, hA1, hab1, hc1⟩ := HZ.out.at_ k hp1
          subst hA1
          have hc1' : wr.cell? (ad1.add k) = some (.bool (Z k)) := (HB.out.cell (p := ad1.add k) (by rw [block_of_add]; exact hab1)).trans hc1
          have hkn1 : (k : Int) < (n1 : Int) := by omega
          rw [decide_eq_true hp1, Bool.true_and] at hpk
          clear hc1 hab1
          cases hz : Z k with
          | true =>
            rw [hz] at hpk hc1'
            have HPK := Lib.hid hpk
            clear hpk
            go_wp2_with fail
            refine (few_any x0 400 _ (by decide) (by omega)).mono ?_
            rintro e w2 ⟨rfl, rfl⟩
            rw [← HTK.out]
            go_wp2_with fail
            refine (plain_any t _ (by omega)).mono ?_
            rintro e w3 ⟨g, rfl, hg, hgl, _, hb3⟩
            have hst := STEP.out _ g hg (fun _ => rfl) (fun h => absurd (HPK.out.symm.trans h) (by decide)) (by simp; omega) (by omega)
            have HST := Lib.hid hst
            have B3 := Lib.hid (HB.out.trans (hb3.mono HB.out.size))
            have hgz : (⟨g.toArray⟩ : ByteArray).size ≤ 411 := by rw [list_size]; omega
            clear hg hgl hb3 hst
            obtain ⟨G, hG⟩ : ∃ G : ByteArray, G = ⟨g.toArray⟩ := ⟨_, rfl⟩
            rw [← hG] at hgz HST ⊢
            clear hG
            go_wp2
            go_roundw
            case rel => exact ⟨k + 1, _, fs ++ [g], by omega, by go_num, rfl, HST.out.2.2.1, HST.out.2.2.2, HST.out.1, HST.out.2.1, B3.out⟩
            case measure => simp [intOf]; omega
          | false =>
            rw [hz] at hpk hc1'
            have HPK := Lib.hid hpk
            clear hpk
            go_wp2_with fail
            refine (few_any x0 400 _ (by decide) (by omega)).mono ?_
            rintro e w2 ⟨rfl, rfl⟩
            rw [← HTK.out]
            go_wp2_with fail
            refine (write_any t _ (by omega)).mono ?_
            rintro e w3 ⟨f, rfl, hf, hfl, _, hb3⟩
            have hfz : (⟨f.toArray⟩ : ByteArray).size ≤ 411 := by rw [list_size]; omega
            have B3 := Lib.hid (HB.out.trans (hb3.mono HB.out.size))
            have HF1 := Lib.hid hf
            clear hb3 hf
            go_wp2_with fail
            refine (write_any ⟨f.toArray⟩ _ (by omega)).mono ?_
            rintro e w4 ⟨g, rfl, hg, hgl, _, hb4⟩
            have hgz : (⟨g.toArray⟩ : ByteArray).size ≤ 430 := by rw [list_size]; omega
            have hst := STEP.out f g hg (fun h => absurd (HPK.out.symm.trans h) (by decide)) (fun _ => HF1.out) (by omega) (by rw [list_size] at hgz; omega)
            have HST := Lib.hid hst
            have B4 := Lib.hid (B3.out.trans (hb4.mono B3.out.size))
            clear hg hgl hb4 hst hfz hfl
            obtain ⟨G, hG⟩ : ∃ G : ByteArray, G = ⟨g.toArray⟩ := ⟨_, rfl⟩
            rw [← hG] at hgz HST ⊢
            clear hG
            go_wp2
            go_roundw
            case rel => exact ⟨k + 1, _, fs ++ [g], by omega, by go_num, rfl, HST.out.2.2.1, HST.out.2.2.2, HST.out.1, HST.out.2.1, B4.out⟩
            case measure => simp [intOf]; omega
        · have hkn1 : ¬ (k : Int) < (n1 : Int) := by omega
          rw [decide_eq_false hp1, Bool.false_and] at hpk
          have HPK := Lib.hid hpk
          clear hpk
          go_wp2_with fail
          refine (few_any x0 400 _ (by decide) (by omega)).mono ?_
          rintro e w2 ⟨rfl, rfl⟩
          rw [← HTK.out]
          go_wp2_with fail
          refine (write_any t _ (by omega)).mono ?_
          rintro e w3 ⟨f, rfl, hf, hfl, _, hb3⟩
          have hfz : (⟨f.toArray⟩ : ByteArray).size ≤ 411 := by rw [list_size]; omega
          have B3 := Lib.hid (HB.out.trans (hb3.mono HB.out.size))
          have HF1 := Lib.hid hf
          clear hb3 hf
          go_wp2_with fail
          refine (write_any ⟨f.toArray⟩ _ (by omega)).mono ?_
          rintro e w4 ⟨g, rfl, hg, hgl, _, hb4⟩
          have hgz : (⟨g.toArray⟩ : ByteArray).size ≤ 430 := by rw [list_size]; omega
          have hst := STEP.out f g hg (fun h => absurd (HPK.out.symm.trans h) (by decide)) (fun _ => HF1.out) (by omega) (by rw [list_size] at hgz; omega)
          have HST := Lib.hid hst
          have B4 := Lib.hid (B3.out.trans (hb4.mono B3.out.size))
          clear hg hgl hb4 hst hfz hfl
          obtain ⟨G, hG⟩ : ∃ G : ByteArray, G = ⟨g.toArray⟩ := ⟨_, rfl⟩
          rw [← hG] at hgz HST ⊢
          clear hG
          go_wp2
          go_roundw
          case rel => exact ⟨k + 1, _, fs ++ [g], by omega, by go_num, rfl, HST.out.2.2.1, HST.out.2.2.2, HST.out.1, HST.out.2.1, B4.out⟩
          case measure => simp [intOf]; omega
      · have hkN' : k = N := by omega
        subst hkN'
        have hN9 := HN.out
        first | (have hkN2 : ¬ (k : Int) < 8 := by omega) | (have hkN2 : ¬ (k : Int) < (n0 : Int) := by omega)
        go_wp2
        go_loopw [9, 10] (fun atv iv wq => ∃ (i : Nat), i ≤ k ∧ iv = .int .i64 (i : Int) ∧ atv = .int .i64 ((fs.take i).flatten.length : Int) ∧ Below w.heap.size w wq) (fun _ iv _ => 8 - (intOf iv).toNat)
        case atStart => exact ⟨0, by omega, rfl, rfl, HB.out⟩
        case round =>
          rename_i wr0
          obtain ⟨i, hi, rfl, rfl, hbq⟩ := hrel
          have HBQ := Lib.hid hbq
          have hqle : (fs.take i).flatten.length ≤ a.size := by rw [HSZ.out]; exact flat_take_le fs i
          clear hbq
          by_cases hik : i < k
          · obtain ⟨ad, hA, hab, hcell⟩ := HS.out.at_ i (by omega)
            subst hA
            have hsz := HS.out.size i (by omega)
            have htk := HT.out i
            generalize ss.getD i ByteArray.empty = x0 at hcell hsz htk
            unfold maxLen at hsz
            have hcell' : wr.cell? (ad.add i) = some (.string x0) := (HBQ.out.cell (p := ad.add i) (by rw [block_of_add]; exact hab)).trans hcell
            obtain ⟨t, ht⟩ : ∃ t, t = T i := ⟨_, rfl⟩
            have hts : t.size ≤ 400 := by rw [ht, htk]; exact few_size x0 400
            rw [← ht] at htk
            have HTK := Lib.hid htk
            have hin0 : (i : Int) < (n0 : Int) := by omega
            have hik1 : (i : Int) < 8 := by omega
            clear hcell hab htk
            have hil : i < fs.length := by rw [HFL.out]; exact hik
            obtain ⟨x, hgx, hpt, hpf, hxl, hgl⟩ := HF.out i hil
            rw [← ht] at hpt hpf
            clear ht
            obtain ⟨m, hm, hfm, hlm⟩ := frm_strm hgx
            have hflat := flat_at fs i hil
            have hnext := flat_take_succ fs i hil
            have hle2 := flat_take_le fs (i + 1)
            have hat : a = ⟨((fs.take i).flatten ++ (fs[i] ++ (fs.drop (i + 1)).flatten)).toArray⟩ := by rw [← hflat]; exact HA.out
            have hat2 : a = ⟨(((fs.take i).flatten ++ [120, 1]) ++ (m ++ (bigs (adN x) 4 ++ (fs.drop (i + 1)).flatten))).toArray⟩ := by rw [hat, hfm]; simp
            obtain ⟨X, hX⟩ : ∃ X : ByteArray, X = ⟨x.toArray⟩ := ⟨_, rfl⟩
            have hXs : X.size = x.length := by rw [hX, list_size]
            have CR : RowKit.Hid (∀ W, Calls Try.prog 17 #[.string a, .int .i64 ((fs.take i).flatten.length : Int), .int .i64 9000] W fun e w' => e = .returned (.tuple #[.string X, .int .i64 (fs[i].length : Int), .int .i64 0]) ∧ Below W.heap.size W w') := Lib.hid (fun W => by
              have h := read_frame (fs.take i).flatten fs[i] (fs.drop (i + 1)).flatten x a 9000 W hgx hat (by omega) (by omega) (by decide)
              rw [← hX] at h
              exact h)
            have CI : RowKit.Hid (∀ W, Calls Try.prog 18 #[.string a, .int .i64 (((fs.take i).flatten.length : Int) + 2), .int .i64 9000] W fun e w' => e = .returned (.tuple #[.string X, .int .i64 (m.length : Int), .int .i64 0]) ∧ Below W.heap.size W w') := Lib.hid (fun W => by
              have h := inflate_any ((fs.take i).flatten ++ [120, 1]) m (bigs (adN x) 4 ++ (fs.drop (i + 1)).flatten) x a 9000 W hm hat2 (by omega) (by omega) (by decide)
              have hl2 : (((fs.take i).flatten ++ [120, 1]).length : Int) = ((fs.take i).flatten.length : Int) + 2 := by rw [List.length_append]; show ((_ + 2 : Nat) : Int) = _; omega
              rw [← hX, hl2] at h
              exact h)
            have hpt' : P i = true → X = t := fun h => by rw [hX, hpt h]
            have CN : RowKit.Hid (P i = false → ∀ W, Calls Try.prog 17 #[.string X, .int .i64 0, .int .i64 (t.size : Int)] W fun e w' => e = .returned (.tuple #[.string t, .int .i64 (X.size : Int), .int .i64 0]) ∧ Below W.heap.size W w') := Lib.hid (fun h0 W => by
              have h := read_frame [] x [] t.data.toList X t.size W (hpf h0) (by rw [hX]; simp) (by omega) (by simp) (by omega)
              rw [← hXs] at h
              exact h)
            have hkk : fs[i].length = m.length + 6 := hlm
            rw [hkk] at CR hnext hgl
            obtain ⟨mm, hmm⟩ : ∃ mm, mm = m.length := ⟨_, rfl⟩
            rw [← hmm] at CR CI hnext hgl
            have hq2 : (fs.take (i + 1)).flatten.length ≤ a.size := by rw [HSZ.out]; exact hle2
            have HNX := Lib.hid hnext
            obtain ⟨q, hq⟩ : ∃ q, q = (fs.take i).flatten.length := ⟨_, rfl⟩
            rw [← hq] at CR CI HNX hqle ⊢
            have hq3 : q + (mm + 6) ≤ a.size := by have := HNX.out; omega
            have w1 : IntKind.i64.wrap ((q : Int) + 2) = (q : Int) + 2 := IntWalk.i64_in _ (by omega)
            have w2 : IntKind.i64.wrap (((mm + 6 : Nat) : Int) - 6) = (mm : Int) := by rw [show ((mm + 6 : Nat) : Int) - 6 = (mm : Int) by omega]; exact IntWalk.i64_in _ (by omega)
            have w3 : IntKind.i64.wrap ((q : Int) + ((mm + 6 : Nat) : Int)) = ((q + (mm + 6) : Nat) : Int) := by rw [show (q : Int) + ((mm + 6 : Nat) : Int) = ((q + (mm + 6) : Nat) : Int) by omega]; exact IntWalk.i64_in _ (by omega)
            have f1 : ¬ ((mm + 6 : Nat) : Int) < 6 := by omega
            have HPT := Lib.hid hpt'
            have hXs2 : X.size ≤ 411 := by omega
            have hpk := HP.out i
            clear hpt' hpt hpf hxl hgx hm hfm hlm hflat hle2 hat hat2 hX hXs hkk hmm hq2 hq hnext hil hgl
            by_cases hp1 : i < n1
            · obtain ⟨ad1, hA1, hab1, hc1⟩ := HZ.out.at_ i hp1
              subst hA1
              have hc1' : wr.cell? (ad1.add i) = some (.bool (Z i)) := (HBQ.out.cell (p := ad1.add i) (by rw [block_of_add]; exact hab1)).trans hc1
              have hin1 : (i : Int) < (n1 : Int) := by omega
              have hin2 : ¬ (n1 : Int) ≤ (i : Int) := by omega
              rw [decide_eq_true hp1, Bool.true_and] at hpk
              clear hab1
              cases hz : Z i with
              | true =>
                rw [hz] at hpk hc1 hc1'
                have HPK := Lib.hid hpk
                clear hpk
                go_wp2_with fail
                refine (few_any x0 400 _ (by decide) (by omega)).mono ?_
                rintro e w2 ⟨rfl, rfl⟩
                rw [← HTK.out]
                go_wp2_with fail
                refine (CR.out _).mono ?_
                rintro e w3 ⟨rfl, hb3⟩
                have B3 := Lib.hid (HBQ.out.trans (hb3.mono HBQ.out.size))
                have hXt := HPT.out HPK.out
                subst hXt
                have hc3 : w3.cell? (ad1.add i) = some (.bool true) := (hb3.cell (p := ad1.add i) (World.block_lt_of_cell? _ _ hc1')).trans hc1'
                clear hb3
                go_wp2_with fail
                refine (CI.out _).mono ?_
                rintro e w4 ⟨rfl, hb4⟩
                have B4 := Lib.hid (B3.out.trans (hb4.mono B3.out.size))
                have hc4 : w4.cell? (ad1.add i) = some (.bool true) := (hb4.cell (p := ad1.add i) (World.block_lt_of_cell? _ _ hc3)).trans hc3
                clear hb4
                go_wp2
                go_roundw
                case rel => exact ⟨i + 1, by omega, by go_num, by rw [HNX.out]; congr 1 <;> omega, B4.out⟩
                case measure => simp [intOf]; omega
              | false =>
                rw [hz] at hpk hc1 hc1'
                have HPK := Lib.hid hpk
                clear hpk
                go_wp2_with fail
                refine (few_any x0 400 _ (by decide) (by omega)).mono ?_
                rintro e w2 ⟨rfl, rfl⟩
                rw [← HTK.out]
                go_wp2_with fail
                refine (CR.out _).mono ?_
                rintro e w3 ⟨rfl, hb3⟩
                have B3 := Lib.hid (HBQ.out.trans (hb3.mono HBQ.out.size))
                have hc3 : w3.cell? (ad1.add i) = some (.bool false) := (hb3.cell (p := ad1.add i) (World.block_lt_of_cell? _ _ hc1')).trans hc1'
                clear hb3
                go_wp2_with fail
                refine (CN.out HPK.out _).mono ?_
                rintro e w4 ⟨rfl, hb4⟩
                have B4 := Lib.hid (B3.out.trans (hb4.mono B3.out.size))
                have hc4 : w4.cell? (ad1.add i) = some (.bool false) := (hb4.cell (p := ad1.add i) (World.block_lt_of_cell? _ _ hc3)).trans hc3
                clear hb4
                go_wp2_with fail
                refine (CI.out _).mono ?_
                rintro e w5 ⟨rfl, hb5⟩
                have B5 := Lib.hid (B4.out.trans (hb5.mono B4.out.size))
                have hc5 : w5.cell? (ad1.add i) = some (.bool false) := (hb5.cell (p := ad1.add i) (World.block_lt_of_cell? _ _ hc4)).trans hc4
                clear hb5
                go_wp2
                go_roundw
                case rel => exact ⟨i + 1, by omega, by go_num, by rw [HNX.out]; congr 1 <;> omega, B5.out⟩
                case measure => simp [intOf]; omega
            · have hin1 : ¬ (i : Int) < (n1 : Int) := by omega
              have hin2 : (n1 : Int) ≤ (i : Int) := by omega
              rw [decide_eq_false hp1, Bool.false_and] at hpk
              have HPK := Lib.hid hpk
              clear hpk
              go_wp2_with fail
              refine (few_any x0 400 _ (by decide) (by omega)).mono ?_
              rintro e w2 ⟨rfl, rfl⟩
              rw [← HTK.out]
              go_wp2_with fail
              refine (CR.out _).mono ?_
              rintro e w3 ⟨rfl, hb3⟩
              have B3 := Lib.hid (HBQ.out.trans (hb3.mono HBQ.out.size))
              clear hb3
              go_wp2_with fail
              refine (CN.out HPK.out _).mono ?_
              rintro e w4 ⟨rfl, hb4⟩
              have B4 := Lib.hid (B3.out.trans (hb4.mono B3.out.size))
              clear hb4
              go_wp2_with fail
              refine (CI.out _).mono ?_
              rintro e w5 ⟨rfl, hb5⟩
              have B5 := Lib.hid (B4.out.trans (hb5.mono B4.out.size))
              clear hb5
              go_wp2
              go_roundw
              case rel => exact ⟨i + 1, by omega, by go_num, by rw [HNX.out]; congr 1 <;> omega, B5.out⟩
              case measure => simp [intOf]; omega
          · have hik' : i = k := by omega
            subst hik'
            have hend : (fs.take i).flatten.length = a.size := by rw [HSZ.out, List.take_of_length_le (by rw [HFL.out]; exact Nat.le_refl _)]
            rw [hend]
            go_wp2
            go_ret
            exact ⟨by simp, HBQ.out⟩
end Go.Proofs.Ytncdaohjjhcaaaa
