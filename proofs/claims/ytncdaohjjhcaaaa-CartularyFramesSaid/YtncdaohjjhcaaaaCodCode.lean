/- THE WALK of Code: a symbol's code and its length. Conditions: a set of codes that New takes lies in memory. -/
import Derived.Test.YtncdaohjjhcaaaaCodT
namespace Go.Proofs.Ytncdaohjjhcaaaa
open Go.RowKit Sums
set_option linter.unusedVariables false

theorem ints_at (l : List Nat) (j x : Nat) (h : l[j]? = some x) : (ints l)[j]? = some (x : Int) := by unfold ints; rw [List.getElem?_map, h]; rfl
/-- An entry of a row of integers, at its address. -/
theorem ownsI_at {w : World} {B : Nat} {v : Value} {l : List Int} (h : ownsI w B v l) (hl : 0 < l.length) : ∃ g cap, v = .slice (some ⟨g, 0, none⟩) l.length cap ∧ ∀ j x, l[j]? = some x → w.cell? ⟨g, j, none⟩ = some (.int .i64 x) := by
  obtain ⟨g, cap, rfl, _, _⟩ := h.form hl
  refine ⟨g, cap, rfl, fun j x hx => ?_⟩
  have hj : j < l.length := (List.getElem?_eq_some_iff.1 hx).1
  rw [h.cell rfl j hj, (List.getElem?_eq_some_iff.1 hx).2]
  rfl

set_option maxRecDepth 100000 in
set_option maxHeartbeats 1000000 in
theorem code_none (b B : Nat) (x : Int) (L : List Int) (LV SV : Value) (w : World) (h : TAt w b B L LV SV) (hlen : L.length ≤ 320) (hx : x < 0 ∨ (L.length : Int) ≤ x ∨ (0 ≤ x ∧ x < L.length ∧ L.getD x.toNat 0 = 0)) :
    Calls Try.prog 6 #[.pointer (some ⟨b, 0, none⟩), .int .i64 x] w fun e w' => e = .returned (.tuple #[.int .u32 0, .int .i64 0]) ∧ w' = w := by
  have c0 := (cell_at h.cell 0).trans (tab_at0 _ _ _)
  rcases hx with hx | hx | ⟨hx0, hx1, hx2⟩
  · clear h
    go_enter Try.func6, Try.ntmps6
    go_wp2
    go_ret2
    exact ⟨rfl, rfl⟩
  · by_cases h0 : x < 0
    · omega
    · obtain ⟨A, m, p, hs⟩ : ∃ A m p, LV = .slice A m p := row_shape h.len
      have hm : m = L.length := by
        have h2 := h.len
        rw [hs] at h2
        rcases h2.2 with ⟨e, e2⟩ | ⟨g, c, cur, e, _⟩
        · cases e; omega
        · cases e; rfl
      subst hs
      subst hm
      clear h
      go_enter Try.func6, Try.ntmps6
      go_wp2
      go_ret2
      exact ⟨rfl, rfl⟩
  · obtain ⟨s, rfl⟩ : ∃ s : Nat, x = (s : Int) := ⟨x.toNat, by omega⟩
    have hsl : s < L.length := by omega
    obtain ⟨g, cap, rfl, hat⟩ := ownsI_at h.len (by omega)
    have hc := hat s 0 (by
      rw [List.getElem?_eq_getElem hsl]
      have : L.getD s 0 = 0 := hx2
      rw [List.getD_eq_getElem?_getD, List.getElem?_eq_getElem hsl] at this
      exact congrArg some this)
    have hlt : (s : Int) < (L.length : Int) := by omega
    clear h hat hx2
    go_enter Try.func6, Try.ntmps6
    go_wp2
    go_ret2
    exact ⟨rfl, rfl⟩

set_option maxRecDepth 100000 in
set_option maxHeartbeats 2000000 in
theorem code_any (b B s : Nat) (L : List Int) (LV SV : Value) (w : World) (h : TAt w b B L LV SV) (hg : Good L) (hs : Has L s) :
    Calls Try.prog 6 #[.pointer (some ⟨b, 0, none⟩), .int .i64 (s : Int)] w fun e w' => e = .returned (.tuple #[.int .u32 ((codeOf L s : Nat) : Int), .int .i64 ((lenOf L s : Nat) : Int)]) ∧ w' = w := by
  have c0 := (cell_at h.cell 0).trans (tab_at0 _ _ _)
  have c17 := (cell_at h.cell 17).trans (tab_srt _ _ _)
  have HS := Lib.hid hs
  have HG := Lib.hid hg
  have HCN : RowKit.Hid (∀ n, n < 16 → w.cell? ⟨b, 1 + n, none⟩ = some (.int .i64 ((cntTo L L.length n : Nat) : Int))) := Lib.hid (fun n hn => (cell_at h.cell (1 + n)).trans (tab_cnt _ _ _ _ hn))
  have hsl := hs.lt
  have hat := hs.at
  have hpos : posOf L s < (srt L 15).length := (List.getElem?_eq_some_iff.1 hat).1
  obtain ⟨g, cap, rfl, hatl⟩ := ownsI_at h.len (by omega)
  obtain ⟨g2, cap2, rfl, hats⟩ := ownsI_at h.srt (by rw [ints_len]; omega)
  have hls : L[s]? = some ((lenOf L s : Nat) : Int) := by
    have h1 := (mem_idx.1 hs.mem).2
    rw [List.getD_eq_getElem?_getD, List.getElem?_eq_getElem hsl] at h1
    rw [List.getElem?_eq_getElem hsl]
    exact congrArg some h1
  have hc := hatl s _ hls
  obtain ⟨l, hl⟩ : ∃ l, l = lenOf L s := ⟨_, rfl⟩
  rw [← hl] at hc
  have hl1 : 1 ≤ l := by rw [hl]; exact hs.pos
  have hl15 : l ≤ 15 := by rw [hl]; exact hs.le
  have hlne : ((l : Int) == 0) = false := by rw [beq_eq_false_iff_ne]; omega
  have hlt : (s : Int) < (L.length : Int) := by omega
  rw [ints_len] at c17
  obtain ⟨ns, hns⟩ : ∃ ns, ns = (srt L 15).length := ⟨_, rfl⟩
  rw [← hns] at c17 hpos
  have HAT := Lib.hid hats
  have HNS := Lib.hid hns
  have HPOS := Lib.hid hpos
  have HL := Lib.hid hl
  rw [← hl]
  clear h hg hs hat hatl hats hls hns hpos hl hsl
  go_enter Try.func6, Try.ntmps6
  go_wp2_with fail
  go_loopw [6, 7, 8] (fun l6 l7 l8 wr => ∃ (k q : Nat), q = k + 1 ∧ q ≤ l ∧ l6 = .int .u32 ((fst' L k + cc L k : Nat) : Int) ∧ l7 = .int .i64 ((off L k : Nat) : Int) ∧ l8 = .int .i64 (q : Int) ∧ w = wr) (fun _ _ l8 _ => (16 - intOf l8).toNat)
  case atStart => exact ⟨0, 1, rfl, hl1, rfl, rfl, rfl, rfl⟩
  case round =>
    obtain ⟨k, q, hq, hql, rfl, rfl, rfl, rfl⟩ := hrel
    have hqI : (q : Int) ≤ 15 := by omega
    have hq16 : (q : Int) < 16 := by omega
    have c1 := HCN.out q (by omega)
    obtain ⟨cq, hcq⟩ : ∃ cq, cq = cntTo L L.length q := ⟨_, rfl⟩
    rw [← hcq] at c1
    have hcq2 : cnt L (k + 1) = cq := by rw [hcq, hq]; rfl
    obtain ⟨f0, hf0⟩ : ∃ f, f = fst' L k + cc L k := ⟨_, rfl⟩
    obtain ⟨f1, hf1⟩ : ∃ f, f = fst' L q := ⟨_, rfl⟩
    have e1 : f1 = 2 * f0 := by rw [hf1, hq, fst', hf0]
    have hkr : f1 + cq ≤ 32768 := by
      have h1 := HG.out.kraft q (by omega)
      rw [lft_eq] at h1
      unfold cc at h1
      rw [if_neg (by omega), ← hf1] at h1
      have h2 : 2 ^ q ≤ 2 ^ 15 := Nat.pow_le_pow_right (by decide) (by omega)
      have h3 : cnt L q = cq := by rw [hq]; exact hcq2
      omega
    rw [← hf0]
    have w1 : IntKind.u32.wrap ((f0 : Int) * 2) = (f1 : Int) := by rw [IntWalk.u32_in _ (by omega)]; omega
    have w1b : ((f0 : Int) * 2) % 4294967296 = (f1 : Int) := by omega
    have HQ := Lib.hid hq
    have HCQ := Lib.hid hcq2
    have HF1 := Lib.hid hf1
    have HF0 := Lib.hid hf0
    have HE1 := Lib.hid e1
    have HKR := Lib.hid hkr
    clear hq hcq hcq2 hf0 hf1 e1 hkr
    obtain ⟨o, ho⟩ : ∃ o, o = off L k := ⟨_, rfl⟩
    have HO := Lib.hid ho
    rw [← ho]
    have hol : o ≤ 4800 := by
      have h1 := off_le L k
      rw [← ho] at h1
      have h2 := HG.out.len
      have h3 := Nat.mul_le_mul (show k ≤ 15 by have := HQ.out; omega) h2
      omega
    have HOL := Lib.hid hol
    have HCL : RowKit.Hid (cq ≤ 320) := Lib.hid (by
      have h1 := cnt_le L (k + 1)
      rw [HCQ.out] at h1
      have := HG.out.len
      omega)
    clear ho hol
    go_wp2_with fail
    clear w1 w1b c1
    go_loopw [6, 7, 42] (fun l6 l7 l42 wr => ∃ (r : Nat), r ≤ cq ∧ l6 = .int .u32 ((f1 : Int) + (r : Int)) ∧ l7 = .int .i64 ((o : Int) + (r : Int)) ∧ l42 = .int .i64 (r : Int) ∧ (q = l → r ≤ rank L l s) ∧ w = wr) (fun _ _ l42 _ => cq - (intOf l42).toNat)
    case atStart => exact ⟨0, Nat.zero_le _, by simp, by simp, rfl, fun _ => Nat.zero_le _, rfl⟩
    case round =>
      obtain ⟨r, hr, rfl, rfl, rfl, hrk, rfl⟩ := hrel
      have hkr := HKR.out
      have hol := HOL.out
      have hcl := HCL.out
      by_cases hrc : r < cq
      · have hrI : (r : Int) < (cq : Int) := by omega
        have hor : (o : Int) + (r : Int) = ((o + r : Nat) : Int) := by omega
        have hrc2 : r < cnt L (k + 1) := by rw [HCQ.out]; exact hrc
        by_cases hit : q = l ∧ r = rank L l s
        · obtain ⟨hql2, hrr⟩ := hit
          have hp : posOf L s = o + r := by
            unfold posOf
            rw [← HL.out, ← hql2, HQ.out, Nat.add_sub_cancel, HO.out, hrr, ← HQ.out, hql2]
          have hce : codeOf L s = f1 + r := by
            unfold codeOf
            rw [← HL.out, ← hql2, ← HF1.out, hrr, hql2]
          have hcell := HAT.out (o + r) (s : Int) (by rw [← hp]; exact ints_at _ _ _ HS.out.at)
          have hlt2 : ((o + r : Nat) : Int) < (ns : Int) := by have := HPOS.out; omega
          have h0or : (0 : Int) ≤ ((o + r : Nat) : Int) := by omega
          rw [hor]
          have HCE := Lib.hid hce
          have HQL := Lib.hid hql2
          generalize o + r = z at hcell hlt2 h0or ⊢
          clear hor hrc2 hp hce hkr hol hcl hrk hrr hql2
          go_wp2
          go_ret2
          refine ⟨?_, rfl⟩
          rw [HCE.out, ← HQL.out, Int.natCast_add]
          rfl
        · have hlt3 : off L k + r < posOf L s := by
            unfold posOf
            by_cases hql2 : q = l
            · have h1 := hrk hql2
              have h2 : r ≠ rank L l s := fun e => hit ⟨hql2, e⟩
              have h3 : lenOf L s - 1 = k := by rw [← HL.out, ← hql2, HQ.out, Nat.add_sub_cancel]
              rw [h3, ← HL.out]
              omega
            · have h1 := off_mono L (show k + 1 ≤ lenOf L s - 1 by rw [← HL.out]; have := HQ.out; omega)
              rw [off_succ] at h1
              omega
          obtain ⟨x, hx, hxs⟩ := srt_other L s HS.out k r hrc2 (by rw [← HL.out]; have := HQ.out; omega) hlt3
          rw [← HO.out] at hx hlt3
          have hcell := HAT.out (o + r) (x : Int) (ints_at _ _ _ hx)
          have hlt2 : ((o + r : Nat) : Int) < (ns : Int) := by have := HPOS.out; omega
          have h0or : (0 : Int) ≤ ((o + r : Nat) : Int) := by omega
          have hne : ((x : Int) == (s : Int)) = false := by rw [beq_eq_false_iff_ne]; omega
          have wa : IntKind.u32.wrap ((f1 : Int) + (r : Int) + 1) = (f1 : Int) + (r : Int) + 1 := IntWalk.u32_in _ (by omega)
          have wab : ((f1 : Int) + (r : Int) + 1) % 4294967296 = (f1 : Int) + (r : Int) + 1 := by omega
          have wb : IntKind.i64.wrap (((o + r : Nat) : Int) + 1) = ((o + r : Nat) : Int) + 1 := IntWalk.i64_in _ (by omega)
          rw [hor]
          have HOR := Lib.hid hor
          have HRK : RowKit.Hid (q = l → r + 1 ≤ rank L l s) := Lib.hid (fun e => by
            have h1 := hrk e
            have h2 : r ≠ rank L l s := fun e2 => hit ⟨e, e2⟩
            omega)
          obtain ⟨z, hz⟩ : ∃ z, z = o + r := ⟨_, rfl⟩
          rw [← hz] at hcell hlt2 h0or wb ⊢
          have HZ := Lib.hid hz
          clear hor hrc2 hkr hol hcl hrk hit hlt3 hx hxs hz
          go_wp2
          have hz := HZ.out
          refine ⟨⟨r + 1, by omega, by congr 1 <;> omega, by congr 1 <;> omega, by go_num, HRK.out, by trivial⟩, by simp [intOf]; omega⟩
      · obtain rfl : r = cq := by omega
        have hqlt : q < l := by
          by_cases e : q = l
          · have h1 := hrk e
            have h2 := rank_lt HS.out.mem
            rw [← HL.out, ← e] at h2
            have h3 : cnt L q = r := by rw [HQ.out]; exact HCQ.out
            rw [e] at h2 h3
            omega
          · omega
        have hf : f1 + r = fst' L q + cc L q := by
          have h3 : cnt L q = r := by rw [HQ.out]; exact HCQ.out
          unfold cc
          rw [if_neg (by have := HQ.out; omega), h3, HF1.out]
        have hoo : o + r = off L q := by
          rw [HQ.out, off_succ, HCQ.out, HO.out]
        have HF := Lib.hid hf
        have HOO := Lib.hid hoo
        have hwq : IntKind.i64.wrap ((q : Int) + 1) = (q : Int) + 1 := IntWalk.i64_in _ (by omega)
        clear hf hoo hkr hol hcl hrk
        go_wp2
        refine ⟨⟨q, q + 1, rfl, hqlt, ?_, ?_, by go_num, by trivial⟩, by simp [intOf]; omega⟩
        · rw [← HF.out, Int.natCast_add]
        · rw [← HOO.out, Int.natCast_add]
end Go.Proofs.Ytncdaohjjhcaaaa
