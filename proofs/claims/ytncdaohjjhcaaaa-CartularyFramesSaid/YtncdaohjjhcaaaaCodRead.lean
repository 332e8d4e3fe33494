/- THE WALK of Read: the symbol whose code comes next. Conditions: the symbol's code comes next. -/
import Derived.Test.YtncdaohjjhcaaaaCodCode
import Derived.Test.YtncdaohjjhcaaaaCodR2
import Derived.Test.YtncdaohjjhcaaaaIntBits
namespace Go.Proofs.Ytncdaohjjhcaaaa
open Go.RowKit Sums
set_option linter.unusedVariables false

theorem TAt.gb {w w' : World} {b B br : Nat} {L : List Int} {LV SV : Value} (h : TAt w b B L LV SV) (hg : w.grownBy w' (some br)) {c : Array Value} {f : Nat × Nat} (hr : w.heap[br]? = some (.cells c 58 f)) : TAt w' b B L LV SV := by
  have hne : b ≠ br := fun e => by
    have h1 := h.cell
    rw [e, hr] at h1
    injection h1 with h1
    injection h1 with _ h1 _
    exact absurd h1 (by decide)
  exact ⟨gb_heap hg h.cell (fun e => hne (Option.some.inj e)), h.len.kept hg (.inr (row_ne h.len hr (by decide))), h.srt.kept hg (.inr (row_ne h.srt hr (by decide)))⟩
theorem RAt.block {w : World} {b p : Nat} {s : ByteArray} {fr : Int} (h : RAt w b s p fr) : ∃ c f, w.heap[b]? = some (.cells c 58 f) := by
  obtain ⟨a, hv, h⟩ := h
  exact ⟨_, _, h.cell⟩
theorem shl_or (c x : Nat) (hx : x < 2) (hc : c < 32768) : bits .or .i64 ((c : Int) * 2) (x : Int) = ((2 * c + x : Nat) : Int) := by
  have h1 := i64_or_add 1 c x (by omega) (by omega)
  rw [show (2 : Nat) ^ 1 = 2 by decide] at h1
  rw [show (c : Int) * 2 = ((2 * c : Nat) : Int) by omega]
  exact h1
theorem next_bit (C l k : Nat) (h : k < l) : 2 * (C / 2 ^ (l - k)) + C / 2 ^ (l - 1 - k) % 2 = C / 2 ^ (l - (k + 1)) := by
  rw [show l - k = (l - (k + 1)) + 1 by omega, Nat.pow_succ, ← Nat.div_div_eq_div_mul, show l - 1 - k = l - (k + 1) by omega]
  omega

set_option maxRecDepth 100000 in
set_option maxHeartbeats 2000000 in
theorem read_any (b B br s p : Nat) (L : List Int) (LV SV : Value) (txt : ByteArray) (fr : Int) (w : World) (h : TAt w b B L LV SV) (hr : RAt w br txt p fr) (hg : Good L) (hs : Has L s) (hsz : txt.size ≤ 1000000000)
    (hbits : ∀ t, t < lenOf L s → num txt / 2 ^ (p + t) % 2 = codeOf L s / 2 ^ (lenOf L s - 1 - t) % 2) (hend : p + lenOf L s ≤ 8 * txt.size) :
    Calls Try.prog 13 #[.pointer (some ⟨b, 0, none⟩), .pointer (some ⟨br, 0, none⟩)] w fun e w' => e = .returned (.tuple #[.int .i64 (s : Int), .int .i64 0]) ∧ RAt w' br txt (p + lenOf L s) fr ∧ w.grownBy w' (some br) := by
  have HT := Lib.hid h
  have HR := Lib.hid hr
  have HS := Lib.hid hs
  have HG := Lib.hid hg
  have hclt := code_lt hg.kraft hs
  have hpos : posOf L s < (srt L 15).length := (List.getElem?_eq_some_iff.1 hs.at).1
  obtain ⟨ns, hns⟩ : ∃ ns, ns = (srt L 15).length := ⟨_, rfl⟩
  have HSV : RowKit.Hid (∃ g2 cap2, SV = .slice (some ⟨g2, 0, none⟩) ns cap2) := Lib.hid (by
    obtain ⟨g2, cap2, e, _⟩ := ownsI_at h.srt (by rw [ints_len]; omega)
    rw [ints_len, ← hns] at e
    exact ⟨g2, cap2, e⟩)
  obtain ⟨g2, cap2, hsv⟩ := HSV.out
  rw [← hns] at hpos
  have c17 := (cell_at h.cell 17).trans (tab_srt _ _ _)
  rw [hsv] at c17
  have hnsne : ((ns : Int) == 0) = false := by rw [beq_eq_false_iff_ne]; omega
  obtain ⟨l, hl⟩ : ∃ l, l = lenOf L s := ⟨_, rfl⟩
  have hl1 : 1 ≤ l := by rw [hl]; exact hs.pos
  have hl15 : l ≤ 15 := by rw [hl]; exact hs.le
  obtain ⟨C, hC⟩ : ∃ C, C = codeOf L s := ⟨_, rfl⟩
  rw [← hl] at hbits hend hclt ⊢
  rw [← hC] at hbits hclt
  have HC0 : RowKit.Hid (C / 2 ^ (l - 0) = 0) := Lib.hid (Nat.div_eq_of_lt hclt)
  have HCLT := Lib.hid hclt
  have HBT := Lib.hid hbits
  have HNS := Lib.hid hns
  have HPOS := Lib.hid hpos
  have HL := Lib.hid hl
  have HC := Lib.hid hC
  have HSVE := Lib.hid hsv
  clear h hr hg hs hbits hns hpos hl hC hsv hclt
  go_enter Try.func13, Try.ntmps13
  go_wp2_with fail
  clear c17
  go_loopw [6, 7, 8, 9] (fun l6 l7 l8 l9 wr => ∃ (k q : Nat), q = k + 1 ∧ q ≤ l ∧ l6 = .int .i64 ((C / 2 ^ (l - k) : Nat) : Int) ∧ l7 = .int .i64 ((fst' L q : Nat) : Int) ∧ l8 = .int .i64 ((off L k : Nat) : Int) ∧ l9 = .int .i64 (q : Int) ∧ RAt wr br txt (p + k) fr ∧ TAt wr b B L LV SV ∧ w.grownBy wr (some br)) (fun _ _ _ l9 _ => (16 - intOf l9).toNat)
  case atStart => exact ⟨0, 1, rfl, hl1, by rw [HC0.out]; rfl, rfl, rfl, rfl, HR.out, HT.out, gb_refl _ _⟩
  case round =>
    obtain ⟨k, q, hq, hql, rfl, rfl, rfl, rfl, hrr, htt, hgg⟩ := hrel
    have hqI : (q : Int) ≤ 15 := by omega
    have hq16 : (q : Int) < 16 := by omega
    have HD := Lib.hid (rbits_any br 1 (p + k) txt fr wr hrr (by decide) hsz (by omega))
    obtain ⟨c0, hc0⟩ : ∃ c, c = C / 2 ^ (l - k) := ⟨_, rfl⟩
    obtain ⟨c1, hc1⟩ : ∃ c, c = C / 2 ^ (l - q) := ⟨_, rfl⟩
    obtain ⟨x, hx⟩ : ∃ x, x = num txt / 2 ^ (p + k) % 2 ^ 1 := ⟨_, rfl⟩
    have hx2 : x = C / 2 ^ (l - 1 - k) % 2 := by rw [hx, ← HBT.out k (by omega)]
    have hstep : c1 = 2 * c0 + x := by rw [hc1, hq, ← next_bit C l k (by omega), hc0, hx2]
    have hcb : c1 < 32768 := by
      have h1 : c1 ≤ C := by rw [hc1]; exact Nat.div_le_self _ _
      have h2 := HCLT.out
      have h3 : 2 ^ l ≤ 2 ^ 15 := Nat.pow_le_pow_right (by decide) hl15
      omega
    have hxl : x < 2 := by omega
    rw [← hx] at HD
    rw [← hc0]
    have wA : IntKind.i64.wrap ((c0 : Int) * 2) = (c0 : Int) * 2 := IntWalk.i64_in _ (by omega)
    have wX : IntKind.i64.wrap (x : Int) = (x : Int) := IntWalk.i64_in _ (by omega)
    have wO : bits .or .i64 ((c0 : Int) * 2) (x : Int) = (c1 : Int) := by rw [shl_or c0 x hxl (by omega), hstep]
    have HTT := Lib.hid htt
    have HRB := Lib.hid hrr.block
    have HGG := Lib.hid hgg
    have HQ := Lib.hid hq
    have HC1 := Lib.hid hc1
    have HCB := Lib.hid hcb
    clear hrr htt hgg hq hc0 hc1 hx hx2 hstep hxl hcb
    go_wp2_with fail
    refine (HD.out).mono ?_
    rintro e w1 ⟨rfl, hr1, hg1⟩
    have HR1 := Lib.hid hr1
    have HG1 := Lib.hid (gb_trans HGG.out hg1)
    have HT1 : RowKit.Hid (TAt w1 b B L LV SV) := Lib.hid (by
      obtain ⟨c, f, hc⟩ := HRB.out
      exact HTT.out.gb hg1 hc)
    have cq1 := (cell_at HT1.out.cell (1 + q)).trans (tab_cnt _ _ _ q (by omega))
    have c17 := (cell_at HT1.out.cell 17).trans (tab_srt _ _ _)
    rw [HSVE.out] at c17
    obtain ⟨cq, hcq⟩ : ∃ cq, cq = cntTo L L.length q := ⟨_, rfl⟩
    rw [← hcq] at cq1
    have hcq2 : cnt L (k + 1) = cq := by rw [hcq, HQ.out]; rfl
    obtain ⟨f1, hf1⟩ : ∃ f, f = fst' L q := ⟨_, rfl⟩
    obtain ⟨o, ho⟩ : ∃ o, o = off L k := ⟨_, rfl⟩
    rw [← hf1, ← ho]
    have hccq : cc L q = cq := by
      unfold cc
      rw [if_neg (by have := HQ.out; omega), HQ.out]
      exact hcq2
    have hkr : f1 + cq ≤ 32768 := by
      have h1 := HG.out.kraft q (by omega)
      rw [lft_eq, hccq, ← hf1] at h1
      have h2 : 2 ^ q ≤ 2 ^ 15 := Nat.pow_le_pow_right (by decide) (by omega)
      omega
    have hol : o ≤ 4800 := by
      have h1 := off_le L k
      rw [← ho] at h1
      have h2 := HG.out.len
      have h3 := Nat.mul_le_mul (show k ≤ 15 by have := HQ.out; omega) h2
      omega
    have hcl : cq ≤ 320 := by
      have h1 := cnt_le L (k + 1)
      rw [hcq2] at h1
      have := HG.out.len
      omega
    have hcb := HCB.out
    have wK : IntKind.i64.wrap ((c1 : Int) - (f1 : Int)) = (c1 : Int) - (f1 : Int) := IntWalk.i64_in _ (by omega)
    by_cases hit : q = l
    · have hc1C : c1 = C := by rw [HC1.out, hit, Nat.sub_self, Nat.pow_zero, Nat.div_one]
      have hlk : lenOf L s = k + 1 := by rw [← HL.out, ← hit, HQ.out]
      have hCr : C = f1 + rank L l s := by
        rw [HC.out]
        unfold codeOf
        rw [← HL.out, hf1, hit]
      obtain ⟨r, hr⟩ : ∃ r, r = rank L l s := ⟨_, rfl⟩
      rw [← hr] at hCr
      have hrlt : r < cq := by
        have h2 := rank_lt HS.out.mem
        rw [hlk, hcq2] at h2
        rw [hr, HL.out, hlk]
        exact h2
      have hkv : (c1 : Int) - (f1 : Int) = (r : Int) := by omega
      have hrI : (r : Int) < (cq : Int) := by omega
      have hp : posOf L s = o + r := by
        unfold posOf
        rw [hlk, Nat.add_sub_cancel, ho, hr, HL.out, hlk]
      have hor : IntKind.i64.wrap ((o : Int) + (r : Int)) = ((o + r : Nat) : Int) := by rw [IntWalk.i64_in _ (by omega)]; omega
      obtain ⟨g3, cap3, hsv3, hat3⟩ := ownsI_at HT1.out.srt (by rw [ints_len, ← HNS.out]; have := HPOS.out; omega)
      rw [HSVE.out] at hsv3
      have hg3 : g2 = g3 := by injection hsv3 with h1; injection h1 with h1; injection h1 with h1
      have hcell := hat3 (o + r) (s : Int) (by rw [← hp]; exact ints_at _ _ _ HS.out.at)
      rw [← hg3] at hcell
      have hlt2 : ((o + r : Nat) : Int) < (ns : Int) := by have := HPOS.out; omega
      have h0or : (0 : Int) ≤ ((o + r : Nat) : Int) := by omega
      have HF : RowKit.Hid (RAt w1 br txt (p + l) fr) := Lib.hid (by
        have h1 := HR1.out
        rw [show p + k + 1 = p + l by have := HQ.out; omega] at h1
        exact h1)
      rw [hkv] at wK
      have wK2 : IntKind.i64.wrap ((c1 : Int) - (f1 : Int)) = (r : Int) := by rw [hkv]; exact wK
      generalize o + r = z at hcell hlt2 h0or hor
      clear hit hkv wK hcq hcq2 hf1 ho hccq hkr hol hcl hcb hc1C hlk hCr hr hp hsv3 hat3 hg3
      go_wp2
      go_ret2
      exact ⟨rfl, HF.out, HG1.out⟩
    · have hql2 : q < l := by omega
      have hge := code_ge HS.out q (by rw [← HL.out]; exact hql2)
      rw [← HL.out, ← HC.out, ← HC1.out, hccq, ← hf1] at hge
      have hcmp : ¬ (c1 : Int) - (f1 : Int) < (cq : Int) := by omega
      obtain ⟨o2, ho2⟩ : ∃ o, o = off L q := ⟨_, rfl⟩
      have ho3 : o2 = o + cq := by rw [ho2, HQ.out, off_succ, hcq2, ho]
      have wo2 : IntKind.i64.wrap ((o : Int) + (cq : Int)) = (o2 : Int) := by rw [IntWalk.i64_in _ (by omega)]; omega
      obtain ⟨f2, hf2⟩ : ∃ f, f = fst' L (q + 1) := ⟨_, rfl⟩
      have hf3 : f2 = 2 * (f1 + cq) := by rw [hf2, fst', hccq, hf1]
      have wf : IntKind.i64.wrap ((f1 : Int) + (cq : Int)) = (f1 : Int) + (cq : Int) := IntWalk.i64_in _ (by omega)
      have wf2 : IntKind.i64.wrap (((f1 : Int) + (cq : Int)) * 2) = (f2 : Int) := by rw [IntWalk.i64_in _ (by omega)]; omega
      have hone : ((o2 : Int) == (ns : Int)) = false := by
        rw [beq_eq_false_iff_ne]
        have h1 := off_mono L (show q ≤ lenOf L s - 1 by rw [← HL.out]; omega)
        have h2 := HPOS.out
        unfold posOf at h2
        omega
      have hwq : IntKind.i64.wrap ((q : Int) + 1) = (q : Int) + 1 := IntWalk.i64_in _ (by omega)
      have HO2 := Lib.hid ho2
      have HF2 := Lib.hid hf2
      have HR2 : RowKit.Hid (RAt w1 br txt (p + q) fr) := Lib.hid (by
        have h1 := HR1.out
        rw [show p + k + 1 = p + q by have := HQ.out; omega] at h1
        exact h1)
      clear hcq hcq2 hf1 ho hccq hkr hol hcl hcb hge ho2 ho3 hf2 hf3
      go_wp2
      refine ⟨⟨q, q + 1, rfl, hql2, by rw [HC1.out], by rw [HF2.out], by rw [HO2.out], by go_num, HR2.out, HT1.out, HG1.out⟩, by simp [intOf]; omega⟩
end Go.Proofs.Ytncdaohjjhcaaaa
