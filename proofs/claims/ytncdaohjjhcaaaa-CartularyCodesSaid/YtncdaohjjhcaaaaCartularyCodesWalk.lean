/- THE WALK of 'CartularyCodes'. -/
import Derived.Test.YtncdaohjjhcaaaaCodNew
import Derived.Test.YtncdaohjjhcaaaaCodRead
import Derived.Test.YtncdaohjjhcaaaaCodW2
import Derived.Test.YtncdaohjjhcaaaaFew
namespace Go.Proofs.Ytncdaohjjhcaaaa
open Go.RowKit Sums
set_option linter.unusedVariables false

/-- What lies in memory while symbols are written. -/
structure CSt (w0 w : World) (N bt : Nat) (L : List Int) (LV SV : Value) (a : St) (items : List Int) (lv wv : Value) : Prop where
  own : ownsI w N lv items
  wat : WAt w N w0.heap.size wv a
  tat : TAt w bt w0.heap.size L LV SV
  below : Below w0.heap.size w0 w
  base : w0.heap.size ≤ N
  lvl : ∀ g, LV.ownBlock = some g → g < N
  svl : ∀ g, SV.ownBlock = some g → g < N
theorem CSt.write {w0 w w' : World} {N bt : Nat} {L : List Int} {LV SV : Value} {a a' : St} {items : List Int} {lv wv wv' : Value} (h : CSt w0 w N bt L LV SV a items lv wv) (hk : Kt 5 N w0.heap.size w w') (hw : WAt w' N w0.heap.size wv' a') : CSt w0 w' N bt L LV SV a' items lv wv' := by
  have hbt : bt ≠ N := fun e => by
    have h1 := h.tat.cell
    rw [e, show w.heap[N]? = _ from h.wat.cell] at h1
    injection h1 with h1
    injection h1 with _ h1 _
    exact absurd h1 (by decide)
  refine ⟨kt_row hk h.own (by decide) (row_ne h.own h.wat.cell (by decide)), hw, ⟨kt_heap hk h.tat.cell hbt (fun cur f e => by injection e with _ e _; exact absurd e (by decide)), kt_row hk h.tat.len (by decide) (row_ne h.tat.len h.wat.cell (by decide)), kt_row hk h.tat.srt (by decide) (row_ne h.tat.srt h.wat.cell (by decide))⟩, h.below.trans (kt_to_below hk h.base h.below.size), h.base, h.lvl, h.svl⟩
theorem CSt.append {w0 w w' : World} {N bt : Nat} {L : List Int} {LV SV : Value} {a : St} {items items' : List Int} {lv lv' wv : Value} (h : CSt w0 w N bt L LV SV a items lv wv) (hown : ownsI w' N lv' items') (hg : w.grownBy w' lv.ownBlock) : CSt w0 w' N bt L LV SV a items' lv' wv := by
  have hne : ∀ V : Value, (∀ g, V.ownBlock = some g → g < N) → V.ownBlock = none ∨ V.ownBlock ≠ lv.ownBlock := fun V hV => by
    cases hv : V.ownBlock with
    | none => exact .inl rfl
    | some g =>
      refine .inr (fun e => ?_)
      have h1 := hV g hv
      have h2 := (h.own.lt g e.symm).1
      omega
  have hN : some N ≠ lv.ownBlock := fun e => row_ne h.own h.wat.cell (by decide) e.symm
  have hbt : some bt ≠ lv.ownBlock := fun e => row_ne h.own h.tat.cell (by decide) e.symm
  have hout : wv.ownBlock = none ∨ wv.ownBlock ≠ lv.ownBlock := by
    rcases h.wat.own.2 with ⟨e, _⟩ | ⟨g, cap, cur, e, _, hc, _⟩
    · rw [e]; exact .inl rfl
    · refine .inr (fun e2 => ?_)
      rw [e] at e2
      exact row_ne h.own hc (by decide) e2.symm
  refine ⟨hown, ⟨h.wat.ok, gb_heap hg h.wat.cell hN, h.wat.own.kept hg hout⟩, ⟨gb_heap hg h.tat.cell hbt, h.tat.len.kept hg (hne _ h.lvl), h.tat.srt.kept hg (hne _ h.svl)⟩, h.below.trans (gb_below hg h.below.size (fun k e => Nat.le_trans h.base (h.own.lt k e).1)), h.base, h.lvl, h.svl⟩
theorem CSt.new {w0 w w' : World} {N bt : Nat} {L : List Int} {LV SV : Value} {a : St} {items : List Int} {lv wv : Value} (h : CSt w0 w N bt L LV SV a items lv wv) (hb : Below w.heap.size w w') : CSt w0 w' N bt L LV SV a items lv wv :=
  ⟨h.own.below hb, ⟨h.wat.ok, below_heap hb h.wat.cell (lt_of_block h.wat.cell), h.wat.own.below hb⟩, ⟨below_heap hb h.tat.cell (lt_of_block h.tat.cell), h.tat.len.below hb, h.tat.srt.below hb⟩, h.below.trans (hb.mono h.below.size), h.base, h.lvl, h.svl⟩
theorem ownsI_form {w : World} {B : Nat} {v : Value} {l : List Int} (h : ownsI w B v l) : ∃ A cap, v = .slice A l.length cap ∧ ∀ j x, l[j]? = some x → ∃ g, A = some ⟨g, 0, none⟩ ∧ w.cell? ⟨g, j, none⟩ = some (.int .i64 x) := by
  by_cases h0 : 0 < l.length
  · obtain ⟨g, cap, e, hat⟩ := ownsI_at h h0
    exact ⟨_, cap, e, fun j x hx => ⟨g, rfl, hat j x hx⟩⟩
  · rcases h.2 with ⟨e, e2⟩ | ⟨g, cap, cur, e, _⟩
    · exact ⟨none, 0, by rw [e, e2], fun j x hx => absurd (List.getElem?_eq_some_iff.1 hx).1 (by omega)⟩
    · exact ⟨_, cap, e, fun j x hx => absurd (List.getElem?_eq_some_iff.1 hx).1 (by omega)⟩
theorem good122 : Good [1, 2, 2] := by
  refine ⟨by decide, fun s hs => ?_, fun n hn => ?_, by decide⟩
  · have h3 : s = 0 ∨ s = 1 ∨ s = 2 := by simp at hs; omega
    rcases h3 with rfl | rfl | rfl <;> decide
  · have h : ∀ n : Fin 16, 0 ≤ lft [1, 2, 2] n.val := by decide
    exact h ⟨n, by omega⟩
theorem has122 : Has [1, 2, 2] 2 := has_of good122.range (by decide) (by decide)
theorem code122 : codeOf [1, 2, 2] 2 = 3 ∧ lenOf [1, 2, 2] 2 = 2 := by decide

set_option maxRecDepth 100000 in
set_option maxHeartbeats 4000000 in
theorem cartularyCodes_walk0 (w : World) (A1 : Option Addr) (n1 cap1 : Nat) (L1 : List Int) (h1 : IntsIn w A1 n1 cap1 L1) (A2 : Option Addr) (n2 cap2 : Nat) (L2 : List Int) (h2 : IntsIn w A2 n2 cap2 L2) (text : ByteArray) (ht : text.size ≤ maxLen) :
    Calls Try.prog 3 #[.slice A1 n1 cap1, .slice A2 n2 cap2, .string text] w fun e w' => e = .returned (.bool true) ∧ Below w.heap.size w w' := by
  have hcap1 := h1.small
  have hle1 := h1.le
  have hcap2 := h2.small
  have hle2 := h2.le
  unfold maxLen at hcap1 hcap2 ht
  have H1 := Lib.hid h1
  have H2 := Lib.hid h2
  clear h1 h2
  have c1 := fun W hI => new_any (some ⟨w.heap.size, 0, none⟩) 3 3 [1, 2, 2] W hI (by decide)
  have C1 := Lib.hid c1
  have hi3 : IntsIn (w.alloc (.cells #[.int .i64 1, .int .i64 2, .int .i64 2] 3)) (some ⟨w.heap.size, 0, none⟩) 3 3 [1, 2, 2] := ⟨rfl, Nat.le_refl _, by decide, fun h => (by cases h), fun i hi => ⟨⟨w.heap.size, 0, none⟩, rfl, by rw [World.size_alloc]; exact Nat.lt_succ_self _, by
    have hadd : (⟨w.heap.size, 0, none⟩ : Addr).add i = ⟨w.heap.size, i, none⟩ := by unfold Addr.add; split <;> simp_all
    rw [hadd, cell_at (heap_alloc_same _ _)]
    have h3 : i = 0 ∨ i = 1 ∨ i = 2 := by omega
    rcases h3 with rfl | rfl | rfl <;> rfl⟩⟩
  have HI3 := Lib.hid hi3
  have HB0 := Lib.hid ((Below.refl w.heap.size w).alloc (Nat.le_refl _) (.cells #[.int .i64 1, .int .i64 2, .int .i64 2] 3))
  clear c1 hi3
  go_enter Try.func3, Try.ntmps3
  go_wp2_with fail
  refine (C1.out _ HI3.out).mono ?_
  rintro e w1 ⟨hne, hb1⟩
  rcases hne with ⟨_, b1, LV1, SV1, rfl, ht1, hb1b⟩ | ⟨hng, _⟩
  rotate_left
  · exact absurd good122 hng
  have HB1 := Lib.hid (HB0.out.trans (hb1.mono HB0.out.size))
  have c2 := code_any b1 _ 2 [1, 2, 2] LV1 SV1 w1 ht1 good122 has122
  rw [code122.1, code122.2] at c2
  have C2 := Lib.hid c2
  clear c2 ht1 hb1 hb1b C1 HI3 HB0
  go_wp2_with fail
  refine (C2.out).mono ?_
  rintro e w2 ⟨rfl, rfl⟩
  clear C2
  by_cases h400 : 400 < n1
  · have h400I : (400 : Int) < (n1 : Int) := by omega
    obtain ⟨ad, hA, _, _⟩ := H1.out.at_ 0 (by omega)
    have h1t : IntsIn w A1 400 cap1 (L1.take 400) := ⟨by rw [List.length_take, H1.out.len]; omega, by omega, H1.out.small, fun h => (by rw [hA] at h; cases h), fun i hi => by
      obtain ⟨ad2, e1, e2, e3⟩ := H1.out.at_ i (by omega)
      refine ⟨ad2, e1, e2, ?_⟩
      rw [e3, List.getD_eq_getElem?_getD, List.getD_eq_getElem?_getD, List.getElem?_take, if_pos hi]⟩
    have H1T := Lib.hid h1t
    subst hA
    have hcI : (400 : Int) ≤ (cap1 : Int) := by omega
    have hcN : 400 ≤ cap1 := by omega
    have c3 := fun W => few_any text 20 W (by decide) (by omega)
    obtain ⟨f, hf⟩ : ∃ f, f = fewB text 20 := ⟨_, rfl⟩
    rw [← hf] at c3
    have C3 := Lib.hid c3
    clear c3 hf h1t
    go_wp2_with fail
    refine (C3.out _).mono ?_
    rintro e w3 ⟨rfl, rfl⟩
    have c4 := new_any (some ad) 400 cap1 (L1.take 400) w2 (H1T.out.below HB1.out) (by decide)
    have C4 := Lib.hid c4
    clear c4
    go_wp2_with fail
    refine (C4.out).mono ?_
    rintro e w3 ⟨hne, hb3⟩
    have HB3 := Lib.hid (HB1.out.trans (hb3.mono HB1.out.size))
    rcases hne with ⟨hgood, bt, LV, SV, rfl, htt, hbt⟩ | ⟨_, x, hx, rfl⟩
    · have := hgood.len
      rw [H1T.out.len] at this
      omega
    · have hx0 : (x == 0) = false := by rw [beq_eq_false_iff_ne]; exact hx
      clear hb3 hx C3 C4
      go_wp2
      go_ret
      exact ⟨rfl, HB3.out⟩
  · have h400I : ¬ (400 : Int) < (n1 : Int) := by omega
    have hfs := few_size text 20
    have c3 := fun W => few_any text 20 W (by decide) (by omega)
    obtain ⟨f, hf⟩ : ∃ f, f = fewB text 20 := ⟨_, rfl⟩
    rw [← hf] at hfs c3
    have C3 := Lib.hid c3
    clear c3 hf
    go_wp2_with fail
    refine (C3.out _).mono ?_
    rintro e w3 ⟨rfl, rfl⟩
    have c4 := new_any A1 n1 cap1 L1 w2 (H1.out.below HB1.out) (by omega)
    have C4 := Lib.hid c4
    clear c4
    go_wp2_with fail
    refine (C4.out).mono ?_
    rintro e w3 ⟨hne, hb3⟩
    have HB3 := Lib.hid (HB1.out.trans (hb3.mono HB1.out.size))
    rcases hne with ⟨hgood, bt, LV, SV, rfl, htt, hbt⟩ | ⟨_, x, hx, rfl⟩
    rotate_left
    · have hx0 : (x == 0) = false := by rw [beq_eq_false_iff_ne]; exact hx
      clear hb3 hx C3 C4
      go_wp2
      go_ret
      exact ⟨rfl, HB3.out⟩
    have hlvl : ∀ g, LV.ownBlock = some g → g < w3.heap.size := fun g hg => (htt.len.lt g hg).2
    have hsvl : ∀ g, SV.ownBlock = some g → g < w3.heap.size := fun g hg => (htt.srt.lt g hg).2
    have htt2 : TAt w3 bt w.heap.size L1 LV SV := ⟨htt.cell, ownsI_mono htt.len HB1.out.size, ownsI_mono htt.srt HB1.out.size⟩
    have hS0 : CSt w ((w3.alloc (.cells #[.slice none 0 0, .int .u64 0, .int .i64 0] 34)).alloc (.cells #[] 3)) w3.heap.size bt L1 LV SV ⟨0, 0⟩ [] (.slice (some ⟨w3.heap.size + 1, 0, none⟩) 0 0) (.slice none 0 0) := by
      have hb4 : Below w3.heap.size w3 ((w3.alloc (.cells #[.slice none 0 0, .int .u64 0, .int .i64 0] 34)).alloc (.cells #[] 3)) := ((Below.refl _ _).alloc (Nat.le_refl _) _).alloc (by rw [World.size_alloc]; exact Nat.le_succ _) _
      refine ⟨?_, ⟨Nat.one_pos, heap_alloc_keep (heap_alloc_same w3 _) _, ownsB_nil _ _⟩, ⟨below_heap hb4 htt2.cell (lt_of_block htt2.cell), htt2.len.below hb4, htt2.srt.below hb4⟩, HB3.out.trans (hb4.mono HB3.out.size), HB3.out.size, hlvl, hsvl⟩
      have h := ownsI_made (w3.alloc (.cells #[.slice none 0 0, .int .u64 0, .int .i64 0] 34)) (B := w3.heap.size) (by rw [World.size_alloc]; exact Nat.le_succ _)
      rw [World.size_alloc] at h
      exact h
    have HS0 := Lib.hid hS0
    have HGD := Lib.hid hgood
    have H2B := Lib.hid (fun W (hW : Below w.heap.size w W) => H2.out.below hW)
    have HN : RowKit.Hid (w.heap.size ≤ w3.heap.size) := Lib.hid HB3.out.size
    clear hlvl hsvl htt2 htt hS0 hgood hb3 C3 C4 hbt
    obtain ⟨T, hT⟩ : ∃ T, T = f.data.toList := ⟨_, rfl⟩
    have hTl : T.length = f.size := by rw [hT]; simp
    have HT := Lib.hid hT
    have HTL := Lib.hid hTl
    clear hT hTl
    go_wp2_with fail
    go_loopw [13, 14] (fun lv l14 wr => ∃ (i : Nat) (items : List Int) (wv : Value), i ≤ n2 ∧ i ≤ 60 ∧ l14 = .int .i64 (i : Int) ∧ CSt w wr w3.heap.size bt L1 LV SV (encs L1 T items) items lv wv ∧ (∀ x ∈ items, x < 0 ∨ (0 ≤ x ∧ Has L1 x.toNat)) ∧ (encs L1 T items).n ≤ 200 * i ∧ items.length ≤ 2 * i) (fun _ l14 _ => 60 - (intOf l14).toNat)
    case atStart => exact ⟨0, [], .slice none 0 0, Nat.zero_le _, Nat.zero_le _, rfl, HS0.out, fun x hx => (by cases hx), Nat.le_refl _, Nat.le_refl _⟩
    case round =>
      obtain ⟨i, items, wv, hi2, hi60, rfl, hst, hit, hn, hil⟩ := hrel
      have HST := Lib.hid hst
      have HIT := Lib.hid hit
      have HNN := Lib.hid hn
      have HIL := Lib.hid hil
      clear hst hit hn hil
      by_cases hgo : i < n2 ∧ i < 60
      · obtain ⟨hin, hi60'⟩ := hgo
        have hI2 := H2B.out wr HST.out.below
        obtain ⟨ad, hA, hab, hcell⟩ := hI2.at_ i hin
        clear hI2
        subst hA
        obtain ⟨x, hx⟩ : ∃ x, x = L2.getD i 0 := ⟨_, rfl⟩
        rw [← hx] at hcell
        have HXV := Lib.hid hx
        clear hx
        have hiI : (i : Int) < (n2 : Int) := by omega
        have hi60I : (i : Int) < 60 := by omega
        by_cases hnone : x < 0 ∨ (L1.length : Int) ≤ x ∨ (0 ≤ x ∧ x < L1.length ∧ L1.getD x.toNat 0 = 0)
        · have C := Lib.hid (code_none bt w.heap.size x L1 LV SV wr HST.out.tat HGD.out.len hnone)
          clear hnone
          go_wp2_with fail
          refine (C.out).mono ?_
          rintro e w5 ⟨rfl, rfl⟩
          clear C
          go_wp2
          go_roundw
          case rel => exact ⟨i + 1, items, wv, by omega, by omega, by go_num, HST.out, HIT.out, by have := HNN.out; omega, by have := HIL.out; omega⟩
          case measure => simp [intOf]; omega
        · have hx0 : 0 ≤ x := by omega
          obtain ⟨s, rfl⟩ : ∃ s : Nat, x = (s : Int) := ⟨x.toNat, by omega⟩
          have hsl : s < L1.length := by omega
          have hs0 : L1.getD s 0 ≠ 0 := fun e => hnone (.inr (.inr ⟨by omega, by omega, e⟩))
          have hhas : Has L1 s := has_of HGD.out.range hsl hs0
          have C := Lib.hid (code_any bt w.heap.size s L1 LV SV wr HST.out.tat HGD.out hhas)
          have hl1 := hhas.pos
          have hl15 := hhas.le
          have hclt := code_lt HGD.out.kraft hhas
          have hen : enc L1 T (encs L1 T items) (s : Int) = (encs L1 T items).put (lenOf L1 s) (revTo (codeOf L1 s) (lenOf L1 s) (lenOf L1 s)) := by
            unfold enc encC
            rw [if_neg (by omega)]
            rfl
          have HHAS := Lib.hid hhas
          obtain ⟨l, hl⟩ : ∃ l, l = lenOf L1 s := ⟨_, rfl⟩
          obtain ⟨c, hc⟩ : ∃ c, c = codeOf L1 s := ⟨_, rfl⟩
          rw [← hl, ← hc] at C hclt hen
          rw [← hl] at hl1 hl15
          have hc32 : c < 2 ^ 32 := Nat.lt_of_lt_of_le hclt (pow_le' l 32 (by omega))
          have hlne : ((l : Int) == 0) = false := by rw [beq_eq_false_iff_ne]; omega
          have D := Lib.hid (wcode_any w3.heap.size w.heap.size c l wv (encs L1 T items) wr HST.out.wat HST.out.below.size (by have := HNN.out; omega) hl1 (by omega) hc32)
          rw [← hen, ← encs_snoc] at D
          have hnb : (encs L1 T (items ++ [(s : Int)])).n ≤ 200 * i + 15 := by
            rw [encs_snoc, hen]
            show (encs L1 T items).n + l ≤ _
            have := HNN.out
            omega
          have HNB := Lib.hid hnb
          clear hnone hs0 hhas hl hc hclt hen hc32 hnb hsl
          go_wp2_with fail
          refine (C.out).mono ?_
          rintro e w5 ⟨rfl, rfl⟩
          clear C
          go_wp2_with fail
          refine (D.out).mono ?_
          rintro e w5 ⟨rfl, ⟨wv2, hw5⟩, hk5⟩
          have HS5 := Lib.hid (HST.out.write hk5 hw5)
          clear hk5 hw5 D
          have hcell5 : w5.cell? (ad.add i) = some (.int .i64 (s : Int)) := by
            obtain ⟨ad', e1, e2, e3⟩ := (H2B.out w5 HS5.out.below).at_ i hin
            cases e1
            rw [HXV.out]
            exact e3
          have hlen : items.length + 1 ≤ 17592186044416 := by have := HIL.out; omega
          have hBN : w3.heap.size ≤ w5.heap.size := Nat.le_of_lt (lt_of_block HS5.out.wat.cell)
          have hr7 : (i : Int) % 7 = ((i % 7 : Nat) : Int) := by omega
          obtain ⟨r7, hr7e⟩ : ∃ r, r = i % 7 := ⟨_, rfl⟩
          rw [← hr7e] at hr7
          have hi0 : (0 : Int) ≤ (i : Int) := by omega
          clear hcell hl1 hl15
          by_cases h7 : r7 = 3
          · have h7e : ((r7 : Int) == 3) = true := by rw [h7]; rfl
            have hwr : ∀ W, Below w5.heap.size w5 W → True := fun _ _ => trivial
            clear hwr hr7e
            go_wp2_with (at_builtin; refine append_ints _ rfl (.tmp 87) (.tmp 92) rfl w3.heap.size _ items [(s : Int)] rfl (HS5.out.own.alloc _) ⟨w5.heap.size, 0, none⟩ 1 rfl (new_ints w5 _ _) hlen (by simp; omega) ?_; intro lv6 w6 hown6 hg6)
            have HS6 := Lib.hid ((HS5.out.new ((Below.refl _ _).alloc (Nat.le_refl _) (.cells #[.int .i64 (s : Int)] 3))).append hown6 hg6)
            have hfz := HTL.out
            have D2 := Lib.hid (wbytes_any w3.heap.size w.heap.size f _ _ w6 HS6.out.wat HS6.out.below.size (by have := HNB.out; omega) (by omega))
            have hen2 : encB f.data.toList (encs L1 T (items ++ [(s : Int)])) = encs L1 T (items ++ [(s : Int)] ++ [-1]) := by
              rw [encs_snoc _ _ (items ++ [(s : Int)])]
              unfold enc
              rw [if_pos (by decide), HT.out]
            rw [hen2] at D2
            have hnb3 : (encs L1 T (items ++ [(s : Int)] ++ [-1])).n ≤ 200 * (i + 1) := by
              rw [← hen2, ← HT.out]
              show up8 (encs L1 T (items ++ [(s : Int)])).n + 8 * T.length ≤ _
              have := HNB.out
              have := HTL.out
              unfold up8
              omega
            have HNB3 := Lib.hid hnb3
            clear hown6 hg6 hcell5 hlen hBN hen2 hnb3 HS5
            go_wp2_with fail
            refine (D2.out).mono ?_
            rintro e w7 ⟨rfl, ⟨wv3, hw7⟩, hk7⟩
            have HS7 := Lib.hid (HS6.out.write hk7 hw7)
            have hlen7 : (items ++ [(s : Int)]).length + 1 ≤ 17592186044416 := by rw [List.length_append]; simp; have := HIL.out; omega
            have hBN7 : w3.heap.size ≤ w7.heap.size := Nat.le_of_lt (lt_of_block HS7.out.wat.cell)
            clear hk7 hw7 D2 HS6
            go_wp2_with (at_builtin; refine append_ints _ rfl (.tmp 99) (.tmp 100) rfl w3.heap.size _ (items ++ [(s : Int)]) [-1] rfl (HS7.out.own.alloc _) ⟨w7.heap.size, 0, none⟩ 1 rfl (new_ints w7 _ _) hlen7 (by simp; omega) ?_; intro lv8 w8 hown8 hg8)
            have HS8 := Lib.hid ((HS7.out.new ((Below.refl _ _).alloc (Nat.le_refl _) (.cells #[.int .i64 (-1)] 3))).append hown8 hg8)
            go_roundw
            case rel =>
              refine ⟨i + 1, items ++ [(s : Int)] ++ [-1], wv3, by omega, by omega, by go_num, HS8.out, ?_, HNB3.out, ?_⟩
              · intro x hx
                rw [List.mem_append, List.mem_append] at hx
                rcases hx with (hx | hx) | hx
                · exact HIT.out x hx
                · rw [List.mem_singleton] at hx
                  subst hx
                  exact .inr ⟨by omega, HHAS.out⟩
                · rw [List.mem_singleton] at hx
                  subst hx
                  exact .inl (by decide)
              · have := HIL.out
                rw [List.length_append, List.length_append]
                simp
                omega
            case measure => simp [intOf]; omega
          · have h7e : ((r7 : Int) == 3) = false := by rw [beq_eq_false_iff_ne]; omega
            clear hr7e
            go_wp2_with (at_builtin; refine append_ints _ rfl (.tmp 87) (.tmp 92) rfl w3.heap.size _ items [(s : Int)] rfl (HS5.out.own.alloc _) ⟨w5.heap.size, 0, none⟩ 1 rfl (new_ints w5 _ _) hlen (by simp; omega) ?_; intro lv6 w6 hown6 hg6)
            have HS6 := Lib.hid ((HS5.out.new ((Below.refl _ _).alloc (Nat.le_refl _) (.cells #[.int .i64 (s : Int)] 3))).append hown6 hg6)
            go_roundw
            case rel =>
              refine ⟨i + 1, items ++ [(s : Int)], wv2, by omega, by omega, by go_num, HS6.out, ?_, by have := HNB.out; omega, ?_⟩
              · intro x hx
                rw [List.mem_append] at hx
                rcases hx with hx | hx
                · exact HIT.out x hx
                · rw [List.mem_singleton] at hx
                  subst hx
                  exact .inr ⟨by omega, HHAS.out⟩
              · have := HIL.out
                rw [List.length_append]
                simp
                omega
            case measure => simp [intOf]; omega
      · skip -- END
        by_cases hkn : i < n2
        · have h60 : i = 60 := by omega
          have hiI : (i : Int) < (n2 : Int) := by omega
          have hi60I : ¬ (i : Int) < 60 := by omega
          clear hgo hkn h60
          have hown0 := HST.out.own
          obtain ⟨A, cap, hlv, _⟩ := ownsI_form hown0
          obtain ⟨m, hm⟩ : ∃ m, m = items.length := ⟨_, rfl⟩
          rw [← hm] at hlv
          subst hlv
          obtain ⟨a, ha⟩ : ∃ a, a = encs L1 T items := ⟨_, rfl⟩
          have haok : a.ok := by rw [ha]; exact encs_ok _ _ _
          have han : a.n ≤ 12000 := by rw [ha]; have := HNN.out; omega
          rw [← ha] at HST
          obtain ⟨txt, htxt⟩ : ∃ s : ByteArray, s = ⟨(textOf a).toArray⟩ := ⟨_, rfl⟩
          have htl : txt.data.toList = textOf a := by rw [htxt]
          have hts : txt.size = (a.n + 7) / 8 := by
            have h := congrArg List.length htl
            rw [text_len] at h
            simpa using h
          have hnum : num txt = a.v := by
            show litN txt.data.toList = _
            rw [htl, text_num haok]
          have hD := wtext_any w3.heap.size _ wv a wr HST.out.wat (by omega)
          rw [← htxt] at hD
          have D := Lib.hid hD
          have HA := Lib.hid ha
          have HAOK := Lib.hid haok
          have HTX := Lib.hid htl
          have HTS := Lib.hid hts
          have HNUM := Lib.hid hnum
          have HM := Lib.hid hm
          have HAN := Lib.hid han
          clear hown0 hm ha haok htxt htl hts hnum hD han
          go_wp2_with fail
          refine (D.out).mono ?_
          rintro e v1 ⟨rfl, hb⟩
          have S1 := Lib.hid (HST.out.new hb)
          have R := Lib.hid (rnew_any txt v1 (by have := HTS.out; have := HAN.out; omega))
          clear hb D HST
          go_wp2_with fail
          refine (R.out).mono ?_
          rintro e v2 ⟨rfl, hr, hb2, hlt⟩
          have S2 := Lib.hid (S1.out.new hb2)
          have HR := Lib.hid hr
          obtain ⟨br, hbr⟩ : ∃ br, br = v1.heap.size := ⟨_, rfl⟩
          rw [← hbr] at HR ⊢
          have hbrw : w.heap.size ≤ br := by rw [hbr]; exact S1.out.below.size
          have HBR := Lib.hid hbrw
          clear hr hb2 hlt S1 R hbr hbrw
          go_wp2_with fail
          go_loopw [108] (fun jv wq => ∃ (j : Nat), j ≤ m ∧ jv = .int .i64 (j : Int) ∧ RAt wq br txt (encs L1 T (items.take j)).n 0 ∧ TAt wq bt w.heap.size L1 LV SV ∧ ownsI wq w3.heap.size (.slice A m cap) items ∧ Below w.heap.size w wq) (fun jv _ => m - (intOf jv).toNat)
          case atStart => exact ⟨0, Nat.zero_le _, rfl, HR.out, S2.out.tat, S2.out.own, S2.out.below⟩
          case round =>
            obtain ⟨j, hj, rfl, hrr, htt, hoo, hbb⟩ := hrel
            have HRR := Lib.hid hrr
            have HTT := Lib.hid htt
            have HOO := Lib.hid hoo
            have HBB := Lib.hid hbb
            clear hrr htt hoo hbb
            have hrsz : txt.size ≤ 1000000000 := by have := HTS.out; have := HAN.out; omega
            by_cases hjm : j < m
            · have hjl : j < items.length := by rw [← HM.out]; exact hjm
              obtain ⟨x, hx⟩ : ∃ x, items[j]? = some x := ⟨_, List.getElem?_eq_getElem hjl⟩
              obtain ⟨A9, cap9, hs9, hat9⟩ := ownsI_form HOO.out
              obtain ⟨g9, hA9, hcell⟩ := hat9 j x hx
              have hAA : A = some ⟨g9, 0, none⟩ := by
                injection hs9 with h1
                rw [h1, hA9]
              subst hAA
              have hmem : x ∈ items := List.mem_of_getElem? hx
              have hcase := HIT.out x hmem
              obtain ⟨hpre, hnext⟩ := encs_next L1 T items j x hx
              rw [← HA.out] at hpre
              obtain ⟨aj, haj⟩ : ∃ aj, aj = encs L1 T (items.take j) := ⟨_, rfl⟩
              have hajok : aj.ok := by rw [haj]; exact encs_ok _ _ _
              rw [← haj] at hpre hnext HRR
              have hjI : (j : Int) < (m : Int) := by omega
              have hwj : IntKind.i64.wrap ((j : Int) + 1) = (j : Int) + 1 := IntWalk.i64_in _ (by have := HM.out; have := HIL.out; omega)
              have HNX := Lib.hid hnext
              obtain ⟨c9, f9, hblk⟩ := HRR.out.block
              have HBLK := Lib.hid hblk
              clear hs9 hat9 hA9 hmem hx hnext haj hjl hblk
              by_cases hneg : x < 0
              · have henc : enc L1 T aj x = encB T aj := if_pos hneg
                rw [henc] at hpre HNX
                obtain ⟨hb1, hb2⟩ := text_bytes hajok HAOK.out hpre
                have hTn : T.length = f.size := HTL.out
                have hfit : up8 aj.n / 8 + f.size ≤ txt.size := by
                  rw [text_len] at hb2
                  have := HTS.out
                  omega
                have hex : txt.extract (up8 aj.n / 8) (up8 aj.n / 8 + f.size) = f := by
                  apply ByteArray.ext
                  apply Array.ext'
                  rw [← HT.out, ← hb1, hTn, ← HTX.out]
                  simp
                have hG := rbytes_any br f.size aj.n txt 0 wr HRR.out hrsz hfit
                rw [hex, show up8 aj.n + 8 * f.size = (encB T aj).n by show _ = up8 aj.n + 8 * T.length; rw [hTn], ← HNX.out] at hG
                have G := Lib.hid hG
                clear hG hex hfit hb1 hb2 henc hpre hcase hTn hajok
                go_wp2_with fail
                refine (G.out).mono ?_
                rintro e w9 ⟨rfl, hr9, hg9⟩
                have HR9 := Lib.hid hr9
                have HT9 := Lib.hid (HTT.out.gb hg9 HBLK.out)
                have HO9 : RowKit.Hid (ownsI w9 w3.heap.size (.slice (some ⟨g9, 0, none⟩) m cap) items) := Lib.hid (HOO.out.kept hg9 (.inr (row_ne HOO.out HBLK.out (by decide))))
                have HB9 := Lib.hid (HBB.out.trans (gb_below hg9 HBB.out.size (fun k e => by cases e; exact HBR.out)))
                clear hr9 hg9 G HRR HTT HOO HBB
                go_wp2
                go_roundw
                case rel => exact ⟨j + 1, by omega, by go_num, HR9.out, HT9.out, HO9.out, HB9.out⟩
                case measure => simp [intOf]; omega
              · obtain ⟨s, rfl⟩ : ∃ s : Nat, x = (s : Int) := ⟨x.toNat, by omega⟩
                have hhas : Has L1 s := by
                  rcases hcase with h | ⟨_, h⟩
                  · exact absurd h hneg
                  · exact h
                have henc : enc L1 T aj (s : Int) = aj.put (lenOf L1 s) (revTo (codeOf L1 s) (lenOf L1 s) (lenOf L1 s)) := by
                  unfold enc encC
                  rw [if_neg hneg]
                  rfl
                rw [henc] at hpre HNX
                have hG := read_any bt w.heap.size br s aj.n L1 LV SV txt 0 wr HTT.out HRR.out HGD.out hhas hrsz (fun t ht => by
                  rw [HNUM.out, Pre.bit hajok (revTo_lt _ _ _) hpre ht, revTo_bit _ _ _ _ ht]) (by
                  have h1 := (Pre.take hajok (revTo_lt _ _ _) hpre).2
                  have := HTS.out
                  omega)
                rw [show aj.n + lenOf L1 s = (aj.put (lenOf L1 s) (revTo (codeOf L1 s) (lenOf L1 s) (lenOf L1 s))).n from rfl, ← HNX.out] at hG
                have G := Lib.hid hG
                clear hG henc hpre hcase hajok hhas
                go_wp2_with fail
                refine (G.out).mono ?_
                rintro e w9 ⟨rfl, hr9, hg9⟩
                have HR9 := Lib.hid hr9
                have HT9 := Lib.hid (HTT.out.gb hg9 HBLK.out)
                have HO9 : RowKit.Hid (ownsI w9 w3.heap.size (.slice (some ⟨g9, 0, none⟩) m cap) items) := Lib.hid (HOO.out.kept hg9 (.inr (row_ne HOO.out HBLK.out (by decide))))
                have HB9 := Lib.hid (HBB.out.trans (gb_below hg9 HBB.out.size (fun k e => by cases e; exact HBR.out)))
                clear hr9 hg9 G HRR HTT HOO HBB
                go_wp2
                go_roundw
                case rel => exact ⟨j + 1, by omega, by go_num, HR9.out, HT9.out, HO9.out, HB9.out⟩
                case measure => simp [intOf]; omega
            · have hjm2 : j = m := by omega
              have hfin : (encs L1 T (items.take j)).n = a.n := by rw [hjm2, HM.out, List.take_length, HA.out]
              rw [hfin] at HRR
              have G := Lib.hid (rleft_any br a.n txt 0 wr HRR.out hrsz)
              have hjI : ¬ (j : Int) < (m : Int) := by omega
              have hlt8 : 8 * (txt.size : Int) - (a.n : Int) < 8 := by have := HTS.out; omega
              clear hfin hjm hjm2
              go_wp2_with fail
              refine (G.out).mono ?_
              rintro e w9 ⟨rfl, hg9⟩
              have HB9 := Lib.hid (HBB.out.trans (gb_below hg9 HBB.out.size (fun k e => by cases e)))
              clear hg9 G
              go_wp2
              go_ret
              exact ⟨rfl, HB9.out⟩
        · have hiI : ¬ (i : Int) < (n2 : Int) := by omega
          clear hgo hkn
          have hown0 := HST.out.own
          obtain ⟨A, cap, hlv, _⟩ := ownsI_form hown0
          obtain ⟨m, hm⟩ : ∃ m, m = items.length := ⟨_, rfl⟩
          rw [← hm] at hlv
          subst hlv
          obtain ⟨a, ha⟩ : ∃ a, a = encs L1 T items := ⟨_, rfl⟩
          have haok : a.ok := by rw [ha]; exact encs_ok _ _ _
          have han : a.n ≤ 12000 := by rw [ha]; have := HNN.out; omega
          rw [← ha] at HST
          obtain ⟨txt, htxt⟩ : ∃ s : ByteArray, s = ⟨(textOf a).toArray⟩ := ⟨_, rfl⟩
          have htl : txt.data.toList = textOf a := by rw [htxt]
          have hts : txt.size = (a.n + 7) / 8 := by
            have h := congrArg List.length htl
            rw [text_len] at h
            simpa using h
          have hnum : num txt = a.v := by
            show litN txt.data.toList = _
            rw [htl, text_num haok]
          have hD := wtext_any w3.heap.size _ wv a wr HST.out.wat (by omega)
          rw [← htxt] at hD
          have D := Lib.hid hD
          have HA := Lib.hid ha
          have HAOK := Lib.hid haok
          have HTX := Lib.hid htl
          have HTS := Lib.hid hts
          have HNUM := Lib.hid hnum
          have HM := Lib.hid hm
          have HAN := Lib.hid han
          clear hown0 hm ha haok htxt htl hts hnum hD han
          go_wp2_with fail
          refine (D.out).mono ?_
          rintro e v1 ⟨rfl, hb⟩
          have S1 := Lib.hid (HST.out.new hb)
          have R := Lib.hid (rnew_any txt v1 (by have := HTS.out; have := HAN.out; omega))
          clear hb D HST
          go_wp2_with fail
          refine (R.out).mono ?_
          rintro e v2 ⟨rfl, hr, hb2, hlt⟩
          have S2 := Lib.hid (S1.out.new hb2)
          have HR := Lib.hid hr
          obtain ⟨br, hbr⟩ : ∃ br, br = v1.heap.size := ⟨_, rfl⟩
          rw [← hbr] at HR ⊢
          have hbrw : w.heap.size ≤ br := by rw [hbr]; exact S1.out.below.size
          have HBR := Lib.hid hbrw
          clear hr hb2 hlt S1 R hbr hbrw
          go_wp2_with fail
          go_loopw [108] (fun jv wq => ∃ (j : Nat), j ≤ m ∧ jv = .int .i64 (j : Int) ∧ RAt wq br txt (encs L1 T (items.take j)).n 0 ∧ TAt wq bt w.heap.size L1 LV SV ∧ ownsI wq w3.heap.size (.slice A m cap) items ∧ Below w.heap.size w wq) (fun jv _ => m - (intOf jv).toNat)
          case atStart => exact ⟨0, Nat.zero_le _, rfl, HR.out, S2.out.tat, S2.out.own, S2.out.below⟩
          case round =>
            obtain ⟨j, hj, rfl, hrr, htt, hoo, hbb⟩ := hrel
            have HRR := Lib.hid hrr
            have HTT := Lib.hid htt
            have HOO := Lib.hid hoo
            have HBB := Lib.hid hbb
            clear hrr htt hoo hbb
            have hrsz : txt.size ≤ 1000000000 := by have := HTS.out; have := HAN.out; omega
            by_cases hjm : j < m
            · have hjl : j < items.length := by rw [← HM.out]; exact hjm
              obtain ⟨x, hx⟩ : ∃ x, items[j]? = some x := ⟨_, List.getElem?_eq_getElem hjl⟩
              obtain ⟨A9, cap9, hs9, hat9⟩ := ownsI_form HOO.out
              obtain ⟨g9, hA9, hcell⟩ := hat9 j x hx
              have hAA : A = some ⟨g9, 0, none⟩ := by
                injection hs9 with h1
                rw [h1, hA9]
              subst hAA
              have hmem : x ∈ items := List.mem_of_getElem? hx
              have hcase := HIT.out x hmem
              obtain ⟨hpre, hnext⟩ := encs_next L1 T items j x hx
              rw [← HA.out] at hpre
              obtain ⟨aj, haj⟩ : ∃ aj, aj = encs L1 T (items.take j) := ⟨_, rfl⟩
              have hajok : aj.ok := by rw [haj]; exact encs_ok _ _ _
              rw [← haj] at hpre hnext HRR
              have hjI : (j : Int) < (m : Int) := by omega
              have hwj : IntKind.i64.wrap ((j : Int) + 1) = (j : Int) + 1 := IntWalk.i64_in _ (by have := HM.out; have := HIL.out; omega)
              have HNX := Lib.hid hnext
              obtain ⟨c9, f9, hblk⟩ := HRR.out.block
              have HBLK := Lib.hid hblk
              clear hs9 hat9 hA9 hmem hx hnext haj hjl hblk
              by_cases hneg : x < 0
              · have henc : enc L1 T aj x = encB T aj := if_pos hneg
                rw [henc] at hpre HNX
                obtain ⟨hb1, hb2⟩ := text_bytes hajok HAOK.out hpre
                have hTn : T.length = f.size := HTL.out
                have hfit : up8 aj.n / 8 + f.size ≤ txt.size := by
                  rw [text_len] at hb2
                  have := HTS.out
                  omega
                have hex : txt.extract (up8 aj.n / 8) (up8 aj.n / 8 + f.size) = f := by
                  apply ByteArray.ext
                  apply Array.ext'
                  rw [← HT.out, ← hb1, hTn, ← HTX.out]
                  simp
                have hG := rbytes_any br f.size aj.n txt 0 wr HRR.out hrsz hfit
                rw [hex, show up8 aj.n + 8 * f.size = (encB T aj).n by show _ = up8 aj.n + 8 * T.length; rw [hTn], ← HNX.out] at hG
                have G := Lib.hid hG
                clear hG hex hfit hb1 hb2 henc hpre hcase hTn hajok
                go_wp2_with fail
                refine (G.out).mono ?_
                rintro e w9 ⟨rfl, hr9, hg9⟩
                have HR9 := Lib.hid hr9
                have HT9 := Lib.hid (HTT.out.gb hg9 HBLK.out)
                have HO9 : RowKit.Hid (ownsI w9 w3.heap.size (.slice (some ⟨g9, 0, none⟩) m cap) items) := Lib.hid (HOO.out.kept hg9 (.inr (row_ne HOO.out HBLK.out (by decide))))
                have HB9 := Lib.hid (HBB.out.trans (gb_below hg9 HBB.out.size (fun k e => by cases e; exact HBR.out)))
                clear hr9 hg9 G HRR HTT HOO HBB
                go_wp2
                go_roundw
                case rel => exact ⟨j + 1, by omega, by go_num, HR9.out, HT9.out, HO9.out, HB9.out⟩
                case measure => simp [intOf]; omega
              · obtain ⟨s, rfl⟩ : ∃ s : Nat, x = (s : Int) := ⟨x.toNat, by omega⟩
                have hhas : Has L1 s := by
                  rcases hcase with h | ⟨_, h⟩
                  · exact absurd h hneg
                  · exact h
                have henc : enc L1 T aj (s : Int) = aj.put (lenOf L1 s) (revTo (codeOf L1 s) (lenOf L1 s) (lenOf L1 s)) := by
                  unfold enc encC
                  rw [if_neg hneg]
                  rfl
                rw [henc] at hpre HNX
                have hG := read_any bt w.heap.size br s aj.n L1 LV SV txt 0 wr HTT.out HRR.out HGD.out hhas hrsz (fun t ht => by
                  rw [HNUM.out, Pre.bit hajok (revTo_lt _ _ _) hpre ht, revTo_bit _ _ _ _ ht]) (by
                  have h1 := (Pre.take hajok (revTo_lt _ _ _) hpre).2
                  have := HTS.out
                  omega)
                rw [show aj.n + lenOf L1 s = (aj.put (lenOf L1 s) (revTo (codeOf L1 s) (lenOf L1 s) (lenOf L1 s))).n from rfl, ← HNX.out] at hG
                have G := Lib.hid hG
                clear hG henc hpre hcase hajok hhas
                go_wp2_with fail
                refine (G.out).mono ?_
                rintro e w9 ⟨rfl, hr9, hg9⟩
                have HR9 := Lib.hid hr9
                have HT9 := Lib.hid (HTT.out.gb hg9 HBLK.out)
                have HO9 : RowKit.Hid (ownsI w9 w3.heap.size (.slice (some ⟨g9, 0, none⟩) m cap) items) := Lib.hid (HOO.out.kept hg9 (.inr (row_ne HOO.out HBLK.out (by decide))))
                have HB9 := Lib.hid (HBB.out.trans (gb_below hg9 HBB.out.size (fun k e => by cases e; exact HBR.out)))
                clear hr9 hg9 G HRR HTT HOO HBB
                go_wp2
                go_roundw
                case rel => exact ⟨j + 1, by omega, by go_num, HR9.out, HT9.out, HO9.out, HB9.out⟩
                case measure => simp [intOf]; omega
            · have hjm2 : j = m := by omega
              have hfin : (encs L1 T (items.take j)).n = a.n := by rw [hjm2, HM.out, List.take_length, HA.out]
              rw [hfin] at HRR
              have G := Lib.hid (rleft_any br a.n txt 0 wr HRR.out hrsz)
              have hjI : ¬ (j : Int) < (m : Int) := by omega
              have hlt8 : 8 * (txt.size : Int) - (a.n : Int) < 8 := by have := HTS.out; omega
              clear hfin hjm hjm2
              go_wp2_with fail
              refine (G.out).mono ?_
              rintro e w9 ⟨rfl, hg9⟩
              have HB9 := Lib.hid (HBB.out.trans (gb_below hg9 HBB.out.size (fun k e => by cases e)))
              clear hg9 G
              go_wp2
              go_ret
              exact ⟨rfl, HB9.out⟩
theorem cartularyCodes_walk (w : World) (A1 : Option Addr) (n1 cap1 : Nat) (L1 : List Int) (A2 : Option Addr) (n2 cap2 : Nat) (L2 : List Int) (text : ByteArray) (h1 : IntsIn w A1 n1 cap1 L1) (h2 : IntsIn w A2 n2 cap2 L2) (ht : text.size ≤ maxLen) :
    Calls Try.prog 3 #[.slice A1 n1 cap1, .slice A2 n2 cap2, .string text] w fun e w' => e = .returned (.bool true) ∧ Below w.heap.size w w' :=
  cartularyCodes_walk0 w A1 n1 cap1 L1 h1 A2 n2 cap2 L2 h2 text ht
end Go.Proofs.Ytncdaohjjhcaaaa
