/- THE WALK of Deflate. Conditions: the text is short. -/
import Derived.Test.YtncdaohjjhcaaaaFrDst
import Derived.Deep.Onto
import Derived.Deep.CutRange
import Derived.Deep.CutBlock
namespace Go.Proofs.Ytncdaohjjhcaaaa
open Go.RowKit Sums
set_option linter.unusedVariables false

theorem byte_at (s : ByteArray) (i : Nat) (h : i < s.size) : s.data.toList[i]? = some s[i] := by
  have h1 : i < s.data.toList.length := by simpa using h
  rw [List.getElem?_eq_getElem h1]
  simp
  rfl
/-- From k and from i on stand the same n bytes. -/
structure Rep (s : ByteArray) (k i n : Nat) : Prop where
  le : n ≤ 258
  fit : i + n ≤ s.size
  eq : ∀ j, j < n → s.data.toList[k + j]? = s.data.toList[i + j]?
theorem Rep.zero (s : ByteArray) (k i : Nat) (h : i ≤ s.size) : Rep s k i 0 := ⟨by omega, by omega, fun j hj => absurd hj (Nat.not_lt_zero _)⟩
theorem Rep.succ {s : ByteArray} {k i n : Nat} (h : Rep s k i n) (hn : n < 258) (hk : k + n < s.size) (hi : i + n < s.size) (he : s[k + n] = s[i + n]) : Rep s k i (n + 1) := by
  refine ⟨by omega, by omega, fun j hj => ?_⟩
  by_cases hjn : j < n
  · exact h.eq j hjn
  · obtain rfl : j = n := by omega
    rw [byte_at s _ hk, byte_at s _ hi, he]
/-- What is to be copied. -/
def OkCopy (s : ByteArray) (i n bk : Nat) : Prop := n ≤ 258 ∧ i + n ≤ s.size ∧ 1 ≤ bk ∧ bk ≤ i ∧ ∀ j, j < n → s.data.toList[i - bk + j]? = s.data.toList[i + j]?
/-- So far the stream says the text's first i bytes. -/
def SoFar (s : ByteArray) (i : Nat) (a : St) : Prop := ∃ toks, Toks toks a (s.data.toList.take i) ∧ a.n ≤ 3 + 48 * i
theorem sofar_nil (s : ByteArray) : SoFar s 0 ⟨3, 3⟩ := ⟨[], by rw [List.take_zero]; exact toks_nil, by decide⟩
theorem SoFar.byte {s : ByteArray} {i : Nat} {a : St} (h : SoFar s i a) (hi : i < s.size) : SoFar s (i + 1) (encC litL (s[i]).toNat a) := by
  obtain ⟨toks, ht, hn⟩ := h
  refine ⟨toks ++ [.byte s[i]], ?_, ?_⟩
  · have h1 := toks_snoc ht (t := .byte s[i]) trivial
    have h2 : s.data.toList.take (i + 1) = s.data.toList.take i ++ [s[i]] := by rw [List.take_add_one, byte_at s i hi]; rfl
    rw [h2]
    exact h1
  · have := (has_lit (s[i]).toNat (by have := (s[i]).toNat_lt; omega)).le
    rw [encC_n]
    omega
theorem SoFar.copy {s : ByteArray} {i n bk : Nat} {a : St} (h : SoFar s i a) (h3 : 3 ≤ n) (hk : OkCopy s i n bk) (hs : s.size ≤ 500) : SoFar s (i + n) (encT a (.copy n bk)) := by
  obtain ⟨toks, ht, hn⟩ := h
  obtain ⟨k1, k2, k3, k4, k5⟩ := hk
  have hl : s.data.toList.length = s.size := by simp
  refine ⟨toks ++ [.copy n bk], ?_, ?_⟩
  · have h1 := toks_snoc ht (t := .copy n bk) ⟨h3, k1, k3, by omega, by rw [List.length_take]; omega⟩
    have h2 := cp_take s.data.toList i bk k3 k4 n (by omega) k5
    rw [← h2]
    exact h1
  · have e1 := (has_lit (257 + lsym n) (by have := lsym_lt n; omega)).le
    have e2 := (has_dist (dsym bk) (by have := dsym_lt bk; omega)).le
    have e3 := (lmore_lt n k1).2
    have e4 := (dmore_lt bk (by omega)).2
    have e5 : (encT a (.copy n bk)).n = a.n + lenOf litL (257 + lsym n) + lbits n + lenOf distL (dsym bk) + dbits bk := rfl
    omega

/-- How Deflate ends. -/
def DefEnd (s : ByteArray) (w : World) (e : Ending) (w' : World) : Prop :=
  ∃ m, e = .returned (.string ⟨m.toArray⟩) ∧ Strm m s.data.toList ∧ m.length ≤ s.size + 5 ∧ Below w.heap.size w w'

set_option maxRecDepth 100000 in
set_option maxHeartbeats 8000000 in
theorem deflate_any (s : ByteArray) (w : World) (hs : s.size ≤ 500) :
    Calls Try.prog 25 #[.string s] w (DefEnd s w) := by
  have hmm : ∀ w, (Instr.makeMap 73 none).run Try.prog w = .ok (.map (some w.heap.size)) (w.alloc (.map #[] 0)) := fun _ => rfl
  have HN := Lib.hid (wat_new w)
  have HB := Lib.hid ((Below.refl w.heap.size w).alloc (Nat.le_refl _) (.cells #[.slice none 0 0, .int .u64 0, .int .i64 0] 34))
  go_enter Try.func25, Try.ntmps25
  go_wp2_with fail
  refine (fixed_any _).mono ?_
  rintro e w1 ⟨⟨b1, b2, LV1, SV1, LV2, SV2, rfl, ht1, ht2, -, -⟩, hb1⟩
  have W1 := Lib.hid (HN.out.below hb1)
  have T1 : RowKit.Hid (TAt w1 b1 w.heap.size litL LV1 SV1 ∧ TAt w1 b2 w.heap.size distL LV2 SV2) := Lib.hid ⟨⟨ht1.cell, ownsI_mono ht1.len HB.out.size, ownsI_mono ht1.srt HB.out.size⟩, ⟨ht2.cell, ownsI_mono ht2.len HB.out.size, ownsI_mono ht2.srt HB.out.size⟩⟩
  have B1 := Lib.hid (HB.out.trans (hb1.mono HB.out.size))
  clear ht1 ht2 hb1
  have C1 := Lib.hid (wbits_any w.heap.size w.heap.size 3 3 _ _ w1 W1.out B1.out.size (by decide) (by decide) (by decide))
  go_wp2_with fail
  refine (C1.out).mono ?_
  rintro e w2 ⟨rfl, ⟨v2, hw2⟩, hk2⟩
  have W2 : RowKit.Hid (WAt w2 w.heap.size w.heap.size v2 ⟨3, 3⟩) := Lib.hid hw2
  have T2 := Lib.hid (And.intro (tat_kt T1.out.1 W1.out hk2) (tat_kt T1.out.2 W1.out hk2))
  have B2 := Lib.hid (B1.out.trans (kt_to_below hk2 (Nat.le_refl _) B1.out.size))
  clear hw2 hk2 C1
  have hbm : Below w2.heap.size w2 (w2.alloc (.map #[] 0)) := (Below.refl _ _).alloc (Nat.le_refl _) _
  have D3 : RowKit.Hid (DW w (w2.alloc (.map #[] 0)) b1 b2 w2.heap.size LV1 SV1 LV2 SV2 0 ⟨3, 3⟩) := Lib.hid ⟨⟨v2, W2.out.below hbm⟩, tat_below T2.out.1 hbm, tat_below T2.out.2 hbm, places_made w2 0, B2.out.size, B2.out.alloc B2.out.size _⟩
  clear hbm
  go_wp2_with fail
  obtain ⟨M, hM⟩ : ∃ M, M = w2.heap.size := ⟨_, rfl⟩
  rw [← hM] at D3 ⊢
  clear hM hmm
  generalize w2.alloc (.map #[] 0) = w3 at D3 ⊢
  clear T2 T1 W1 W2 B1 B2 HN
  go_loopw [7] (fun iv wr => ∃ (i : Nat) (a : St), i ≤ s.size ∧ iv = .int .i64 (i : Int) ∧ SoFar s i a ∧ DW w wr b1 b2 M LV1 SV1 LV2 SV2 i a) (fun iv _ => s.size - (intOf iv).toNat)
  case atStart => exact ⟨0, _, Nat.zero_le _, rfl, sofar_nil s, D3.out⟩
  case round =>
    obtain ⟨i, a, hi, rfl, hso, hd⟩ := hrel
    have HS := Lib.hid hso
    have HD := Lib.hid hd
    have HA : RowKit.Hid (a.n ≤ 3 + 48 * i) := Lib.hid (by obtain ⟨_, _, h⟩ := hso; exact h)
    clear hso hd
    by_cases hin : i < s.size
    · go_upto_if 36 with fail
      go_cut [8, 9] (fun s8 s9 wx => ∃ (n bk : Nat), s8 = .int .i64 (n : Int) ∧ s9 = .int .i64 (bk : Int) ∧ (3 ≤ n → OkCopy s i n bk) ∧ DW w wx b1 b2 M LV1 SV1 LV2 SV2 (i + 1) a)
      case first =>
        by_cases h3 : i + 3 ≤ s.size
        · go_wp2_with (first
            | (refine wp_lookup_places _ rfl (.tmp 38) (.tmp 43) rfl M i _ rfl rfl HD.out.pl ?_
               intro k ok hk
               have HK := Lib.hid hk
               clear hk
               cases ok
               rotate_left
               (have hki := HK.out rfl
                have x1 : IntKind.i64.wrap ((i : Int) - (k : Int)) = (i : Int) - (k : Int) := IntWalk.i64_in _ (by omega)
                have x2 : (i : Int) - (k : Int) ≤ 32768 := by omega
                have x3 : decide ((i : Int) - (k : Int) ≤ 32768) = true := by simp; omega)
               rotate_left)
            | (refine wp_update_places _ rfl (.tmp 82) (.tmp 87) (.tmp 88) rfl M (i + 1) i _ rfl rfl rfl (HD.out.pl.mono (Nat.le_succ i)) (Nat.lt_succ_self i) ?_; intro w6 hm6 hg6; have D6 := Lib.hid (HD.out.upd hm6 hg6); clear hm6 hg6))
          · go_meet
            exact ⟨0, 0, rfl, rfl, fun h => absurd h (by decide), D6.out⟩
          · rename_i x1 x2 x3
            clear HK
            go_loopw [8] (fun nv wq => ∃ n : Nat, nv = .int .i64 (n : Int) ∧ Rep s k i n ∧ DW w wq b1 b2 M LV1 SV1 LV2 SV2 i a) (fun nv _ => 300 - (intOf nv).toNat)
            case atStart => exact ⟨0, rfl, Rep.zero _ _ _ hi, HD.out⟩
            case round =>
              obtain ⟨n, rfl, hsm, hd3⟩ := hrel
              have HD3 := Lib.hid hd3
              have hn0 := hsm.le
              have hn1 := hsm.fit
              have HSM := Lib.hid hsm
              have HOK : RowKit.Hid (OkCopy s i n (i - k)) := Lib.hid ⟨hsm.le, hsm.fit, by omega, by omega, by rw [show i - (i - k) = k by omega]; exact hsm.eq⟩
              have hbk : (i : Int) - (k : Int) = ((i - k : Nat) : Int) := by omega
              have HBK := Lib.hid hbk
              clear hsm hd3 hbk
              have w1 : IntKind.i64.wrap ((k : Int) + (n : Int)) = (k : Int) + (n : Int) := IntWalk.i64_in _ (by omega)
              have w2 : IntKind.i64.wrap ((i : Int) + (n : Int)) = (i : Int) + (n : Int) := IntWalk.i64_in _ (by omega)
              have t1 : ((k : Int) + (n : Int)).toNat = k + n := by omega
              have t2 : ((i : Int) + (n : Int)).toNat = i + n := by omega
              have z1 : (0 : Int) ≤ (k : Int) + (n : Int) := by omega
              have z2 : (0 : Int) ≤ (i : Int) + (n : Int) := by omega
              by_cases c2 : n < 258
              · have d2 : decide ((n : Int) < 258) = true := by simp; omega
                by_cases c4 : i + n < s.size
                · have d4 : decide ((i : Int) + (n : Int) < (s.size : Int)) = true := by simp; omega
                  have e4 : (i : Int) + (n : Int) < (s.size : Int) := by omega
                  have c3 : k + n < s.size := by omega
                  have e3 : (k : Int) + (n : Int) < (s.size : Int) := by omega
                  by_cases c5 : s[k + n] = s[i + n]
                  · have d5 : ((s[k + n].toNat : Int) == (s[i + n].toNat : Int)) = true := by rw [c5]; simp
                    have HSM2 := Lib.hid (HSM.out.succ c2 c3 c4 c5)
                    clear c5
                    go_wp2_with fail
                    go_quiet (fail)
                    clear w1 w2 d2 d4
                    go_wp2
                    exact ⟨⟨n + 1, by go_num, HSM2.out, HD3.out.drewN _⟩, by simp [intOf]; omega⟩
                  · have d5 : ((s[k + n].toNat : Int) == (s[i + n].toNat : Int)) = false := by
                      rw [beq_eq_false_iff_ne]
                      intro e
                      exact c5 (UInt8.toNat_inj.1 (by omega))
                    clear c5
                    go_wp2_with fail
                    go_quiet (fail)
                    go_wp2_with (first | (refine wp_update_places _ rfl (.tmp 82) (.tmp 87) (.tmp 88) rfl M (i + 1) i _ rfl rfl rfl ((HD3.out.drewN _).pl.mono (Nat.le_succ i)) (Nat.lt_succ_self i) ?_; intro w6 hm6 hg6; have D6 := Lib.hid ((HD3.out.drewN _).upd hm6 hg6); clear hm6 hg6))
                    go_meet
                    exact ⟨n, i - k, rfl, by rw [HBK.out], fun _ => HOK.out, D6.out⟩
                · have d4 : decide ((i : Int) + (n : Int) < (s.size : Int)) = false := by simp; omega
                  go_wp2_with fail
                  go_quiet (fail)
                  go_wp2_with (first | (refine wp_update_places _ rfl (.tmp 82) (.tmp 87) (.tmp 88) rfl M (i + 1) i _ rfl rfl rfl ((HD3.out.drewN _).pl.mono (Nat.le_succ i)) (Nat.lt_succ_self i) ?_; intro w6 hm6 hg6; have D6 := Lib.hid ((HD3.out.drewN _).upd hm6 hg6); clear hm6 hg6))
                  go_meet
                  exact ⟨n, i - k, rfl, by rw [HBK.out], fun _ => HOK.out, D6.out⟩
              · have d2 : decide ((n : Int) < 258) = false := by simp; omega
                go_wp2_with fail
                go_quiet (fail)
                go_wp2_with (first | (refine wp_update_places _ rfl (.tmp 82) (.tmp 87) (.tmp 88) rfl M (i + 1) i _ rfl rfl rfl ((HD3.out.drewN _).pl.mono (Nat.le_succ i)) (Nat.lt_succ_self i) ?_; intro w6 hm6 hg6; have D6 := Lib.hid ((HD3.out.drewN _).upd hm6 hg6); clear hm6 hg6))
                go_meet
                exact ⟨n, i - k, rfl, by rw [HBK.out], fun _ => HOK.out, D6.out⟩
        · have h3I : ¬ (i : Int) + 3 ≤ (s.size : Int) := by omega
          go_wp2
          go_meet
          exact ⟨0, 0, rfl, rfl, fun h => absurd h (by decide), HD.out.mono (Nat.le_succ i)⟩
      case rest =>
        obtain ⟨n, bk, rfl, rfl, hok, hd⟩ := hcut
        have HD5 := Lib.hid hd
        have HOK := Lib.hid hok
        clear hd hok
        by_cases hn3 : n < 3
        · have hnI : (n : Int) < 3 := by omega
          have hu8 : ∀ c : UInt8, (c.toNat : Int) < 256 := fun c => by have := c.toNat_lt; omega
          have hc : IntKind.i64.wrap ((s[i]).toNat : Int) = ((s[i]).toNat : Int) := IntWalk.i64_in _ (by have := hu8 s[i]; omega)
          have hclt : (s[i]).toNat < 288 := by have := (s[i]).toNat_lt; omega
          have hS2 := Lib.hid (HS.out.byte hin)
          have hiI : (i : Int) < (s.size : Int) := by omega
          have hi0 : (0 : Int) ≤ (i : Int) := by omega
          go_wp2_with fail
          refine (HD5.out.code1 (s[i]).toNat hclt).mono ?_
          rintro e w7 ⟨rfl, rfl⟩
          go_wp2_with fail
          refine (HD5.out.put1 (by have := HA.out; omega) (s[i]).toNat hclt).mono ?_
          rintro e w8 ⟨rfl, hd8⟩
          have D8 := Lib.hid hd8
          clear hd8
          go_wp2
          exact ⟨⟨i + 1, _, by omega, by go_num, hS2.out, D8.out⟩, by simp [intOf]; omega⟩
        · have h3 : 3 ≤ n := by omega
          have hnI : ¬ (n : Int) < 3 := by omega
          have hk := HOK.out h3
          have hS2 := Lib.hid (HS.out.copy h3 hk hs)
          have hn258 : n ≤ 258 := hk.1
          have hin2 : i + n ≤ s.size := hk.2.1
          have hb1 : 1 ≤ bk := hk.2.2.1
          have hbi : bk ≤ i := hk.2.2.2.1
          have SY1 : RowKit.Hid (∀ W, Calls Try.prog 36 #[.int .i64 (n : Int), .int .i64 28, .func (.func 37) #[] #[]] W fun e w' => e = .returned (.tuple #[.int .i64 ((lsym n : Nat) : Int), .int .u32 ((lmore n : Nat) : Int), .int .i64 ((lbits n : Nat) : Int)]) ∧ W = w') := Lib.hid (fun W => (symbol_any 37 lbase 28 n baseC_l (by decide) (show 3 ≤ n from h3) (by omega) W).mono fun e w' ⟨h1, h2⟩ => ⟨h1, h2.symm⟩)
          have SY2 : RowKit.Hid (∀ W, Calls Try.prog 36 #[.int .i64 (bk : Int), .int .i64 29, .func (.func 38) #[] #[]] W fun e w' => e = .returned (.tuple #[.int .i64 ((dsym bk : Nat) : Int), .int .u32 ((dmore bk : Nat) : Int), .int .i64 ((dbits bk : Nat) : Int)]) ∧ W = w') := Lib.hid (fun W => (symbol_any 38 dbase 29 bk baseC_d (by decide) (show 1 ≤ bk from hb1) (by omega) W).mono fun e w' ⟨h1, h2⟩ => ⟨h1, h2.symm⟩)
          have hl28 := lsym_lt n
          have hd29 := dsym_lt bk
          have hw : IntKind.i64.wrap (257 + ((lsym n : Nat) : Int)) = ((257 + lsym n : Nat) : Int) := by rw [IntWalk.i64_in _ (by omega)]; omega
          have hlm := Lib.hid (lmore_lt n hn258)
          have hdm := Lib.hid (dmore_lt bk (by omega))
          have hwi : IntKind.i64.wrap ((i : Int) + (n : Int)) = (i : Int) + (n : Int) := IntWalk.i64_in _ (by omega)
          have N1 : RowKit.Hid ((encC litL (257 + lsym n) a).n ≤ 1000000) := Lib.hid (by
            rw [encC_n]
            have h1 := (has_lit (257 + lsym n) (by omega)).le
            have h2 := HA.out
            omega)
          have N2 : RowKit.Hid (((encC litL (257 + lsym n) a).put (lbits n) (lmore n)).n ≤ 2000000) := Lib.hid (by
            have h1 := N1.out
            have h2 := hlm.out.2
            show (encC litL (257 + lsym n) a).n + lbits n ≤ _
            omega)
          have N3 : RowKit.Hid ((encC distL (dsym bk) ((encC litL (257 + lsym n) a).put (lbits n) (lmore n))).n ≤ 3000000) := Lib.hid (by
            rw [encC_n]
            have h1 := (has_dist (dsym bk) (by omega)).le
            have h2 := N2.out
            omega)
          have hz : 257 + lsym n < 288 := by omega
          have hz2 : dsym bk < 32 := by omega
          have HLT : RowKit.Hid (0 < n) := Lib.hid (by omega)
          clear hk hn258 hb1 hbi hl28 hd29 h3
          go_wp2_with fail
          refine (SY1.out _).mono ?_
          rintro e w7 ⟨rfl, rfl⟩
          go_wp2_with fail
          refine (HD5.out.code1 (257 + lsym n) hz).mono ?_
          rintro e w7 ⟨rfl, rfl⟩
          go_wp2_with fail
          refine (HD5.out.put1 (by have := HA.out; omega) (257 + lsym n) hz).mono ?_
          rintro e w8 ⟨rfl, hd8⟩
          have D8 := Lib.hid hd8
          clear hd8
          go_wp2_with fail
          refine (D8.out.bits (by have := N1.out; omega) (lmore n) (lbits n) (by have := hlm.out.2; omega) hlm.out.1).mono ?_
          rintro e w9 ⟨rfl, hd9⟩
          have D9 := Lib.hid hd9
          clear hd9
          go_wp2_with fail
          refine (SY2.out _).mono ?_
          rintro e w10 ⟨rfl, rfl⟩
          go_wp2_with fail
          refine (D9.out.code2 (dsym bk) hz2).mono ?_
          rintro e w10 ⟨rfl, rfl⟩
          go_wp2_with fail
          refine (D9.out.put2 (by have := N2.out; omega) (dsym bk) hz2).mono ?_
          rintro e w11 ⟨rfl, hd11⟩
          have D11 := Lib.hid hd11
          clear hd11
          go_wp2_with fail
          refine (D11.out.bits (by have := N3.out; omega) (dmore bk) (dbits bk) (by have := hdm.out.2; omega) hdm.out.1).mono ?_
          rintro e w12 ⟨rfl, hd12⟩
          have D12 : RowKit.Hid (DW w w12 b1 b2 M LV1 SV1 LV2 SV2 (i + n) (encT a (.copy n bk))) := Lib.hid (hd12.mono (by have := HLT.out; omega))
          clear hd12
          go_wp2
          exact ⟨⟨i + n, _, hin2, by go_num, hS2.out, D12.out⟩, by have := HLT.out; simp [intOf]; omega⟩
    · obtain rfl : i = s.size := by omega
      have HP : RowKit.Hid ((encC litL 256 a).n ≤ 1000000) := Lib.hid (by
        rw [encC_n]
        have h1 := (has_lit 256 (by decide)).le
        have h2 := HA.out
        omega)
      have hstr : Strm (textOf (encC litL 256 a)) s.data.toList := by
        obtain ⟨toks, ht, -⟩ := HS.out
        rw [List.take_of_length_le (by simp)] at ht
        exact ⟨_, (encC_ok (toks_ok ht)).1, rfl, .inl ⟨toks, a, ht, rfl⟩⟩
      have hstr2 := stoS_strm s.data.toList (by simp; omega)
      have hl2 := stoS_len s.data.toList
      have hsl : s.data.toList.length = s.size := by simp
      rw [hsl] at hl2
      obtain ⟨m1, hm1⟩ : ∃ m, m = textOf (encC litL 256 a) := ⟨_, rfl⟩
      obtain ⟨m2, hm2⟩ : ∃ m, m = textOf (stoS s.data.toList) := ⟨_, rfl⟩
      rw [← hm1] at hstr
      rw [← hm2] at hstr2 hl2
      have G1 := Lib.hid hstr
      have G2 := Lib.hid hstr2
      have C2 : RowKit.Hid (∀ W, Calls Try.prog 24 #[.string s] W fun e w' => e = .returned (.string ⟨m2.toArray⟩) ∧ Below W.heap.size W w') := Lib.hid (fun W => by rw [hm2]; exact mkStored_any s W (by omega))
      have z1 : (⟨m1.toArray⟩ : ByteArray).size = m1.length := by show m1.toArray.size = _; simp
      have z2 : (⟨m2.toArray⟩ : ByteArray).size = m2.length := by show m2.toArray.size = _; simp
      have HM1 := Lib.hid hm1
      obtain ⟨x1, hx1⟩ : ∃ x : ByteArray, x = ⟨m1.toArray⟩ := ⟨_, rfl⟩
      obtain ⟨x2, hx2⟩ : ∃ x : ByteArray, x = ⟨m2.toArray⟩ := ⟨_, rfl⟩
      rw [← hx1] at z1
      rw [← hx2] at z2 C2
      have Z12 := Lib.hid (And.intro z1 z2)
      clear z1 z2
      have HX1 := Lib.hid hx1
      have HX2 := Lib.hid hx2
      clear hstr hstr2 hm1 hm2 hx1 hx2 hin hsl
      have C1 : RowKit.Hid (∀ W, DW w W b1 b2 M LV1 SV1 LV2 SV2 s.size (encC litL 256 a) → Calls Try.prog 11 #[.pointer (some ⟨w.heap.size, 0, none⟩)] W fun e w' => e = .returned (.string x1) ∧ Below w.heap.size w w') := Lib.hid (fun W h => by
        have h1 := h.text (by have := HP.out; omega)
        rw [← HM1.out, ← HX1.out] at h1
        exact h1)
      go_wp2_with fail
      refine (HD.out.code1 256 (by decide)).mono ?_
      rintro e w7 ⟨rfl, rfl⟩
      go_wp2_with fail
      refine (HD.out.put1 (by have := HA.out; omega) 256 (by decide)).mono ?_
      rintro e w8 ⟨rfl, hd8⟩
      have D8 := Lib.hid hd8
      clear hd8
      go_wp2_with fail
      refine (C1.out _ D8.out).mono ?_
      rintro e w9 ⟨rfl, hb9⟩
      have B9 := Lib.hid hb9
      clear hb9
      go_wp2_with fail
      refine (C2.out _).mono ?_
      rintro e w10 ⟨rfl, hb10⟩
      have B10 := Lib.hid (B9.out.trans (hb10.mono B9.out.size))
      clear hb10
      obtain ⟨z1, z2⟩ := Z12.out
      by_cases hlt : m1.length < m2.length
      · have hltI : (x1.size : Int) < (x2.size : Int) := by omega
        have hltN : x1.size < x2.size := by omega
        have HL := Lib.hid hlt
        have HL2 := Lib.hid hl2
        clear hlt z1 z2 hl2
        go_wp2
        go_ret
        exact ⟨m1, by rw [← HX1.out]; rfl, G1.out, by have := HL.out; have := HL2.out; omega, B10.out⟩
      · have hltI : ¬ (x1.size : Int) < (x2.size : Int) := by omega
        have hltN : ¬ x1.size < x2.size := by omega
        have HL2 := Lib.hid hl2
        clear hlt z1 z2 hl2
        go_wp2_with fail
        refine (C2.out _).mono ?_
        rintro e w11 ⟨rfl, hb11⟩
        have B11 := Lib.hid (B10.out.trans (hb11.mono B10.out.size))
        clear hb11
        go_wp2
        go_ret
        exact ⟨m2, by rw [← HX2.out]; rfl, G2.out, by have := HL2.out; omega, B11.out⟩
end Go.Proofs.Ytncdaohjjhcaaaa
