/- THE WALK of run over a fixed block: what a list of tokens says. Conditions: the stream's bits lie there; the numbers. -/
import Derived.Test.YtncdaohjjhcaaaaFrRepeat
import Derived.Test.YtncdaohjjhcaaaaFrFixed
import Derived.Test.YtncdaohjjhcaaaaFrJump
import Derived.WalkMore
namespace Go.Proofs.Ytncdaohjjhcaaaa
open Go.RowKit Sums
set_option linter.unusedVariables false

/-- Where a reader stands. -/
def rpos (w : World) (b : Nat) : Nat := match w.cell? ⟨b, 1, none⟩, w.cell? ⟨b, 3, none⟩ with | some (.int _ a), some (.int _ h) => (8 * a - h).toNat | _, _ => 0
theorem rpos_at {w : World} {b p : Nat} {s : ByteArray} {fr : Int} (h : RAt w b s p fr) : rpos w b = p := by
  obtain ⟨a, hv, hr⟩ := h
  have e := hr.eq
  unfold rpos
  rw [show w.cell? ⟨b, 1, none⟩ = some (.int .i64 (a : Int)) from (cell_at hr.cell 1).trans rfl, show w.cell? ⟨b, 3, none⟩ = some (.int .i64 (hv : Int)) from (cell_at hr.cell 3).trans rfl]
  show (8 * (a : Int) - (hv : Int)).toNat = p
  omega
theorem ks_below {e : TypeId} {b c B : Nat} {w w1 : World} (h : Below w.heap.size w w1) : Ks e b c B w w1 := ⟨h.os, h.tape, h.output, h.size, fun k hk _ _ _ => h.block k hk⟩
theorem XAt.new {w w' : World} {b br B p most : Nat} {txt : ByteArray} {fr : Int} {o : List UInt8} {ov : Value} (h : XAt w b br B txt p fr o most ov) (hb : Below w.heap.size w w') : XAt w' b br B txt p fr o most ov :=
  ⟨below_heap hb h.cell (lt_of_block h.cell), h.own.below hb, by
    obtain ⟨a, hv, hr⟩ := h.rd
    exact ⟨a, hv, hr.eq, hr.le, hr.small, below_heap hb hr.cell (lt_of_block hr.cell)⟩⟩
/-- In the middle of a fixed block: so many tokens are read. -/
structure Mid (w0 w : World) (b br b1 b2 B P most : Nat) (txt : ByteArray) (fr : Int) (toks : List Tok) (j : Nat) (LV1 SV1 LV2 SV2 : Value) : Prop where
  x : ∃ ov, XAt w b br B txt (P + ((toks.take j).foldl encT ⟨3, 3⟩).n) fr ((toks.take j).foldl outT []) most ov
  t1 : TAt w b1 w0.heap.size litL LV1 SV1
  t2 : TAt w b2 w0.heap.size distL LV2 SV2
  ks : Ks 5 b br B w0 w
  le : j ≤ toks.length
theorem outT_len (o : List UInt8) (t : Tok) : o.length ≤ (outT o t).length := by
  cases t with
  | byte c => simp [outT]
  | copy n b => simp [outT, cp_len]
theorem outs_len : ∀ (l : List Tok) (o : List UInt8), o.length ≤ (l.foldl outT o).length
  | [], _ => Nat.le_refl _
  | t :: r, o => Nat.le_trans (outT_len o t) (outs_len r (outT o t))
theorem outs_take (l : List Tok) (j : Nat) : ((l.take j).foldl outT []).length ≤ (l.foldl outT []).length := by
  conv => rhs; rw [← List.take_append_drop j l, List.foldl_append]
  exact outs_len _ _

theorem range_map (t : List Value) (n : Nat) (h : t.length = n) : t = (List.range n).map (fun i => t.getD i undef) := by
  apply List.ext_getElem?
  intro i
  by_cases hi : i < n
  · rw [List.getElem?_map, List.getElem?_range hi, List.getElem?_eq_getElem (by omega)]
    simp [List.getD_eq_getElem?_getD, List.getElem?_eq_getElem (show i < t.length by omega)]
  · rw [List.getElem?_eq_none (by omega), List.getElem?_eq_none (by simp; omega)]
/-- A frame of 75 slots, written out. -/
theorem frame75 (a : Act) (h : a.tmps.size = 75) (hd : a.defers = []) : ∃ f : Nat → Value, (∀ i, f i = a.tmps.getD i undef) ∧ a = { tmps := #[f 0, f 1, f 2, f 3, f 4, f 5, f 6, f 7, f 8, f 9, f 10, f 11, f 12, f 13, f 14, f 15, f 16, f 17, f 18, f 19, f 20, f 21, f 22, f 23, f 24, f 25, f 26, f 27, f 28, f 29, f 30, f 31, f 32, f 33, f 34, f 35, f 36, f 37, f 38, f 39, f 40, f 41, f 42, f 43, f 44, f 45, f 46, f 47, f 48, f 49, f 50, f 51, f 52, f 53, f 54, f 55, f 56, f 57, f 58, f 59, f 60, f 61, f 62, f 63, f 64, f 65, f 66, f 67, f 68, f 69, f 70, f 71, f 72, f 73, f 74], defers := [] } := by
  refine ⟨fun i => a.tmps.toList.getD i undef, fun i => by simp [Array.getD_eq_getD_getElem?, List.getD_eq_getElem?_getD], ?_⟩
  have h1 := range_map a.tmps.toList 75 (by simpa using h)
  have h2 : a.tmps = ((List.range 75).map (fun i => a.tmps.toList.getD i undef)).toArray := by
    apply Array.ext'
    exact h1
  cases a with
  | mk t d =>
    have hd' : d = [] := hd
    subst hd'
    exact congrArg (fun x => Act.mk x []) h2

set_option maxRecDepth 100000 in
set_option maxHeartbeats 4000000 in
theorem run_fixed (b br B most P : Nat) (a : St) (txt : ByteArray) (fr : Int) (o : List UInt8) (toks : List Tok) (ov : Value) (w : World) (hx : XAt w b br B txt P fr [] most ov) (hB : B ≤ w.heap.size)
    (ht : Toks toks a o) (hs : Src (num txt) P (encC litL 256 a)) (hend : P + (encC litL 256 a).n ≤ 8 * txt.size) (hsz : txt.size ≤ 1000000000) (hm : o.length ≤ most) (hm2 : most ≤ 1000000) :
    Calls Try.prog 29 #[.pointer (some ⟨b, 0, none⟩)] w fun e w' => e = .returned (.int .i64 0) ∧ (∃ ov', XAt w' b br B txt (P + (encC litL 256 a).n) fr o most ov') ∧ Ks 5 b br B w w' := by
  have hok := toks_ok ht
  have hz := (encC_ok (L := litL) (s := 256) hok).2
  have hpre0 : Pre ⟨3, 3⟩ (encC litL 256 a) := (toks_pre ht 0).trans hz
  have hd : num txt / 2 ^ P % 2 ^ 3 = 3 := hs.pre hpre0
  have n0 : P + 3 ≤ 8 * txt.size := Src.len (S := 0) hpre0 hend
  have C0 := rbits_any br 3 P txt fr w hx.rd (by decide) hsz n0
  rw [hd] at C0
  have HC0 := Lib.hid C0
  have HX := Lib.hid hx
  have HT := Lib.hid ht
  have HSR := Lib.hid hs
  have HEND := Lib.hid hend
  have HOK := Lib.hid hok
  have HZ := Lib.hid hz
  have c0 := cell_at hx.cell 0
  simp only [List.getElem?_toArray, List.getElem?_cons_zero, List.getElem?_cons_succ] at c0
  clear hx ht hs hend hok hz hpre0 hd n0 C0
  go_enter Try.func29, Try.ntmps29
  go_wp2
  refine wp_scope_labels (fun l a' w' => (l = 2 ∧ ∃ (b1 b2 j : Nat) (LV1 SV1 LV2 SV2 : Value), (a'.tmps.size = 75 ∧ a'.defers = [] ∧ a'.tmps.getD 0 undef = .pointer (some ⟨b, 0, none⟩) ∧ a'.tmps.getD 3 undef = .int .u32 3 ∧ a'.tmps.getD 7 undef = .pointer (some ⟨b1, 0, none⟩) ∧ a'.tmps.getD 8 undef = .pointer (some ⟨b2, 0, none⟩)) ∧ Mid w w' b br b1 b2 B P most txt fr toks j LV1 SV1 LV2 SV2) ∨
      (l = 1 ∧ (a'.tmps.size = 75 ∧ a'.defers = [] ∧ a'.tmps.getD 0 undef = .pointer (some ⟨b, 0, none⟩) ∧ a'.tmps.getD 3 undef = .int .u32 3) ∧ (∃ ov', XAt w' b br B txt (P + (encC litL 256 a).n) fr o most ov') ∧ Ks 5 b br B w w')) (fun l _ w' => if l = 2 then 8 * txt.size + 1 - rpos w' br else 0) ?_ ?_
  · go_wp2_with fail
    go_step3
    go_wp2_with fail
    refine (HC0.out).mono ?_
    rintro e v1 ⟨rfl, hr1, hg1⟩
    have X1 := Lib.hid (HX.out.read hr1 hg1)
    have K1 := Lib.hid (ks_gb (e := 5) (b := b) (B := B) hg1)
    clear hr1 hg1 c0
    go_wp2_with fail
    refine (fixed_any _).mono ?_
    rintro e v2 ⟨⟨b1, b2, LV1, SV1, LV2, SV2, rfl, ht1, ht2, hb1, hb2⟩, hb⟩
    have K2 := Lib.hid (ks_trans K1.out (ks_below (b := b) (c := br) (B := B) hb))
    have X2 := Lib.hid (X1.out.new hb)
    have T1 : RowKit.Hid (TAt v2 b1 w.heap.size litL LV1 SV1) := Lib.hid ⟨ht1.cell, ownsI_mono ht1.len K1.out.size, ownsI_mono ht1.srt K1.out.size⟩
    have T2 : RowKit.Hid (TAt v2 b2 w.heap.size distL LV2 SV2) := Lib.hid ⟨ht2.cell, ownsI_mono ht2.len K1.out.size, ownsI_mono ht2.srt K1.out.size⟩
    clear ht1 ht2 hb1 hb2 hb
    go_wp2
    go_step3
    refine Or.inl ⟨rfl, b1, b2, 0, LV1, SV1, LV2, SV2, ⟨rfl, rfl, rfl, rfl, rfl, rfl⟩, ⟨⟨ov, X2.out⟩, T1.out, T2.out, K2.out, Nat.zero_le _⟩⟩
  · intro l a1 w1 hJ
    rcases hJ with ⟨rfl, b1, b2, j, LV1, SV1, LV2, SV2, ⟨hsz75, hdf, g0, g3, g7, g8⟩, hmid⟩ | ⟨rfl, ⟨hsz75, hdf, g0, g3⟩, hx1, hk1⟩
    rotate_left
    · refine ⟨_, rfl, ?_⟩
      obtain ⟨u, hu, rfl⟩ := frame75 a1 hsz75 hdf
      rw [← hu] at g0 g3
      simp only [g0, g3]
      clear hsz75 hdf hu g0 g3
      have E := Lib.hid (And.intro hx1 hk1)
      clear hx1 hk1
      go_hide hQ
      have HQ := Lib.hid hQ
      clear hQ
      go_wp2
      rw [← HQ.out]
      simp only [jumpsE]
      go_ret
      exact ⟨rfl, E.out.1, E.out.2⟩
    · refine ⟨_, rfl, ?_⟩
      obtain ⟨u, hu, rfl⟩ := frame75 a1 hsz75 hdf
      rw [← hu] at g0 g3 g7 g8
      simp only [g0, g3, g7, g8]
      clear hsz75 hdf hu g0 g3 g7 g8
      go_hide hQ
      have HQ := Lib.hid hQ
      clear hQ
      obtain ⟨⟨ov1, hx1⟩, ht1, ht2, hks, hle⟩ := hmid
      obtain ⟨aj, haj⟩ : ∃ x, x = (toks.take j).foldl encT ⟨3, 3⟩ := ⟨_, rfl⟩
      obtain ⟨oj, hoj⟩ : ∃ x, x = (toks.take j).foldl outT [] := ⟨_, rfl⟩
      have hajok : aj.ok := by rw [haj]; exact toks_ok (toks_take HT.out j)
      have hpj : Pre aj a := by rw [haj]; exact toks_pre HT.out j
      rw [← haj, ← hoj] at hx1
      have hpos := rpos_at hx1.rd
      have HPOS := Lib.hid hpos
      have X1 := Lib.hid hx1
      have T1 := Lib.hid ht1
      have T2 := Lib.hid ht2
      have K1 := Lib.hid hks
      have HAJ := Lib.hid haj
      have HOJ := Lib.hid hoj
      have c0 := cell_at hx1.cell 0
      simp only [List.getElem?_toArray, List.getElem?_cons_zero, List.getElem?_cons_succ] at c0
      have hB1 : B ≤ w1.heap.size := Nat.le_trans hB hks.size
      clear hx1 ht1 ht2 hks haj hoj hpos
      by_cases hj : j < toks.length
      · obtain ⟨t, ht⟩ : ∃ t, toks[j]? = some t := ⟨_, List.getElem?_eq_getElem hj⟩
        have hokt := HT.out.ok j t ht
        obtain ⟨hn1, hn2⟩ := toks_next HT.out j t ht
        rw [← HAJ.out] at hn1
        rw [← HOJ.out] at hn2 hokt
        have hpt : Pre (encT aj t) (encC litL 256 a) := by
          have h := toks_pre HT.out (j + 1)
          rw [hn1] at h
          exact h.trans HZ.out
        have hlen : (outT oj t).length ≤ most := by
          have h := outs_take toks (j + 1)
          rw [hn2, HT.out.out] at h
          omega
        have HN1 := Lib.hid hn1
        have HN2 := Lib.hid hn2
        clear hn1 hn2 ht
        cases t with
        | byte c =>
          have hcl := c.toNat_lt
          have hgo := read_any b1 _ br c.toNat (P + aj.n) litL LV1 SV1 txt fr w1 T1.out X1.out.rd good_lit (has_lit _ (by omega)) hsz (HSR.out.code hajok hpt) (by
            have h := Src.len (S := 0) hpt HEND.out
            rw [Nat.add_assoc]
            exact h)
          have C := Lib.hid hgo
          have h256 : ((c.toNat : Int) == 256) = false := by rw [beq_eq_false_iff_ne]; omega
          have h256l : (c.toNat : Int) < 256 := by omega
          have hw8 : IntKind.u8.wrap (c.toNat : Int) = (c.toNat : Int) := IntWalk.u8_in _ (by omega)
          have hw8b : (c.toNat : Int) % 256 = (c.toNat : Int) := by omega
          have hol : oj.length < most := by
            have : (oj ++ [c]).length ≤ most := hlen
            simp at this
            omega
          clear hgo hpt hokt hcl hlen
          go_wp2_with fail
          refine (C.out).mono ?_
          rintro e v1 ⟨rfl, hr1, hg1⟩
          have Y1 := Lib.hid (X1.out.read hr1 hg1)
          have L1 := Lib.hid (ks_trans K1.out (ks_gb (e := 5) (b := b) (B := B) hg1))
          have S1 : RowKit.Hid (TAt v1 b1 w.heap.size litL LV1 SV1 ∧ TAt v1 b2 w.heap.size distL LV2 SV2) := Lib.hid ⟨tat_ks T1.out X1.out (ks_gb (e := 5) (b := b) (B := B) hg1), tat_ks T2.out X1.out (ks_gb (e := 5) (b := b) (B := B) hg1)⟩
          have hB2 : B ≤ v1.heap.size := Nat.le_trans hB1 hg1.size
          have D := Lib.hid (put_any b br B (P + aj.n + lenOf litL c.toNat) most c txt fr oj ov1 v1 Y1.out hB2 hol hm2)
          clear hr1 hg1 C c0
          go_wp2_with fail
          refine (D.out).mono ?_
          rintro e v2 ⟨rfl, ⟨ov2, hx2⟩, hk2⟩
          have Y2 := Lib.hid hx2
          have L2 := Lib.hid (ks_trans L1.out hk2)
          have S2 : RowKit.Hid (TAt v2 b1 w.heap.size litL LV1 SV1 ∧ TAt v2 b2 w.heap.size distL LV2 SV2) := Lib.hid ⟨tat_ks S1.out.1 Y1.out hk2, tat_ks S1.out.2 Y1.out hk2⟩
          clear hx2 hk2 D
          go_wp2
          go_step3
          rw [← HQ.out]
          have hxf : XAt v2 b br B txt (P + ((toks.take (j + 1)).foldl encT ⟨3, 3⟩).n) fr ((toks.take (j + 1)).foldl outT []) most ov2 := by
            rw [HN1.out, HN2.out]
            show XAt v2 b br B txt (P + (aj.n + lenOf litL c.toNat)) fr (oj ++ [c]) most ov2
            rw [← Nat.add_assoc]
            exact Y2.out
          refine ⟨Or.inl ⟨rfl, b1, b2, j + 1, LV1, SV1, LV2, SV2, ⟨rfl, rfl, rfl, rfl, rfl, rfl⟩, ⟨⟨ov2, hxf⟩, S2.out.1, S2.out.2, L2.out, hj⟩⟩, ?_⟩
          simp only [if_true]
          rw [HPOS.out, rpos_at hxf.rd, HN1.out]
          show 8 * txt.size + 1 - (P + (aj.n + lenOf litL c.toNat)) < 8 * txt.size + 1 - (P + aj.n)
          have hl1 := (has_lit c.toNat (by have := c.toNat_lt; omega)).pos
          have hl2 := HEND.out
          have hl3 := hpj.1
          have hl4 := HZ.out.1
          omega
        | copy n k =>
          obtain ⟨ho1, ho2, ho3, ho4, ho5⟩ := hokt
          have hls := lsym_lt n
          obtain ⟨s, hse⟩ : ∃ s, s = 257 + lsym n := ⟨_, rfl⟩
          have hs288 : s < 288 := by omega
          have hpt1 : Pre (encC litL s aj) (encC litL 256 a) := by
            have hk1 := (encC_ok (L := litL) (s := 257 + lsym n) hajok).1
            have hk2 := St.put_ok hk1 (lmore_lt n ho2).1
            have hk3 := encC_ok (L := distL) (s := dsym k) hk2
            rw [hse]
            exact (((Pre.put hk1 _ _).trans hk3.2).trans (Pre.put hk3.1 _ _)).trans hpt
          have hgo := read_any b1 _ br s (P + aj.n) litL LV1 SV1 txt fr w1 T1.out X1.out.rd good_lit (has_lit _ hs288) hsz (HSR.out.code hajok hpt1) (by
            have h := Src.len (S := 0) hpt1 HEND.out
            rw [Nat.add_assoc]
            exact h)
          have e1 : P + aj.n + lenOf litL s = P + (encC litL s aj).n := by rw [encC_n, Nat.add_assoc]
          rw [e1] at hgo
          have C := Lib.hid hgo
          have h256 : ((s : Int) == 256) = false := by rw [beq_eq_false_iff_ne]; omega
          have h256l : ¬ (s : Int) < 256 := by omega
          have hol : oj.length + n ≤ most := by
            have : (cp oj k n).length ≤ most := hlen
            rw [cp_len] at this
            exact this
          have HSE := Lib.hid hse
          clear hgo hlen hls hse hpt1 e1
          go_wp2_with fail
          refine (C.out).mono ?_
          rintro e v1 ⟨rfl, hr1, hg1⟩
          have Y1 := Lib.hid (X1.out.read hr1 hg1)
          have L1 := Lib.hid (ks_trans K1.out (ks_gb (e := 5) (b := b) (B := B) hg1))
          have S1 : RowKit.Hid (TAt v1 b1 w.heap.size litL LV1 SV1 ∧ TAt v1 b2 w.heap.size distL LV2 SV2) := Lib.hid ⟨tat_ks T1.out X1.out (ks_gb (e := 5) (b := b) (B := B) hg1), tat_ks T2.out X1.out (ks_gb (e := 5) (b := b) (B := B) hg1)⟩
          have hB2 : B ≤ v1.heap.size := Nat.le_trans hB1 hg1.size
          have D := Lib.hid (repeat_any b br B b2 w.heap.size most n k P (encC litL s aj) (encC litL 256 a) txt fr oj ov1 LV2 SV2 v1 Y1.out S1.out.2 hB2 (encC_ok hajok).1 ho1 ho2 ho3 ho4 ho5 hol hm2 HSR.out (by rw [HSE.out]; exact hpt) HEND.out hsz)
          rw [← HSE.out] at D
          clear hr1 hg1 C c0 hpt
          go_wp2_with fail
          refine (D.out).mono ?_
          rintro e v2 ⟨rfl, ⟨ov2, hx2⟩, hk2⟩
          have Y2 := Lib.hid hx2
          have L2 := Lib.hid (ks_trans L1.out hk2)
          have S2 : RowKit.Hid (TAt v2 b1 w.heap.size litL LV1 SV1 ∧ TAt v2 b2 w.heap.size distL LV2 SV2) := Lib.hid ⟨tat_ks S1.out.1 Y1.out hk2, tat_ks S1.out.2 Y1.out hk2⟩
          clear hx2 hk2 D
          go_wp2
          go_step3
          rw [← HQ.out]
          have hxf : XAt v2 b br B txt (P + ((toks.take (j + 1)).foldl encT ⟨3, 3⟩).n) fr ((toks.take (j + 1)).foldl outT []) most ov2 := by
            rw [HN1.out, HN2.out]
            have h := Y2.out
            rw [HSE.out] at h
            exact h
          refine ⟨Or.inl ⟨rfl, b1, b2, j + 1, LV1, SV1, LV2, SV2, ⟨rfl, rfl, rfl, rfl, rfl, rfl⟩, ⟨⟨ov2, hxf⟩, S2.out.1, S2.out.2, L2.out, hj⟩⟩, ?_⟩
          simp only [if_true]
          rw [HPOS.out, rpos_at hxf.rd, HN1.out]
          have hnn : (encT aj (.copy n k)).n = aj.n + lenOf litL (257 + lsym n) + lbits n + lenOf distL (dsym k) + dbits k := rfl
          rw [hnn]
          have hl1 := (has_lit s hs288).pos
          rw [HSE.out] at hl1
          have hl2 := HEND.out
          have hl3 := hpj.1
          have hl4 := HZ.out.1
          omega
      · have hjl : j = toks.length := by omega
        have haj : aj = a := by rw [HAJ.out, hjl, List.take_length, HT.out.st]
        have hoj : oj = o := by rw [HOJ.out, hjl, List.take_length, HT.out.out]
        rw [haj, hoj] at X1
        have hgo := read_any b1 _ br 256 (P + a.n) litL LV1 SV1 txt fr w1 T1.out X1.out.rd good_lit (has_lit _ (by decide)) hsz (HSR.out.code HOK.out (Pre.refl (encC_ok HOK.out).1)) (by
            have h := HEND.out
            rw [encC_n] at h
            omega)
        have e1 : P + a.n + lenOf litL 256 = P + (encC litL 256 a).n := by rw [encC_n, Nat.add_assoc]
        rw [e1] at hgo
        have C := Lib.hid hgo
        have HPL : RowKit.Hid (P + a.n ≤ 8 * txt.size) := Lib.hid (Src.len (S := 0) HZ.out HEND.out)
        have HPA : RowKit.Hid (rpos w1 br = P + a.n) := Lib.hid (by rw [HPOS.out, haj])
        clear hgo e1 haj hoj hjl hj
        go_wp2_with fail
        refine (C.out).mono ?_
        rintro e v1 ⟨rfl, hr1, hg1⟩
        have Y1 := Lib.hid (X1.out.read hr1 hg1)
        have L1 := Lib.hid (ks_trans K1.out (ks_gb (e := 5) (b := b) (B := B) hg1))
        clear hr1 hg1 C c0
        go_wp2
        go_step3
        rw [← HQ.out]
        refine ⟨Or.inr ⟨rfl, ⟨rfl, rfl, rfl, rfl⟩, ⟨ov1, Y1.out⟩, L1.out⟩, ?_⟩
        have h1 := HPA.out
        have h2 := HPL.out
        simp
        omega
end Go.Proofs.Ytncdaohjjhcaaaa
