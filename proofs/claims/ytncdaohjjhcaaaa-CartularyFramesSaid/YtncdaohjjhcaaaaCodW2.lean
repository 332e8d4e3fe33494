/- THE WALKS of the writer of bits: a code, whole bytes, the text. Conditions: the numbers. -/
import Derived.Test.YtncdaohjjhcaaaaCodW
import Derived.Test.YtncdaohjjhcaaaaBytesStr
import Derived.Deep.RegionHeld3
namespace Go.Proofs.Ytncdaohjjhcaaaa
open Go.RowKit Sums
set_option linter.unusedVariables false

theorem put_zero (a : St) : a.put 0 0 = a := by unfold St.put; simp
set_option maxRecDepth 100000 in
set_option maxHeartbeats 1000000 in
theorem wcode_any (b B x n : Nat) (v : Value) (a : St) (w : World) (h : WAt w b B v a) (hB : B ≤ w.heap.size) (hns : a.n ≤ 100000000) (hn : 1 ≤ n) (hn2 : n ≤ 32) (hx : x < 2 ^ 32) :
    Calls Try.prog 8 #[.pointer (some ⟨b, 0, none⟩), .int .u32 (x : Int), .int .i64 (n : Int)] w fun e w' => e = .returned (.tuple #[]) ∧ (∃ v', WAt w' b B v' (a.put n (revTo x n n))) ∧ Kt 5 b B w w' := by
  have HW := Lib.hid h
  have hn1 : (1 : Int) ≤ (n : Int) := by omega
  have hn3 : (n : Int) ≤ 32 := by omega
  have hw1 : IntKind.i64.wrap ((n : Int) - 1) = (n : Int) - 1 := IntWalk.i64_in _ (by omega)
  clear h
  go_enter Try.func8, Try.ntmps8
  go_wp2_with fail
  go_loopw [6] (fun iv wr => ∃ (j : Nat) (v' : Value), j ≤ n ∧ iv = .int .i64 ((n : Int) - 1 - (j : Int)) ∧ WAt wr b B v' (a.put j (revTo x n j)) ∧ B ≤ wr.heap.size ∧ Kt 5 b B w wr) (fun iv _ => (intOf iv + 1).toNat)
  case atStart => exact ⟨0, v, Nat.zero_le _, by simp, by rw [revTo, put_zero]; exact HW.out, hB, kt_refl _ _ _ _⟩
  case round =>
    obtain ⟨j, v1, hj, rfl, ha, hBs, hk⟩ := hrel
    by_cases hjn : j < n
    · obtain ⟨i, hi⟩ : ∃ i : Nat, (n : Int) - 1 - (j : Int) = (i : Int) := ⟨n - 1 - j, by omega⟩
      rw [hi]
      have hi2 : i = n - 1 - j := by omega
      have hsh : (x : Int) / 2 ^ min i 32 = ((x / 2 ^ i : Nat) : Int) := by rw [Nat.min_eq_left (by omega)]; simp
      have hle : x / 2 ^ i ≤ x := Nat.div_le_self _ _
      have hgo := wbits_any b B (x / 2 ^ i) 1 v1 _ wr ha hBs (by show a.n + j ≤ _; omega) (by decide) (by omega)
      rw [St.put_put] at hgo
      have hre : revTo x n (j + 1) = revTo x n j + x / 2 ^ i % 2 ^ 1 * 2 ^ j := by rw [revTo, hi2]
      rw [← hre] at hgo
      have HGO := Lib.hid hgo
      have HK := Lib.hid hk
      have HI := Lib.hid hi
      have hi0 : (0 : Int) ≤ (i : Int) := by omega
      have hwi : IntKind.i64.wrap ((i : Int) - 1) = (i : Int) - 1 := IntWalk.i64_in _ (by omega)
      clear hgo hk ha hi hi2 hle hre
      go_wp2_with fail
      refine (HGO.out).mono ?_
      rintro e w1 ⟨rfl, ⟨v2, hw2⟩, hk2⟩
      have HW2 := Lib.hid hw2
      have HB2 := Lib.hid (Nat.le_trans hBs hk2.size)
      have HK2 := Lib.hid (kt_trans HK.out hk2)
      clear hw2 hk2
      go_wp2
      refine ⟨⟨j + 1, v2, by omega, ?_, HW2.out, HB2.out, HK2.out⟩, ?_⟩
      · have h9 := HI.out
        rw [show (n : Int) - 1 - ((j + 1 : Nat) : Int) = (i : Int) - 1 by omega]
      · have := HI.out
        simp [intOf]
        try omega
    · obtain rfl : j = n := by omega
      have hi : (j : Int) - 1 - (j : Int) = -1 := by omega
      rw [hi]
      have E := Lib.hid (And.intro ha hk)
      clear ha hk
      go_wp2
      go_end0
      exact ⟨rfl, ⟨v1, E.out.1⟩, E.out.2⟩

set_option maxRecDepth 100000 in
set_option maxHeartbeats 1000000 in
theorem walign_any (b B : Nat) (v : Value) (a : St) (w : World) (h : WAt w b B v a) (hB : B ≤ w.heap.size) (hns : a.n ≤ 100000000) :
    Calls Try.prog 20 #[.pointer (some ⟨b, 0, none⟩)] w fun e w' => e = .returned (.tuple #[]) ∧ (∃ v', WAt w' b B v' (a.put (up8 a.n - a.n) 0)) ∧ Kt 5 b B w w' := by
  have HW := Lib.hid h
  have c2 := cell_at h.cell 2
  simp only [List.getElem?_toArray, List.getElem?_cons_zero, List.getElem?_cons_succ] at c2
  by_cases h0 : a.n % 8 = 0
  · rw [h0] at c2
    have hu : up8 a.n - a.n = 0 := by unfold up8; omega
    rw [hu, put_zero]
    clear h
    go_enter Try.func20, Try.ntmps20
    go_wp2
    go_end0
    exact ⟨rfl, ⟨v, HW.out⟩, kt_refl _ _ _ _⟩
  · obtain ⟨m, hm⟩ : ∃ m, m = a.n % 8 := ⟨_, rfl⟩
    rw [← hm] at c2
    have hm1 : (0 : Int) < (m : Int) := by omega
    have hw1 : IntKind.i64.wrap (8 - (m : Int)) = 8 - (m : Int) := IntWalk.i64_in _ (by omega)
    have hu : up8 a.n - a.n = 8 - m := by unfold up8; omega
    have hgo := wbits_any b B 0 (8 - m) v a w h hB (by omega) (by omega) (by decide)
    rw [Nat.zero_mod, ← hu, show ((up8 a.n - a.n : Nat) : Int) = 8 - (m : Int) by omega] at hgo
    have HGO := Lib.hid hgo
    clear h hgo hu hm h0
    go_enter Try.func20, Try.ntmps20
    go_wp2_with fail
    refine (HGO.out).mono ?_
    rintro e w1 ⟨rfl, h2⟩
    have H2 := Lib.hid h2
    clear h2
    go_wp2
    go_end0
    exact ⟨rfl, H2.out⟩

/-- Whole bytes behind whole bytes. -/
theorem put_bytes {a : St} (h : a.ok) (h8 : a.n % 8 = 0) (T : List UInt8) : lits (a.put (8 * T.length) (litN T)).v ((a.put (8 * T.length) (litN T)).n / 8) = lits a.v (a.n / 8) ++ T ∧ (a.put (8 * T.length) (litN T)).v / 2 ^ (8 * ((a.put (8 * T.length) (litN T)).n / 8)) = a.v / 2 ^ (8 * (a.n / 8)) ∧ (a.put (8 * T.length) (litN T)).n % 8 = a.n % 8 := by
  obtain ⟨q, hq⟩ : ∃ q, a.n = 8 * q := ⟨a.n / 8, by omega⟩
  have h1 : a.n / 8 = q := by omega
  have h2 : (a.put (8 * T.length) (litN T)).n / 8 = q + T.length := by show (a.n + 8 * T.length) / 8 = _; omega
  have hv : a.v < 256 ^ q := by
    have := h
    unfold St.ok at this
    rw [hq, Nat.pow_mul] at this
    exact this
  refine ⟨?_, ?_, ?_⟩
  · rw [h2, lits_add, h1]
    have h3 := lits_put a h (8 * T.length) (litN T)
    rw [h1] at h3
    rw [h3]
    congr 1
    have h4 : (a.put (8 * T.length) (litN T)).v / 256 ^ q = litN T := by
      show (a.v + litN T * 2 ^ a.n) / 256 ^ q = _
      rw [hq, Nat.pow_mul, show (2 : Nat) ^ 8 = 256 by decide, Nat.add_mul_div_right _ _ (Nat.pow_pos (by decide)), Nat.div_eq_of_lt hv, Nat.zero_add]
    rw [h4, lits_litN]
  · rw [h2, h1]
    have h5 : (a.put (8 * T.length) (litN T)).ok := St.put_ok h (litN_lt' T)
    have h6 : (a.put (8 * T.length) (litN T)).n = 8 * (q + T.length) := by show a.n + 8 * T.length = _; omega
    unfold St.ok at h5 h
    rw [h6] at h5
    rw [hq] at h
    rw [Nat.div_eq_of_lt h5, Nat.div_eq_of_lt h]
  · show (a.n + 8 * T.length) % 8 = _
    omega

set_option maxRecDepth 100000 in
set_option maxHeartbeats 1000000 in
theorem wbytes_any (b B : Nat) (s : ByteArray) (v : Value) (a : St) (w : World) (h : WAt w b B v a) (hB : B ≤ w.heap.size) (hns : a.n ≤ 100000000) (hs : s.size ≤ 1000000) :
    Calls Try.prog 9 #[.pointer (some ⟨b, 0, none⟩), .string s] w fun e w' => e = .returned (.tuple #[]) ∧ (∃ v', WAt w' b B v' (encB s.data.toList a)) ∧ Kt 5 b B w w' := by
  have HGO := Lib.hid (walign_any b B v a w h hB hns)
  have hok : (a.put (up8 a.n - a.n) 0).ok := St.put_ok h.ok (Nat.two_pow_pos _)
  have hn8 : (a.put (up8 a.n - a.n) 0).n % 8 = 0 := by show (a.n + (up8 a.n - a.n)) % 8 = 0; unfold up8; omega
  have hnb : (a.put (up8 a.n - a.n) 0).n ≤ 100000007 := by show a.n + (up8 a.n - a.n) ≤ _; unfold up8; omega
  have hsl : s.data.toList.length = s.size := by simp
  rw [encB_put]
  generalize a.put (up8 a.n - a.n) 0 = A at HGO hok hn8 hnb ⊢
  have HOK := Lib.hid hok
  have HN8 := Lib.hid hn8
  have HNB := Lib.hid hnb
  have HSL := Lib.hid hsl
  clear h hok hn8 hnb hsl
  go_enter Try.func9, Try.ntmps9
  go_wp2_with fail
  refine (HGO.out).mono ?_
  rintro e w1 ⟨rfl, ⟨v1, h1⟩, hk1⟩
  have c0 := cell_at h1.cell 0
  simp only [List.getElem?_toArray, List.getElem?_cons_zero, List.getElem?_cons_succ] at c0
  have H1 := Lib.hid h1
  have HK1 := Lib.hid hk1
  have hB1 : B ≤ w1.heap.size := Nat.le_trans hB hk1.size
  have hlen : (lits A.v (A.n / 8)).length + s.size ≤ 140737488355328 := by rw [lits_length]; have := HNB.out; omega
  clear h1 hk1
  go_wp2_with (refine append_text _ rfl _ _ rfl B v1 (lits A.v (A.n / 8)) rfl H1.out.own s rfl hlen hB1 ?_)
  intro v2 w2 hown2 hg2
  obtain ⟨A2, m2, p2, rfl⟩ := row_shape hown2
  have hc2 : wcell w2 b v1 (A.v / 2 ^ (8 * (A.n / 8))) (A.n % 8) := gb_heap hg2 H1.out.cell (fun e => row_ne H1.out.own H1.out.cell (by decide) e.symm)
  have r0 := cell_at hc2 0
  simp only [List.getElem?_toArray, List.getElem?_cons_zero, List.getElem?_cons_succ] at r0
  have s0 := free_at hc2 0
  have hs1 := heap_set hc2 0 (.slice A2 m2 p2)
  simp only [List.setIfInBounds_toArray, List.set_cons_zero, List.set_cons_succ] at hs1
  have ho3 : ownsB (w2.setCell ⟨b, 0, none⟩ (.slice A2 m2 p2)) B (.slice A2 m2 p2) (lits A.v (A.n / 8) ++ s.data.toList) := hown2.kept (row := some b) (gb_set (gb_refl w2 _) 0 _) (.inr (row_ne hown2 hc2 (by decide)))
  have k3 : Kt 5 b B w (w2.setCell ⟨b, 0, none⟩ (.slice A2 m2 p2)) := kt_set (kt_gb HK1.out H1.out.own hg2) 0 _
  obtain ⟨p1, p3, p4⟩ := put_bytes HOK.out HN8.out s.data.toList
  rw [← p1] at ho3
  rw [← p3, ← p4] at hs1
  have E := Lib.hid (And.intro hs1 (And.intro ho3 k3))
  clear hs1 ho3 k3 p1 p3 p4 hc2 hown2 hg2
  go_wp2
  go_end0
  exact ⟨rfl, ⟨_, St.put_ok HOK.out (litN_lt' _), E.out.1, E.out.2.1⟩, E.out.2.2⟩

set_option maxRecDepth 100000 in
set_option maxHeartbeats 1000000 in
theorem wtext_any (b B : Nat) (v : Value) (a : St) (w : World) (h : WAt w b B v a) (hns : a.n ≤ 100000000) :
    Calls Try.prog 11 #[.pointer (some ⟨b, 0, none⟩)] w fun e w' => e = .returned (.string ⟨(textOf a).toArray⟩) ∧ Below w.heap.size w w' := by
  have HW := Lib.hid h
  have c0 := cell_at h.cell 0
  have c1 := cell_at h.cell 1
  have c2 := cell_at h.cell 2
  simp only [List.getElem?_toArray, List.getElem?_cons_zero, List.getElem?_cons_succ] at c0 c1 c2
  obtain ⟨m, hm⟩ : ∃ m, m = a.n % 8 := ⟨_, rfl⟩
  rw [← hm] at c2
  have HM := Lib.hid hm
  by_cases h0 : m = 0
  · have hc := run_own_string w _ _ _ h.own
    have ht : textOf a = lits a.v (a.n / 8) := by unfold textOf; congr 1; omega
    rw [← ht] at hc
    subst h0
    clear hm h ht
    go_enter Try.func11, Try.ntmps11
    go_wp2
    go_ret
    exact ⟨rfl, Below.refl _ _⟩
  · have hm1 : (0 : Int) < (m : Int) := by omega
    obtain ⟨Y, hY⟩ : ∃ Y, Y = a.v / 2 ^ (8 * (a.n / 8)) := ⟨_, rfl⟩
    rw [← hY] at c1
    obtain ⟨C, hC⟩ : ∃ C, C = lb a.v (a.n / 8) := ⟨_, rfl⟩
    have hbv : (Y : Int) % 256 = (C.toNat : Int) := by rw [hY, hC]; exact byte_lits _ _
    have hbv2 : IntKind.u8.wrap (Y : Int) = (C.toNat : Int) := hbv
    have ht : textOf a = lits a.v (a.n / 8) ++ [C] := by
      unfold textOf
      rw [show (a.n + 7) / 8 = a.n / 8 + 1 by omega, lits_succ, hC]
    obtain ⟨so, hso⟩ : ∃ s : ByteArray, s = ⟨(lits a.v (a.n / 8)).toArray⟩ := ⟨_, rfl⟩
    obtain ⟨sc, hsc⟩ : ∃ s : ByteArray, s = ⟨[C].toArray⟩ := ⟨_, rfl⟩
    have hso2 : (so ++ sc : ByteArray) = ⟨(textOf a).toArray⟩ := by
      rw [hso, hsc, ht]
      apply ByteArray.ext
      apply Array.ext'
      simp
    have hsz : so.size ≤ 12500000 := by
      rw [hso]
      show (lits a.v (a.n / 8)).toArray.size ≤ _
      rw [List.size_toArray, lits_length]
      omega
    have hsz2 : sc.size = 1 := by rw [hsc]; rfl
    have hov : (9223372036854775807 < so.size + sc.size) = False := by simp; omega
    have HSO := Lib.hid hso2
    have HC1 : RowKit.Hid (∀ W, Below w.heap.size w W → (convert 31 9 v).run Try.prog W = .ok (.string so) W) := Lib.hid (fun W hW => by
      rw [hso]
      exact run_own_string W _ _ _ (HW.out.own.below hW))
    have hcd : (convert 31 9 (.slice (some ⟨w.heap.size, 0, none⟩) 1 1)).run Try.prog (w.alloc (.cells #[.int .u8 (C.toNat : Int)] 5)).drew = .ok (.string sc) (w.alloc (.cells #[.int .u8 (C.toNat : Int)] 5)).drew := by
      rw [hsc]
      exact run_own_string (w.alloc (.cells #[.int .u8 (C.toNat : Int)] 5)).drew 0 _ [C] (World.ownsRow_lit (e := 5) (size := 1) w #[.int .u8 (C.toNat : Int)] 1 (Nat.zero_le _) (by decide) rfl)
    have hlt := lt_of_block HW.out.cell
    have hb1 := (Below.refl w.heap.size w).alloc (Nat.le_refl _) (.cells #[.int .u8 (C.toNat : Int)] 5)
    have d0 : ((w.alloc (.cells #[.int .u8 (C.toNat : Int)] 5)).drew).cell? ⟨b, 0, none⟩ = some v := (hb1.cell (p := ⟨b, 0, none⟩) hlt).trans c0
    have d1 : ((w.alloc (.cells #[.int .u8 (C.toNat : Int)] 5)).drew).cell? ⟨b, 1, none⟩ = some (.int .u64 (Y : Int)) := (hb1.cell (p := ⟨b, 1, none⟩) hlt).trans c1
    have k0 := HC1.out w.drew (Below.refl _ _).drew
    have k1 := HC1.out (w.alloc (.cells #[.int .u8 (C.toNat : Int)] 5)).drew hb1.drew
    have HB := Lib.hid hb1.drew
    clear hm h ht hso hsc hso2 hsz hsz2 hC hY h0 hb1 hlt
    go_enter Try.func11, Try.ntmps11
    go_wp2_with fail
    go_region_law (fail)
    all_goals
      clear d0 d1 k0 k1 hcd c0 c1 c2
      go_wp2
      go_ret
      exact ⟨by rw [← HSO.out]; rfl, HB.out⟩
end Go.Proofs.Ytncdaohjjhcaaaa
