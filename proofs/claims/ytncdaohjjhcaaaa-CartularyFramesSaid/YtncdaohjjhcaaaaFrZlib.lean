/- THE WALKS of zlib: Head, frame, Plain, Write, Read. Conditions: the texts are short; the frame lies there. -/
import Derived.Test.YtncdaohjjhcaaaaFrDefl
namespace Go.Proofs.Ytncdaohjjhcaaaa
open Go.RowKit Sums
set_option linter.unusedVariables false

def adN (l : List UInt8) : Nat := adSum (adL (0, 0) l)
theorem adN_lt (l : List UInt8) : adN l < 4294967296 := adSum_lt _ (adL_lt l (0, 0) (by decide) (by decide)).2
/-- A frame, and what it says. -/
def Frm (f s : List UInt8) : Prop := ∃ m, Strm m s ∧ f = [120, 1] ++ (m ++ bigs (adN s) 4)
theorem bigs_len (x n : Nat) : (bigs x n).length = n := by simp [bigs, lits_length]
theorem back4 (x : Nat) (h : x < 4294967296) : fromBig (bigs x 4) = x := by
  unfold bigs
  rw [fromBig_rev _ (by rw [lits_length]; decide), litN_lits]
  exact Nat.mod_eq_of_lt (Nat.lt_of_lt_of_le h (by decide))

set_option maxRecDepth 100000 in
theorem head_any (w : World) : Calls Try.prog 26 #[.int .u8 120, .int .u8 1] w fun e w' => e = .returned (.bool true) ∧ w = w' := by
  have h1 : bits .and .u8 120 15 = 8 := by decide
  have h2 : bits .and .u8 1 32 = 0 := by decide
  have h3 : bits .or .i64 30720 1 = 30721 := by decide
  go_enter Try.func26, Try.ntmps26
  go_wp2
  go_ret
  exact ⟨rfl, rfl⟩

set_option maxRecDepth 100000 in
set_option maxHeartbeats 1000000 in
theorem frame_any (m s : ByteArray) (w : World) (hm : m.size ≤ 1000000) (hs : s.size ≤ 1000000) :
    Calls Try.prog 23 #[.string m, .string s] w fun e w' => e = .returned (.string ⟨([120, 1] ++ (m.data.toList ++ bigs (adN s.data.toList) 4)).toArray⟩) ∧ Below w.heap.size w w' := by
  have hlt := adN_lt s.data.toList
  have C1 : RowKit.Hid (∀ W, Calls Try.prog 28 #[.string s] W fun e w' => e = .returned (.int .u32 ((adN s.data.toList : Nat) : Int)) ∧ Below W.heap.size W w') := Lib.hid (fun W => adler32_any s W (by omega))
  obtain ⟨y, hy⟩ : ∃ y, y = adN s.data.toList := ⟨_, rfl⟩
  rw [← hy] at C1 hlt ⊢
  have C2 : RowKit.Hid (∀ W, Calls Try.prog 33 #[.int .u64 (y : Int), .int .i64 4] W fun e w' => e = .returned (.string ⟨(bigs y 4).toArray⟩) ∧ Below W.heap.size W w') := Lib.hid (fun W => big_any y 4 4 (.inr rfl) (by decide) (by show _ < 18446744073709551616; omega) W)
  obtain ⟨t, ht⟩ : ∃ t : ByteArray, t = ⟨(bigs y 4).toArray⟩ := ⟨_, rfl⟩
  rw [← ht] at C2
  have zt : t.size = 4 := by rw [ht]; show (bigs y 4).toArray.size = 4; rw [List.size_toArray, bigs_len]
  obtain ⟨c, hc⟩ : ∃ c : ByteArray, c = { data := #[120, 1] } := ⟨_, rfl⟩
  have hall : c ++ m ++ t = ⟨([120, 1] ++ (m.data.toList ++ bigs y 4)).toArray⟩ := by
    rw [hc, ht]
    apply ByteArray.ext
    apply Array.ext'
    simp
  have HALL := Lib.hid hall
  rw [hc] at HALL
  have hwy : IntKind.u64.wrap (y : Int) = (y : Int) := IntWalk.u64_in _ (by omega)
  have zc : (({ data := #[120, 1] } : ByteArray)).size = 2 := rfl
  have k1 : (9223372036854775807 < 2 + m.size) = False := by simp; omega
  have k2 : (9223372036854775807 < 2 + m.size + 4) = False := by simp; omega
  have zcm : (({ data := #[120, 1] } : ByteArray) ++ m).size = 2 + m.size := by rw [cat_size]; rfl
  clear hall hc hy ht hm hs hlt
  go_enter Try.func23, Try.ntmps23
  go_wp2_with fail
  refine (C1.out _).mono ?_
  rintro e w1 ⟨rfl, hb1⟩
  have B1 := Lib.hid hb1
  clear hb1
  go_wp2_with fail
  refine (C2.out _).mono ?_
  rintro e w2 ⟨rfl, hb2⟩
  have B2 := Lib.hid (B1.out.trans (hb2.mono B1.out.size))
  clear hb2
  go_wp2
  go_ret
  exact ⟨congrArg (fun x => Ending.returned (.string x)) HALL.out, B2.out⟩

/-- How Plain and Write end. -/
def FrmEnd (s : ByteArray) (k : Nat) (w : World) (e : Ending) (w' : World) : Prop :=
  ∃ f, e = .returned (.string ⟨f.toArray⟩) ∧ Frm f s.data.toList ∧ f.length ≤ s.size + 11 ∧ (k = 0 → f = [120, 1] ++ (textOf (stoS s.data.toList) ++ bigs (adN s.data.toList) 4)) ∧ Below w.heap.size w w'
theorem list_size (l : List UInt8) : (⟨l.toArray⟩ : ByteArray).size = l.length := by show l.toArray.size = _; simp

set_option maxRecDepth 100000 in
theorem plain_any (s : ByteArray) (w : World) (hs : s.size ≤ 500) : Calls Try.prog 15 #[.string s] w (FrmEnd s 0 w) := by
  have hl := stoS_len s.data.toList
  have hsl : s.data.toList.length = s.size := by simp
  rw [hsl] at hl
  have C1 := Lib.hid (mkStored_any s w (by omega))
  obtain ⟨m, hm⟩ : ∃ m, m = textOf (stoS s.data.toList) := ⟨_, rfl⟩
  have hst : Strm m s.data.toList := by rw [hm]; exact stoS_strm _ (by omega)
  rw [← hm] at C1 hl
  have HST := Lib.hid hst
  have HM := Lib.hid hm
  have C2 : RowKit.Hid (∀ W, Calls Try.prog 23 #[.string ⟨m.toArray⟩, .string s] W fun e w' => e = .returned (.string ⟨([120, 1] ++ (m ++ bigs (adN s.data.toList) 4)).toArray⟩) ∧ Below W.heap.size W w') := Lib.hid (fun W => frame_any ⟨m.toArray⟩ s W (by rw [list_size]; omega) (by omega))
  have HLE : RowKit.Hid (([120, 1] ++ (m ++ bigs (adN s.data.toList) 4)).length ≤ s.size + 11) := Lib.hid (by rw [List.length_append, List.length_append, bigs_len, hl]; show 2 + _ ≤ _; omega)
  clear hm hst hl hsl
  go_enter Try.func15, Try.ntmps15
  go_wp2_with fail
  refine (C1.out).mono ?_
  rintro e w1 ⟨rfl, hb1⟩
  have B1 := Lib.hid hb1
  clear hb1
  go_wp2_with fail
  refine (C2.out _).mono ?_
  rintro e w2 ⟨rfl, hb2⟩
  have B2 := Lib.hid (B1.out.trans (hb2.mono B1.out.size))
  clear hb2
  go_wp2
  go_ret
  exact ⟨_, rfl, ⟨m, HST.out, rfl⟩, HLE.out, fun _ => by rw [← HM.out]; rfl, B2.out⟩

set_option maxRecDepth 100000 in
theorem write_any (s : ByteArray) (w : World) (hs : s.size ≤ 500) : Calls Try.prog 16 #[.string s] w (FrmEnd s 1 w) := by
  have C1 := Lib.hid (deflate_any s w hs)
  have HS := Lib.hid hs
  clear hs
  go_enter Try.func16, Try.ntmps16
  go_wp2_with fail
  refine (C1.out).mono ?_
  rintro e w1 ⟨m, rfl, hst, hl, hb1⟩
  have B1 := Lib.hid hb1
  have HST := Lib.hid hst
  have C2 : RowKit.Hid (∀ W, Calls Try.prog 23 #[.string ⟨m.toArray⟩, .string s] W fun e w' => e = .returned (.string ⟨([120, 1] ++ (m ++ bigs (adN s.data.toList) 4)).toArray⟩) ∧ Below W.heap.size W w') := Lib.hid (fun W => frame_any ⟨m.toArray⟩ s W (by rw [list_size]; have := HS.out; omega) (by have := HS.out; omega))
  have HLE : RowKit.Hid (([120, 1] ++ (m ++ bigs (adN s.data.toList) 4)).length ≤ s.size + 11) := Lib.hid (by rw [List.length_append, List.length_append, bigs_len]; show 2 + _ ≤ _; omega)
  clear hb1 hst hl
  go_wp2_with fail
  refine (C2.out _).mono ?_
  rintro e w2 ⟨rfl, hb2⟩
  have B2 := Lib.hid (B1.out.trans (hb2.mono B1.out.size))
  clear hb2
  go_wp2
  go_ret
  exact ⟨_, rfl, ⟨m, HST.out, rfl⟩, HLE.out, fun h => absurd h (by decide), B2.out⟩

set_option maxRecDepth 100000 in
set_option maxHeartbeats 2000000 in
theorem read_frame (l f r s : List UInt8) (txt : ByteArray) (most : Nat) (w : World) (h : Frm f s) (ht : txt = ⟨(l ++ (f ++ r)).toArray⟩) (hsz : txt.size ≤ 1000000000) (hm : s.length ≤ most) (hm2 : most ≤ 65536) :
    Calls Try.prog 17 #[.string txt, .int .i64 (l.length : Int), .int .i64 (most : Int)] w fun e w' => e = .returned (.tuple #[.string ⟨s.toArray⟩, .int .i64 (f.length : Int), .int .i64 0]) ∧ Below w.heap.size w w' := by
  obtain ⟨m, hst, hf⟩ := h
  have hlist : txt.data.toList = l ++ ([120, 1] ++ (m ++ (bigs (adN s) 4 ++ r))) := by rw [ht, hf]; simp
  have hfl : f.length = m.length + 6 := by rw [hf, List.length_append, List.length_append, bigs_len]; show 2 + _ = _; omega
  have htl : txt.size = l.length + (m.length + 6 + r.length) := by rw [ht, list_size, List.length_append, List.length_append, hfl]
  obtain ⟨q, hq⟩ : ∃ q, q = l.length := ⟨_, rfl⟩
  rw [← hq] at htl
  have p1 : q < txt.size := by omega
  have p2 : q + 1 < txt.size := by omega
  have hb0 : txt[q] = 120 := by
    have h1 : txt.data.toList[q]? = some 120 := by rw [hlist, hq, List.getElem?_append_right (Nat.le_refl _), Nat.sub_self]; rfl
    exact Option.some.inj ((byte_at txt q p1).symm.trans h1)
  have hb1 : txt[q + 1] = 1 := by
    have h1 : txt.data.toList[q + 1]? = some 1 := by rw [hlist, hq, List.getElem?_append_right (Nat.le_succ _), show l.length.succ - l.length = 1 by omega]; rfl
    exact Option.some.inj ((byte_at txt (q + 1) p2).symm.trans h1)
  have CI := inflate_any (l ++ [120, 1]) m (bigs (adN s) 4 ++ r) s txt most
  have hlt := adN_lt s
  have hlen2 : ((l ++ [120, 1]).length : Int) = (l.length : Int) + 2 := by rw [List.length_append]; show ((l.length + 2 : Nat) : Int) = _; omega
  rw [hlen2] at CI
  have C1 : RowKit.Hid (∀ W, Calls Try.prog 18 #[.string txt, .int .i64 ((l.length : Int) + 2), .int .i64 (most : Int)] W fun e w' => e = .returned (.tuple #[.string ⟨s.toArray⟩, .int .i64 (m.length : Int), .int .i64 0]) ∧ Below W.heap.size W w') := Lib.hid (fun W => CI W hst (by rw [ht, hf]; simp) hsz hm hm2)
  obtain ⟨k, hk⟩ : ∃ k, k = m.length := ⟨_, rfl⟩
  have hex : (txt.extract (q + 2 + k) (q + 2 + k + 4)).data.toList = bigs (adN s) 4 := by
    have h1 : (txt.extract (q + 2 + k) (q + 2 + k + 4)).data.toList = (txt.data.toList.drop (q + 2 + k)).take 4 := by simp
    rw [h1, hlist, hq, hk]
    have h2 : l ++ ([120, 1] ++ (m ++ (bigs (adN s) 4 ++ r))) = (l ++ [120, 1] ++ m) ++ (bigs (adN s) 4 ++ r) := by simp
    rw [h2, List.drop_left' (by simp; omega), List.take_left' (bigs_len _ _)]
  obtain ⟨sx, hsx⟩ : ∃ x : ByteArray, x = ⟨s.toArray⟩ := ⟨_, rfl⟩
  have hsd : sx.data.toList = s := by rw [hsx]
  have C3 : RowKit.Hid (∀ W, Calls Try.prog 28 #[.string sx] W fun e w' => e = .returned (.int .u32 ((adN s : Nat) : Int)) ∧ Below W.heap.size W w') := Lib.hid (fun W => by
    have h := adler32_any sx W (by rw [hsx, list_size]; omega)
    rw [hsd] at h
    exact h)
  have C2 : RowKit.Hid (∀ W, Calls Try.prog 27 #[.string (txt.extract (q + 2 + k) (q + 2 + k + 4))] W fun e w' => e = .returned (.int .u64 ((adN s : Nat) : Int)) ∧ W = w') := Lib.hid (fun W => by
    have h := fromBig_any (txt.extract (q + 2 + k) (q + 2 + k + 4)) W (by rw [ByteArray.size_extract]; omega)
    rw [hex, back4 _ hlt] at h
    exact h)
  rw [← hsx] at C1 ⊢
  rw [← hq] at C1 ⊢
  rw [← hk] at C1 hfl htl
  rw [hfl]
  obtain ⟨y, hy⟩ : ∃ y, y = adN s := ⟨_, rfl⟩
  rw [← hy] at hlt C2 C3
  have hwy : IntKind.u32.wrap (y : Int) = (y : Int) := IntWalk.u32_in _ (by omega)
  have w1 : IntKind.i64.wrap ((q : Int) + 1) = (q : Int) + 1 := IntWalk.i64_in _ (by omega)
  have w2 : IntKind.i64.wrap ((q : Int) + 2) = (q : Int) + 2 := IntWalk.i64_in _ (by omega)
  have w3 : IntKind.i64.wrap ((q : Int) + 2 + (k : Int)) = (q : Int) + 2 + (k : Int) := IntWalk.i64_in _ (by omega)
  have w4 : IntKind.i64.wrap ((q : Int) + 2 + (k : Int) + 4) = (q : Int) + 2 + (k : Int) + 4 := IntWalk.i64_in _ (by omega)
  have w5 : IntKind.i64.wrap ((k : Int) + 6) = ((k + 6 : Nat) : Int) := IntWalk.i64_in _ (by omega)
  have w6 : IntKind.i64.wrap ((txt.size : Int) - (q : Int)) = (txt.size : Int) - (q : Int) := IntWalk.i64_in _ (by omega)
  have w7 : IntKind.i64.wrap ((txt.size : Int) - ((q : Int) + 2 + (k : Int))) = (txt.size : Int) - ((q : Int) + 2 + (k : Int)) := IntWalk.i64_in _ (by omega)
  have f1 : ¬ (txt.size : Int) < (q : Int) := by omega
  have f2 : ¬ (65536 : Int) < (most : Int) := by omega
  have f3 : ¬ (txt.size : Int) - (q : Int) < 2 := by omega
  have f4 : ¬ (txt.size : Int) - ((q : Int) + 2 + (k : Int)) < 4 := by omega
  have f5 : (q : Int) < (txt.size : Int) := by omega
  have f6 : (q : Int) + 1 < (txt.size : Int) := by omega
  have f7 : (0 : Int) ≤ (q : Int) + 1 := by omega
  have f8 : (0 : Int) ≤ (q : Int) + 2 + (k : Int) := by omega
  have f9 : (q : Int) + 2 + (k : Int) ≤ (q : Int) + 2 + (k : Int) + 4 := by omega
  have f10 : (q : Int) + 2 + (k : Int) + 4 ≤ (txt.size : Int) := by omega
  have f11 : (0 : Int) ≤ (q : Int) + 2 + (k : Int) + 4 := by omega
  have t1 : ((q : Int) + 1).toNat = q + 1 := by omega
  have t2 : ((q : Int) + 2 + (k : Int)).toNat = q + 2 + k := by omega
  have t3 : ((q : Int) + 2 + (k : Int) + 4).toNat = q + 2 + k + 4 := by omega
  clear hsx hsd hex hq hk CI hlist ht hf hfl htl hlen2 hlt hy hst hsz hm hm2
  go_enter Try.func17, Try.ntmps17
  go_wp2_with fail
  refine region_class (fun W => ∃ n, W = w.drewN n) (by kernel_rfl) (by kernel_rfl) ⟨1, rfl⟩ ?_
  repeat (first
    | (refine qtake (v := ?_) (by rfl) (fun w9 hSw => ?_) ?_
       rotate_left
       · obtain ⟨n9, rfl⟩ := hSw
         go_simp
         try with_reducible rfl
       simp only [Act.put, List.setIfInBounds_toArray, List.set_cons_zero, List.set_cons_succ])
    | (refine qcall (v := .bool true) (f := 26) (args := #[.int .u8 120, .int .u8 1]) (by rfl) (fun w9 => ?_) (fun w9 hSw => ?_) ?_
       · go_simp
       · obtain ⟨n9, rfl⟩ := hSw
         refine (head_any _).mono ?_
         rintro e w' ⟨rfl, rfl⟩
         exact ⟨rfl, n9, rfl⟩
       simp only [Act.put, List.setIfInBounds_toArray, List.set_cons_zero, List.set_cons_succ]))
  refine wpQuiet_nil ?_
  intro Wq hSq
  obtain ⟨nq, rfl⟩ := hSq
  have E : RowKit.Hid (Below w.heap.size w (w.drewN nq)) := Lib.hid (below_drewN (Below.refl _ _) nq)
  generalize w.drewN nq = W3 at E ⊢
  go_wp2_with fail
  refine (C1.out _).mono ?_
  rintro e w4 ⟨rfl, hb4⟩
  have B4 := Lib.hid (E.out.trans (hb4.mono E.out.size))
  clear hb4
  go_wp2_with fail
  refine (C2.out _).mono ?_
  rintro e w5 ⟨rfl, rfl⟩
  go_wp2_with fail
  refine (C3.out _).mono ?_
  rintro e w6 ⟨rfl, hb6⟩
  have B6 := Lib.hid (B4.out.trans (hb6.mono B4.out.size))
  clear hb6
  go_wp2
  go_ret3
  exact ⟨rfl, B6.out⟩
end Go.Proofs.Ytncdaohjjhcaaaa
