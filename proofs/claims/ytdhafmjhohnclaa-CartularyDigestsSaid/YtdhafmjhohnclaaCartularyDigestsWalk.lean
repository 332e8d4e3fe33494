/- THE WALK of 'CartularyDigests'. -/
import Derived.Test.YtdhafmjhohnclaaShaTop
import Derived.Test.YtdhafmjhohnclaaSumsHold
import Derived.Test.YtdhafmjhohnclaaSumsHex
import Derived.Test.YtdhafmjhohnclaaSumsB64
import Derived.Test.YtdhafmjhohnclaaSumsDigWalks
import Derived.Test.YtdhafmjhohnclaaSumsNumWalks2
import Derived.Test.YtdhafmjhohnclaaLaw
namespace Go.Proofs.Ytdhafmjhohnclaa
open Go.RowKit Sums
set_option linter.unusedVariables false

/-- The four sums that are added up, side by side. -/
structure Four (w : World) (N : Nat) (la lb lc ld : List UInt8) (r1 r2 : Option Nat) : Prop where
  a : holds w N 50 5 blk1 start1L la r1
  b : holds w (N + 1) 51 8 blk2 start2L lb r2
  c : crcHolds w (N + 2) lc
  d : adHolds w (N + 3) ld
  sz : N + 4 ≤ w.heap.size
  h1 : ∀ g, r1 = some g → N + 4 ≤ g
  h2 : ∀ g, r2 = some g → N + 4 ≤ g
  dis : ∀ g, r1 = some g → r2 ≠ some g
theorem Four.stepA {w w' : World} {N g : Nat} {la lb lc ld la' : List UInt8} {r1 r2 : Option Nat} (h : Four w N la lb lc ld r1 r2) (ha : holds w' N 50 5 blk1 start1L la' (some g))
    (hg : r1 = some g ∨ (r1 = none ∧ w.heap.size ≤ g)) (hk : Kb N r1 w w') : Four w' N la' lb lc ld (some g) r2 := by
  have n1 : ∀ j, j < 4 → some (N + j) ≠ r1 := fun j hj e => by have := h.h1 _ e.symm; omega
  refine ⟨ha, holds_keep h.b (hk.block _ (holds_lt h.b) (by omega) (n1 1 (by decide))) (fun g2 hg2 => ?_), kb_heap hk h.c (by omega) (n1 2 (by decide)), kb_heap hk h.d (by omega) (n1 3 (by decide)), Nat.le_trans h.sz hk.size, ?_, h.h2, ?_⟩
  · have hb := h.b
    rw [hg2] at hb
    exact hk.block g2 (holds_row hb) (by have := h.h2 g2 hg2; omega) (fun e => h.dis g2 e.symm hg2)
  · intro g' e
    cases e
    rcases hg with e | ⟨_, e⟩
    · exact h.h1 _ e
    · have := h.sz; omega
  · intro g' e e2
    cases e
    rcases hg with e | ⟨_, e⟩
    · exact h.dis _ e e2
    · have hb := h.b
      rw [e2] at hb
      have := holds_row hb
      omega
theorem Four.stepB {w w' : World} {N g : Nat} {la lb lc ld lb' : List UInt8} {r1 r2 : Option Nat} (h : Four w N la lb lc ld r1 r2) (hb : holds w' (N + 1) 51 8 blk2 start2L lb' (some g))
    (hg : r2 = some g ∨ (r2 = none ∧ w.heap.size ≤ g)) (hk : Kb (N + 1) r2 w w') : Four w' N la lb' lc ld r1 (some g) := by
  have n1 : ∀ j, j < 4 → some (N + j) ≠ r2 := fun j hj e => by have := h.h2 _ e.symm; omega
  refine ⟨holds_keep h.a (hk.block _ (holds_lt h.a) (by omega) (n1 0 (by decide))) (fun g2 hg2 => ?_), hb, kb_heap hk h.c (by omega) (n1 2 (by decide)), kb_heap hk h.d (by omega) (n1 3 (by decide)), Nat.le_trans h.sz hk.size, h.h1, ?_, ?_⟩
  · have ha := h.a
    rw [hg2] at ha
    exact hk.block g2 (holds_row ha) (by have := h.h1 g2 hg2; omega) (fun e => h.dis g2 hg2 e.symm)
  · intro g' e
    cases e
    rcases hg with e | ⟨_, e⟩
    · exact h.h2 _ e
    · have := h.sz; omega
  · intro g' e e2
    cases e2
    rcases hg with e3 | ⟨_, e3⟩
    · exact h.dis _ e e3
    · have ha := h.a
      rw [e] at ha
      have := holds_row ha
      omega
theorem Four.other {w w' : World} {N : Nat} {la lb lc ld lc' ld' : List UInt8} {r1 r2 : Option Nat} {x : Option Nat} (h : Four w N la lb lc ld r1 r2) (hg : w.grownBy w' x) (hx : ∀ k, x = some k → N + 2 ≤ k ∧ k < N + 4)
    (hc : crcHolds w' (N + 2) lc') (hd : adHolds w' (N + 3) ld') : Four w' N la lb lc' ld' r1 r2 := by
  have nx : ∀ k, (k < N + 2 ∨ N + 4 ≤ k) → some k ≠ x := fun k hk e => by have := hx k e.symm; omega
  refine ⟨holds_keep h.a (hg.block _ (holds_lt h.a) (nx _ (by omega))) (fun g2 hg2 => ?_), holds_keep h.b (hg.block _ (holds_lt h.b) (nx _ (by omega))) (fun g2 hg2 => ?_), hc, hd, Nat.le_trans h.sz hg.size, h.h1, h.h2, h.dis⟩
  · have ha := h.a
    rw [hg2] at ha
    exact hg.block g2 (holds_row ha) (nx _ (.inr (h.h1 _ hg2)))
  · have hb := h.b
    rw [hg2] at hb
    exact hg.block g2 (holds_row hb) (nx _ (.inr (h.h2 _ hg2)))
theorem Four.keep {w w' : World} {N : Nat} {la lb lc ld : List UInt8} {r1 r2 : Option Nat} (h : Four w N la lb lc ld r1 r2) (hb : Below w.heap.size w w') : Four w' N la lb lc ld r1 r2 :=
  h.other (gb_of_below hb none) (fun k e => by cases e) (h.c.below hb (lt_of_block h.c)) (h.d.below hb (lt_of_block h.d))

theorem hexL_len : ∀ l : List UInt8, (hexL l).length = 2 * l.length
  | [] => rfl
  | b :: r => by
    have h := hexL_len r
    unfold hexL at h ⊢
    rw [List.flatMap_cons, List.length_append, h]
    simp
    omega
theorem unhex_hex (l : List UInt8) : unhexV (hexL l) = .tuple #[.string ⟨l.toArray⟩, .bool true] := by
  unfold unhexV
  rw [if_pos (hexed_hexL l), pairs_hexL]
theorem big4 (x : BitVec 32) : fromBig (bigs x.toNat 4) = x.toNat := by
  unfold bigs
  rw [fromBig_rev _ (by rw [lits_length]; omega), litN_lits]
  have := x.isLt
  omega
set_option maxRecDepth 100000 in
theorem abc_hex : hexL (digest blk1 start1L [97, 98, 99]) = [97, 57, 57, 57, 51, 101, 51, 54, 52, 55, 48, 54, 56, 49, 54, 97, 98, 97, 51, 101, 50, 53, 55, 49, 55, 56, 53, 48, 99, 50, 54, 99, 57, 99, 100, 48, 100, 56, 57, 100] := by rw [abc_digest]; decide +kernel
set_option maxRecDepth 100000 in
theorem crc_nine : ((crcW 0 [49, 50, 51, 52, 53, 54, 55, 56, 57]).toNat : Int) = 3421780262 := by decide +kernel
theorem dig_few (s : ByteArray) (n : Nat) : (fewB s n).size ≤ n := by
  unfold fewB
  split
  · rw [ByteArray.size_extract]; omega
  · omega
theorem u32_u64 (x : BitVec 32) : x.toNat < U64 := by have := x.isLt; unfold U64; omega

set_option maxRecDepth 100000 in
set_option maxHeartbeats 2000000 in
theorem cartularyDigests_walk (w : World) (A : Option Addr) (n cap : Nat) (ss : List ByteArray) (hS : StrsIn w A n cap ss) :
    Calls Try.prog 9 #[.slice A n cap] w fun e w' => e = .returned (.bool true) ∧ Below w.heap.size w w' := by
  have hcap := hS.cap
  have hle := hS.le
  unfold maxLen at hcap
  have HS := Lib.hid hS
  clear hS
  have c0 : ∀ W, Calls Try.prog 20 #[.string ⟨(digest blk1 start1L [97, 98, 99]).toArray⟩] W fun e w' => e = .returned (.string ⟨#[97, 57, 57, 57, 51, 101, 51, 54, 52, 55, 48, 54, 56, 49, 54, 97, 98, 97, 51, 101, 50, 53, 55, 49, 55, 56, 53, 48, 99, 50, 54, 99, 57, 99, 100, 48, 100, 56, 57, 100]⟩) ∧ Below W.heap.size W w' := fun W => by
    have h := hex_any ⟨(digest blk1 start1L [97, 98, 99]).toArray⟩ W (by
      show (((digest blk1 start1L [97, 98, 99]).toArray.size : Nat) : Int) ≤ 1000000
      rw [List.size_toArray, digest_len blk1 5 blk1_len start1L rfl]
      decide)
    rw [show (⟨(digest blk1 start1L [97, 98, 99]).toArray⟩ : ByteArray).data.toList = digest blk1 start1L [97, 98, 99] from List.toList_toArray, abc_hex] at h
    exact h
  have C0 := Lib.hid c0
  have c1 : ∀ W, Calls Try.prog 12 #[.string ⟨#[49, 50, 51, 52, 53, 54, 55, 56, 57]⟩] W fun e w' => e = .returned (.int .u32 3421780262) ∧ Below W.heap.size W w' := fun W => by
    have h := crc32_any ⟨#[49, 50, 51, 52, 53, 54, 55, 56, 57]⟩ W (by decide)
    rw [show (⟨#[49, 50, 51, 52, 53, 54, 55, 56, 57]⟩ : ByteArray).data.toList = [49, 50, 51, 52, 53, 54, 55, 56, 57] from rfl, crc_nine] at h
    exact h
  have C1 := Lib.hid c1
  obtain ⟨sd, hsd⟩ : ∃ s : ByteArray, s = ⟨(digest blk1 start1L [97, 98, 99]).toArray⟩ := ⟨_, rfl⟩
  have c2 : ∀ W, Calls Try.prog 36 #[.string ⟨#[97, 98, 99]⟩] W fun e w' => e = .returned (.string sd) ∧ Below W.heap.size W w' := fun W => by
    rw [hsd]
    exact sum1_any ⟨#[97, 98, 99]⟩ W (by decide)
  rw [← hsd] at C0
  have C2 := Lib.hid c2
  clear c0 c1 c2 hsd
  go_enter Try.func9, Try.ntmps9
  go_wp2_with fail
  refine (C2.out _).mono ?_
  rintro e w1 ⟨rfl, hb1⟩
  go_wp2_with fail
  refine (C0.out _).mono ?_
  rintro e w2 ⟨rfl, hb2⟩
  go_wp2_with fail
  refine (C1.out _).mono ?_
  rintro e w3 ⟨rfl, hb3⟩
  have hb := (hb1.trans (hb2.mono hb1.size)).trans (hb3.mono (Nat.le_trans hb1.size hb2.size))
  have HB := Lib.hid hb
  clear hb1 hb2 hb3 hb C0 C1 C2
  obtain ⟨N, hN⟩ : ∃ N, N = w3.heap.size := ⟨_, rfl⟩
  have hF : Four ((((w3.alloc (.cells #[.slice none 0 0, .string ⟨#[]⟩, .int .u64 0] 50)).alloc (.cells #[.slice none 0 0, .string ⟨#[]⟩, .int .u64 0] 51)).alloc (.cells #[.int .u32 0] 29)).alloc (.cells #[.int .u32 0, .int .u32 0] 31)) w3.heap.size [] [] [] [] none none := by
    refine ⟨⟨rfl, heap_alloc_keep (heap_alloc_keep (heap_alloc_keep (heap_alloc_same w3 _) _) _) _⟩, ⟨rfl, heap_alloc_keep (heap_alloc_keep (heap_alloc_two w3 _ _) _) _⟩, heap_alloc_keep ?_ _, ?_, by simp [World.size_alloc], fun g e => (by cases e), fun g e => (by cases e), fun g e => (by cases e)⟩
    · have h := heap_alloc_new ((w3.alloc (.cells #[.slice none 0 0, .string ⟨#[]⟩, .int .u64 0] 50)).alloc (.cells #[.slice none 0 0, .string ⟨#[]⟩, .int .u64 0] 51)) (.cells #[.int .u32 0] 29)
      rw [World.size_alloc, World.size_alloc] at h
      exact h
    · have h := heap_alloc_new (((w3.alloc (.cells #[.slice none 0 0, .string ⟨#[]⟩, .int .u64 0] 50)).alloc (.cells #[.slice none 0 0, .string ⟨#[]⟩, .int .u64 0] 51)).alloc (.cells #[.int .u32 0] 29)) (.cells #[.int .u32 0, .int .u32 0] 31)
      rw [World.size_alloc, World.size_alloc, World.size_alloc] at h
      exact h
  have hB4 : Below w.heap.size w ((((w3.alloc (.cells #[.slice none 0 0, .string ⟨#[]⟩, .int .u64 0] 50)).alloc (.cells #[.slice none 0 0, .string ⟨#[]⟩, .int .u64 0] 51)).alloc (.cells #[.int .u32 0] 29)).alloc (.cells #[.int .u32 0, .int .u32 0] 31)) :=
    (((HB.out.alloc HB.out.size _).alloc (by rw [World.size_alloc]; exact Nat.le_succ_of_le HB.out.size) _).alloc (by rw [World.size_alloc, World.size_alloc]; exact Nat.le_succ_of_le (Nat.le_succ_of_le HB.out.size)) _).alloc (by rw [World.size_alloc, World.size_alloc, World.size_alloc]; exact Nat.le_succ_of_le (Nat.le_succ_of_le (Nat.le_succ_of_le HB.out.size))) _
  have HF := Lib.hid hF
  have HB4 := Lib.hid hB4
  have HN : RowKit.Hid (w.heap.size ≤ w3.heap.size) := Lib.hid HB.out.size
  clear hF hB4 hN
  go_wp2_with fail
  go_loopw [7, 8] (fun v i wr => ∃ (k : Nat) (acc : ByteArray) (r1 r2 : Option Nat), k ≤ n ∧ k ≤ 12 ∧ i = .int .i64 k ∧ v = .string acc ∧ acc.size ≤ 200 * k ∧ Four wr w3.heap.size acc.data.toList acc.data.toList acc.data.toList acc.data.toList r1 r2 ∧ Below w.heap.size w wr) (fun _ i _ => 12 - (intOf i).toNat)
  case atStart => exact ⟨0, ByteArray.empty, none, none, Nat.zero_le _, Nat.zero_le _, rfl, rfl, by decide, HF.out, HB4.out⟩
  case round =>
    obtain ⟨k, acc, r1, r2, hk, hk12, rfl, rfl, hacc, hf, hb⟩ := hrel
    have HF4 := Lib.hid hf
    have HBk := Lib.hid hb
    clear hf hb
    by_cases hgo : k < n ∧ k < 12
    · obtain ⟨hkn, hk2⟩ := hgo
      obtain ⟨ad, hA, hab, hcell⟩ := HS.out.at_ k hkn
      subst hA
      have hsz := HS.out.size k hkn
      obtain ⟨x0, hx0⟩ : ∃ x0, x0 = ss.getD k ByteArray.empty := ⟨_, rfl⟩
      rw [← hx0] at hcell hsz
      unfold maxLen at hsz
      clear hx0
      have hcell' : wr.cell? (ad.add k) = some (.string x0) := (HBk.out.cell (p := ad.add k) (by rw [block_of_add]; exact hab)).trans hcell
      clear hcell
      have hfs := dig_few x0 200
      have hkI : (k : Int) < (n : Int) := by omega
      go_wp2_with fail
      refine (few_any x0 200 _ (by omega) (by omega)).mono ?_
      rintro e wx ⟨rfl, rfl⟩
      generalize fewB x0 200 = x at hfs
      have haccx : (acc ++ x).data.toList = acc.data.toList ++ x.data.toList := by rw [ByteArray.data_append, Array.toList_append]
      have hsx : (acc ++ x).size ≤ 200 * (k + 1) := by rw [ByteArray.size_append]; omega
      have haL : acc.data.toList.length = acc.size := by simp
      have hov : (9223372036854775807 < acc.size + x.size) = False := by simp; omega
      have HX := Lib.hid haccx
      have HAL := Lib.hid haL
      have HFS := Lib.hid hfs
      have HSX := Lib.hid hsx
      have HOV := Lib.hid hov
      have HCE := Lib.hid hcell'
      clear haccx hsx haL hfs hov hcell' hsz
      go_wp2_with fail
      refine (write1_any _ x _ _ _ HF4.out.a (by rw [HAL.out]; have := HFS.out; omega)).mono ?_
      rintro e wa ⟨rfl, g1, ha, hg, hk1⟩
      have F1 := Lib.hid (HF4.out.stepA ha hg hk1)
      have B1 := Lib.hid (HBk.out.trans (kb_to_below hk1 HN.out HBk.out.size (fun g e => by have := HF4.out.h1 g e; have := HN.out; omega)))
      clear ha hg hk1
      go_wp2_with fail
      refine (write256_any _ x _ _ _ F1.out.b (by rw [HAL.out]; have := HFS.out; omega)).mono ?_
      rintro e wb ⟨rfl, g2, ha, hg, hk1⟩
      have F2 := Lib.hid (F1.out.stepB ha hg hk1)
      have B2 := Lib.hid (B1.out.trans (kb_to_below hk1 (Nat.le_succ_of_le HN.out) B1.out.size (fun g e => by have := F1.out.h2 g e; have := HN.out; omega)))
      clear ha hg hk1
      go_wp2_with fail
      refine (crcWrite_holds _ _ x _ (by have := HFS.out; omega) F2.out.c).mono ?_
      rintro e wc ⟨rfl, hc1, hg1⟩
      have F3 := Lib.hid (F2.out.other hg1 (fun k e => by cases e; omega) hc1 (F2.out.d.gb hg1 (by simp)))
      have B3 := Lib.hid (B2.out.trans (gb_below hg1 B2.out.size (fun k e => by cases e; have := HN.out; omega)))
      clear hc1 hg1
      go_wp2_with fail
      refine (adWrite_holds _ _ x _ (by have := HFS.out; omega) F3.out.d).mono ?_
      rintro e wd ⟨rfl, hc1, hg1⟩
      have F4 := Lib.hid (F3.out.other hg1 (fun k e => by cases e; omega) (F3.out.c.gb hg1 (by simp)) hc1)
      have B4 := Lib.hid (B3.out.trans (gb_below hg1 B3.out.size (fun k e => by cases e; have := HN.out; omega)))
      clear hc1 hg1
      have F5 := F4.out
      rw [← HX.out] at F5
      have F6 := Lib.hid F5
      have hov := HOV.out
      clear F5
      go_wp2
      go_roundw
      case rel => exact ⟨k + 1, acc ++ x, _, _, by omega, by omega, by go_num, rfl, HSX.out, F6.out, B4.out⟩
      case measure => simp [intOf]; omega
    · skip
      have hal : acc.data.toList.length = acc.size := by simp
      have h5 := digest_len blk1 5 blk1_len start1L rfl acc.data.toList
      have h8 := digest_len blk2 8 blk2_len start2L rfl acc.data.toList
      obtain ⟨s1, hs1⟩ : ∃ s : ByteArray, s = ⟨(digest blk1 start1L acc.data.toList).toArray⟩ := ⟨_, rfl⟩
      obtain ⟨s2, hs2⟩ : ∃ s : ByteArray, s = ⟨(digest blk2 start2L acc.data.toList).toArray⟩ := ⟨_, rfl⟩
      have t1 : s1.data.toList = digest blk1 start1L acc.data.toList := by rw [hs1]
      have t2 : s2.data.toList = digest blk2 start2L acc.data.toList := by rw [hs2]
      have z1 : s1.size = 20 := by
        have h := congrArg List.length t1
        rw [h5] at h
        simpa using h
      have z2 : s2.size = 32 := by
        have h := congrArg List.length t2
        rw [h8] at h
        simpa using h
      obtain ⟨hx, hhx⟩ : ∃ s : ByteArray, s = ⟨(hexL s1.data.toList).toArray⟩ := ⟨_, rfl⟩
      have th : hx.data.toList = hexL s1.data.toList := by rw [hhx]
      have zh : hx.size = 40 := by
        have h := congrArg List.length th
        rw [hexL_len] at h
        simp at h
        omega
      obtain ⟨b6, hb6⟩ : ∃ s : ByteArray, s = ⟨(b64 s2.data.toList).toArray⟩ := ⟨_, rfl⟩
      have z6 : b6.size = 44 := by
        have h : b6.data.toList.length = (b64 s2.data.toList).length := by rw [hb6]
        rw [b64_length] at h
        simp at h
        omega
      obtain ⟨X, hX⟩ : ∃ X, X = crcW 0 acc.data.toList := ⟨_, rfl⟩
      obtain ⟨Y, hY⟩ : ∃ Y, Y = adSum (adL (0, 0) acc.data.toList) := ⟨_, rfl⟩
      obtain ⟨bg, hbg⟩ : ∃ s : ByteArray, s = ⟨(bigs X.toNat 4).toArray⟩ := ⟨_, rfl⟩
      have zg : bg.size = 4 := by
        have h : bg.data.toList.length = (bigs X.toNat 4).length := by rw [hbg]
        rw [show (bigs X.toNat 4).length = 4 by simp [bigs, lits_length]] at h
        simpa using h
      have hacI : (acc.size : Int) ≤ 9223372036854775807 := by omega
      have CA : RowKit.Hid (∀ W r, holds W w3.heap.size 50 5 blk1 start1L acc.data.toList r → Calls Try.prog 39 #[.pointer (some ⟨w3.heap.size, 0, none⟩)] W fun e w' => e = .returned (.string s1) ∧ Below W.heap.size W w') := Lib.hid (fun W r h => by
        rw [hs1]
        exact sumOf1_any _ _ _ W h (by omega))
      have CB : RowKit.Hid (∀ W r, holds W (w3.heap.size + 1) 51 8 blk2 start2L acc.data.toList r → Calls Try.prog 40 #[.pointer (some ⟨w3.heap.size + 1, 0, none⟩)] W fun e w' => e = .returned (.string s2) ∧ Below W.heap.size W w') := Lib.hid (fun W r h => by
        rw [hs2]
        exact sumOf256_any _ _ _ W h (by omega))
      have CS : RowKit.Hid (∀ W, Calls Try.prog 36 #[.string acc] W fun e w' => e = .returned (.string s1) ∧ Below W.heap.size W w') := Lib.hid (fun W => by
        rw [hs1]
        exact sum1_any acc W (by omega))
      have CT : RowKit.Hid (∀ W, Calls Try.prog 41 #[.string acc] W fun e w' => e = .returned (.string s2) ∧ Below W.heap.size W w') := Lib.hid (fun W => by
        rw [hs2]
        exact sum256_any acc W (by omega))
      have CH : RowKit.Hid (∀ W, Calls Try.prog 20 #[.string s1] W fun e w' => e = .returned (.string hx) ∧ Below W.heap.size W w') := Lib.hid (fun W => by
        rw [hhx]
        exact hex_any s1 W (by omega))
      have CU : RowKit.Hid (∀ W, Calls Try.prog 21 #[.string hx] W fun e w' => e = .returned (.tuple #[.string s1, .bool true]) ∧ Below W.heap.size W w') := Lib.hid (fun W => by
        have h := unhex_any hx W (by omega)
        rw [th, unhex_hex] at h
        exact h)
      have CI : RowKit.Hid (∀ W, Calls Try.prog 25 #[.string hx] W fun e w' => e = .returned (.bool true) ∧ Below W.heap.size W w') := Lib.hid (fun W => by
        have h := id_any hx W (by omega)
        rw [th, hexed_hexL, zh] at h
        exact h)
      have C6 : RowKit.Hid (∀ W, Calls Try.prog 23 #[.string s2] W fun e w' => e = .returned (.string b6) ∧ Below W.heap.size W w') := Lib.hid (fun W => by
        rw [hb6]
        exact b64_any s2 W (by omega))
      have CX : RowKit.Hid (∀ W, crcHolds W (w3.heap.size + 2) acc.data.toList → Calls Try.prog 18 #[.pointer (some ⟨w3.heap.size + 2, 0, none⟩)] W fun e w' => e = .returned (.int .u32 (X.toNat : Int)) ∧ W = w') := Lib.hid (fun W h => by
        rw [hX]
        exact crcSum_holds _ _ W h)
      have CC : RowKit.Hid (∀ W, Calls Try.prog 12 #[.string acc] W fun e w' => e = .returned (.int .u32 (X.toNat : Int)) ∧ Below W.heap.size W w') := Lib.hid (fun W => by
        rw [hX]
        exact crc32_any acc W hacI)
      have CY : RowKit.Hid (∀ W, adHolds W (w3.heap.size + 3) acc.data.toList → Calls Try.prog 19 #[.pointer (some ⟨w3.heap.size + 3, 0, none⟩)] W fun e w' => e = .returned (.int .u32 Y) ∧ W.grownBy w' none) := Lib.hid (fun W h => by
        rw [hY]
        exact adSum_holds _ _ W h)
      have CD : RowKit.Hid (∀ W, Calls Try.prog 14 #[.string acc] W fun e w' => e = .returned (.int .u32 Y) ∧ Below W.heap.size W w') := Lib.hid (fun W => by
        rw [hY]
        exact adler32_any acc W hacI)
      have CG : RowKit.Hid (∀ W, Calls Try.prog 28 #[.int .u64 (X.toNat : Int), .int .i64 4] W fun e w' => e = .returned (.string bg) ∧ Below W.heap.size W w') := Lib.hid (fun W => by
        rw [hbg]
        exact big_any X.toNat 4 4 (Or.inr rfl) (by decide) (u32_u64 X) W)
      have CF : RowKit.Hid (∀ W, Calls Try.prog 32 #[.string bg] W fun e w' => e = .returned (.int .u64 (X.toNat : Int)) ∧ W = w') := Lib.hid (fun W => by
        have h := fromBig_any bg W (by omega)
        rw [show bg.data.toList = bigs X.toNat 4 by rw [hbg], big4] at h
        exact h)
      have hz6 : (b6.size : Int) = 44 := by omega
      have hXb := X.isLt
      have HXB := Lib.hid hXb
      have HAC := Lib.hid hacc
      clear hal h5 h8 hs1 hs2 t1 t2 z1 z2 hhx th zh hb6 hX hY hbg zg hacI hXb hacc
      by_cases hkn : k < n
      · have h12 : k = 12 := by omega
        subst h12
        have hkI : (12 : Int) < (n : Int) := by omega
        clear hgo
        have F0 := HF4
        have B0 := HBk
        clear HF4 HBk
        go_wp2_with fail
        refine (CA.out _ _ F0.out.a).mono ?_
        rintro e v1 ⟨rfl, hb1⟩
        have F1 := Lib.hid (F0.out.keep hb1)
        have B1 := Lib.hid (B0.out.trans (hb1.mono B0.out.size))
        clear hb1 F0 B0
        go_wp2_with fail
        refine (CH.out _).mono ?_
        rintro e v2 ⟨rfl, hb2⟩
        have F2 := Lib.hid (F1.out.keep hb2)
        have B2 := Lib.hid (B1.out.trans (hb2.mono B1.out.size))
        clear hb2 F1 B1
        go_wp2_with fail
        refine (CU.out _).mono ?_
        rintro e v3 ⟨rfl, hb3⟩
        have F3 := Lib.hid (F2.out.keep hb3)
        have B3 := Lib.hid (B2.out.trans (hb3.mono B2.out.size))
        clear hb3 F2 B2
        go_wp2_with fail
        refine (CS.out _).mono ?_
        rintro e v4 ⟨rfl, hb4⟩
        have F4 := Lib.hid (F3.out.keep hb4)
        have B4 := Lib.hid (B3.out.trans (hb4.mono B3.out.size))
        clear hb4 F3 B3
        go_wp2_with fail
        refine (CI.out _).mono ?_
        rintro e v5 ⟨rfl, hb5⟩
        have F5 := Lib.hid (F4.out.keep hb5)
        have B5 := Lib.hid (B4.out.trans (hb5.mono B4.out.size))
        clear hb5 F4 B4
        go_wp2_with fail
        refine (CB.out _ _ F5.out.b).mono ?_
        rintro e v6 ⟨rfl, hb6⟩
        have F6 := Lib.hid (F5.out.keep hb6)
        have B6 := Lib.hid (B5.out.trans (hb6.mono B5.out.size))
        clear hb6 F5 B5
        go_wp2_with fail
        refine (CT.out _).mono ?_
        rintro e v7 ⟨rfl, hb7⟩
        have F7 := Lib.hid (F6.out.keep hb7)
        have B7 := Lib.hid (B6.out.trans (hb7.mono B6.out.size))
        clear hb7 F6 B6
        go_wp2_with fail
        refine (CB.out _ _ F7.out.b).mono ?_
        rintro e v8 ⟨rfl, hb8⟩
        have F8 := Lib.hid (F7.out.keep hb8)
        have B8 := Lib.hid (B7.out.trans (hb8.mono B7.out.size))
        clear hb8 F7 B7
        go_wp2_with fail
        refine (C6.out _).mono ?_
        rintro e v9 ⟨rfl, hb9⟩
        have F9 := Lib.hid (F8.out.keep hb9)
        have B9 := Lib.hid (B8.out.trans (hb9.mono B8.out.size))
        clear hb9 F8 B8
        go_wp2_with fail
        refine (CX.out _ F9.out.c).mono ?_
        rintro e v10 ⟨rfl, rfl⟩
        go_wp2_with fail
        refine (CC.out _).mono ?_
        rintro e v10 ⟨rfl, hb10⟩
        have F10 := Lib.hid (F9.out.keep hb10)
        have B10 := Lib.hid (B9.out.trans (hb10.mono B9.out.size))
        clear hb10 F9 B9
        go_wp2_with fail
        refine (CY.out _ F10.out.d).mono ?_
        rintro e v11 ⟨rfl, hg⟩
        have hb11 := gb_below hg (Nat.le_refl _) (fun k e => by cases e)
        have F11 := Lib.hid (F10.out.keep hb11)
        have B11 := Lib.hid (B10.out.trans (hb11.mono B10.out.size))
        clear hb11 hg F10 B10
        go_wp2_with fail
        refine (CD.out _).mono ?_
        rintro e v12 ⟨rfl, hb12⟩
        have F12 := Lib.hid (F11.out.keep hb12)
        have B12 := Lib.hid (B11.out.trans (hb12.mono B11.out.size))
        clear hb12 F11 B11
        go_wp2_with fail
        refine (CX.out _ F12.out.c).mono ?_
        rintro e v13 ⟨rfl, rfl⟩
        go_wp2_with fail
        refine (CG.out _).mono ?_
        rintro e v13 ⟨rfl, hb13⟩
        have F13 := Lib.hid (F12.out.keep hb13)
        have B13 := Lib.hid (B12.out.trans (hb13.mono B12.out.size))
        clear hb13 F12 B12
        go_wp2_with fail
        refine (CF.out _).mono ?_
        rintro e v14 ⟨rfl, rfl⟩
        go_wp2_with fail
        refine (CX.out _ F13.out.c).mono ?_
        rintro e v14 ⟨rfl, rfl⟩
        go_wp2
        go_ret
        exact ⟨rfl, B13.out⟩
      · have hkn2 : k = n := by omega
        subst hkn2
        clear hgo hkn
        have F0 := HF4
        have B0 := HBk
        clear HF4 HBk
        go_wp2_with fail
        refine (CA.out _ _ F0.out.a).mono ?_
        rintro e v1 ⟨rfl, hb1⟩
        have F1 := Lib.hid (F0.out.keep hb1)
        have B1 := Lib.hid (B0.out.trans (hb1.mono B0.out.size))
        clear hb1 F0 B0
        go_wp2_with fail
        refine (CH.out _).mono ?_
        rintro e v2 ⟨rfl, hb2⟩
        have F2 := Lib.hid (F1.out.keep hb2)
        have B2 := Lib.hid (B1.out.trans (hb2.mono B1.out.size))
        clear hb2 F1 B1
        go_wp2_with fail
        refine (CU.out _).mono ?_
        rintro e v3 ⟨rfl, hb3⟩
        have F3 := Lib.hid (F2.out.keep hb3)
        have B3 := Lib.hid (B2.out.trans (hb3.mono B2.out.size))
        clear hb3 F2 B2
        go_wp2_with fail
        refine (CS.out _).mono ?_
        rintro e v4 ⟨rfl, hb4⟩
        have F4 := Lib.hid (F3.out.keep hb4)
        have B4 := Lib.hid (B3.out.trans (hb4.mono B3.out.size))
        clear hb4 F3 B3
        go_wp2_with fail
        refine (CI.out _).mono ?_
        rintro e v5 ⟨rfl, hb5⟩
        have F5 := Lib.hid (F4.out.keep hb5)
        have B5 := Lib.hid (B4.out.trans (hb5.mono B4.out.size))
        clear hb5 F4 B4
        go_wp2_with fail
        refine (CB.out _ _ F5.out.b).mono ?_
        rintro e v6 ⟨rfl, hb6⟩
        have F6 := Lib.hid (F5.out.keep hb6)
        have B6 := Lib.hid (B5.out.trans (hb6.mono B5.out.size))
        clear hb6 F5 B5
        go_wp2_with fail
        refine (CT.out _).mono ?_
        rintro e v7 ⟨rfl, hb7⟩
        have F7 := Lib.hid (F6.out.keep hb7)
        have B7 := Lib.hid (B6.out.trans (hb7.mono B6.out.size))
        clear hb7 F6 B6
        go_wp2_with fail
        refine (CB.out _ _ F7.out.b).mono ?_
        rintro e v8 ⟨rfl, hb8⟩
        have F8 := Lib.hid (F7.out.keep hb8)
        have B8 := Lib.hid (B7.out.trans (hb8.mono B7.out.size))
        clear hb8 F7 B7
        go_wp2_with fail
        refine (C6.out _).mono ?_
        rintro e v9 ⟨rfl, hb9⟩
        have F9 := Lib.hid (F8.out.keep hb9)
        have B9 := Lib.hid (B8.out.trans (hb9.mono B8.out.size))
        clear hb9 F8 B8
        go_wp2_with fail
        refine (CX.out _ F9.out.c).mono ?_
        rintro e v10 ⟨rfl, rfl⟩
        go_wp2_with fail
        refine (CC.out _).mono ?_
        rintro e v10 ⟨rfl, hb10⟩
        have F10 := Lib.hid (F9.out.keep hb10)
        have B10 := Lib.hid (B9.out.trans (hb10.mono B9.out.size))
        clear hb10 F9 B9
        go_wp2_with fail
        refine (CY.out _ F10.out.d).mono ?_
        rintro e v11 ⟨rfl, hg⟩
        have hb11 := gb_below hg (Nat.le_refl _) (fun k e => by cases e)
        have F11 := Lib.hid (F10.out.keep hb11)
        have B11 := Lib.hid (B10.out.trans (hb11.mono B10.out.size))
        clear hb11 hg F10 B10
        go_wp2_with fail
        refine (CD.out _).mono ?_
        rintro e v12 ⟨rfl, hb12⟩
        have F12 := Lib.hid (F11.out.keep hb12)
        have B12 := Lib.hid (B11.out.trans (hb12.mono B11.out.size))
        clear hb12 F11 B11
        go_wp2_with fail
        refine (CX.out _ F12.out.c).mono ?_
        rintro e v13 ⟨rfl, rfl⟩
        go_wp2_with fail
        refine (CG.out _).mono ?_
        rintro e v13 ⟨rfl, hb13⟩
        have F13 := Lib.hid (F12.out.keep hb13)
        have B13 := Lib.hid (B12.out.trans (hb13.mono B12.out.size))
        clear hb13 F12 B12
        go_wp2_with fail
        refine (CF.out _).mono ?_
        rintro e v14 ⟨rfl, rfl⟩
        go_wp2_with fail
        refine (CX.out _ F13.out.c).mono ?_
        rintro e v14 ⟨rfl, rfl⟩
        go_wp2
        go_ret
        exact ⟨rfl, B13.out⟩
end Go.Proofs.Ytdhafmjhohnclaa
