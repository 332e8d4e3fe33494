/- THE WALKS: the two sums as they are called: begun, written, summed, at once. Conditions: the texts are short. -/
import Derived.Test.YtdhafmjhohnclaaShaSum
import Derived.Test.YtdhafmjhohnclaaShaBlock2
import Derived.Test.YtdhafmjhohnclaaShaAbc
import Derived.Deep.RegionHeld3
namespace Go.Proofs.Ytdhafmjhohnclaa
open Go.RowKit Sums
set_option linter.unusedVariables false

def start2L : List (BitVec 32) := [1779033703#32, 3144134277#32, 1013904242#32, 2773480762#32, 1359893119#32, 2600822924#32, 528734635#32, 1541459225#32]
theorem blkC_2 : BlkC 47 8 blk2 := ⟨fun args w => by rfl, blk2_len, fun s h g cap w h1 h2 h3 h4 => block256_any s h g cap w h1 h2 h3 h4⟩
theorem start_cells (w : World) (S : List (BitVec 32)) : ∀ j u, (cv S)[j]? = some u → (w.alloc (.cells (cv S).toArray 24)).cell? ((⟨w.heap.size, 0, none⟩ : Addr).add j) = some u := fun j u hu =>
  World.news_of_block (heap_alloc_same w (.cells (cv S).toArray 24)) j u (by simpa using hu)
theorem kb_alloc (b : Nat) (row : Option Nat) (w : World) (o : Obj) : Kb b row w (w.alloc o) := ⟨rfl, rfl, rfl, by simp, fun k hk _ _ => Below.heap_alloc _ _ _ hk⟩
theorem holds_alloc {w : World} {b : Nat} {T : TypeId} {k : Nat} {F : Blk} {S : List (BitVec 32)} {l : List UInt8} {row : Option Nat} (h : holds w b T k F S l row) (o : Obj) : holds (w.alloc o) b T k F S l row :=
  holds_keep h (Below.heap_alloc _ _ _ (holds_lt h)) (fun g hg => Below.heap_alloc _ _ _ (by subst hg; exact holds_row h))

set_option maxRecDepth 100000 in
theorem start1_any (w : World) : Calls Try.prog 44 #[] w fun e w' => e = .returned (.slice (some ⟨w.heap.size, 0, none⟩) 5 5) ∧ w' = w.alloc (.cells (cv start1L).toArray 24) := by
  go_enter Try.func44, Try.ntmps44
  go_wp2
  go_ret
  exact ⟨rfl, rfl⟩

set_option maxRecDepth 100000 in
theorem write1_any (b : Nat) (t : ByteArray) (l : List UInt8) (row : Option Nat) (w : World) (h : holds w b 50 5 blk1 start1L l row) (hsz : l.length + t.size ≤ 1000000) :
    Calls Try.prog 37 #[.pointer (some ⟨b, 0, none⟩), .string t] w fun e w' => e = .returned (.tuple #[]) ∧
      ∃ g, holds w' b 50 5 blk1 start1L (l ++ t.data.toList) (some g) ∧ (row = some g ∨ (row = none ∧ w.heap.size ≤ g)) ∧ Kb b row w w' := by
  have HW := Lib.hid (write_any 45 5 blk1 start1L 50 blkC_1 (by decide) (by decide) b w.heap.size 5 t l row (w.drew.alloc (.cells (cv start1L).toArray 24)) (holds_alloc h _) rfl (start_cells w.drew _) hsz)
  have HL := Lib.hid (Nat.le_of_lt (show w.heap.size < (w.drew.alloc (.cells (cv start1L).toArray 24)).heap.size by rw [World.size_alloc]; exact Nat.lt_succ_self _))
  have HK := Lib.hid (kb_trans (kb_drew (kb_refl b row w)) (kb_alloc b row w.drew (.cells (cv start1L).toArray 24)))
  clear h
  go_enter Try.func37, Try.ntmps37
  go_wp2_with fail
  go_region_held3 (fun w' => True)
    (exact True.intro)
    (first
      | (go_at_call 44
         refine (start1_any _).mono ?_
         rintro e w' ⟨rfl, rfl⟩)
      | (go_at_call 43
         refine (HW.out).mono ?_
         rintro e w3 ⟨rfl, g, h3, hg3, hk3⟩))
  have H3 := Lib.hid h3
  have HG3 := Lib.hid hg3
  have HK3 := Lib.hid hk3
  clear h3 hg3 hk3
  go_wp2
  go_end0
  refine ⟨rfl, g, H3.out, ?_, kb_trans HK.out HK3.out⟩
  rcases HG3.out with h1 | ⟨h1, h2⟩
  · exact .inl h1
  · exact .inr ⟨h1, Nat.le_trans HL.out h2⟩

set_option maxRecDepth 100000 in
theorem sumOf1_any (b : Nat) (l : List UInt8) (row : Option Nat) (w : World) (h : holds w b 50 5 blk1 start1L l row) (hsz : l.length ≤ 10000) :
    Calls Try.prog 39 #[.pointer (some ⟨b, 0, none⟩)] w fun e w' => e = .returned (.string ⟨(digest blk1 start1L l).toArray⟩) ∧ Below w.heap.size w w' := by
  have HW := Lib.hid (sum_any 45 5 blk1 start1L 50 blkC_1 (by decide) (by decide) b w.heap.size 5 l row (w.drew.alloc (.cells (cv start1L).toArray 24)) (holds_alloc h _) rfl (start_cells w.drew _) (by rw [World.size_alloc]; exact Nat.lt_succ_self _) hsz)
  have HB := Lib.hid ((Below.refl w.heap.size w).drew.alloc (Nat.le_refl _) (.cells (cv start1L).toArray 24))
  have HL := Lib.hid (show w.heap.size ≤ (w.drew.alloc (.cells (cv start1L).toArray 24)).heap.size by rw [World.size_alloc]; exact Nat.le_succ _)
  clear h
  go_enter Try.func39, Try.ntmps39
  go_wp2_with fail
  go_region_held3 (fun w' => True)
    (exact True.intro)
    (first
      | (go_at_call 44
         refine (start1_any _).mono ?_
         rintro e w' ⟨rfl, rfl⟩)
      | (go_at_call 48
         refine (HW.out).mono ?_
         rintro e w3 ⟨rfl, h3⟩))
  have H3 := Lib.hid h3
  clear h3
  go_wp2
  go_ret
  exact ⟨rfl, HB.out.trans (H3.out.mono HL.out)⟩

set_option maxRecDepth 100000 in
theorem sum1_any (t : ByteArray) (w : World) (hsz : t.size ≤ 10000) :
    Calls Try.prog 36 #[.string t] w fun e w' => e = .returned (.string ⟨(digest blk1 start1L t.data.toList).toArray⟩) ∧ Below w.heap.size w w' := by
  have hlen : t.data.toList.length = t.size := by simp
  have HLEN := Lib.hid hlen
  have h0 : holds (w.alloc (.cells #[.slice none 0 0, .string ⟨#[]⟩, .int .u64 0] 50)) w.heap.size 50 5 blk1 start1L [] none := ⟨rfl, heap_alloc_same w _⟩
  have HW := Lib.hid (write1_any w.heap.size t [] none _ h0 (by simp; omega))
  have HB := Lib.hid ((Below.refl w.heap.size w).alloc (Nat.le_refl _) (.cells #[.slice none 0 0, .string ⟨#[]⟩, .int .u64 0] 50))
  have HL := Lib.hid (show w.heap.size ≤ (w.alloc (.cells #[.slice none 0 0, .string ⟨#[]⟩, .int .u64 0] 50)).heap.size by rw [World.size_alloc]; exact Nat.le_succ _)
  clear h0 hlen
  go_enter Try.func36, Try.ntmps36
  go_wp2_with fail
  refine (HW.out).mono ?_
  rintro e w3 ⟨rfl, g, h3, hg3, hk3⟩
  rw [List.nil_append] at h3
  have HS := Lib.hid (sumOf1_any w.heap.size t.data.toList (some g) w3 h3 (by rw [HLEN.out]; exact hsz))
  have hb3 : Below w.heap.size w w3 := HB.out.trans (kb_to_below hk3 (Nat.le_refl _) HL.out (fun g h => by cases h))
  have HB3 := Lib.hid hb3
  clear h3 hg3 hk3 hb3
  go_wp2_with fail
  refine (HS.out).mono ?_
  rintro e w4 ⟨rfl, h4⟩
  have HB4 := Lib.hid (HB3.out.trans (h4.mono HB3.out.size))
  clear h4
  go_wp2
  go_ret
  exact ⟨rfl, HB4.out⟩

set_option maxRecDepth 100000 in
theorem start256_any (w : World) : Calls Try.prog 46 #[] w fun e w' => e = .returned (.slice (some ⟨w.heap.size, 0, none⟩) 8 8) ∧ w' = w.alloc (.cells (cv start2L).toArray 24) := by
  go_enter Try.func46, Try.ntmps46
  go_wp2
  go_ret
  exact ⟨rfl, rfl⟩

set_option maxRecDepth 100000 in
theorem write256_any (b : Nat) (t : ByteArray) (l : List UInt8) (row : Option Nat) (w : World) (h : holds w b 51 8 blk2 start2L l row) (hsz : l.length + t.size ≤ 1000000) :
    Calls Try.prog 38 #[.pointer (some ⟨b, 0, none⟩), .string t] w fun e w' => e = .returned (.tuple #[]) ∧
      ∃ g, holds w' b 51 8 blk2 start2L (l ++ t.data.toList) (some g) ∧ (row = some g ∨ (row = none ∧ w.heap.size ≤ g)) ∧ Kb b row w w' := by
  have HW := Lib.hid (write_any 47 8 blk2 start2L 51 blkC_2 (by decide) (by decide) b w.heap.size 8 t l row (w.drew.alloc (.cells (cv start2L).toArray 24)) (holds_alloc h _) rfl (start_cells w.drew _) hsz)
  have HL := Lib.hid (Nat.le_of_lt (show w.heap.size < (w.drew.alloc (.cells (cv start2L).toArray 24)).heap.size by rw [World.size_alloc]; exact Nat.lt_succ_self _))
  have HK := Lib.hid (kb_trans (kb_drew (kb_refl b row w)) (kb_alloc b row w.drew (.cells (cv start2L).toArray 24)))
  clear h
  go_enter Try.func38, Try.ntmps38
  go_wp2_with fail
  go_region_held3 (fun w' => True)
    (exact True.intro)
    (first
      | (go_at_call 46
         refine (start256_any _).mono ?_
         rintro e w' ⟨rfl, rfl⟩)
      | (go_at_call 43
         refine (HW.out).mono ?_
         rintro e w3 ⟨rfl, g, h3, hg3, hk3⟩))
  have H3 := Lib.hid h3
  have HG3 := Lib.hid hg3
  have HK3 := Lib.hid hk3
  clear h3 hg3 hk3
  go_wp2
  go_end0
  refine ⟨rfl, g, H3.out, ?_, kb_trans HK.out HK3.out⟩
  rcases HG3.out with h1 | ⟨h1, h2⟩
  · exact .inl h1
  · exact .inr ⟨h1, Nat.le_trans HL.out h2⟩

set_option maxRecDepth 100000 in
theorem sumOf256_any (b : Nat) (l : List UInt8) (row : Option Nat) (w : World) (h : holds w b 51 8 blk2 start2L l row) (hsz : l.length ≤ 10000) :
    Calls Try.prog 40 #[.pointer (some ⟨b, 0, none⟩)] w fun e w' => e = .returned (.string ⟨(digest blk2 start2L l).toArray⟩) ∧ Below w.heap.size w w' := by
  have HW := Lib.hid (sum_any 47 8 blk2 start2L 51 blkC_2 (by decide) (by decide) b w.heap.size 8 l row (w.drew.alloc (.cells (cv start2L).toArray 24)) (holds_alloc h _) rfl (start_cells w.drew _) (by rw [World.size_alloc]; exact Nat.lt_succ_self _) hsz)
  have HB := Lib.hid ((Below.refl w.heap.size w).drew.alloc (Nat.le_refl _) (.cells (cv start2L).toArray 24))
  have HL := Lib.hid (show w.heap.size ≤ (w.drew.alloc (.cells (cv start2L).toArray 24)).heap.size by rw [World.size_alloc]; exact Nat.le_succ _)
  clear h
  go_enter Try.func40, Try.ntmps40
  go_wp2_with fail
  go_region_held3 (fun w' => True)
    (exact True.intro)
    (first
      | (go_at_call 46
         refine (start256_any _).mono ?_
         rintro e w' ⟨rfl, rfl⟩)
      | (go_at_call 48
         refine (HW.out).mono ?_
         rintro e w3 ⟨rfl, h3⟩))
  have H3 := Lib.hid h3
  clear h3
  go_wp2
  go_ret
  exact ⟨rfl, HB.out.trans (H3.out.mono HL.out)⟩

set_option maxRecDepth 100000 in
theorem sum256_any (t : ByteArray) (w : World) (hsz : t.size ≤ 10000) :
    Calls Try.prog 41 #[.string t] w fun e w' => e = .returned (.string ⟨(digest blk2 start2L t.data.toList).toArray⟩) ∧ Below w.heap.size w w' := by
  have hlen : t.data.toList.length = t.size := by simp
  have HLEN := Lib.hid hlen
  have h0 : holds (w.alloc (.cells #[.slice none 0 0, .string ⟨#[]⟩, .int .u64 0] 51)) w.heap.size 51 8 blk2 start2L [] none := ⟨rfl, heap_alloc_same w _⟩
  have HW := Lib.hid (write256_any w.heap.size t [] none _ h0 (by simp; omega))
  have HB := Lib.hid ((Below.refl w.heap.size w).alloc (Nat.le_refl _) (.cells #[.slice none 0 0, .string ⟨#[]⟩, .int .u64 0] 51))
  have HL := Lib.hid (show w.heap.size ≤ (w.alloc (.cells #[.slice none 0 0, .string ⟨#[]⟩, .int .u64 0] 51)).heap.size by rw [World.size_alloc]; exact Nat.le_succ _)
  clear h0 hlen
  go_enter Try.func41, Try.ntmps41
  go_wp2_with fail
  refine (HW.out).mono ?_
  rintro e w3 ⟨rfl, g, h3, hg3, hk3⟩
  rw [List.nil_append] at h3
  have HS := Lib.hid (sumOf256_any w.heap.size t.data.toList (some g) w3 h3 (by rw [HLEN.out]; exact hsz))
  have hb3 : Below w.heap.size w w3 := HB.out.trans (kb_to_below hk3 (Nat.le_refl _) HL.out (fun g h => by cases h))
  have HB3 := Lib.hid hb3
  clear h3 hg3 hk3 hb3
  go_wp2_with fail
  refine (HS.out).mono ?_
  rintro e w4 ⟨rfl, h4⟩
  have HB4 := Lib.hid (HB3.out.trans (h4.mono HB3.out.size))
  clear h4
  go_wp2
  go_ret
  exact ⟨rfl, HB4.out⟩

set_option maxRecDepth 100000 in
theorem abc_bl : bl ([97, 98, 99] ++ padOf 3) 0 = abcB := by decide +kernel
theorem abc_digest : digest blk1 start1L [97, 98, 99] = outW [2845392438#32, 1191608682#32, 3124634993#32, 2018558572#32, 2630932637#32] := by
  unfold digest full
  rw [show ([97, 98, 99] : List UInt8).length = 3 from rfl, show (([97, 98, 99] : List UInt8) ++ padOf 3).length / 64 = 1 by decide +kernel, eat, eat, abc_bl, abc_blk]
end Go.Proofs.Ytdhafmjhohnclaa
