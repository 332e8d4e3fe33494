/- THE SUMS AS WHAT A BLOCK HOLDS: of all that was written so far. -/
import Derived.Test.YtdhafmjhohnclaaSumsW2
namespace Go.Proofs.Ytdhafmjhohnclaa
open Go.RowKit Sums

def crcHolds (w : World) (b : Nat) (l : List UInt8) : Prop := w.heap[b]? = some (.cells #[.int .u32 ((crcW 0 l).toNat : Int)] 29 (0, 0))
def adHolds (w : World) (b : Nat) (l : List UInt8) : Prop := w.heap[b]? = some (two (adL (0, 0) l).1 (adL (0, 0) l).2 31)

theorem crcHolds.gb {w w' : World} {b : Nat} {l : List UInt8} {r : Option Nat} (h : crcHolds w b l) (hg : w.grownBy w' r) (hr : some b ≠ r) : crcHolds w' b l := gb_heap hg h hr
theorem adHolds.gb {w w' : World} {b : Nat} {l : List UInt8} {r : Option Nat} (h : adHolds w b l) (hg : w.grownBy w' r) (hr : some b ≠ r) : adHolds w' b l := gb_heap hg h hr
theorem crcHolds.below {w w' : World} {b B : Nat} {l : List UInt8} (h : crcHolds w b l) (hb : Below B w w') (hB : b < B) : crcHolds w' b l := below_heap hb h hB
theorem adHolds.below {w w' : World} {b B : Nat} {l : List UInt8} (h : adHolds w b l) (hb : Below B w w') (hB : b < B) : adHolds w' b l := below_heap hb h hB

theorem crcWrite_holds (l : List UInt8) (b : Nat) (s : ByteArray) (w : World) (hs : (s.size : Int) ≤ 9223372036854775807) (h : crcHolds w b l) :
    Calls Try.prog 16 #[.pointer (some ⟨b, 0, none⟩), .string s] w fun e w' => e = .returned (.tuple #[]) ∧ crcHolds w' b (l ++ s.data.toList) ∧ w.grownBy w' (some b) := by
  refine (crcWrite_any (crcW 0 l) b s w hs ((cell_at h 0).trans rfl) (free_at h 0)).mono ?_
  rintro e w' ⟨rfl, rfl⟩
  refine ⟨rfl, ?_, gb_set (gb_refl _ _) _ _⟩
  rw [crcW_append]
  exact heap_set h 0 _

theorem crcSum_holds (l : List UInt8) (b : Nat) (w : World) (h : crcHolds w b l) :
    Calls Try.prog 18 #[.pointer (some ⟨b, 0, none⟩)] w fun e w' => e = .returned (.int .u32 (crcW 0 l).toNat) ∧ w = w' :=
  crcSum_any (crcW 0 l) b w ((cell_at h 0).trans rfl)

theorem adWrite_holds (l : List UInt8) (b : Nat) (s : ByteArray) (w : World) (hs : (s.size : Int) ≤ 9223372036854775807) (h : adHolds w b l) :
    Calls Try.prog 17 #[.pointer (some ⟨b, 0, none⟩), .string s] w fun e w' => e = .returned (.tuple #[]) ∧ adHolds w' b (l ++ s.data.toList) ∧ w.grownBy w' (some b) := by
  obtain ⟨l1, l2⟩ := adL_lt l (0, 0) (by decide) (by decide)
  refine (adWrite_any (adL (0, 0) l) l1 l2 b s w hs h).mono ?_
  rintro e w' ⟨rfl, hb, hg⟩
  refine ⟨rfl, ?_, hg⟩
  rw [adL_append] at hb
  exact hb

theorem adSum_holds (l : List UInt8) (b : Nat) (w : World) (h : adHolds w b l) :
    Calls Try.prog 19 #[.pointer (some ⟨b, 0, none⟩)] w fun e w' => e = .returned (.int .u32 (adSum (adL (0, 0) l))) ∧ w.grownBy w' none := by
  obtain ⟨l1, l2⟩ := adL_lt l (0, 0) (by decide) (by decide)
  exact adSum_any (adL (0, 0) l) l1 l2 b w h

end Go.Proofs.Ytdhafmjhohnclaa
