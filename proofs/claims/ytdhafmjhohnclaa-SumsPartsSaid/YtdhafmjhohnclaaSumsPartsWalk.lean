/- THE WALK of 'SumsParts'. -/
import Derived.Test.YtdhafmjhohnclaaSumsHold
import Derived.Test.YtdhafmjhohnclaaSumsSumsWalk
import Derived.Test.YtdhafmjhohnclaaLaw
namespace Go.Proofs.Ytdhafmjhohnclaa
open Go.RowKit Sums
set_option linter.unusedVariables false

set_option maxHeartbeats 2000000 in
theorem sumsParts_walk (w : World) (A : Option Addr) (n cap : Nat) (ss : List ByteArray) (hS : StrsIn w A n cap ss) :
    Calls Try.prog 4 #[.slice A n cap] w fun e w' => e = .returned (.bool true) ∧ Below w.heap.size w w' := by
  have hcap := hS.cap
  have hle := hS.le
  unfold maxLen at hcap
  have HS := Lib.hid hS
  clear hS
  go_enter Try.func4, Try.ntmps4
  go_wp2
  go_loopw [5, 6] (fun v i wr => ∃ (k : Nat) (acc : ByteArray), k ≤ n ∧ k ≤ 30 ∧ i = .int .i64 k ∧ v = .string acc ∧ (acc.size : Int) ≤ 200 * k ∧ crcHolds wr w.heap.size acc.data.toList ∧ adHolds wr (w.heap.size + 1) acc.data.toList ∧ Below w.heap.size w wr) (fun _ i _ => 30 - (intOf i).toNat)
  case atStart => exact ⟨0, ByteArray.empty, Nat.zero_le _, Nat.zero_le _, rfl, rfl, by decide, heap_alloc_keep (heap_alloc_same w _) _, heap_alloc_two w _ _, ((Below.refl _ _).alloc (Nat.le_refl _) _).alloc (by simp) _⟩
  case round =>
    obtain ⟨k, acc, hk, hk30, rfl, rfl, hacc, hcr, had, hb⟩ := hrel
    have HC := Lib.hid hcr
    have HA := Lib.hid had
    clear hcr had
    by_cases hkn : k < n
    · by_cases hk2 : k < 30
      · obtain ⟨ad, hA, hab, hcell⟩ := HS.out.at_ k hkn
        subst hA
        have hsz := HS.out.size k hkn
        obtain ⟨x0, hx0⟩ : ∃ x0, x0 = ss.getD k ByteArray.empty := ⟨_, rfl⟩
        rw [← hx0] at hcell hsz
        unfold maxLen at hsz
        clear hx0
        have hcell' : wr.cell? (ad.add k) = some (.string x0) := (hb.cell (p := ad.add k) (by rw [block_of_add]; exact hab)).trans hcell
        have HB := Lib.hid hb
        clear hb hcell
        have hfs := few_size x0 200
        go_wp2_with fail
        refine (few_any x0 200 _ (by omega) (by omega)).mono ?_
        rintro e w1 ⟨rfl, rfl⟩
        generalize fewB x0 200 = x at hfs
        have haccx : (acc ++ x).data.toList = acc.data.toList ++ x.data.toList := by rw [ByteArray.data_append, Array.toList_append]
        have hsx : ((acc ++ x).size : Int) ≤ 200 * (k + 1) := by rw [ByteArray.size_append]; omega
        have HX := Lib.hid haccx
        clear haccx
        go_wp2_with fail
        refine (crcWrite_holds _ _ x _ (by omega) HC.out).mono ?_
        rintro e w1 ⟨rfl, hc1, hg1⟩
        have ha1 := HA.out.gb hg1 (by simp)
        have hb1 := below_gb HB.out hg1 HB.out.size (Nat.le_refl _)
        go_wp2_with fail
        refine (adWrite_holds _ _ x _ (by omega) ha1).mono ?_
        rintro e w2 ⟨rfl, ha2, hg2⟩
        have hc2 := hc1.gb hg2 (by simp)
        have hb2 := below_gb hb1 hg2 hb1.size (by omega)
        rw [← HX.out] at ha2 hc2
        clear ha1 hb1 hc1 hg1 hg2
        have HC2 := Lib.hid hc2
        have HA2 := Lib.hid ha2
        have HB2 := Lib.hid hb2
        clear hc2 ha2 hb2
        go_wp2_with fail
        refine (crcSum_holds _ _ _ HC2.out).mono ?_
        rintro e w3 ⟨rfl, rfl⟩
        go_wp2_with fail
        refine (refCrc_any (acc ++ x) _ (by omega)).mono ?_
        rintro e w3 ⟨rfl, rfl⟩
        go_wp2_with fail
        refine (adSum_holds _ _ _ HA2.out).mono ?_
        rintro e w3 ⟨rfl, hg3⟩
        have HC3 := Lib.hid (HC2.out.gb hg3 (by simp))
        have HA3 := Lib.hid (HA2.out.gb hg3 (by simp))
        have HB3 := Lib.hid (HB2.out.trans (gb_below hg3 HB2.out.size (by simp)))
        clear hg3
        go_wp2_with fail
        refine (refAdler_any (acc ++ x) _ (by omega)).mono ?_
        rintro e w4 ⟨rfl, rfl⟩
        go_wp2
        go_roundw
        case rel => exact ⟨k + 1, acc ++ x, by omega, by omega, by go_num, rfl, by omega, HC3.out, HA3.out, HB3.out⟩
        case measure => simp [intOf]; omega
      · go_wp2_with fail
        refine (awake_any _).mono ?_
        rintro e w1 ⟨rfl, hb1⟩
        go_wp2
        go_ret
        exact ⟨rfl, hb.trans (hb1.mono hb.size)⟩
    · go_wp2_with fail
      refine (awake_any _).mono ?_
      rintro e w1 ⟨rfl, hb1⟩
      go_wp2
      go_ret
      exact ⟨rfl, hb.trans (hb1.mono hb.size)⟩
end Go.Proofs.Ytdhafmjhohnclaa
