/- THE WALKS of Text and of the law's 'same'. Conditions: the library's table stands. -/
import Derived.Test.YtkpiebcncjlgcaaDoorCalStamp
import Derived.Test.YtkpiebcncjlgcaaDoorCalListed
import Derived.BigQuiet
import Derived.Deep.QuietTactic
namespace Go.Proofs.YtkpiebcncjlgcaaDoor
open Go.RowKit
set_option linter.unusedVariables false

/-- A stamp's text. -/
def textB (s : ByteArray) : ByteArray := s.extract 0 4 ++ ⟨#[45]⟩ ++ s.extract 4 6 ++ ⟨#[45]⟩ ++ s.extract 6 8 ++ ⟨#[84]⟩ ++ s.extract 8 10 ++ ⟨#[58]⟩ ++ s.extract 10 12 ++ ⟨#[58]⟩ ++ s.extract 12 14 ++ ⟨#[90]⟩

set_option maxRecDepth 100000 in
set_option maxHeartbeats 2000000 in
theorem text_in (t : Int) (w : World) (h1 : -62135596800 ≤ t) (h2 : t ≤ 253402300799) (ht : tabOk w) (hsz : (⟨(stampOf t).toArray⟩ : ByteArray).size = 14) :
    Calls Tryd.prog 17 #[.int .i64 t] w fun e w' => e = .returned (.tuple #[.string (textB ⟨(stampOf t).toArray⟩), .int .i64 0]) ∧ Below w.heap.size w w' := by
  have hst := stamp_in t w h1 h2 ht
  generalize (⟨(stampOf t).toArray⟩ : ByteArray) = s at *
  have e12 : s.extract 12 s.size = s.extract 12 14 := by rw [hsz]
  have z0 : (s.extract 0 4).size = 4 := by rw [ByteArray.size_extract, hsz]; rfl
  have z1 : (s.extract 4 6).size = 2 := by rw [ByteArray.size_extract, hsz]; rfl
  have z2 : (s.extract 6 8).size = 2 := by rw [ByteArray.size_extract, hsz]; rfl
  have z3 : (s.extract 8 10).size = 2 := by rw [ByteArray.size_extract, hsz]; rfl
  have z4 : (s.extract 10 12).size = 2 := by rw [ByteArray.size_extract, hsz]; rfl
  have z5 : (s.extract 12 14).size = 2 := by rw [ByteArray.size_extract, hsz]; rfl
  have HST := Lib.hid hst
  clear hst ht
  go_enter Tryd.func17, Tryd.ntmps17
  go_wp2_with fail
  refine HST.out.mono ?_
  rintro e w1 ⟨rfl, hb1⟩
  have HB1 := Lib.hid hb1
  clear hb1
  go_wp2_with fail
  go_quiet (fail)
  go_wp2
  go_returns
  exact ⟨rfl, below_drewN HB1.out _⟩
theorem text_out (t : Int) (w : World) (h : t < -62135596800 ∨ 253402300799 < t) :
    Calls Tryd.prog 17 #[.int .i64 t] w fun e w' => e = .returned (.tuple #[.string ⟨#[]⟩, .int .i64 1]) ∧ Below w.heap.size w w' := by
  have HST := Lib.hid (stamp_out t w h)
  clear h
  go_enter Tryd.func17, Tryd.ntmps17
  go_wp2_with fail
  refine HST.out.mono ?_
  rintro e w1 ⟨rfl, hb1⟩
  go_wp2
  go_returns
  exact ⟨rfl, hb1⟩

set_option maxRecDepth 100000 in
set_option maxHeartbeats 2000000 in
theorem same_7 (a b c d h f k : Int) (g g' : Nat) (w : World) (hg : block7 w g a b c d h f k) (hg' : block7 w g' a b c d h f k) :
    Calls Tryd.prog 19 #[.slice (some ⟨g, 0, none⟩) 7 7, .slice (some ⟨g', 0, none⟩) 7 7] w fun e w' => e = .returned (.bool true) ∧ Below w.heap.size w w' := by
  have HG := Lib.hid hg
  have HG' := Lib.hid hg'
  clear hg hg'
  go_enter Tryd.func19, Tryd.ntmps19
  go_wp2
  go_loopw [8] (fun iv wr => ∃ i : Nat, i ≤ 7 ∧ iv = .int .i64 (i : Int) ∧ Below w.heap.size w wr) (fun iv _ => 7 - (intOf iv).toNat)
  case atStart => exact ⟨0, by omega, rfl, Below.refl _ _⟩
  case round =>
    obtain ⟨i, hi, rfl, hb⟩ := hrel
    obtain ⟨l0, l1, l2, l3, l4, l5, l6⟩ := (HG.out.below hb HG.out.lt).cells
    obtain ⟨m0, m1, m2, m3, m4, m5, m6⟩ := (HG'.out.below hb HG'.out.lt).cells
    have HB := Lib.hid hb
    clear hb
    have hc : i = 0 ∨ i = 1 ∨ i = 2 ∨ i = 3 ∨ i = 4 ∨ i = 5 ∨ i = 6 ∨ i = 7 := by omega
    clear hi
    rcases hc with rfl | rfl | rfl | rfl | rfl | rfl | rfl | rfl
    case inr.inr.inr.inr.inr.inr.inr =>
      go_wp2
      go_ret
      exact ⟨rfl, HB.out⟩
    all_goals
      go_wp2_with fail
      go_quiet (fail)
      go_wp2
      refine ⟨⟨_, ?_, rfl, below_drewN HB.out _⟩, ?_⟩
      · decide
      · simp [intOf]
end Go.Proofs.YtkpiebcncjlgcaaDoor
