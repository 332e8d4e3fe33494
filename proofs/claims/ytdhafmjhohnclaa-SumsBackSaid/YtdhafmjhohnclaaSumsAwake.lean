/- THE WALK: the statements' head, 'awake', answers true. -/
import Derived.Test.YtdhafmjhohnclaaSumsW2
import Derived.Test.YtdhafmjhohnclaaSumsB64
namespace Go.Proofs.Ytdhafmjhohnclaa
open Go.RowKit Sums

theorem crc_known : (crcW 0 [49, 50, 51, 52, 53, 54, 55, 56, 57]).toNat = 3421780262 := by decide +kernel
theorem ad_known : adSum (adL (0, 0) [87, 105, 107, 105, 112, 101, 100, 105, 97]) = 300286872 := by decide +kernel
theorem b64_known : b64 [102, 111] = [90, 109, 56, 61] := by decide +kernel

theorem awake_any (w : World) : Calls Try.prog 11 #[] w fun e w' => e = .returned (.bool true) ∧ Below w.heap.size w w' := by
  have k1 : ∀ W : World, Calls Try.prog 12 #[.string ⟨#[49, 50, 51, 52, 53, 54, 55, 56, 57]⟩] W fun e w' => e = .returned (.int .u32 3421780262) ∧ Below W.heap.size W w' :=
    fun W => (crc32_any ⟨#[49, 50, 51, 52, 53, 54, 55, 56, 57]⟩ W (by decide)).mono fun e w' ⟨he, hw⟩ => ⟨by rw [he]; show Ending.returned (.int .u32 (((crcW 0 [49, 50, 51, 52, 53, 54, 55, 56, 57]).toNat : Nat) : Int)) = _; rw [crc_known]; rfl, hw⟩
  have k2 : ∀ W : World, Calls Try.prog 14 #[.string ⟨#[87, 105, 107, 105, 112, 101, 100, 105, 97]⟩] W fun e w' => e = .returned (.int .u32 300286872) ∧ Below W.heap.size W w' :=
    fun W => (adler32_any ⟨#[87, 105, 107, 105, 112, 101, 100, 105, 97]⟩ W (by decide)).mono fun e w' ⟨he, hw⟩ => ⟨by rw [he]; show Ending.returned (.int .u32 ((adSum (adL (0, 0) [87, 105, 107, 105, 112, 101, 100, 105, 97]) : Nat) : Int)) = _; rw [ad_known]; rfl, hw⟩
  have k3 : ∀ W : World, Calls Try.prog 23 #[.string ⟨#[102, 111]⟩] W fun e w' => e = .returned (.string ⟨#[90, 109, 56, 61]⟩) ∧ Below W.heap.size W w' :=
    fun W => (b64_any ⟨#[102, 111]⟩ W (by decide)).mono fun e w' ⟨he, hw⟩ => ⟨by rw [he]; show Ending.returned (.string ⟨(b64 [102, 111]).toArray⟩) = _; rw [b64_known], hw⟩
  have K1 := Lib.hid k1
  have K2 := Lib.hid k2
  have K3 := Lib.hid k3
  clear k1 k2 k3
  go_enter Try.func11, Try.ntmps11
  go_wp2_with fail
  refine (K1.out _).mono ?_
  rintro e w1 ⟨rfl, hb1⟩
  go_wp2_with fail
  refine (K2.out _).mono ?_
  rintro e w2 ⟨rfl, hb2⟩
  go_wp2_with fail
  refine (K3.out _).mono ?_
  rintro e w3 ⟨rfl, hb3⟩
  go_wp2
  go_ret
  exact ⟨rfl, (hb1.trans (hb2.mono hb1.size)).trans (hb3.mono (Nat.le_trans hb1.size hb2.size))⟩
end Go.Proofs.Ytdhafmjhohnclaa
