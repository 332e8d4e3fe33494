/- THE WALK of 'DeltaNothing'. -/
import Derived.Test.YtilfdeboeohnbaaDeltaMakesWalk
namespace Go.Proofs.Ytilfdeboeohnbaa
open Go.RowKit Delta
set_option linter.unusedVariables false

theorem made_other (b c : ByteArray) (n : Nat) (ops : List UInt8) (hb : b.size ≤ 1000000) (ht : n ≤ 1000000) (most : Int) (hne : b.size ≠ c.size) :
    applyS c.data.toList (sized b.size ++ sized n ++ ops) most = ([], 4) := by
  have e1 : b.data.toList.length = b.size := by rw [Array.length_toList]; rfl
  have e2 : c.data.toList.length = c.size := by rw [Array.length_toList]; rfl
  have := apply_other c.data.toList b.data.toList ops n most (by omega) (by omega) (by omega)
  rw [e1] at this
  exact this

set_option maxHeartbeats 1000000 in
theorem deltaNothing_walk (base : ByteArray) (hbs : base.size ≤ maxLen) (w : World) :
    Calls Try.prog 7 #[.string base] w fun e w' => e = .returned (.bool true) ∧ Below w.heap.size w w' := by
  unfold maxLen at hbs
  have f1 := few_size base 3000
  have k1 : ∀ W, _ := fun W => few_any base 3000 W (by omega) (by omega)
  generalize fewB base 3000 = B at f1 k1
  have K1 := Lib.hid k1
  clear k1
  go_enter Try.func7, Try.ntmps7
  go_wp2_with fail
  refine (K1.out _).mono ?_
  rintro e w1 ⟨rfl, rfl⟩
  go_wp2_with fail
  refine (make_any B ⟨#[]⟩ _ (by omega) (by decide)).mono ?_
  rintro e w1 ⟨ops, rfl, hmk, hl, hb1⟩
  have a1 := made_applies B ⟨#[]⟩ ops (by omega) (by decide) hmk 0 (by decide)
  have a3 := made_len B ⟨#[]⟩ ops (by omega) (by decide) hl
  obtain ⟨D, hD⟩ : ∃ D : ByteArray, (⟨(sized B.size ++ sized (⟨#[]⟩ : ByteArray).size ++ ops).toArray⟩ : ByteArray) = D := ⟨_, rfl⟩
  have hDl : D.data.toList = sized B.size ++ sized (⟨#[]⟩ : ByteArray).size ++ ops := by rw [← hD]
  rw [hD] at a3 ⊢
  rw [← hDl] at a1
  have a3 : D.size ≤ 10 := a3
  have k3 : ∀ W, Calls Try.prog 9 #[.string B, .string D, .int .i64 0] W fun e w' => e = .returned (.tuple #[.string ⟨#[]⟩, .int .i64 0]) ∧ Below W.heap.size W w' := fun W => by
    have := apply_any B D 0 W (by omega) (by omega)
    rw [a1] at this
    exact this
  have K3 := Lib.hid k3
  have a3i : (D.size : Int) ≤ 10 := by omega
  clear k3 a1 hD hDl hmk hl
  go_wp2_with fail
  refine (make_any B B _ (by omega) (by omega)).mono ?_
  rintro e w2 ⟨ops2, rfl, hmk2, hl2, hb2⟩
  obtain ⟨X, hX⟩ : ∃ X : ByteArray, X = B ++ ⟨#[120]⟩ := ⟨_, rfl⟩
  have hXs : X.size = B.size + 1 := by rw [hX, ByteArray.size_append]; rfl
  have b1 := made_applies B B ops2 (by omega) (by omega) hmk2 3000 (by omega)
  have b2 := made_other B X B.size ops2 (by omega) (by omega) 3000 (by omega)
  have b3 := made_len B B ops2 (by omega) (by omega) hl2
  obtain ⟨E, hE⟩ : ∃ E : ByteArray, (⟨(sized B.size ++ sized B.size ++ ops2).toArray⟩ : ByteArray) = E := ⟨_, rfl⟩
  have hEl : E.data.toList = sized B.size ++ sized B.size ++ ops2 := by rw [← hE]
  rw [hE] at b3 ⊢
  rw [← hEl] at b1 b2
  have k4 : ∀ W, Calls Try.prog 9 #[.string B, .string E, .int .i64 3000] W fun e w' => e = .returned (.tuple #[.string B, .int .i64 0]) ∧ Below W.heap.size W w' := fun W => by
    have := apply_any B E 3000 W (by omega) (by omega)
    rw [b1] at this
    simp only [applyV, back] at this
    exact this
  have k5 : ∀ W, Calls Try.prog 9 #[.string (B ++ ⟨#[120]⟩), .string E, .int .i64 3000] W fun e w' => e = .returned (.tuple #[.string ⟨#[]⟩, .int .i64 4]) ∧ Below W.heap.size W w' := fun W => by
    have := apply_any X E 3000 W (by omega) (by omega)
    rw [b2, hX] at this
    exact this
  have K4 := Lib.hid k4
  have K5 := Lib.hid k5
  clear k4 k5 b1 b2 b3 hE hEl hmk2 hl2 hX hXs
  go_wp2_with fail
  refine (K3.out _).mono ?_
  rintro e w3 ⟨rfl, hb3⟩
  go_wp2_with fail
  refine (K4.out _).mono ?_
  rintro e w4 ⟨rfl, hb4⟩
  go_wp2_with fail
  refine (K5.out _).mono ?_
  rintro e w5 ⟨rfl, hb5⟩
  go_wp2_with fail
  refine (awake_any _).mono ?_
  rintro e w6 ⟨rfl, hb6⟩
  go_wp2
  go_ret
  have s1 := hb1.size
  have s2 := hb2.size
  have s3 := hb3.size
  have s4 := hb4.size
  have s5 := hb5.size
  exact ⟨rfl, ((((hb1.trans (hb2.mono s1)).trans (hb3.mono (by omega))).trans (hb4.mono (by omega))).trans (hb5.mono (by omega))).trans (hb6.mono (by omega))⟩
end Go.Proofs.Ytilfdeboeohnbaa
