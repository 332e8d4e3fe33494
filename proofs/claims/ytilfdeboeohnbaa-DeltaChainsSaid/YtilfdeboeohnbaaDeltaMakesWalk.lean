/- THE WALK of 'DeltaMakes'. -/
import Derived.Test.YtilfdeboeohnbaaDeltaMake
import Derived.Test.YtilfdeboeohnbaaDeltaAwake
import Derived.Test.YtilfdeboeohnbaaDeltaRefAp
import Derived.Test.YtilfdeboeohnbaaFew
namespace Go.Proofs.Ytilfdeboeohnbaa
open Go.RowKit Delta
set_option linter.unusedVariables false

/-- What a text made by Make does. -/
theorem made_applies (b t : ByteArray) (ops : List UInt8) (hb : b.size ≤ 1000000) (ht : t.size ≤ 1000000) (h : Mk b.data.toList ops t.data.toList) (most : Int) (hm : (t.size : Int) ≤ most) :
    applyS b.data.toList (sized b.size ++ sized t.size ++ ops) most = (t.data.toList, 0) := by
  have e1 : b.data.toList.length = b.size := by rw [Array.length_toList]; rfl
  have e2 : t.data.toList.length = t.size := by rw [Array.length_toList]; rfl
  have := apply_mk b.data.toList ops t.data.toList most h (by omega) (by omega) (by omega)
  rw [e1, e2] at this
  exact this
theorem made_big (b : ByteArray) (n : Nat) (ops : List UInt8) (hb : b.size ≤ 1000000) (ht : n ≤ 1000000) (most : Int) (hm : most < (n : Int)) :
    applyS b.data.toList (sized b.size ++ sized n ++ ops) most = ([], 2) := by
  have e1 : b.data.toList.length = b.size := by rw [Array.length_toList]; rfl
  have := apply_big b.data.toList ops n most (by omega) (by omega) hm
  rw [e1] at this
  exact this
theorem made_len (b t : ByteArray) (ops : List UInt8) (hb : b.size ≤ 1000000) (ht : t.size ≤ 1000000) (hl : ops.length ≤ t.size + (t.size + 126) / 127) :
    (⟨(sized b.size ++ sized t.size ++ ops).toArray⟩ : ByteArray).size ≤ 10 + t.size + (t.size + 126) / 127 := by
  have l1 := sized_length 5 b.size (by omega) (by omega)
  have l2 := sized_length 5 t.size (by omega) (by omega)
  show (sized b.size ++ sized t.size ++ ops).toArray.size ≤ _
  rw [List.size_toArray, List.length_append, List.length_append]
  omega
theorem back (t : ByteArray) : (⟨t.data.toList.toArray⟩ : ByteArray) = t := by cases t; simp

set_option maxHeartbeats 1000000 in
theorem deltaMakes_walk (base t : ByteArray) (hbs : base.size ≤ maxLen) (hts : t.size ≤ maxLen) (w : World) :
    Calls Try.prog 5 #[.string base, .string t] w fun e w' => e = .returned (.bool true) ∧ Below w.heap.size w w' := by
  unfold maxLen at hbs hts
  have f1 := few_size base 3000
  have f2 := few_size t 3000
  have k1 : ∀ W, _ := fun W => few_any base 3000 W (by omega) (by omega)
  have k2 : ∀ W, _ := fun W => few_any t 3000 W (by omega) (by omega)
  generalize fewB base 3000 = B at f1 k1
  generalize fewB t 3000 = T at f2 k2
  have K1 := Lib.hid k1
  have K2 := Lib.hid k2
  clear k1 k2
  go_enter Try.func5, Try.ntmps5
  go_wp2_with fail
  refine (K1.out _).mono ?_
  rintro e w1 ⟨rfl, rfl⟩
  go_wp2_with fail
  refine (K2.out _).mono ?_
  rintro e w1 ⟨rfl, rfl⟩
  go_wp2_with fail
  refine (make_any B T _ (by omega) (by omega)).mono ?_
  rintro e w1 ⟨ops, rfl, hmk, hl, hb1⟩
  have a1 := made_applies B T ops (by omega) (by omega) hmk T.size (Int.le_refl _)
  have a2 := made_big B T.size ops (by omega) (by omega) ((T.size : Int) - 1) (by omega)
  have a3 := made_len B T ops (by omega) (by omega) hl
  obtain ⟨D, hD⟩ : ∃ D : ByteArray, (⟨(sized B.size ++ sized T.size ++ ops).toArray⟩ : ByteArray) = D := ⟨_, rfl⟩
  have hDl : D.data.toList = sized B.size ++ sized T.size ++ ops := by rw [← hD]
  rw [hD] at a3 ⊢
  rw [← hDl] at a1 a2
  have k3 : ∀ W, Calls Try.prog 9 #[.string B, .string D, .int .i64 (T.size : Int)] W fun e w' => e = .returned (.tuple #[.string T, .int .i64 0]) ∧ Below W.heap.size W w' := fun W => by
    have := apply_any B D (T.size : Int) W (by omega) (by omega)
    rw [a1] at this
    simp only [applyV, back] at this
    exact this
  have k4 : ∀ W, Calls Try.prog 10 #[.string B, .string D, .int .i64 (T.size : Int)] W fun e w' => e = .returned (.tuple #[.string T, .int .i64 0]) ∧ Below W.heap.size W w' := fun W => by
    have := refApply_any B D (T.size : Int) W (by omega) (by omega)
    rw [a1] at this
    simp only [back] at this
    exact this
  have k5 : ∀ W, Calls Try.prog 9 #[.string B, .string D, .int .i64 ((T.size : Int) - 1)] W fun e w' => e = .returned (.tuple #[.string ⟨#[]⟩, .int .i64 2]) ∧ Below W.heap.size W w' := fun W => by
    have := apply_any B D ((T.size : Int) - 1) W (by omega) (by omega)
    rw [a2] at this
    exact this
  have K3 := Lib.hid k3
  have K4 := Lib.hid k4
  have K5 := Lib.hid k5
  have hlen : (D.size : Int) ≤ 10 + (T.size : Int) + ((T.size : Int) + 126) / 127 := by omega
  clear k3 k4 k5 a1 a2 a3 hD hDl hmk hl
  go_wp2_with fail
  refine (K3.out _).mono ?_
  rintro e w2 ⟨rfl, hb2⟩
  go_wp2_with fail
  refine (K4.out _).mono ?_
  rintro e w3 ⟨rfl, hb3⟩
  go_wp2_with fail
  refine (K5.out _).mono ?_
  rintro e w4 ⟨rfl, hb4⟩
  go_wp2_with fail
  refine (awake_any _).mono ?_
  rintro e w5 ⟨rfl, hb5⟩
  go_wp2
  go_ret
  have s1 := hb1.size
  have s2 := hb2.size
  have s3 := hb3.size
  have s4 := hb4.size
  exact ⟨rfl, (((hb1.trans (hb2.mono s1)).trans (hb3.mono (by omega))).trans (hb4.mono (by omega))).trans (hb5.mono (by omega))⟩
end Go.Proofs.Ytilfdeboeohnbaa
