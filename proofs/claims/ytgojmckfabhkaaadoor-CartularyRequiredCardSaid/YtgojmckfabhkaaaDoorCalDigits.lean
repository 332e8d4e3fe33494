/- THE WALK of digits: so many digits. Conditions: the number is that of a date's field; the library's table stands. -/
import Derived.Test.YtgojmckfabhkaaaDoorCalItoa
import Derived.Test.YtgojmckfabhkaaaDoorCalWalks
namespace Go.Proofs.YtgojmckfabhkaaaDoor
open Go.RowKit
set_option linter.unusedVariables false

/-- The library's table of the powers of ten. -/
def tabOk (w : World) : Prop := Lib.TabIs Tryd.prog w "internal/strconv.uint64pow10" .u64 Lib.pow10Tab

theorem grow_heap (w : World) (k : Nat) (os : Array Obj) : Below w.heap.size w (Sort.grow (w.drewN k) os) := by
  refine ⟨rfl, rfl, rfl, by simp [Sort.grow], fun j hj => ?_⟩
  show (w.heap ++ os)[j]? = w.heap[j]?
  rw [Array.getElem?_append_left hj]
theorem dig_big {u : Nat} (h : ¬ u < 10) : Lib.decDigits u = Lib.decDigits (u / 10) ++ [UInt8.ofNat (48 + u % 10)] := by rw [Lib.decDigits, dif_neg h]
theorem dig_len : ∀ (k u : Nat), u < 10 ^ (k + 1) → (Lib.decDigits u).length ≤ k + 1
  | 0, u, h => by rw [Lib.decDigits_one (by omega)]; simp
  | k + 1, u, h => by
    by_cases h1 : u < 10
    · rw [Lib.decDigits_one h1]; simp
    · rw [dig_big h1, List.length_append]
      have h2 : u / 10 < 10 ^ (k + 1) := by
        rw [Nat.div_lt_iff_lt_mul (by omega)]
        rw [Nat.pow_succ] at h
        exact h
      have := dig_len k (u / 10) h2
      simp
      omega
/-- So many digits at the least. -/
def padL (k : Nat) (l : List UInt8) : List UInt8 := List.replicate (k - l.length) 48 ++ l

theorem itoa_any (n : Nat) (hn : n ≤ 9999) (w : World) (ht : tabOk w) :
    Calls Tryd.prog 44 #[.int .i64 (n : Int)] w fun e w' => e = .returned (.string ⟨(Lib.decDigits n).toArray⟩) ∧ Below w.heap.size w w' := by
  refine (Tryd.strconv_Itoa (n : Int) (by omega) (by omega) w ht).mono ?_
  rintro e w' ⟨he, k, os, rfl⟩
  refine ⟨?_, grow_heap w k os⟩
  rw [he]
  have : Lib.itoa (n : Int) = Lib.decDigits n := by unfold Lib.itoa; rw [if_neg (by omega)]; rfl
  rw [this]

set_option maxHeartbeats 1000000 in
theorem digits_any (n k : Nat) (hn : n ≤ 9999) (hk : k ≤ 4) (w : World) (ht : tabOk w) :
    Calls Tryd.prog 27 #[.int .i64 (n : Int), .int .i64 (k : Int)] w fun e w' => e = .returned (.string ⟨(padL k (Lib.decDigits n)).toArray⟩) ∧ Below w.heap.size w w' := by
  go_enter Tryd.func27, Tryd.ntmps27
  go_wp2_with fail
  refine (itoa_any n hn _ ht).mono ?_
  rintro e w1 ⟨rfl, hb⟩
  obtain ⟨l0, hl0⟩ : ∃ l, l = Lib.decDigits n := ⟨_, rfl⟩
  have hll : l0.length ≤ 4 := by rw [hl0]; exact dig_len 3 n (by omega)
  rw [← hl0]
  have HL0 := Lib.hid hl0
  clear hl0
  go_wp2
  go_loop [5] (fun sv => ∃ (j : Nat) (u : ByteArray), j + l0.length ≤ max k l0.length ∧ sv = .string u ∧ u = ⟨(List.replicate j 48 ++ l0).toArray⟩) (fun sv => match sv with | .string u => 100 - u.size | _ => 0)
  case atStart => exact ⟨0, _, by omega, rfl, rfl⟩
  case round =>
    obtain ⟨j, u, hj, rfl, hu⟩ := hrel
    have hus : u.size = j + l0.length := by rw [hu]; show (List.replicate j (48 : UInt8) ++ l0).toArray.size = _; rw [List.size_toArray, List.length_append, List.length_replicate]
    have hun : (⟨#[48]⟩ : ByteArray) ++ u = ⟨(List.replicate (j + 1) 48 ++ l0).toArray⟩ := by
      apply ByteArray.ext
      rw [hu, ByteArray.data_append]
      simp [List.replicate_succ]
    have HU := Lib.hid hu
    have HN := Lib.hid hun
    clear hu hun
    by_cases hlt : u.size < k
    · go_wp2
      go_round
      case rel => exact ⟨j + 1, _, by omega, rfl, HN.out⟩
      case measure => simp only [ByteArray.size_append]; have : (⟨#[48]⟩ : ByteArray).size = 1 := rfl; omega
    · go_wp2
      go_ret
      refine ⟨?_, hb⟩
      have hp : padL k l0 = List.replicate j 48 ++ l0 := by unfold padL; rw [show k - l0.length = j by omega]
      rw [← HL0.out, hp, ← HU.out]
      rfl
end Go.Proofs.YtgojmckfabhkaaaDoor
