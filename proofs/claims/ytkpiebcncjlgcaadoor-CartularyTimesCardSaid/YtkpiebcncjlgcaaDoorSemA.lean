/- THE WALKS of the small functions: Find, Digits, Number of the document's; number, digits, Cut at one byte of the program's. No conditions. -/
import Derived.Test.YtkpiebcncjlgcaaDoorRows
import Derived.WalkKit
import Derived.WalkSpells
import Derived.Handy
import Derived.Lib.Hide
import Derived.Deep.RegionLaw
import Derived.BigQuiet
import Derived.Test.YtkpiebcncjlgcaaDoorWorld
import Derived.Test.YtkpiebcncjlgcaaDoorSemMath
import Derived.Test.YtkpiebcncjlgcaaDoorSemLib
namespace Go.Proofs.YtkpiebcncjlgcaaDoor.Sem
open Go Go.RowKit
set_option linter.unusedVariables false

theorem dig_iff (c : UInt8) : isDig c = true ↔ 48 ≤ c.toNat ∧ c.toNat ≤ 57 := by unfold isDig; simp
theorem dig_not (c : UInt8) : isDig c = false ↔ c.toNat < 48 ∨ 57 < c.toNat := by
  cases h : isDig c with
  | true => have := (dig_iff c).1 h; simp; omega
  | false => simp; apply Decidable.byContradiction; intro hn; have := (dig_iff c).2 (by omega); rw [h] at this; cases this

/-- What 'Find' answers. -/
def FindV (l : List UInt8) (c : UInt8) : Int := if c ∈ l then ((cutA c l).length : Int) else -1

set_option maxRecDepth 100000 in
theorem find_any (s : ByteArray) (l : List UInt8) (c : UInt8) (w : World) (hs : s = tx l) (hz : l.length ≤ 1000000) :
    Calls Tryd.prog 32 #[.string s, .int .u8 (c.toNat : Int)] w fun e w' => e = .returned (.int .i64 (FindV l c)) ∧ w = w' := by
  have hsz : s.size = l.length := by rw [hs, tx_size]
  have hz2 : s.size ≤ 1000000 := by omega
  have hat : ∀ i (h : i < s.size) (h2 : i < l.length), s[i] = l[i] := fun i h h2 => by subst hs; exact tx_at l i h
  have HSZ := Lib.hid hsz
  have HAT := Lib.hid hat
  clear hs hsz hat hz
  go_enter Tryd.func32, Tryd.ntmps32
  go_wp2
  go_loop [5] (fun iv => ∃ i : Nat, i ≤ s.size ∧ iv = .int .i64 (i : Int) ∧ c ∉ l.take i) (fun iv => s.size - (intOf iv).toNat)
  case atStart => exact ⟨0, by omega, rfl, by simp⟩
  case round =>
    obtain ⟨i, hi, rfl, hn⟩ := hrel
    have HN := Lib.hid hn
    clear hn
    by_cases hil : i < s.size
    · have hc := HAT.out i hil (by have := HSZ.out; omega)
      obtain ⟨x, hx⟩ : ∃ x, s[i] = x := ⟨_, rfl⟩
      have hl : l = l.take i ++ x :: l.drop (i + 1) := by
        have h1 := List.take_append_drop i l
        have hlt : i < l.length := by rw [← HSZ.out]; exact hil
        rw [List.drop_eq_getElem_cons hlt, ← hc, hx] at h1
        exact h1.symm
      have HL := Lib.hid hl
      clear hl hc
      by_cases hxc : x = c
      · subst hxc
        have hr : FindV l x = (i : Int) := by
          unfold FindV
          have hlt : i < l.length := by rw [← HSZ.out]; exact hil
          have hm : x ∈ l := by rw [HL.out]; simp
          rw [if_pos hm]
          have h2 := (cutA_at x (l.take i) (l.drop (i + 1)) HN.out).1
          rw [← HL.out] at h2
          rw [h2, List.length_take]
          omega
        have HR := Lib.hid hr
        clear hr
        go_wp2
        go_ret
        exact ⟨by rw [HR.out]; rfl, rfl⟩
      · have hxn : ¬ x.toNat = c.toNat := fun e => hxc (UInt8.toNat_inj.1 e)
        have hxi : ¬ (x.toNat : Int) = (c.toNat : Int) := by omega
        clear hxc
        go_wp2
        go_round
        case rel =>
          refine ⟨i + 1, by omega, by go_num, fun hm => ?_⟩
          rw [List.take_add_one] at hm
          rcases List.mem_append.1 hm with hm | hm
          · exact HN.out hm
          · have hlt : i < l.length := by rw [← HSZ.out]; exact hil
            rw [List.getElem?_eq_getElem hlt] at hm
            have := HAT.out i hil hlt
            rw [hx] at this
            simp at hm
            rw [hm, ← this] at hxn
            exact hxn rfl
        case measure => simp [intOf]; omega
    · have hi2 : i = s.size := by omega
      subst hi2
      have hr : FindV l c = -1 := by
        unfold FindV
        rw [if_neg]
        have := HN.out
        rwa [HSZ.out, List.take_length] at this
      have HR := Lib.hid hr
      clear hr
      go_wp2
      go_ret
      exact ⟨by rw [HR.out]; rfl, rfl⟩
end Go.Proofs.YtkpiebcncjlgcaaDoor.Sem
