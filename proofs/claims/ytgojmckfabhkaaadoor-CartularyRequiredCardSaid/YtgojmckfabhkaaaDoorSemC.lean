/- THE WALKS: strings.Cut, CutPrefix at one byte; digits; byNumber at texts of one length; sign. Conditions: bounds on lengths. -/
import Derived.Test.YtgojmckfabhkaaaDoorSemB
namespace Go.Proofs.YtgojmckfabhkaaaDoor.Sem
open Go Go.RowKit
set_option linter.unusedVariables false

theorem tx_toList (l : List UInt8) : (tx l).toList = l := by rw [ByteArray.toList_eq, tx_list]

set_option maxRecDepth 100000 in
theorem slcut_raw (s : ByteArray) (l : List UInt8) (c : UInt8) (w : World) (hs : s = tx l) (hz : l.length ≤ 1000000) :
    Calls Tryd.prog 50 #[.string s, .string ⟨#[c]⟩] w fun e w' => e = .returned (.tuple #[.string (tx (cutA c l)), .string (tx (cutZ c l)), .bool (decide (c ∈ l))]) ∧ Below w.heap.size w w' := by
  have hsz : s.size = l.length := by rw [hs, tx_size]
  have hcall := Tryd.stringslite_Index_one s c w
  by_cases hm : c ∈ l
  · obtain ⟨a, b, rfl, hn⟩ := mem_cut c l hm
    obtain ⟨k1, k2⟩ := cutA_at c a b hn
    rw [k1, k2, decide_eq_true hm]
    have hix : Lib.indexByte s.data.toList c = (a.length : Int) := by rw [hs, tx_list]; exact idx_at c a b hn
    have hsz2 : s.size = a.length + 1 + b.length := by rw [hsz]; simp; omega
    have e1 : s.extract 0 a.length = tx a := by rw [hs, tx_extract]; simp
    have e2 : s.extract (a.length + 1) s.size = tx b := by
      rw [hs, tx_extract, List.take_of_length_le (by rw [tx_size]; exact Nat.le_refl _), show a ++ c :: b = (a ++ [c]) ++ b by simp, List.drop_left' (by simp)]
    have e3 : s.extract (a.length + 1) (a.length + 1 + b.length) = tx b := by rw [← hsz2]; exact e2
    rw [hix] at hcall
    have HC := Lib.hid hcall
    have hb1 : a.length + 1 + b.length ≤ 1000000 := by rw [← hsz2, hsz]; exact hz
    clear hs hsz hix hm k1 k2 hz hcall
    go_enter Tryd.func50, Tryd.ntmps50
    go_wp2_with (go_at_call 54; refine HC.out.mono ?_; rintro e w' ⟨rfl, rfl⟩)
    go_quiet (fail)
    go_wp2
    go_ret3
    exact ⟨rfl, below_drewN (Below.refl _ _) _⟩
  · obtain ⟨k1, k2⟩ := cutA_no c l hm
    rw [k1, k2, decide_eq_false hm, ← hs]
    have hix : Lib.indexByte s.data.toList c = -1 := by rw [hs, tx_list]; exact idx_no c l hm
    rw [hix] at hcall
    have HC := Lib.hid hcall
    clear hs hsz hix hm k1 k2 hz hcall
    go_enter Tryd.func50, Tryd.ntmps50
    go_wp2_with (go_at_call 54; refine HC.out.mono ?_; rintro e w' ⟨rfl, rfl⟩)
    go_ret3
    exact ⟨rfl, Below.refl _ _⟩

set_option maxRecDepth 100000 in
/-- strings.Cut at one byte. -/
theorem cut_any (l : List UInt8) (c : UInt8) (w : World) (hz : l.length ≤ 1000000) :
    Calls Tryd.prog 33 #[.string (tx l), .string ⟨#[c]⟩] w fun e w' => e = .returned (.tuple #[.string (tx (cutA c l)), .string (tx (cutZ c l)), .bool (decide (c ∈ l))]) ∧ Below w.heap.size w w' := by
  have hcall := slcut_raw (tx l) l c w rfl hz
  generalize tx l = s at hcall ⊢
  generalize tx (cutA c l) = x at hcall ⊢
  generalize tx (cutZ c l) = y at hcall ⊢
  generalize decide (c ∈ l) = z at hcall ⊢
  have HC := Lib.hid hcall
  clear hcall
  go_enter Tryd.func33, Tryd.ntmps33
  go_wp2_with (go_at_call 50; refine HC.out.mono ?_; rintro e w' ⟨rfl, hb⟩)
  go_ret3
  exact ⟨rfl, hb⟩

theorem cutp_yes (c : UInt8) (q : List UInt8) (w : World) :
    Calls Tryd.prog 31 #[.string (tx (c :: q)), .string ⟨#[c]⟩] w fun e w' => e = .returned (.tuple #[.string (tx q), .bool true]) ∧ w = w' := by
  refine (Tryd.strings_CutPrefix (tx (c :: q)) ⟨#[c]⟩ w).mono ?_
  rintro e w' ⟨rfl, rfl⟩
  refine ⟨?_, rfl⟩
  have h1 : Lib.hasPrefix (tx (c :: q)).data.toList [c] = true := by rw [tx_list]; simp [Lib.hasPrefix]
  have h2 : Lib.trimPrefix (tx (c :: q)).data.toList [c] = q := by rw [tx_list]; simp [Lib.trimPrefix, Lib.hasPrefix]
  show Ending.returned (.tuple #[.string ⟨(Lib.trimPrefix _ [c]).toArray⟩, .bool (Lib.hasPrefix _ [c])]) = _
  rw [h1, h2]
  rfl
theorem cutp_no (c : UInt8) (l : List UInt8) (h : l.head? ≠ some c) (w : World) :
    Calls Tryd.prog 31 #[.string (tx l), .string ⟨#[c]⟩] w fun e w' => e = .returned (.tuple #[.string (tx l), .bool false]) ∧ w = w' := by
  refine (Tryd.strings_CutPrefix (tx l) ⟨#[c]⟩ w).mono ?_
  rintro e w' ⟨rfl, rfl⟩
  refine ⟨?_, rfl⟩
  have h1 : Lib.hasPrefix l [c] = false := by
    cases l with
    | nil => rfl
    | cons x q =>
      have : x ≠ c := fun e => h (by rw [e]; rfl)
      simp [Lib.hasPrefix, List.isPrefixOf, Ne.symm this]
  show Ending.returned (.tuple #[.string ⟨(Lib.trimPrefix (tx l).data.toList [c]).toArray⟩, .bool (Lib.hasPrefix (tx l).data.toList [c])]) = _
  rw [tx_list, Lib.trimPrefix, h1]
  rfl

set_option maxRecDepth 100000 in
/-- 'digits'. -/
theorem digits_any (l : List UInt8) (w : World) (hz : l.length ≤ 1000000) :
    Calls Tryd.prog 47 #[.string (tx l)] w fun e w' => e = .returned (.bool (digitsB l)) ∧ Below w.heap.size w w' := by
  have hcall := Tryd.strings_Trim_set (tx l) ⟨#[48, 49, 50, 51, 52, 53, 54, 55, 56, 57]⟩ w (by rw [tx_size]; omega) (by decide) (fun j b hb => by
    have hm := List.mem_of_getElem? hb
    have hall : ∀ x ∈ (⟨#[48, 49, 50, 51, 52, 53, 54, 55, 56, 57]⟩ : ByteArray).data.toList, x.toNat < 128 := by decide
    exact hall b hm)
  rw [tx_list] at hcall
  by_cases hl : l = []
  · subst hl
    clear hcall
    show Calls Tryd.prog 47 #[.string ⟨#[]⟩] w _
    rw [show digitsB [] = false from rfl]
    go_enter Tryd.func47, Tryd.ntmps47
    go_wp2
    go_ret
    exact ⟨rfl, Below.refl _ _⟩
  · have hv : digitsB l = decide (Lib.trimS l [48, 49, 50, 51, 52, 53, 54, 55, 56, 57] = []) := by
      rw [Bool.eq_iff_iff, decide_eq_true_iff, digits_trim l hl]
      unfold digitsB
      simp [hl]
    change Calls _ _ _ _ (fun e w' => e = .returned (.string (tx (Lib.trimS l [48, 49, 50, 51, 52, 53, 54, 55, 56, 57]))) ∧ Below w.heap.size w w') at hcall
    rw [hv]
    generalize Lib.trimS l [48, 49, 50, 51, 52, 53, 54, 55, 56, 57] = y at hcall ⊢
    have HC := Lib.hid hcall
    have h1 := tx_toList l
    have h2 := tx_toList y
    have hl2 : l.isEmpty = false := by cases l with | nil => exact absurd rfl hl | cons x l => rfl
    clear hcall hv
    generalize tx l = s at h1 HC ⊢
    generalize tx y = z at h2 HC
    by_cases hy : y = []
    · subst hy
      go_enter Tryd.func47, Tryd.ntmps47
      go_wp2_with (go_at_call 61; refine HC.out.mono ?_; rintro e w' ⟨rfl, hb⟩)
      go_ret
      exact ⟨rfl, hb⟩
    · have hy2 : y.isEmpty = false := by cases y with | nil => exact absurd rfl hy | cons x l => rfl
      rw [show decide (y = []) = false from decide_eq_false hy]
      go_enter Tryd.func47, Tryd.ntmps47
      go_wp2_with (go_at_call 61; refine HC.out.mono ?_; rintro e w' ⟨rfl, hb⟩)
      go_ret
      exact ⟨rfl, hb⟩

theorem cmp_self : ∀ l : List UInt8, Lib.compareBytes l l = 0
  | [] => rfl
  | x :: l => by simp [Lib.compareBytes, cmp_self l]

set_option maxRecDepth 100000 in
/-- 'byNumber' at two texts of one length. -/
theorem byNumber_len (a b : List UInt8) (w : World) (hz : a.length ≤ 1000000) (he : a.length = b.length) :
    Calls Tryd.prog 28 #[.string (tx a), .string (tx b)] w fun e w' => e = .returned (.int .i64 (Lib.compareBytes a b)) ∧ w = w' := by
  have hcall := Tryd.strings_Compare (tx a) (tx b) w
  rw [tx_list, tx_list] at hcall
  have h1 : (tx a).size = a.length := tx_size a
  have h2 : (tx b).size = a.length := by rw [tx_size, he]
  generalize Lib.compareBytes a b = z at hcall ⊢
  have HC := Lib.hid hcall
  clear hcall he
  generalize a.length = n at h1 h2 hz
  generalize tx a = s at h1 HC ⊢
  generalize tx b = t at h2 HC ⊢
  go_enter Tryd.func28, Tryd.ntmps28
  go_wp2_with (go_at_call 46; refine HC.out.mono ?_; rintro e w' ⟨rfl, rfl⟩)
  go_ret
  exact ⟨rfl, rfl⟩
end Go.Proofs.YtgojmckfabhkaaaDoor.Sem
