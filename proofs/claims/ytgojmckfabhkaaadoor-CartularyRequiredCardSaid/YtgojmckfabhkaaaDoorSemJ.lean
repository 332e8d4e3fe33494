/- THE WALK of byWords: two prereleases that differ in their last word alone. Conditions: bounds on lengths; the last words are of one length and kind. -/
import Derived.Test.YtgojmckfabhkaaaDoorSemD
namespace Go.Proofs.YtgojmckfabhkaaaDoor.Sem
open Go Go.RowKit
set_option linter.unusedVariables false

theorem ends_cut {C : List UInt8} (h : Ends C) : C = [] ∨ ∃ w D, C = w ++ 46 :: D ∧ 46 ∉ w ∧ Ends D := by
  rcases h with rfl | ⟨C0, rfl⟩
  · exact Or.inl rfl
  · right
    obtain ⟨w, D, e, hw⟩ := mem_cut 46 (C0 ++ [46]) (by simp)
    refine ⟨w, D, e, hw, ?_⟩
    rcases List.eq_nil_or_concat D with hD | ⟨D0, x, hD⟩
    · exact Or.inl hD
    · right
      rw [hD] at e
      have h1 : (C0 ++ [46]).getLast? = (w ++ 46 :: (D0 ++ [x])).getLast? := by rw [e]; simp
      have h2 : w ++ 46 :: (D0 ++ [x]) = (w ++ 46 :: D0) ++ [x] := by simp
      rw [h2, List.getLast?_concat, List.getLast?_concat] at h1
      have h3 := Option.some.inj h1
      exact ⟨D0, by rw [hD, ← h3]; simp⟩

theorem emp {l : List UInt8} (h : ¬ l = []) : l.isEmpty = false := by cases l with | nil => exact absurd rfl h | cons x l => rfl
def lenOf : Value → Nat | .string s => s.size | _ => 0
theorem below_next {B : Nat} {a w w' : World} (h : Below B a w) (hb : Below w.heap.size w w') (hB : a.heap.size ≤ w.heap.size) (hs : B ≤ a.heap.size := by exact Nat.le_refl _) : Below B a w' := h.trans (hb.mono (Nat.le_trans hs hB))
theorem tx_eq_iff {a b : List UInt8} : (tx a).toList = (tx b).toList ↔ a = b := by rw [tx_toList, tx_toList]

set_option maxRecDepth 100000 in
theorem byWords_same (a : List UInt8) (w : World) :
    Calls Tryd.prog 29 #[.string (tx a), .string (tx a)] w fun e w' => e = .returned (.int .i64 0) ∧ Below w.heap.size w w' := by
  have ht := tx_toList a
  go_enter Tryd.func29, Tryd.ntmps29
  go_wp2
  go_ret
  exact ⟨rfl, Below.refl _ _⟩

set_option maxRecDepth 100000 in
set_option maxHeartbeats 4000000 in
theorem byWords_last (C u v : List UInt8) (w : World) (hC : Ends C) (hu : 46 ∉ u) (hv : 46 ∉ v) (hu0 : u ≠ []) (hv0 : v ≠ []) (hne : u ≠ v) (hl : u.length = v.length) (hd : digitsB u = digitsB v) (hz : (C ++ u).length ≤ 1000) :
    Calls Tryd.prog 29 #[.string (tx (C ++ u)), .string (tx (C ++ v))] w fun e w' => e = .returned (.int .i64 (Lib.compareBytes u v)) ∧ Below w.heap.size w w' := by
  have hzu : u.length ≤ 1000 := by simp at hz; omega
  have HBN := Lib.hid (fun W => byNumber_len u v W (by omega) hl)
  have hcmp := fun W => Tryd.strings_Compare (tx u) (tx v) W
  simp only [tx_list] at hcmp
  have HCM := Lib.hid hcmp
  have HDU := Lib.hid (fun W => digits_any u W (by omega))
  have HDV := Lib.hid (fun W => digits_any v W (by omega))
  have HU := Lib.hid hu
  have HV := Lib.hid hv
  have HNE := Lib.hid hne
  have HLL := Lib.hid hl
  obtain ⟨z, hz0⟩ : ∃ z, z = Lib.compareBytes u v := ⟨_, rfl⟩
  rw [← hz0] at HBN HCM ⊢
  have n1 : ¬ C ++ u = C ++ v := fun e => hne (List.append_cancel_left e)
  have n2 : ¬ C ++ u = [] := fun e => hu0 (List.append_eq_nil_iff.1 e).2
  have n3 : ¬ C ++ v = [] := fun e => hv0 (List.append_eq_nil_iff.1 e).2
  have b1 : (C ++ u == C ++ v) = false := by rw [beq_eq_false_iff_ne]; exact n1
  have b2 : (C ++ u).isEmpty = false := emp n2
  have b3 : (C ++ v).isEmpty = false := emp n3
  have t1 := tx_toList (C ++ u)
  have t2 := tx_toList (C ++ v)
  clear hcmp hu hv hne hl n1 hz0
  go_enter Tryd.func29, Tryd.ntmps29
  go_wp2
  go_loopw [0, 1] (fun av bv W => ∃ D : List UInt8, Ends D ∧ D.length ≤ C.length ∧ av = .string (tx (D ++ u)) ∧ bv = .string (tx (D ++ v)) ∧ Below w.heap.size w W) (fun av _ _ => lenOf av)
  case atStart => exact ⟨C, hC, Nat.le_refl _, rfl, rfl, Below.refl _ _⟩
  case round =>
    obtain ⟨D, hD, hDl, rfl, rfl, hB⟩ := hrel
    clear b1 b2 b3 t1 t2 n2 n3
    have n2 : ¬ D ++ u = [] := fun e => hu0 (List.append_eq_nil_iff.1 e).2
    have n3 : ¬ D ++ v = [] := fun e => hv0 (List.append_eq_nil_iff.1 e).2
    have b2 : (D ++ u).isEmpty = false := emp n2
    have b3 : (D ++ v).isEmpty = false := emp n3
    have t1 := tx_toList (D ++ u)
    have t2 := tx_toList (D ++ v)
    have z1 : (D ++ u).length ≤ 1000000 := by simp at hz ⊢; omega
    have z2 : (D ++ v).length ≤ 1000000 := by have := HLL.out; simp at hz ⊢; omega
    have HB := Lib.hid hB
    clear hB
    rcases ends_cut hD with rfl | ⟨x, D', rfl, hx, hD'⟩
    · -- the last words
      have HC1 : Hid (∀ W, Calls Tryd.prog 33 #[.string (tx ([] ++ u)), .string ⟨#[46]⟩] W fun e w' => e = .returned (.tuple #[.string (tx u), .string (tx []), .bool false]) ∧ Below W.heap.size W w') := Lib.hid (fun W => by
        have h9 := cut_any ([] ++ u) 46 W z1
        rw [List.nil_append] at h9 ⊢
        rw [(cutA_no 46 u HU.out).1, (cutA_no 46 u HU.out).2, decide_eq_false HU.out] at h9
        exact h9)
      have HC2 : Hid (∀ W, Calls Tryd.prog 33 #[.string (tx ([] ++ v)), .string ⟨#[46]⟩] W fun e w' => e = .returned (.tuple #[.string (tx v), .string (tx []), .bool false]) ∧ Below W.heap.size W w') := Lib.hid (fun W => by
        have h9 := cut_any ([] ++ v) 46 W z2
        rw [List.nil_append] at h9 ⊢
        rw [(cutA_no 46 v HV.out).1, (cutA_no 46 v HV.out).2, decide_eq_false HV.out] at h9
        exact h9)
      have t3 := tx_toList u
      have t4 := tx_toList v
      have b5 : u.isEmpty = false := emp hu0
      have b6 : v.isEmpty = false := emp hv0
      have b4 : (u == v) = false := by rw [beq_eq_false_iff_ne]; exact HNE.out
      go_wp2_with fail
      refine (HC1.out _).mono ?_
      rintro e w1 ⟨rfl, hb1⟩
      have HB1 := Lib.hid (below_next HB.out hb1 HB.out.size)
      clear hb1
      go_wp2_with fail
      refine (HC2.out _).mono ?_
      rintro e w2 ⟨rfl, hb2⟩
      have HB2 := Lib.hid (below_next HB1.out hb2 HB1.out.size)
      clear hb2
      cases hdu : digitsB u with
      | true =>
        have hdv : digitsB v = true := by rw [← hd]; exact hdu
        rw [hdu] at HDU
        rw [hdv] at HDV
        clear hdu hdv hd
        go_wp2_with fail
        refine (HDU.out _).mono ?_
        rintro e w3 ⟨rfl, hb3⟩
        have HB3 := Lib.hid (below_next HB2.out hb3 HB2.out.size)
        clear hb3
        go_wp2_with fail
        refine (HDV.out _).mono ?_
        rintro e w4 ⟨rfl, hb4⟩
        have HB4 := Lib.hid (below_next HB3.out hb4 HB3.out.size)
        clear hb4
        go_wp2_with fail
        refine (HBN.out _).mono ?_
        rintro e w5 ⟨rfl, rfl⟩
        go_wp2_with fail
        go_ret
        exact ⟨rfl, HB4.out⟩
      | false =>
        have hdv : digitsB v = false := by rw [← hd]; exact hdu
        rw [hdu] at HDU
        rw [hdv] at HDV
        clear hdu hdv hd
        go_wp2_with fail
        refine (HDU.out _).mono ?_
        rintro e w3 ⟨rfl, hb3⟩
        have HB3 := Lib.hid (below_next HB2.out hb3 HB2.out.size)
        clear hb3
        go_wp2_with fail
        refine (HDV.out _).mono ?_
        rintro e w4 ⟨rfl, hb4⟩
        have HB4 := Lib.hid (below_next HB3.out hb4 HB3.out.size)
        clear hb4
        go_wp2_with fail
        refine (HCM.out _).mono ?_
        rintro e w5 ⟨rfl, rfl⟩
        go_wp2_with fail
        go_ret
        exact ⟨rfl, HB4.out⟩
    · -- a word ahead of them
      have e1 : x ++ 46 :: D' ++ u = x ++ 46 :: (D' ++ u) := by simp
      have e2 : x ++ 46 :: D' ++ v = x ++ 46 :: (D' ++ v) := by simp
      have HC1 : Hid (∀ W, Calls Tryd.prog 33 #[.string (tx (x ++ 46 :: D' ++ u)), .string ⟨#[46]⟩] W fun e w' => e = .returned (.tuple #[.string (tx x), .string (tx (D' ++ u)), .bool true]) ∧ Below W.heap.size W w') := Lib.hid (fun W => by
        have h9 := cut_any (x ++ 46 :: D' ++ u) 46 W z1
        rw [show decide ((46 : UInt8) ∈ x ++ 46 :: D' ++ u) = true from decide_eq_true (by simp)] at h9
        rw [e1] at h9 ⊢
        rw [(cutA_at 46 x (D' ++ u) hx).1, (cutA_at 46 x (D' ++ u) hx).2] at h9
        exact h9)
      have HC2 : Hid (∀ W, Calls Tryd.prog 33 #[.string (tx (x ++ 46 :: D' ++ v)), .string ⟨#[46]⟩] W fun e w' => e = .returned (.tuple #[.string (tx x), .string (tx (D' ++ v)), .bool true]) ∧ Below W.heap.size W w') := Lib.hid (fun W => by
        have h9 := cut_any (x ++ 46 :: D' ++ v) 46 W z2
        rw [show decide ((46 : UInt8) ∈ x ++ 46 :: D' ++ v) = true from decide_eq_true (by simp)] at h9
        rw [e2] at h9 ⊢
        rw [(cutA_at 46 x (D' ++ v) hx).1, (cutA_at 46 x (D' ++ v) hx).2] at h9
        exact h9)
      have t3 := tx_toList x
      have HM : Hid ((tx (D' ++ u)).size < (tx (x ++ 46 :: D' ++ u)).size) := Lib.hid (by rw [tx_size, tx_size]; simp; omega)
      have HDL : Hid (D'.length ≤ C.length) := Lib.hid (by simp at hDl; omega)
      clear e1 e2 hx
      generalize tx (x ++ 46 :: D' ++ u) = S1 at HC1 t1 HM ⊢
      generalize tx (x ++ 46 :: D' ++ v) = S2 at HC2 t2 ⊢
      generalize x ++ 46 :: D' ++ u = L1 at t1 b2
      generalize x ++ 46 :: D' ++ v = L2 at t2 b3
      clear n2 n3 z1 z2
      go_wp2_with fail
      refine (HC1.out _).mono ?_
      rintro e w1 ⟨rfl, hb1⟩
      have HB1 := Lib.hid (below_next HB.out hb1 HB.out.size)
      clear hb1
      go_wp2_with fail
      refine (HC2.out _).mono ?_
      rintro e w2 ⟨rfl, hb2⟩
      have HB2 := Lib.hid (below_next HB1.out hb2 HB1.out.size)
      clear hb2
      go_wp2_with fail
      go_roundw
      case rel => exact ⟨D', hD', HDL.out, rfl, rfl, HB2.out⟩
      case measure => exact HM.out
end Go.Proofs.YtgojmckfabhkaaaDoor.Sem
