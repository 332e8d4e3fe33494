/- THE WALKS of semver's small functions: number, digits, strings.Cut at one byte. No conditions but bounds on lengths. -/
import Derived.Test.YtgojmckfabhkaaaDoorSemA
import Derived.Test.YtgojmckfabhkaaaDoorSemPlain
import Derived.Deep.QuietTactic
import Derived.WalkSmall
namespace Go.Proofs.YtgojmckfabhkaaaDoor.Sem
open Go Go.RowKit
set_option linter.unusedVariables false

/-- What 'number' answers. -/
def NumV (l : List UInt8) : Value := if numGood l = true then .tuple #[.string (tx (l.take (numN l))), .string (tx (l.drop (numN l))), .bool true] else .tuple #[.string ⟨#[]⟩, .string ⟨#[]⟩, .bool false]

set_option maxRecDepth 100000 in
theorem number_raw (s : ByteArray) (l : List UInt8) (w : World) (hs : s = tx l) (hz : l.length ≤ 1000000) :
    Calls Tryd.prog 32 #[.string s] w fun e w' => e = .returned (NumV l) ∧ Below w.heap.size w w' := by
  have hsz : s.size = l.length := by rw [hs, tx_size]
  have hz2 : s.size ≤ 1000000 := by omega
  have hat : ∀ i (h : i < s.size) (h2 : i < l.length), s[i] = l[i] := fun i h h2 => by subst hs; exact tx_at l i h
  have hex : ∀ k, k ≤ s.size → s.extract 0 k = tx (l.take k) ∧ s.extract k s.size = tx (l.drop k) := fun k hk => by
    refine ⟨?_, ?_⟩
    · rw [hs, tx_extract]; simp
    · rw [hsz, hs, tx_extract, List.take_of_length_le (by omega)]
  have HSZ := Lib.hid hsz
  have HAT := Lib.hid hat
  have HEX := Lib.hid hex
  clear hs hsz hat hz hex
  go_enter Tryd.func32, Tryd.ntmps32
  go_wp2
  go_loop [5] (fun iv => ∃ i : Nat, i ≤ s.size ∧ iv = .int .i64 (i : Int) ∧ ∀ j (h : j < l.length), j < i → isDig l[j] = true) (fun iv => s.size - (intOf iv).toNat)
  case atStart => exact ⟨0, by omega, rfl, fun j _ h => by omega⟩
  case round =>
    obtain ⟨i, hi, rfl, hn⟩ := hrel
    have HN := Lib.hid hn
    clear hn
    by_cases hd : i < s.size ∧ (48 ≤ (l.getD i 0).toNat ∧ (l.getD i 0).toNat ≤ 57)
    · obtain ⟨hil, h1, h2⟩ := hd
      have hc := HAT.out i hil (by have := HSZ.out; omega)
      have hgd : l.getD i 0 = s[i] := by rw [hc, List.getD_eq_getElem?_getD, List.getElem?_eq_getElem (by have := HSZ.out; omega)]; rfl
      rw [hgd] at h1 h2
      have g1 : (48 : Int) ≤ (s[i].toNat : Int) := by omega
      have g2 : (s[i].toNat : Int) ≤ 57 := by omega
      have HD := Lib.hid hc
      clear hc hgd
      go_wp2
      go_round
      case rel =>
        refine ⟨i + 1, by omega, by go_num, fun j hj hji => ?_⟩
        by_cases hji' : j < i
        · exact HN.out j hj hji'
        · obtain rfl : j = i := by omega
          rw [← HD.out]
          exact (dig_iff _).2 ⟨h1, h2⟩
      case measure => simp [intOf]; omega
    · have hnn : numN l = i := by
        refine numN_of l i (by have := HSZ.out; omega) HN.out (fun h => ?_)
        have hil : i < s.size := by have := HSZ.out; omega
        rw [dig_not]
        apply Decidable.byContradiction
        intro hcon
        apply hd
        rw [List.getD_eq_getElem?_getD, List.getElem?_eq_getElem h]
        exact ⟨hil, by simp; omega, by simp; omega⟩
      obtain ⟨x1, x2⟩ := HEX.out i hi
      -- the test on the number
      have hv : NumV l = if i = 0 ∨ (1 < i ∧ l.head? = some 48) then .tuple #[.string ⟨#[]⟩, .string ⟨#[]⟩, .bool false] else .tuple #[.string (tx (l.take i)), .string (tx (l.drop i)), .bool true] := by
        unfold NumV numGood
        rw [hnn]
        have hcond : (!(decide (i = 0) || decide (1 < i) && decide (l.head? = some 48))) = !decide (i = 0 ∨ (1 < i ∧ l.head? = some 48)) := by simp
        rw [hcond]
        by_cases c : i = 0 ∨ (1 < i ∧ l.head? = some 48) <;> simp [c]
      have HX1 := Lib.hid x1
      have HX2 := Lib.hid x2
      have HV := Lib.hid hv
      clear hnn hv x1 x2
      -- why the loop stops
      have hstop : s.size = i ∨ ∃ h : i < s.size, s[i].toNat < 48 ∨ 57 < s[i].toNat := by
        by_cases hil : i < s.size
        · right
          refine ⟨hil, ?_⟩
          have hc := HAT.out i hil (by have := HSZ.out; omega)
          apply Decidable.byContradiction
          intro hcon
          apply hd
          rw [List.getD_eq_getElem?_getD, List.getElem?_eq_getElem (by have := HSZ.out; omega)]
          simp only [Option.getD_some, ← hc]
          exact ⟨hil, by omega, by omega⟩
        · left; omega
      clear hd
      by_cases c1 : i = 0
      · have HV1 : Hid (NumV l = .tuple #[.string ⟨#[]⟩, .string ⟨#[]⟩, .bool false]) := Lib.hid (by rw [HV.out, if_pos (Or.inl c1)])
        subst c1
        rcases hstop with hs | ⟨hil, h | h⟩
        · go_wp2
          go_ret3
          exact ⟨by rw [HV1.out]; rfl, Below.refl _ _⟩
        · have h2 : (s[0].toNat : Int) < 48 := by omega
          go_wp2
          go_ret3
          exact ⟨by rw [HV1.out]; rfl, Below.refl _ _⟩
        · have h2 : (57 : Int) < (s[0].toNat : Int) := by omega
          go_wp2
          go_ret3
          exact ⟨by rw [HV1.out]; rfl, Below.refl _ _⟩
      · have hi0 : 0 < i := by omega
        have hs0 : 0 < s.size := by omega
        have hh : l.head? = some s[0] := by
          have h1 := HAT.out 0 hs0 (by have := HSZ.out; omega)
          rw [h1, List.head?_eq_getElem?, List.getElem?_eq_getElem]
        by_cases c2 : 1 < i ∧ s[0].toNat = 48
        · obtain ⟨c2, c3⟩ := c2
          have HV1 : Hid (NumV l = .tuple #[.string ⟨#[]⟩, .string ⟨#[]⟩, .bool false]) := Lib.hid (by rw [HV.out, if_pos (Or.inr ⟨c2, by rw [hh]; exact congrArg some (UInt8.toNat_inj.1 c3)⟩)])
          clear hh
          have c4 : (s[0].toNat : Int) = 48 := by omega
          rcases hstop with hs | ⟨hil, h | h⟩
          · obtain rfl : i = s.size := by omega
            go_wp2
            go_ret3
            exact ⟨by rw [HV1.out]; rfl, Below.refl _ _⟩
          · have h2 : (s[i].toNat : Int) < 48 := by omega
            go_wp2
            go_ret3
            exact ⟨by rw [HV1.out]; rfl, Below.refl _ _⟩
          · have h2 : (57 : Int) < (s[i].toNat : Int) := by omega
            go_wp2
            go_ret3
            exact ⟨by rw [HV1.out]; rfl, Below.refl _ _⟩
        · have HV1 : Hid (NumV l = .tuple #[.string (s.extract 0 i), .string (s.extract i s.size), .bool true]) := Lib.hid (by
            rw [HV.out, if_neg, HX1.out, HX2.out]
            rintro (h | ⟨h, h3⟩)
            · exact c1 h
            · rw [hh] at h3
              exact c2 ⟨h, by rw [Option.some.inj h3]; rfl⟩)
          clear hh
          have key : 1 < i ∧ ¬ (s[0].toNat : Int) = 48 ∨ i = 1 := by omega
          clear c2
          have Z : Hid ((Value.tuple #[.string (s.extract 0 s.size), .string (s.extract s.size s.size), .bool true]) = .tuple #[.string s, .string ByteArray.empty, .bool true]) := Lib.hid (by
            have z1 : s.extract 0 s.size = s := by simp
            have z2 : s.extract s.size s.size = ByteArray.empty := by apply ByteArray.ext; simp
            rw [z1, z2])
          have Z1 : Hid (s.size = 1 → (Value.tuple #[.string (s.extract 0 1), .string (s.extract 1 s.size), .bool true]) = .tuple #[.string (s.extract 0 1), .string ByteArray.empty, .bool true]) := Lib.hid (fun h => by
            have z2 : s.extract 1 s.size = ByteArray.empty := by rw [h]; apply ByteArray.ext; simp
            rw [z2])
          rcases key with ⟨k1, k2⟩ | k1
          · rcases hstop with hs | ⟨hil, h | h⟩
            · obtain rfl : i = s.size := by omega
              have q1 : ((s.size : Int) == 0) = false := by rw [beq_eq_false_iff_ne]; omega
              have q2 : ((s[0].toNat : Int) == 48) = false := by rw [beq_eq_false_iff_ne]; omega
              go_wp2
              go_quiet (fail)
              go_wp2
              go_ret3
              exact ⟨by rw [HV1.out, Z.out]; rfl, below_drewN (Below.refl _ _) _⟩
            · have h2 : (s[i].toNat : Int) < 48 := by omega
              have q1 : ((i : Int) == 0) = false := by rw [beq_eq_false_iff_ne]; omega
              have q2 : ((s[0].toNat : Int) == 48) = false := by rw [beq_eq_false_iff_ne]; omega
              go_wp2
              go_quiet (fail)
              go_wp2
              go_ret3
              exact ⟨by rw [HV1.out]; rfl, below_drewN (Below.refl _ _) _⟩
            · have h2 : (57 : Int) < (s[i].toNat : Int) := by omega
              have q1 : ((i : Int) == 0) = false := by rw [beq_eq_false_iff_ne]; omega
              have q2 : ((s[0].toNat : Int) == 48) = false := by rw [beq_eq_false_iff_ne]; omega
              go_wp2
              go_quiet (fail)
              go_wp2
              go_ret3
              exact ⟨by rw [HV1.out]; rfl, below_drewN (Below.refl _ _) _⟩
          · subst k1
            rcases hstop with hs | ⟨hil, h | h⟩
            · have hs1 : s.size = 1 := by omega
              go_wp2
              go_quiet (fail)
              go_wp2
              go_ret3
              exact ⟨by rw [HV1.out, Z1.out hs1]; rfl, below_drewN (Below.refl _ _) _⟩
            · have h2 : (s[1].toNat : Int) < 48 := by omega
              go_wp2
              go_quiet (fail)
              go_wp2
              go_ret3
              exact ⟨by rw [HV1.out]; rfl, below_drewN (Below.refl _ _) _⟩
            · have h2 : (57 : Int) < (s[1].toNat : Int) := by omega
              go_wp2
              go_quiet (fail)
              go_wp2
              go_ret3
              exact ⟨by rw [HV1.out]; rfl, below_drewN (Below.refl _ _) _⟩
end Go.Proofs.YtgojmckfabhkaaaDoor.Sem
