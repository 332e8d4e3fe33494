/- THE WALKS of the document's Digits, Number, Cut. Conditions: bounds on lengths. -/
import Derived.Test.YtkpiebcncjlgcaaDoorSemB
import Derived.Test.YtkpiebcncjlgcaaDoorStrs
import Derived.Deep.RegionWith
namespace Go.Proofs.YtkpiebcncjlgcaaDoor.Sem
open Go Go.RowKit
set_option linter.unusedVariables false

set_option maxRecDepth 100000 in
theorem rdigits_raw (s : ByteArray) (l : List UInt8) (w : World) (hs : s = tx l) (hz : l.length ≤ 1000000) :
    Calls Tryd.prog 45 #[.string s] w fun e w' => e = .returned (.bool (digitsB l)) ∧ w = w' := by
  have hsz : s.size = l.length := by rw [hs, tx_size]
  have hz2 : s.size ≤ 1000000 := by omega
  have hat : ∀ i (h : i < s.size) (h2 : i < l.length), s[i] = l[i] := fun i h h2 => by subst hs; exact tx_at l i h
  have HSZ := Lib.hid hsz
  have HAT := Lib.hid hat
  clear hs hsz hat hz
  go_enter Tryd.func45, Tryd.ntmps45
  go_wp2
  go_loop [3] (fun iv => ∃ i : Nat, i ≤ s.size ∧ iv = .int .i64 (i : Int) ∧ ∀ j (h : j < l.length), j < i → isDig l[j] = true) (fun iv => s.size - (intOf iv).toNat)
  case atStart => exact ⟨0, by omega, rfl, fun j _ h => by omega⟩
  case round =>
    obtain ⟨i, hi, rfl, hn⟩ := hrel
    have HN := Lib.hid hn
    clear hn
    by_cases hil : i < s.size
    · have hc := HAT.out i hil (by have := HSZ.out; omega)
      by_cases hd : isDig l[i] = true
      · have HD := Lib.hid hd
        have h1 := (dig_iff _).1 hd
        rw [← hc] at h1
        have g1 : (48 : Int) ≤ (s[i].toNat : Int) := by omega
        have g2 : (s[i].toNat : Int) ≤ 57 := by omega
        clear hd hc h1
        go_wp2
        go_round
        case rel =>
          refine ⟨i + 1, by omega, by go_num, fun j hj hji => ?_⟩
          by_cases hji' : j < i
          · exact HN.out j hj hji'
          · obtain rfl : j = i := by omega
            exact HD.out
        case measure => simp [intOf]; omega
      · have hf : digitsB l = false := by
          cases h : digitsB l with
          | false => rfl
          | true => exact absurd (((digitsB_iff l).1 h).2 _ (List.getElem_mem _)) hd
        have h1 := (dig_not _).1 (by simpa using hd)
        rw [← hc] at h1
        have HF := Lib.hid hf
        clear hd hc hf
        rcases h1 with h1 | h1
        · have g1 : (s[i].toNat : Int) < 48 := by omega
          go_wp2
          go_ret
          exact ⟨by rw [HF.out]; rfl, rfl⟩
        · have g1 : (57 : Int) < (s[i].toNat : Int) := by omega
          have g2 : (48 : Int) ≤ (s[i].toNat : Int) := by omega
          go_wp2
          go_ret
          exact ⟨by rw [HF.out]; rfl, rfl⟩
    · have hie : i = s.size := by omega
      subst hie
      by_cases h0 : 0 < s.size
      · have hf : digitsB l = true := by
          rw [digitsB_iff]
          have hh := HSZ.out
          refine ⟨fun e => by have h9 := congrArg List.length e; rw [List.length_nil] at h9; omega, fun x hx => ?_⟩
          obtain ⟨j, hj, rfl⟩ := List.getElem_of_mem hx
          exact HN.out j hj (by omega)
        have HF := Lib.hid hf
        have hd : decide (0 < s.size) = true := decide_eq_true h0
        clear hf
        go_wp2
        go_ret
        exact ⟨by rw [HF.out]; rfl, rfl⟩
      · have hf : digitsB l = false := by
          have hh := HSZ.out
          have : l = [] := List.length_eq_zero_iff.1 (by omega)
          rw [this]; rfl
        have HF := Lib.hid hf
        have h00 : s.size = 0 := by omega
        clear hf
        go_wp2
        go_ret
        exact ⟨by rw [HF.out]; rfl, rfl⟩
theorem rdigits_any (l : List UInt8) (w : World) (hz : l.length ≤ 1000000) :
    Calls Tryd.prog 45 #[.string (tx l)] w fun e w' => e = .returned (.bool (digitsB l)) ∧ w = w' := rdigits_raw (tx l) l w rfl hz

set_option maxRecDepth 100000 in
theorem rnumber_any (l : List UInt8) (w : World) (hz : l.length ≤ 1000000) :
    Calls Tryd.prog 35 #[.string (tx l)] w fun e w' => e = .returned (.bool (numberB l)) ∧ w = w' := by
  have hc := rdigits_any l w hz
  have hsz := tx_size l
  cases hd : digitsB l with
  | false =>
    have hn : numberB l = false := by unfold numberB; rw [hd]; rfl
    rw [hn]
    rw [hd] at hc
    have HC := Lib.hid hc
    clear hc hd hn hsz
    go_enter Tryd.func35, Tryd.ntmps35
    go_wp2_with (go_at_call 45; refine HC.out.mono ?_; rintro e w' ⟨rfl, rfl⟩)
    go_ret
    exact ⟨rfl, rfl⟩
  | true =>
    have hne := ((digitsB_iff l).1 hd).1
    have hpos : 0 < (tx l).size := by rw [hsz]; exact List.length_pos_iff.2 hne
    have h0 : (tx l)[0] = l[0]'(List.length_pos_iff.2 hne) := tx_at l 0 hpos
    have hh : l.head? = some (l[0]'(List.length_pos_iff.2 hne)) := by rw [List.head?_eq_getElem?, List.getElem?_eq_getElem]
    rw [hd] at hc
    have HC := Lib.hid hc
    clear hc
    obtain ⟨S, hS⟩ : ∃ S, S = tx l := ⟨_, rfl⟩
    rw [← hS] at HC hsz hpos ⊢
    have h0' : S[0] = l[0]'(List.length_pos_iff.2 hne) := by subst hS; exact h0
    by_cases h1 : l.length = 1
    · have hn : numberB l = true := by unfold numberB; rw [hd]; simp [h1]
      have HN := Lib.hid hn
      rw [h1] at hsz
      clear hd hne h0 hh hn h0' hS h1
      go_enter Tryd.func35, Tryd.ntmps35
      go_wp2_with (go_at_call 45; refine HC.out.mono ?_; rintro e w' ⟨rfl, rfl⟩)
      go_ret
      exact ⟨by rw [HN.out]; rfl, rfl⟩
    · have hs1 : ¬ S.size = 1 := by omega
      have q1 : ((S.size : Int) == 1) = false := by rw [beq_eq_false_iff_ne]; omega
      by_cases hc : (l[0]'(List.length_pos_iff.2 hne)).toNat = 48
      · have hn : numberB l = false := by
          unfold numberB
          rw [hd, hh]
          have : (l[0]'(List.length_pos_iff.2 hne)) = 48 := UInt8.toNat_inj.1 hc
          rw [this]
          simp [h1]
        have HN := Lib.hid hn
        have q2 : ((S[0].toNat : Int) == 48) = true := by rw [h0', hc]; rfl
        have q3 : ((S[0].toNat : Int) != 48) = false := by unfold bne; rw [q2]; rfl
        clear hd h0 hh hn h0' hS h1 hsz hc hne
        go_enter Tryd.func35, Tryd.ntmps35
        go_wp2_with (go_at_call 45; refine HC.out.mono ?_; rintro e w' ⟨rfl, rfl⟩)
        go_ret
        exact ⟨by rw [HN.out]; rfl, rfl⟩
      · have hn : numberB l = true := by
          unfold numberB
          rw [hd, hh]
          have : ¬ (l[0]'(List.length_pos_iff.2 hne)) = 48 := fun e => hc (by rw [e]; rfl)
          simp [this]
        have HN := Lib.hid hn
        have q2 : ((S[0].toNat : Int) == 48) = false := by rw [beq_eq_false_iff_ne, h0']; omega
        have q3 : ((S[0].toNat : Int) != 48) = true := by unfold bne; rw [q2]; rfl
        clear hd h0 hh hn h0' hS h1 hsz hc hne
        go_enter Tryd.func35, Tryd.ntmps35
        go_wp2_with (go_at_call 45; refine HC.out.mono ?_; rintro e w' ⟨rfl, rfl⟩)
        go_ret
        exact ⟨by rw [HN.out]; rfl, rfl⟩
end Go.Proofs.YtkpiebcncjlgcaaDoor.Sem
