/- THE WALK of the document's Words. Conditions: a bound on the length. -/
import Derived.Test.YtkpiebcncjlgcaaDoorSemG
import Derived.Test.YtkpiebcncjlgcaaDoorSemD
namespace Go.Proofs.YtkpiebcncjlgcaaDoor.Sem
open Go Go.RowKit
set_option linter.unusedVariables false

theorem words_bad {pre : Bool} {l x : List UInt8} (hm : x ∈ splitD 46 l) (hx : wordOk pre x = false) : wordsB pre l = false := by
  cases h : wordsB pre l with
  | false => rfl
  | true => unfold wordsB at h; rw [List.all_eq_true] at h; rw [h x hm] at hx; cases hx
theorem words_good {pre : Bool} {l : List UInt8} (h : ∀ k (hk : k < (splitD 46 l).length), k < (splitD 46 l).length → wordOk pre (splitD 46 l)[k] = true) : wordsB pre l = true := by
  unfold wordsB
  rw [List.all_eq_true]
  intro x hx
  obtain ⟨k, hk, rfl⟩ := List.getElem_of_mem hx
  exact h k hk hk
theorem wordOk_n (x : List UInt8) (hx : ¬ x = []) (hn : numberB x = true) : (x.all okc = true → wordOk true x = true) ∧ (x.all okc = false → wordOk true x = false) :=
  wordOk_t x hx (fun _ h1 h2 => by
    unfold numberB at hn
    simp only [Bool.and_eq_true, Bool.or_eq_true, decide_eq_true_eq] at hn
    rcases hn.2 with h | h
    · omega
    · exact h h2)
theorem wordOk_nn (x : List UInt8) (hd : digitsB x = true) (hn : numberB x = false) : wordOk true x = false := by
  unfold numberB at hn
  rw [hd] at hn
  simp only [Bool.true_and, Bool.or_eq_false_iff, decide_eq_false_iff_not, Decidable.not_not] at hn
  have hp := List.length_pos_iff.2 ((digitsB_iff x).1 hd).1
  unfold wordOk
  rw [hd, hn.2]
  have : 1 < x.length := by omega
  simp [this]

set_option maxRecDepth 100000 in
set_option maxHeartbeats 8000000 in
theorem rwords_any (l : List UInt8) (pre : Bool) (w : World) (hz : l.length ≤ 1000000) :
    Calls Tryd.prog 33 #[.string (tx l), .bool pre] w fun e w' => e = .returned (.bool (wordsB pre l)) ∧ Below w.heap.size w w' := by
  go_enter Tryd.func33, Tryd.ntmps33
  go_wp2_with fail
  refine (rcut_any l 46 w hz).mono ?_
  rintro e W1 ⟨v, rfl, hown, hb⟩
  obtain ⟨g, cap, hv, hgB, hgl⟩ := hown.form (by rw [List.length_map]; exact List.length_pos_iff.2 (splitD_ne 46 l))
  have hml : ((splitD 46 l).map tx).length = (splitD 46 l).length := List.length_map _
  rw [hml] at hv
  subst hv
  have hcells : ∀ i (h : i < (splitD 46 l).length), W1.cell? ⟨g, i, none⟩ = some (.string (tx (splitD 46 l)[i])) := fun i h => by
    have h1 := hown.cell hml i h
    rw [List.getElem_map] at h1
    exact h1
  have hml2 : (splitD 46 l).length ≤ 1000001 := by have := splitD_len 46 l; omega
  have HCL := Lib.hid hcells
  have HB := Lib.hid hb
  obtain ⟨m, hm⟩ : ∃ m, m = (splitD 46 l).length := ⟨_, rfl⟩
  rw [← hm] at hml2 ⊢
  have HMM := Lib.hid hm
  clear hown hb hcells hml hm
  go_wp2
  go_loop [12] (fun iv => ∃ i : Nat, i ≤ m ∧ iv = .int .i64 (i : Int) ∧ ∀ k (h : k < (splitD 46 l).length), k < i → wordOk pre (splitD 46 l)[k] = true) (fun iv => m - (intOf iv).toNat)
  case atStart => exact ⟨0, by omega, rfl, fun k _ h => by omega⟩
  case round =>
    obtain ⟨i, hi, rfl, hn⟩ := hrel
    have HN := Lib.hid hn
    clear hn
    by_cases him : i < m
    · have hiw : i < (splitD 46 l).length := by have := HMM.out; omega
      obtain ⟨x, hx⟩ : ∃ x, (splitD 46 l)[i] = x := ⟨_, rfl⟩
      have hxm : x ∈ splitD 46 l := by rw [← hx]; exact List.getElem_mem _
      have hxl : x.length ≤ 1000000 := Nat.le_trans (splitD_word 46 l x hxm) hz
      have hci := HCL.out i hiw
      have hNx : ∀ k (hk : k < (splitD 46 l).length), k = i → wordOk pre x = true → wordOk pre (splitD 46 l)[k] = true := fun k hk e h => by subst e; rw [hx]; exact h
      rw [hx] at hci
      have HM := Lib.hid hxm
      have HNX := Lib.hid hNx
      clear hxm hx hNx
      obtain ⟨S, hS⟩ : ∃ S, S = tx x := ⟨_, rfl⟩
      rw [← hS] at hci
      have hat : ∀ j (h : j < S.size) (h2 : j < x.length), S[j] = x[j] := fun j h h2 => by subst hS; exact tx_at x j h
      have hsz : S.size = x.length := by rw [hS]; exact tx_size x
      have ht : S.toList = x := by rw [hS]; exact tx_toList x
      have HD : Hid (∀ W, Calls Tryd.prog 45 #[.string S] W fun e w' => e = .returned (.bool (digitsB x)) ∧ W = w') := Lib.hid (fun W => by rw [hS]; exact rdigits_any x W hxl)
      have HNU : Hid (∀ W, Calls Tryd.prog 35 #[.string S] W fun e w' => e = .returned (.bool (numberB x)) ∧ W = w') := Lib.hid (fun W => by rw [hS]; exact rnumber_any x W hxl)
      have HSZ := Lib.hid hsz
      have HAT := Lib.hid hat
      have hS2 : S.size ≤ 1000000 := by omega
      clear hS hat hsz
      by_cases hx0 : x = []
      · subst hx0
        have HBAD : Hid (wordsB pre l = false) := Lib.hid (words_bad HM.out (by cases pre <;> rfl))
        go_wp2
        go_ret
        exact ⟨by rw [HBAD.out]; rfl, HB.out⟩
      · have hx1 : x.isEmpty = false := by cases x with | nil => exact absurd rfl hx0 | cons c x => rfl
        cases pre with
        | false =>
          have HW := Lib.hid (wordOk_f x hx0)
          go_wp2_with fail
          go_hide hQ
          have HQ := Lib.hid hQ
          clear hQ
          go_loop [7] (fun jv => ∃ j : Nat, j ≤ S.size ∧ jv = .int .i64 (j : Int) ∧ ∀ k (h : k < x.length), k < j → okc x[k] = true) (fun jv => S.size - (intOf jv).toNat)
          case atStart => exact ⟨0, by omega, rfl, fun k _ h => by omega⟩
          case round =>
            obtain ⟨j, hj, rfl, hn⟩ := hrel
            have HN2 := Lib.hid hn
            clear hn
            by_cases hjl : j < S.size
            · have hcj := HAT.out j hjl (by have := HSZ.out; omega)
              have hjx : j < x.length := by have := HSZ.out; omega
              by_cases hk : okc x[j] = true
              · have HK := Lib.hid hk
                have hy := okc_yes hk
                rw [← hcj] at hy
                clear hk hcj
                obtain ⟨cn, hcn⟩ : ∃ cn, cn = S[j].toNat := ⟨_, rfl⟩
                rw [← hcn] at hy
                have hcn' : S[j].toNat = cn := hcn.symm
                clear hcn
                rcases hy with ⟨y1, y2⟩ | ⟨y1, y2⟩ | ⟨y1, y2⟩ | y1
                all_goals
                  first | (have k1 : decide ((cn : Int) ≤ 57) = false := decide_eq_false (by omega)) | (have k1 : decide ((cn : Int) ≤ 57) = true := decide_eq_true (by omega)) | skip
                  first | (have k2 : decide ((cn : Int) ≤ 90) = false := decide_eq_false (by omega)) | (have k2 : decide ((cn : Int) ≤ 90) = true := decide_eq_true (by omega)) | skip
                  first | (have k3 : decide ((cn : Int) ≤ 122) = false := decide_eq_false (by omega)) | (have k3 : decide ((cn : Int) ≤ 122) = true := decide_eq_true (by omega)) | skip
                  go_wp2
                all_goals
                  go_round
                  case rel =>
                    refine ⟨j + 1, by omega, by go_num, fun k hk hkj => ?_⟩
                    by_cases hkj' : k < j
                    · exact HN2.out k hk hkj'
                    · obtain rfl : k = j := by omega
                      exact HK.out
                  case measure => simp [intOf]; omega
              · have HK := Lib.hid hk
                have hy := okc_no hk
                rw [← hcj] at hy
                clear hk hcj
                have hbad : wordsB false l = false := words_bad HM.out (HW.out.2 (all_no hjx HK.out))
                have HBAD := Lib.hid hbad
                clear hbad
                obtain ⟨cn, hcn⟩ : ∃ cn, cn = S[j].toNat := ⟨_, rfl⟩
                rw [← hcn] at hy
                have hcn' : S[j].toNat = cn := hcn.symm
                clear hcn
                rcases hy with y1 | ⟨y1, y2⟩ | ⟨y1, y2⟩ | ⟨y1, y2⟩ | y1
                all_goals
                  have q45 : ((cn : Int) == 45) = false := by rw [beq_eq_false_iff_ne]; omega
                  first | (have k1 : decide ((cn : Int) ≤ 57) = false := decide_eq_false (by omega)) | (have k1 : decide ((cn : Int) ≤ 57) = true := decide_eq_true (by omega)) | skip
                  first | (have k2 : decide ((cn : Int) ≤ 90) = false := decide_eq_false (by omega)) | (have k2 : decide ((cn : Int) ≤ 90) = true := decide_eq_true (by omega)) | skip
                  first | (have k3 : decide ((cn : Int) ≤ 122) = false := decide_eq_false (by omega)) | (have k3 : decide ((cn : Int) ≤ 122) = true := decide_eq_true (by omega)) | skip
                  go_wp2
                  rw [← HQ.out]
                  go_wp2
                  go_ret
                  exact ⟨by rw [HBAD.out]; rfl, HB.out⟩
            · have hje : j = S.size := by omega
              subst hje
              have HOK : Hid (wordOk false x = true) := Lib.hid (HW.out.1 (all_yes (fun k hk hk2 => HN2.out k hk (by have := HSZ.out; omega))))
              go_wp2
              rw [← HQ.out]
              go_wp2
              go_round
              case rel =>
                refine ⟨i + 1, by omega, by go_num, fun k hk hki => ?_⟩
                by_cases hki' : k < i
                · exact HN.out k hk hki'
                · have hki2 : k = i := by omega
                  exact HNX.out k hk hki2 HOK.out
              case measure => simp [intOf]; omega
        | true =>
          cases hd : digitsB x with
          | false =>
            have HDD : Hid (∀ W, Calls Tryd.prog 45 #[.string S] W fun e w' => e = .returned (.bool false) ∧ W = w') := Lib.hid (fun W => by have h9 := HD.out W; rw [hd] at h9; exact h9)
            have HW := Lib.hid (wordOk_t x hx0 (by rw [hd]; exact fun h => by cases h))
            clear hd
            go_wp2_with (go_at_call 45; refine (HDD.out _).mono ?_; rintro e w' ⟨rfl, rfl⟩)
            go_hide hQ
            have HQ := Lib.hid hQ
            clear hQ
            go_loop [7] (fun jv => ∃ j : Nat, j ≤ S.size ∧ jv = .int .i64 (j : Int) ∧ ∀ k (h : k < x.length), k < j → okc x[k] = true) (fun jv => S.size - (intOf jv).toNat)
            case atStart => exact ⟨0, by omega, rfl, fun k _ h => by omega⟩
            case round =>
              obtain ⟨j, hj, rfl, hn⟩ := hrel
              have HN2 := Lib.hid hn
              clear hn
              by_cases hjl : j < S.size
              · have hcj := HAT.out j hjl (by have := HSZ.out; omega)
                have hjx : j < x.length := by have := HSZ.out; omega
                by_cases hk : okc x[j] = true
                · have HK := Lib.hid hk
                  have hy := okc_yes hk
                  rw [← hcj] at hy
                  clear hk hcj
                  obtain ⟨cn, hcn⟩ : ∃ cn, cn = S[j].toNat := ⟨_, rfl⟩
                  rw [← hcn] at hy
                  have hcn' : S[j].toNat = cn := hcn.symm
                  clear hcn
                  rcases hy with ⟨y1, y2⟩ | ⟨y1, y2⟩ | ⟨y1, y2⟩ | y1
                  all_goals
                    first | (have k1 : decide ((cn : Int) ≤ 57) = false := decide_eq_false (by omega)) | (have k1 : decide ((cn : Int) ≤ 57) = true := decide_eq_true (by omega)) | skip
                    first | (have k2 : decide ((cn : Int) ≤ 90) = false := decide_eq_false (by omega)) | (have k2 : decide ((cn : Int) ≤ 90) = true := decide_eq_true (by omega)) | skip
                    first | (have k3 : decide ((cn : Int) ≤ 122) = false := decide_eq_false (by omega)) | (have k3 : decide ((cn : Int) ≤ 122) = true := decide_eq_true (by omega)) | skip
                    go_wp2
                  all_goals
                    go_round
                    case rel =>
                      refine ⟨j + 1, by omega, by go_num, fun k hk hkj => ?_⟩
                      by_cases hkj' : k < j
                      · exact HN2.out k hk hkj'
                      · obtain rfl : k = j := by omega
                        exact HK.out
                    case measure => simp [intOf]; omega
                · have HK := Lib.hid hk
                  have hy := okc_no hk
                  rw [← hcj] at hy
                  clear hk hcj
                  have hbad : wordsB true l = false := words_bad HM.out (HW.out.2 (all_no hjx HK.out))
                  have HBAD := Lib.hid hbad
                  clear hbad
                  obtain ⟨cn, hcn⟩ : ∃ cn, cn = S[j].toNat := ⟨_, rfl⟩
                  rw [← hcn] at hy
                  have hcn' : S[j].toNat = cn := hcn.symm
                  clear hcn
                  rcases hy with y1 | ⟨y1, y2⟩ | ⟨y1, y2⟩ | ⟨y1, y2⟩ | y1
                  all_goals
                    have q45 : ((cn : Int) == 45) = false := by rw [beq_eq_false_iff_ne]; omega
                    first | (have k1 : decide ((cn : Int) ≤ 57) = false := decide_eq_false (by omega)) | (have k1 : decide ((cn : Int) ≤ 57) = true := decide_eq_true (by omega)) | skip
                    first | (have k2 : decide ((cn : Int) ≤ 90) = false := decide_eq_false (by omega)) | (have k2 : decide ((cn : Int) ≤ 90) = true := decide_eq_true (by omega)) | skip
                    first | (have k3 : decide ((cn : Int) ≤ 122) = false := decide_eq_false (by omega)) | (have k3 : decide ((cn : Int) ≤ 122) = true := decide_eq_true (by omega)) | skip
                    go_wp2
                    rw [← HQ.out]
                    go_wp2
                    go_ret
                    exact ⟨by rw [HBAD.out]; rfl, HB.out⟩
              · have hje : j = S.size := by omega
                subst hje
                have HOK : Hid (wordOk true x = true) := Lib.hid (HW.out.1 (all_yes (fun k hk hk2 => HN2.out k hk (by have := HSZ.out; omega))))
                go_wp2
                rw [← HQ.out]
                go_wp2
                go_round
                case rel =>
                  refine ⟨i + 1, by omega, by go_num, fun k hk hki => ?_⟩
                  by_cases hki' : k < i
                  · exact HN.out k hk hki'
                  · have hki2 : k = i := by omega
                    exact HNX.out k hk hki2 HOK.out
                case measure => simp [intOf]; omega
          | true =>
            have HDD : Hid (∀ W, Calls Tryd.prog 45 #[.string S] W fun e w' => e = .returned (.bool true) ∧ W = w') := Lib.hid (fun W => by have h9 := HD.out W; rw [hd] at h9; exact h9)
            cases hnu : numberB x with
            | false =>
              have HNN : Hid (∀ W, Calls Tryd.prog 35 #[.string S] W fun e w' => e = .returned (.bool false) ∧ W = w') := Lib.hid (fun W => by have h9 := HNU.out W; rw [hnu] at h9; exact h9)
              have HBAD : Hid (wordsB true l = false) := Lib.hid (words_bad HM.out (wordOk_nn x hd hnu))
              clear hd hnu
              go_wp2_with (first | (go_at_call 45; refine (HDD.out _).mono ?_; rintro e w' ⟨rfl, rfl⟩) | (go_at_call 35; refine (HNN.out _).mono ?_; rintro e w' ⟨rfl, rfl⟩))
              go_ret
              exact ⟨by rw [HBAD.out]; rfl, HB.out⟩
            | true =>
              have HNN : Hid (∀ W, Calls Tryd.prog 35 #[.string S] W fun e w' => e = .returned (.bool true) ∧ W = w') := Lib.hid (fun W => by have h9 := HNU.out W; rw [hnu] at h9; exact h9)
              have HW := Lib.hid (wordOk_n x hx0 hnu)
              clear hd hnu
              go_wp2_with (first | (go_at_call 45; refine (HDD.out _).mono ?_; rintro e w' ⟨rfl, rfl⟩) | (go_at_call 35; refine (HNN.out _).mono ?_; rintro e w' ⟨rfl, rfl⟩))
              go_hide hQ
              have HQ := Lib.hid hQ
              clear hQ
              go_loop [7] (fun jv => ∃ j : Nat, j ≤ S.size ∧ jv = .int .i64 (j : Int) ∧ ∀ k (h : k < x.length), k < j → okc x[k] = true) (fun jv => S.size - (intOf jv).toNat)
              case atStart => exact ⟨0, by omega, rfl, fun k _ h => by omega⟩
              case round =>
                obtain ⟨j, hj, rfl, hn⟩ := hrel
                have HN2 := Lib.hid hn
                clear hn
                by_cases hjl : j < S.size
                · have hcj := HAT.out j hjl (by have := HSZ.out; omega)
                  have hjx : j < x.length := by have := HSZ.out; omega
                  by_cases hk : okc x[j] = true
                  · have HK := Lib.hid hk
                    have hy := okc_yes hk
                    rw [← hcj] at hy
                    clear hk hcj
                    obtain ⟨cn, hcn⟩ : ∃ cn, cn = S[j].toNat := ⟨_, rfl⟩
                    rw [← hcn] at hy
                    have hcn' : S[j].toNat = cn := hcn.symm
                    clear hcn
                    rcases hy with ⟨y1, y2⟩ | ⟨y1, y2⟩ | ⟨y1, y2⟩ | y1
                    all_goals
                      first | (have k1 : decide ((cn : Int) ≤ 57) = false := decide_eq_false (by omega)) | (have k1 : decide ((cn : Int) ≤ 57) = true := decide_eq_true (by omega)) | skip
                      first | (have k2 : decide ((cn : Int) ≤ 90) = false := decide_eq_false (by omega)) | (have k2 : decide ((cn : Int) ≤ 90) = true := decide_eq_true (by omega)) | skip
                      first | (have k3 : decide ((cn : Int) ≤ 122) = false := decide_eq_false (by omega)) | (have k3 : decide ((cn : Int) ≤ 122) = true := decide_eq_true (by omega)) | skip
                      go_wp2
                    all_goals
                      go_round
                      case rel =>
                        refine ⟨j + 1, by omega, by go_num, fun k hk hkj => ?_⟩
                        by_cases hkj' : k < j
                        · exact HN2.out k hk hkj'
                        · obtain rfl : k = j := by omega
                          exact HK.out
                      case measure => simp [intOf]; omega
                  · have HK := Lib.hid hk
                    have hy := okc_no hk
                    rw [← hcj] at hy
                    clear hk hcj
                    have hbad : wordsB true l = false := words_bad HM.out (HW.out.2 (all_no hjx HK.out))
                    have HBAD := Lib.hid hbad
                    clear hbad
                    obtain ⟨cn, hcn⟩ : ∃ cn, cn = S[j].toNat := ⟨_, rfl⟩
                    rw [← hcn] at hy
                    have hcn' : S[j].toNat = cn := hcn.symm
                    clear hcn
                    rcases hy with y1 | ⟨y1, y2⟩ | ⟨y1, y2⟩ | ⟨y1, y2⟩ | y1
                    all_goals
                      have q45 : ((cn : Int) == 45) = false := by rw [beq_eq_false_iff_ne]; omega
                      first | (have k1 : decide ((cn : Int) ≤ 57) = false := decide_eq_false (by omega)) | (have k1 : decide ((cn : Int) ≤ 57) = true := decide_eq_true (by omega)) | skip
                      first | (have k2 : decide ((cn : Int) ≤ 90) = false := decide_eq_false (by omega)) | (have k2 : decide ((cn : Int) ≤ 90) = true := decide_eq_true (by omega)) | skip
                      first | (have k3 : decide ((cn : Int) ≤ 122) = false := decide_eq_false (by omega)) | (have k3 : decide ((cn : Int) ≤ 122) = true := decide_eq_true (by omega)) | skip
                      go_wp2
                      rw [← HQ.out]
                      go_wp2
                      go_ret
                      exact ⟨by rw [HBAD.out]; rfl, HB.out⟩
                · have hje : j = S.size := by omega
                  subst hje
                  have HOK : Hid (wordOk true x = true) := Lib.hid (HW.out.1 (all_yes (fun k hk hk2 => HN2.out k hk (by have := HSZ.out; omega))))
                  go_wp2
                  rw [← HQ.out]
                  go_wp2
                  go_round
                  case rel =>
                    refine ⟨i + 1, by omega, by go_num, fun k hk hki => ?_⟩
                    by_cases hki' : k < i
                    · exact HN.out k hk hki'
                    · have hki2 : k = i := by omega
                      exact HNX.out k hk hki2 HOK.out
                  case measure => simp [intOf]; omega
    · have HG : Hid (wordsB pre l = true) := Lib.hid (words_good (fun k hk hk2 => HN.out k hk (by have := HMM.out; omega)))
      have him2 : i = m := by omega
      subst him2
      go_wp2
      go_ret
      exact ⟨by rw [HG.out]; rfl, HB.out⟩
end Go.Proofs.YtkpiebcncjlgcaaDoor.Sem
