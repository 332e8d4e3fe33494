/- THE WALK of the document's Path. Conditions: a bound on the length. -/
import Derived.Test.YtgojmckfabhkaaaDoorReqParts
import Derived.Test.YtgojmckfabhkaaaDoorSemC
import Derived.Test.YtgojmckfabhkaaaDoorReqPathMath
namespace Go.Proofs.YtgojmckfabhkaaaDoor.Sem
open Go Go.RowKit
set_option linter.unusedVariables false

theorem contains_step (c : UInt8) {x : List UInt8} {j : Nat} (h : j < x.length) : (x.take (j + 1)).contains c = ((x.take j).contains c || (x[j] == c)) := by
  rw [take_succ h, Bool.eq_iff_iff, Bool.or_eq_true, List.contains_iff_mem, List.contains_iff_mem, List.mem_append, List.mem_singleton, beq_iff_eq]
  exact or_congr Iff.rfl eq_comm
theorem char_yes {c : UInt8} (h : charB false c = true) : (97 ≤ (c.toNat : Int) ∧ (c.toNat : Int) ≤ 122) ∨ (48 ≤ (c.toNat : Int) ∧ (c.toNat : Int) ≤ 57) ∨ (c.toNat : Int) = 45 ∨ (c.toNat : Int) = 46 ∨ (65 ≤ (c.toNat : Int) ∧ (c.toNat : Int) ≤ 90) ∨ (c.toNat : Int) = 95 ∨ (c.toNat : Int) = 126 := by
  by_cases hs : smallc c = true
  · rcases small_yes hs with h1 | h1 | h1 | h1
    · exact Or.inl h1
    · exact Or.inr (Or.inl h1)
    · exact Or.inr (Or.inr (Or.inl h1))
    · exact Or.inr (Or.inr (Or.inr (Or.inl h1)))
  · exact Or.inr (Or.inr (Or.inr (Or.inr (big_yes hs h))))
set_option maxRecDepth 100000 in
set_option maxHeartbeats 16000000 in
theorem rpath_any (l : List UInt8) (w : World) (hz : l.length ≤ 1000000) :
    Calls Tryd.prog 5 #[.string (tx l)] w fun e w' => e = .returned (.bool (pathB l)) ∧ Below w.heap.size w w' := by
  have hsz := tx_size l
  obtain ⟨T, hT⟩ : ∃ T, T = tx l := ⟨_, rfl⟩
  rw [← hT] at hsz ⊢
  have hparts : ∀ W, Calls Tryd.prog 17 #[.string T] W (CutP 47 l W) := fun W => by rw [hT]; exact parts_any l W hz
  have HPA := Lib.hid hparts
  clear hparts hT
  go_enter Tryd.func5, Tryd.ntmps5
  by_cases hlong : 200 < l.length
  · have HG : Hid (pathB l = false) := Lib.hid (by unfold pathB; rw [decide_eq_false (by omega)]; rfl)
    go_wp2
    go_ret
    exact ⟨by rw [HG.out]; rfl, Below.refl _ _⟩
  go_wp2_with fail
  refine (HPA.out w).mono ?_
  rintro e W1 ⟨v, rfl, hown, hb⟩
  obtain ⟨g, cap, hv, hgB, hgl⟩ := hown.form (by rw [List.length_map]; exact List.length_pos_iff.2 (splitD_ne 47 l))
  have hml : ((splitD 47 l).map tx).length = (splitD 47 l).length := List.length_map _
  rw [hml] at hv
  subst hv
  have hcells : ∀ i (h : i < (splitD 47 l).length), W1.cell? ⟨g, i, none⟩ = some (.string (tx (splitD 47 l)[i])) := fun i h => by
    have h1 := hown.cell hml i h
    rw [List.getElem_map] at h1
    exact h1
  have hml2 : (splitD 47 l).length ≤ 1000001 := by have := splitD_len 47 l; omega
  have HP0 : Hid (pathB l = pathOk true (splitD 47 l)) := Lib.hid (by unfold pathB; rw [decide_eq_true (by omega)]; rfl)
  have HCL := Lib.hid hcells
  have HB := Lib.hid hb
  obtain ⟨m, hm⟩ : ∃ m, m = (splitD 47 l).length := ⟨_, rfl⟩
  rw [← hm] at hml2 ⊢
  have HMM := Lib.hid hm
  clear hown hb hcells hml hm
  go_wp2
  go_loop [14] (fun iv => ∃ i : Nat, i ≤ m ∧ iv = .int .i64 (i : Int) ∧ pathOk (decide (i = 0)) ((splitD 47 l).drop i) = pathB l) (fun iv => m - (intOf iv).toNat)
  case atStart => exact ⟨0, by omega, rfl, HP0.out.symm⟩
  case round =>
    obtain ⟨i, hi, rfl, hn⟩ := hrel
    have HPO := Lib.hid hn
    clear hn
    by_cases him : i < m
    · have hiw : i < (splitD 47 l).length := by have := HMM.out; omega
      have hstep := pathOk_step (f := decide (i = 0)) hiw
      obtain ⟨x, hx⟩ : ∃ x, (splitD 47 l)[i] = x := ⟨_, rfl⟩
      have hxm : x ∈ splitD 47 l := by rw [← hx]; exact List.getElem_mem _
      have hxl : x.length ≤ 1000000 := Nat.le_trans (splitD_word 47 l x hxm) hz
      have hci := HCL.out i hiw
      rw [hx] at hci hstep
      clear hxm hx
      obtain ⟨S, hS⟩ : ∃ S, S = tx x := ⟨_, rfl⟩
      rw [← hS] at hci
      have hat : ∀ j (h : j < S.size) (h2 : j < x.length), S[j] = x[j] := fun j h h2 => by subst hS; exact tx_at x j h
      have hsz : S.size = x.length := by rw [hS]; exact tx_size x
      have HSZ := Lib.hid hsz
      have HAT := Lib.hid hat
      have HS := Lib.hid hS
      have hS2 : S.size ≤ 1000000 := by omega
      clear hS hat hsz
      by_cases hi0 : i = 0
      · have hF : decide (i = 0) = true := decide_eq_true hi0
        have q0 : ((i : Int) == 0) = true := by rw [beq_iff_eq]; omega
        have hF1 : decide (i + 1 = 0) = false := decide_eq_false (by omega)
        have HNO : Hid (partB true x = false → pathB l = false) := Lib.hid (fun h => by rw [← HPO.out, hstep, hF, h]; rfl)
        have HST : Hid (pathOk (decide (i = 0)) ((splitD 47 l).drop i) = (partB true x && pathOk (decide (i + 1 = 0)) ((splitD 47 l).drop (i + 1)))) := Lib.hid (by rw [hstep, hF, hF1])
        clear hstep hF1
        clear hi0 hF
        by_cases hx0 : x = []
        · subst hx0
          have HBAD : Hid (pathB l = false) := Lib.hid (HNO.out (partB_nil _))
          have qe : S.toList.isEmpty = true := by rw [HS.out, tx_toList]; rfl
          go_wp2
          go_ret
          exact ⟨by rw [HBAD.out]; rfl, HB.out⟩
        · have hx1 : 0 < x.length := List.length_pos_iff.2 hx0
          have hs1 : 0 < S.size := by have := HSZ.out; omega
          have qe : S.toList.isEmpty = false := by
            rw [HS.out, tx_toList]
            cases x with
            | nil => exact absurd rfl hx0
            | cons c q => rfl
          have HX0 := Lib.hid hx1
          clear hx0
          obtain ⟨c0, hc0⟩ : ∃ c0, S[0].toNat = c0 := ⟨_, rfl⟩
          have HC0 : Hid (x[0].toNat = c0) := Lib.hid (by rw [← hc0]; exact congrArg UInt8.toNat (HAT.out 0 hs1 hx1).symm)
          obtain ⟨ce, hce⟩ : ∃ ce, S[S.size - 1].toNat = ce := ⟨_, rfl⟩
          have HCE : Hid ((x[x.length - 1]'(by omega)).toNat = ce) := Lib.hid (by rw [← hce, HAT.out (S.size - 1) (by omega) (by have := HSZ.out; omega)]; simp only [HSZ.out])
          by_cases hh : x[0].toNat = 46
          · have HBAD : Hid (pathB l = false) := Lib.hid (HNO.out (part_head hx1 hh))
            have q1 : ((c0 : Int) == 46) = true := by rw [← HC0.out, hh]; rfl
            clear hh
            go_wp2
            go_ret
            exact ⟨by rw [HBAD.out]; rfl, HB.out⟩
          · have q1 : ((c0 : Int) == 46) = false := by rw [beq_eq_false_iff_ne, ← HC0.out]; omega
            have HH := Lib.hid hh
            clear hh
            by_cases hl : (x[x.length - 1]'(by omega)).toNat = 46
            · have HBAD : Hid (pathB l = false) := Lib.hid (HNO.out (part_last (by omega) hl))
              have q2 : ((ce : Int) == 46) = true := by rw [← HCE.out, hl]; rfl
              clear hl
              go_wp2
              go_ret
              exact ⟨by rw [HBAD.out]; rfl, HB.out⟩
            · have q2 : ((ce : Int) == 46) = false := by rw [beq_eq_false_iff_ne, ← HCE.out]; omega
              have HL := Lib.hid hl
              clear hl
              go_wp2
              go_hide hQ
              have HQ := Lib.hid hQ
              clear hQ
              go_loop [5, 6] (fun dv jv => ∃ j : Nat, j ≤ S.size ∧ jv = .int .i64 (j : Int) ∧ dv = .bool ((x.take j).contains 46) ∧ ∀ k (h : k < x.length), k < j → charB true x[k] = true) (fun _ jv => S.size - (intOf jv).toNat)
              case atStart => exact ⟨0, by omega, rfl, rfl, fun k _ h => by omega⟩
              case round =>
                obtain ⟨j, hj, rfl, hdv, hn⟩ := hrel
                have HN2 := Lib.hid hn
                clear hn
                by_cases hjl : j < S.size
                · have hcj := HAT.out j hjl (by have := HSZ.out; omega)
                  have hjx : j < x.length := by have := HSZ.out; omega
                  have htk := contains_step 46 hjx
                  obtain ⟨d, hd⟩ : ∃ d, d = (x.take j).contains 46 := ⟨_, rfl⟩
                  rw [← hd] at hdv htk
                  have HTK := Lib.hid htk
                  have HCX := Lib.hid hcj
                  clear hd htk
                  subst hdv
                  by_cases hk : charB true x[j] = true
                  · have HK := Lib.hid hk
                    have hy := small_yes hk
                    rw [← hcj] at hy
                    clear hk hcj
                    obtain ⟨cn, hcn⟩ : ∃ cn, cn = S[j].toNat := ⟨_, rfl⟩
                    have HCN := Lib.hid hcn
                    rw [← hcn] at hy
                    have hcn' : S[j].toNat = cn := hcn.symm
                    clear hcn
                    cases d
                    all_goals
                      rcases hy with ⟨y1, y2⟩ | ⟨y1, y2⟩ | y1 | y1
                    all_goals
                      first | (have k1 : decide ((cn : Int) ≤ 57) = false := decide_eq_false (by omega)) | (have k1 : decide ((cn : Int) ≤ 57) = true := decide_eq_true (by omega)) | skip
                      first | (have k2 : decide ((cn : Int) ≤ 90) = false := decide_eq_false (by omega)) | (have k2 : decide ((cn : Int) ≤ 90) = true := decide_eq_true (by omega)) | skip
                      first | (have k3 : decide ((cn : Int) ≤ 122) = false := decide_eq_false (by omega)) | (have k3 : decide ((cn : Int) ≤ 122) = true := decide_eq_true (by omega)) | skip
                      first | (have g1 : decide ((97 : Int) ≤ (cn : Int)) = false := decide_eq_false (by omega)) | (have g1 : decide ((97 : Int) ≤ (cn : Int)) = true := decide_eq_true (by omega)) | skip
                      first | (have g2 : decide ((48 : Int) ≤ (cn : Int)) = false := decide_eq_false (by omega)) | (have g2 : decide ((48 : Int) ≤ (cn : Int)) = true := decide_eq_true (by omega)) | skip
                      first | (have g3 : decide ((65 : Int) ≤ (cn : Int)) = false := decide_eq_false (by omega)) | (have g3 : decide ((65 : Int) ≤ (cn : Int)) = true := decide_eq_true (by omega)) | skip
                      first | (have q45 : ((cn : Int) == 45) = false := by (rw [beq_eq_false_iff_ne]; omega)) | (have q45 : ((cn : Int) == 45) = true := by (rw [beq_iff_eq]; omega)) | skip
                      first | (have q46 : ((cn : Int) == 46) = false := by (rw [beq_eq_false_iff_ne]; omega)) | (have q46 : ((cn : Int) == 46) = true := by (rw [beq_iff_eq]; omega)) | skip
                      first | (have q95 : ((cn : Int) == 95) = false := by (rw [beq_eq_false_iff_ne]; omega)) | (have q95 : ((cn : Int) == 95) = true := by (rw [beq_iff_eq]; omega)) | skip
                      first | (have q126 : ((cn : Int) == 126) = false := by (rw [beq_eq_false_iff_ne]; omega)) | (have q126 : ((cn : Int) == 126) = true := by (rw [beq_iff_eq]; omega)) | skip
                      go_wp2
                    all_goals
                      go_round
                      case rel =>
                        refine ⟨j + 1, by omega, by go_num, ?_, fun k hk hkj => ?_⟩
                        · rw [HTK.out]
                          first
                            | rfl
                            | (have hw : x[j] = 46 := UInt8.toNat_inj.1 (by rw [← HCX.out, ← HCN.out]; show cn = 46; omega)
                               rw [hw]; rfl)
                            | (have hw : ¬ x[j] = 46 := fun e => by
                                 have h1 : cn = 46 := by rw [HCN.out, HCX.out, e]; rfl
                                 omega
                               rw [beq_eq_false_iff_ne.2 hw]; rfl)
                        · by_cases hkj' : k < j
                          · exact HN2.out k hk hkj'
                          · obtain rfl : k = j := by omega
                            exact HK.out
                      case measure => simp [intOf]; omega
                  · have HBAD : Hid (pathB l = false) := Lib.hid (HNO.out (part_char hjx (Bool.eq_false_iff.2 hk)))
                    have hy := small_no hk
                    rw [← hcj] at hy
                    clear hk hcj
                    obtain ⟨cn, hcn⟩ : ∃ cn, cn = S[j].toNat := ⟨_, rfl⟩
                    rw [← hcn] at hy
                    have hcn' : S[j].toNat = cn := hcn.symm
                    clear hcn
                    cases d
                    all_goals
                      rcases hy with y1 | ⟨y1, y2⟩ | ⟨y1, y2⟩ | y1
                    all_goals
                      first | (have k1 : decide ((cn : Int) ≤ 57) = false := decide_eq_false (by omega)) | (have k1 : decide ((cn : Int) ≤ 57) = true := decide_eq_true (by omega)) | skip
                      first | (have k2 : decide ((cn : Int) ≤ 90) = false := decide_eq_false (by omega)) | (have k2 : decide ((cn : Int) ≤ 90) = true := decide_eq_true (by omega)) | skip
                      first | (have k3 : decide ((cn : Int) ≤ 122) = false := decide_eq_false (by omega)) | (have k3 : decide ((cn : Int) ≤ 122) = true := decide_eq_true (by omega)) | skip
                      first | (have g1 : decide ((97 : Int) ≤ (cn : Int)) = false := decide_eq_false (by omega)) | (have g1 : decide ((97 : Int) ≤ (cn : Int)) = true := decide_eq_true (by omega)) | skip
                      first | (have g2 : decide ((48 : Int) ≤ (cn : Int)) = false := decide_eq_false (by omega)) | (have g2 : decide ((48 : Int) ≤ (cn : Int)) = true := decide_eq_true (by omega)) | skip
                      first | (have g3 : decide ((65 : Int) ≤ (cn : Int)) = false := decide_eq_false (by omega)) | (have g3 : decide ((65 : Int) ≤ (cn : Int)) = true := decide_eq_true (by omega)) | skip
                      first | (have q45 : ((cn : Int) == 45) = false := by (rw [beq_eq_false_iff_ne]; omega)) | (have q45 : ((cn : Int) == 45) = true := by (rw [beq_iff_eq]; omega)) | skip
                      first | (have q46 : ((cn : Int) == 46) = false := by (rw [beq_eq_false_iff_ne]; omega)) | (have q46 : ((cn : Int) == 46) = true := by (rw [beq_iff_eq]; omega)) | skip
                      first | (have q95 : ((cn : Int) == 95) = false := by (rw [beq_eq_false_iff_ne]; omega)) | (have q95 : ((cn : Int) == 95) = true := by (rw [beq_iff_eq]; omega)) | skip
                      first | (have q126 : ((cn : Int) == 126) = false := by (rw [beq_eq_false_iff_ne]; omega)) | (have q126 : ((cn : Int) == 126) = true := by (rw [beq_iff_eq]; omega)) | skip
                      go_wp2
                      rw [← HQ.out]
                      go_wp2
                      go_ret
                      exact ⟨by rw [HBAD.out]; rfl, HB.out⟩
                · have hje : j = S.size := by omega
                  subst hje
                  have hdx : (x.take S.size).contains 46 = x.contains 46 := by rw [List.take_of_length_le (by have := HSZ.out; omega)]
                  rw [hdx] at hdv
                  have HP : Hid (partB true x = (x.contains 46 && decide (c0 ≠ 45))) := Lib.hid ((part_rest (f := true) HX0.out HH.out HL.out (fun k hk _ => HN2.out k hk (by have := HSZ.out; omega))).trans (congrArg (fun n => !true || (x.contains 46 && decide (n ≠ 45))) HC0.out))
                  cases hdc : x.contains 46 with
                  | false =>
                    rw [hdc] at hdv
                    have HBAD : Hid (pathB l = false) := Lib.hid (HNO.out (by rw [HP.out, hdc]; rfl))
                    clear hdc hdx
                    subst hdv
                    go_wp2
                    rw [← HQ.out]
                    go_wp2
                    go_ret
                    exact ⟨by rw [HBAD.out]; rfl, HB.out⟩
                  | true =>
                    rw [hdc] at hdv
                    by_cases hm : c0 = 45
                    · have HBAD : Hid (pathB l = false) := Lib.hid (HNO.out (by rw [HP.out, hm]; simp))
                      have q9 : ((c0 : Int) == 45) = true := by rw [hm]; rfl
                      clear hdc hdx hm
                      subst hdv
                      go_wp2
                      rw [← HQ.out]
                      go_wp2
                      go_ret
                      exact ⟨by rw [HBAD.out]; rfl, HB.out⟩
                    · have HOK : Hid (partB true x = true) := Lib.hid (by rw [HP.out, hdc]; simp [hm])
                      have q9 : ((c0 : Int) == 45) = false := by rw [beq_eq_false_iff_ne]; omega
                      clear hdc hdx hm
                      subst hdv
                      go_wp2
                      rw [← HQ.out]
                      go_wp2
                      go_round
                      case rel =>
                        refine ⟨i + 1, by omega, by go_num, ?_⟩
                        rw [← HPO.out, HST.out, HOK.out]; rfl
                      case measure => simp [intOf]; omega
      · have hF : decide (i = 0) = false := decide_eq_false hi0
        have q0 : ((i : Int) == 0) = false := by rw [beq_eq_false_iff_ne]; omega
        have hF1 : decide (i + 1 = 0) = false := decide_eq_false (by omega)
        have HNO : Hid (partB false x = false → pathB l = false) := Lib.hid (fun h => by rw [← HPO.out, hstep, hF, h]; rfl)
        have HST : Hid (pathOk (decide (i = 0)) ((splitD 47 l).drop i) = (partB false x && pathOk (decide (i + 1 = 0)) ((splitD 47 l).drop (i + 1)))) := Lib.hid (by rw [hstep, hF, hF1])
        clear hstep hF1
        clear hi0 hF
        by_cases hx0 : x = []
        · subst hx0
          have HBAD : Hid (pathB l = false) := Lib.hid (HNO.out (partB_nil _))
          have qe : S.toList.isEmpty = true := by rw [HS.out, tx_toList]; rfl
          go_wp2
          go_ret
          exact ⟨by rw [HBAD.out]; rfl, HB.out⟩
        · have hx1 : 0 < x.length := List.length_pos_iff.2 hx0
          have hs1 : 0 < S.size := by have := HSZ.out; omega
          have qe : S.toList.isEmpty = false := by
            rw [HS.out, tx_toList]
            cases x with
            | nil => exact absurd rfl hx0
            | cons c q => rfl
          have HX0 := Lib.hid hx1
          clear hx0
          obtain ⟨c0, hc0⟩ : ∃ c0, S[0].toNat = c0 := ⟨_, rfl⟩
          have HC0 : Hid (x[0].toNat = c0) := Lib.hid (by rw [← hc0]; exact congrArg UInt8.toNat (HAT.out 0 hs1 hx1).symm)
          obtain ⟨ce, hce⟩ : ∃ ce, S[S.size - 1].toNat = ce := ⟨_, rfl⟩
          have HCE : Hid ((x[x.length - 1]'(by omega)).toNat = ce) := Lib.hid (by rw [← hce, HAT.out (S.size - 1) (by omega) (by have := HSZ.out; omega)]; simp only [HSZ.out])
          by_cases hh : x[0].toNat = 46
          · have HBAD : Hid (pathB l = false) := Lib.hid (HNO.out (part_head hx1 hh))
            have q1 : ((c0 : Int) == 46) = true := by rw [← HC0.out, hh]; rfl
            clear hh
            go_wp2
            go_ret
            exact ⟨by rw [HBAD.out]; rfl, HB.out⟩
          · have q1 : ((c0 : Int) == 46) = false := by rw [beq_eq_false_iff_ne, ← HC0.out]; omega
            have HH := Lib.hid hh
            clear hh
            by_cases hl : (x[x.length - 1]'(by omega)).toNat = 46
            · have HBAD : Hid (pathB l = false) := Lib.hid (HNO.out (part_last (by omega) hl))
              have q2 : ((ce : Int) == 46) = true := by rw [← HCE.out, hl]; rfl
              clear hl
              go_wp2
              go_ret
              exact ⟨by rw [HBAD.out]; rfl, HB.out⟩
            · have q2 : ((ce : Int) == 46) = false := by rw [beq_eq_false_iff_ne, ← HCE.out]; omega
              have HL := Lib.hid hl
              clear hl
              go_wp2
              go_hide hQ
              have HQ := Lib.hid hQ
              clear hQ
              go_loop [5, 6] (fun dv jv => ∃ j : Nat, j ≤ S.size ∧ jv = .int .i64 (j : Int) ∧ dv = .bool ((x.take j).contains 46) ∧ ∀ k (h : k < x.length), k < j → charB false x[k] = true) (fun _ jv => S.size - (intOf jv).toNat)
              case atStart => exact ⟨0, by omega, rfl, rfl, fun k _ h => by omega⟩
              case round =>
                obtain ⟨j, hj, rfl, hdv, hn⟩ := hrel
                have HN2 := Lib.hid hn
                clear hn
                by_cases hjl : j < S.size
                · have hcj := HAT.out j hjl (by have := HSZ.out; omega)
                  have hjx : j < x.length := by have := HSZ.out; omega
                  have htk := contains_step 46 hjx
                  obtain ⟨d, hd⟩ : ∃ d, d = (x.take j).contains 46 := ⟨_, rfl⟩
                  rw [← hd] at hdv htk
                  have HTK := Lib.hid htk
                  have HCX := Lib.hid hcj
                  clear hd htk
                  subst hdv
                  by_cases hk : charB false x[j] = true
                  · have HK := Lib.hid hk
                    have hy := char_yes hk
                    rw [← hcj] at hy
                    clear hk hcj
                    obtain ⟨cn, hcn⟩ : ∃ cn, cn = S[j].toNat := ⟨_, rfl⟩
                    have HCN := Lib.hid hcn
                    rw [← hcn] at hy
                    have hcn' : S[j].toNat = cn := hcn.symm
                    clear hcn
                    cases d
                    all_goals
                      rcases hy with ⟨y1, y2⟩ | ⟨y1, y2⟩ | y1 | y1 | ⟨y1, y2⟩ | y1 | y1
                    all_goals
                      first | (have k1 : decide ((cn : Int) ≤ 57) = false := decide_eq_false (by omega)) | (have k1 : decide ((cn : Int) ≤ 57) = true := decide_eq_true (by omega)) | skip
                      first | (have k2 : decide ((cn : Int) ≤ 90) = false := decide_eq_false (by omega)) | (have k2 : decide ((cn : Int) ≤ 90) = true := decide_eq_true (by omega)) | skip
                      first | (have k3 : decide ((cn : Int) ≤ 122) = false := decide_eq_false (by omega)) | (have k3 : decide ((cn : Int) ≤ 122) = true := decide_eq_true (by omega)) | skip
                      first | (have g1 : decide ((97 : Int) ≤ (cn : Int)) = false := decide_eq_false (by omega)) | (have g1 : decide ((97 : Int) ≤ (cn : Int)) = true := decide_eq_true (by omega)) | skip
                      first | (have g2 : decide ((48 : Int) ≤ (cn : Int)) = false := decide_eq_false (by omega)) | (have g2 : decide ((48 : Int) ≤ (cn : Int)) = true := decide_eq_true (by omega)) | skip
                      first | (have g3 : decide ((65 : Int) ≤ (cn : Int)) = false := decide_eq_false (by omega)) | (have g3 : decide ((65 : Int) ≤ (cn : Int)) = true := decide_eq_true (by omega)) | skip
                      first | (have q45 : ((cn : Int) == 45) = false := by (rw [beq_eq_false_iff_ne]; omega)) | (have q45 : ((cn : Int) == 45) = true := by (rw [beq_iff_eq]; omega)) | skip
                      first | (have q46 : ((cn : Int) == 46) = false := by (rw [beq_eq_false_iff_ne]; omega)) | (have q46 : ((cn : Int) == 46) = true := by (rw [beq_iff_eq]; omega)) | skip
                      first | (have q95 : ((cn : Int) == 95) = false := by (rw [beq_eq_false_iff_ne]; omega)) | (have q95 : ((cn : Int) == 95) = true := by (rw [beq_iff_eq]; omega)) | skip
                      first | (have q126 : ((cn : Int) == 126) = false := by (rw [beq_eq_false_iff_ne]; omega)) | (have q126 : ((cn : Int) == 126) = true := by (rw [beq_iff_eq]; omega)) | skip
                      go_wp2
                    all_goals
                      go_round
                      case rel =>
                        refine ⟨j + 1, by omega, by go_num, ?_, fun k hk hkj => ?_⟩
                        · rw [HTK.out]
                          first
                            | rfl
                            | (have hw : x[j] = 46 := UInt8.toNat_inj.1 (by rw [← HCX.out, ← HCN.out]; show cn = 46; omega)
                               rw [hw]; rfl)
                            | (have hw : ¬ x[j] = 46 := fun e => by
                                 have h1 : cn = 46 := by rw [HCN.out, HCX.out, e]; rfl
                                 omega
                               rw [beq_eq_false_iff_ne.2 hw]; rfl)
                        · by_cases hkj' : k < j
                          · exact HN2.out k hk hkj'
                          · obtain rfl : k = j := by omega
                            exact HK.out
                      case measure => simp [intOf]; omega
                  · have HBAD : Hid (pathB l = false) := Lib.hid (HNO.out (part_char hjx (Bool.eq_false_iff.2 hk)))
                    have hy := big_no hk
                    rw [← hcj] at hy
                    clear hk hcj
                    obtain ⟨cn, hcn⟩ : ∃ cn, cn = S[j].toNat := ⟨_, rfl⟩
                    rw [← hcn] at hy
                    have hcn' : S[j].toNat = cn := hcn.symm
                    clear hcn
                    cases d
                    all_goals
                      rcases hy with y1 | ⟨y1, y2⟩ | ⟨y1, y2⟩ | ⟨y1, y2⟩ | y1 | ⟨y1, y2⟩ | y1
                    all_goals
                      first | (have k1 : decide ((cn : Int) ≤ 57) = false := decide_eq_false (by omega)) | (have k1 : decide ((cn : Int) ≤ 57) = true := decide_eq_true (by omega)) | skip
                      first | (have k2 : decide ((cn : Int) ≤ 90) = false := decide_eq_false (by omega)) | (have k2 : decide ((cn : Int) ≤ 90) = true := decide_eq_true (by omega)) | skip
                      first | (have k3 : decide ((cn : Int) ≤ 122) = false := decide_eq_false (by omega)) | (have k3 : decide ((cn : Int) ≤ 122) = true := decide_eq_true (by omega)) | skip
                      first | (have g1 : decide ((97 : Int) ≤ (cn : Int)) = false := decide_eq_false (by omega)) | (have g1 : decide ((97 : Int) ≤ (cn : Int)) = true := decide_eq_true (by omega)) | skip
                      first | (have g2 : decide ((48 : Int) ≤ (cn : Int)) = false := decide_eq_false (by omega)) | (have g2 : decide ((48 : Int) ≤ (cn : Int)) = true := decide_eq_true (by omega)) | skip
                      first | (have g3 : decide ((65 : Int) ≤ (cn : Int)) = false := decide_eq_false (by omega)) | (have g3 : decide ((65 : Int) ≤ (cn : Int)) = true := decide_eq_true (by omega)) | skip
                      first | (have q45 : ((cn : Int) == 45) = false := by (rw [beq_eq_false_iff_ne]; omega)) | (have q45 : ((cn : Int) == 45) = true := by (rw [beq_iff_eq]; omega)) | skip
                      first | (have q46 : ((cn : Int) == 46) = false := by (rw [beq_eq_false_iff_ne]; omega)) | (have q46 : ((cn : Int) == 46) = true := by (rw [beq_iff_eq]; omega)) | skip
                      first | (have q95 : ((cn : Int) == 95) = false := by (rw [beq_eq_false_iff_ne]; omega)) | (have q95 : ((cn : Int) == 95) = true := by (rw [beq_iff_eq]; omega)) | skip
                      first | (have q126 : ((cn : Int) == 126) = false := by (rw [beq_eq_false_iff_ne]; omega)) | (have q126 : ((cn : Int) == 126) = true := by (rw [beq_iff_eq]; omega)) | skip
                      go_wp2
                      rw [← HQ.out]
                      go_wp2
                      go_ret
                      exact ⟨by rw [HBAD.out]; rfl, HB.out⟩
                · have hje : j = S.size := by omega
                  subst hje
                  have HOK : Hid (partB false x = true) := Lib.hid (by rw [part_rest HX0.out HH.out HL.out (fun k hk _ => HN2.out k hk (by have := HSZ.out; omega))]; rfl)
                  go_wp2
                  rw [← HQ.out]
                  go_wp2
                  go_round
                  case rel =>
                    refine ⟨i + 1, by omega, by go_num, ?_⟩
                    rw [← HPO.out, HST.out, HOK.out]; rfl
                  case measure => simp [intOf]; omega
    · have him2 : i = m := by omega
      have HG : Hid (pathB l = true) := Lib.hid (by rw [← HPO.out, List.drop_eq_nil_of_le (by have := HMM.out; omega)]; cases decide (i = 0) <;> rfl)
      subst him2
      go_wp2
      go_ret
      exact ⟨by rw [HG.out]; rfl, HB.out⟩
end Go.Proofs.YtgojmckfabhkaaaDoor.Sem
