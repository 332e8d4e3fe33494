/- THE WALK of modfile.Path. Conditions: a bound on the length, and the shelf's one variable. -/
import Derived.Test.YtgojmckfabhkaaaDoorReqPath
import Derived.Test.YtgojmckfabhkaaaDoorSemD
import Derived.Lib.SplitLaws
import Derived.Lib.IndexBytes
namespace Go.Proofs.YtgojmckfabhkaaaDoor.Sem
open Go Go.RowKit
set_option linter.unusedVariables false

theorem split_tx (c : UInt8) : ∀ (n : Nat) (l : List UInt8), l.length ≤ n → Lib.countB (tx l) ⟨#[c]⟩ + 1 = (splitD c l).length ∧ Lib.splitB ⟨#[c]⟩ 0 (Lib.countB (tx l) ⟨#[c]⟩) (tx l) = (splitD c l).map tx
  | n, l, hn => by
    have hix : Lib.indexB (tx l) ⟨#[c]⟩ = Lib.indexByte l c := by
      show Lib.index (tx l).data.toList [c] = _
      rw [tx_list, Lib.index_one]
    match hs : splitD c l with
    | [] => exact absurd hs (splitD_ne c l)
    | w :: ws =>
      rcases splitD_head hs with ⟨rfl, rfl, hc⟩ | ⟨r, hl, hc, hr⟩
      · rw [idx_no c l hc] at hix
        rw [Lib.countB_miss _ _ hix, Lib.splitB_miss _ _ _ _ hix]
        exact ⟨rfl, rfl⟩
      · have hix2 : Lib.indexB (tx l) ⟨#[c]⟩ = (w.length : Int) := by rw [hix, hl]; exact idx_at c w r hc
        have hex : (tx l).extract (w.length + (⟨#[c]⟩ : ByteArray).size) (tx l).size = tx r := by
          rw [tx_extract, tx_size, List.take_length, hl]
          congr 1
          show (w ++ c :: r).drop (w.length + 1) = r
          rw [show w ++ c :: r = (w ++ [c]) ++ r by simp, List.drop_left' (by simp)]
        have hex0 : (tx l).extract 0 (w.length + 0) = tx w := by
          rw [tx_extract, hl]; simp
        have hrl : r.length < n := by rw [hl] at hn; simp at hn; omega
        have ih := split_tx c (n - 1) r (by omega)
        have hcnt := Lib.countB_hit (tx l) ⟨#[c]⟩ w.length (Nat.le_refl 1) hix2
        rw [hex] at hcnt
        rw [hcnt, Nat.add_comm 1, Lib.splitB_hit _ _ _ _ _ hix2, hex, hex0, ih.2, hr]
        exact ⟨by rw [ih.1, hr]; rfl, rfl⟩
  termination_by n => n
  decreasing_by omega

theorem idx_has (c : UInt8) (l : List UInt8) : decide (0 ≤ Lib.indexByte l c) = l.contains c := by
  match hs : splitD c l with
  | [] => exact absurd hs (splitD_ne c l)
  | w :: ws =>
    rcases splitD_head hs with ⟨rfl, rfl, hc⟩ | ⟨r, hl, hc, hr⟩
    · rw [idx_no c l hc]
      have : l.contains c = false := by simpa using hc
      rw [this]; rfl
    · have : l.contains c = true := by rw [hl]; simp
      rw [this, hl, idx_at c w r hc]
      exact decide_eq_true (by omega)
/-- What 'strings.Split' at a slash answers. -/
theorem msplit_any (l : List UInt8) (w : World) (hz : l.length ≤ 1000000) (mx : Int) (hm : w.cell? ⟨0, 0, none⟩ = some (.int .i64 mx)) :
    Calls Tryd.prog 18 #[.string (tx l), .string ⟨#[47]⟩] w (CutP 47 l w) := by
  refine (Tryd.strings_Split (tx l) ⟨#[47]⟩ mx w (by rw [tx_size]; omega) hm (by decide)).mono ?_
  rintro e w' ⟨rfl, rfl⟩
  obtain ⟨h1, h2⟩ := split_tx 47 l.length l (Nat.le_refl _)
  rw [h1, h2]
  refine ⟨_, rfl, ?_, (Below.refl _ w).alloc (Nat.le_refl _) _⟩
  have hln := splitD_len 47 l
  have hml : ((splitD 47 l).map tx).length = (splitD 47 l).length := List.length_map _
  unfold ownsS
  rw [hml]
  exact World.ownsRow_lit (base := w.heap.size) (e := 9) (size := 1) w (((splitD 47 l).map tx).map Value.string).toArray (splitD 47 l).length (Nat.le_refl _) (by unfold maxLen; omega) (by simp)

set_option maxRecDepth 100000 in
set_option maxHeartbeats 16000000 in
theorem mpath_any (l : List UInt8) (w : World) (hz : l.length ≤ 1000000) (mx : Int) (hmx : w.cell? ⟨0, 0, none⟩ = some (.int .i64 mx)) :
    Calls Tryd.prog 6 #[.string (tx l)] w fun e w' => e = .returned (.bool (pathB l)) ∧ Below w.heap.size w w' := by
  have hsz := tx_size l
  obtain ⟨T, hT⟩ : ∃ T, T = tx l := ⟨_, rfl⟩
  rw [← hT] at hsz ⊢
  have hparts : Calls Tryd.prog 18 #[.string T, .string ⟨#[47]⟩] w (CutP 47 l w) := by rw [hT]; exact msplit_any l w hz mx hmx
  have HPA := Lib.hid hparts
  clear hparts hT
  go_enter Tryd.func6, Tryd.ntmps6
  by_cases hlong : 200 < l.length
  · have HG : Hid (pathB l = false) := Lib.hid (by unfold pathB; rw [decide_eq_false (by omega)]; rfl)
    go_wp2
    go_ret
    exact ⟨by rw [HG.out]; rfl, Below.refl _ _⟩
  go_wp2_with fail
  refine HPA.out.mono ?_
  rintro e W1 ⟨v, rfl, hown, hb⟩
  obtain ⟨g, cap, hv, hgB, hgl⟩ := hown.form (by rw [List.length_map]; exact List.length_pos_iff.2 (splitD_ne 47 l))
  have hml : ((splitD 47 l).map tx).length = (splitD 47 l).length := List.length_map _
  rw [hml] at hv
  subst hv
  have hcells : ∀ i (h : i < (splitD 47 l).length), W1.cell? ⟨g, i, none⟩ = some (.string (tx (splitD 47 l)[i])) := fun i h => by
    have h1 := hown.cell hml i h
    rw [List.getElem_map] at h1
    exact h1
  have hml2 : (splitD 47 l).length ≤ 1000001 := by have := splitD_len 47 l; omega
  have HP0 : Hid (pathB l = pathOk true (splitD 47 l)) := Lib.hid (by unfold pathB; rw [decide_eq_true (by omega)]; rfl)
  have HCL := Lib.hid hcells
  have HB := Lib.hid hb
  obtain ⟨m, hm⟩ : ∃ m, m = (splitD 47 l).length := ⟨_, rfl⟩
  rw [← hm] at hml2 ⊢
  have HMM := Lib.hid hm
  clear hown hb hcells hml hm
  go_wp2
  go_loopw [14] (fun iv W => ∃ i : Nat, i ≤ m ∧ iv = .int .i64 (i : Int) ∧ pathOk (decide (i = 0)) ((splitD 47 l).drop i) = pathB l ∧ Below W1.heap.size W1 W) (fun iv _ => m - (intOf iv).toNat)
  case atStart => exact ⟨0, by omega, rfl, HP0.out.symm, Below.refl _ _⟩
  case round =>
    obtain ⟨i, hi, rfl, hn, hbv⟩ := hrel
    have HPO := Lib.hid hn
    have HBV := Lib.hid hbv
    have HB1 := Lib.hid (HB.out.trans (hbv.mono HB.out.size))
    clear hn
    by_cases him : i < m
    · have hiw : i < (splitD 47 l).length := by have := HMM.out; omega
      have hstep := pathOk_step (f := decide (i = 0)) hiw
      obtain ⟨x, hx⟩ : ∃ x, (splitD 47 l)[i] = x := ⟨_, rfl⟩
      have hxm : x ∈ splitD 47 l := by rw [← hx]; exact List.getElem_mem _
      have hxl : x.length ≤ 1000000 := Nat.le_trans (splitD_word 47 l x hxm) hz
      have hci : wr.cell? ⟨g, i, none⟩ = _ := (hbv.cell (p := ⟨g, i, none⟩) hgl).trans (HCL.out i hiw)
      rw [hx] at hci hstep
      clear hxm hx hbv
      obtain ⟨S, hS⟩ : ∃ S, S = tx x := ⟨_, rfl⟩
      rw [← hS] at hci
      have hat : ∀ j (h : j < S.size) (h2 : j < x.length), S[j] = x[j] := fun j h h2 => by subst hS; exact tx_at x j h
      have hsz : S.size = x.length := by rw [hS]; exact tx_size x
      have HCN : Hid (∀ W, Calls Tryd.prog 19 #[.string S, .string ⟨#[46]⟩] W fun e w' => e = .returned (.bool (x.contains 46)) ∧ W = w') := Lib.hid (fun W => by
        refine (Tryd.strings_Contains_one S 46 W).mono ?_
        rintro e w' ⟨rfl, rfl⟩
        refine ⟨?_, rfl⟩
        rw [hS, tx_list, idx_has])
      have HSZ := Lib.hid hsz
      have HAT := Lib.hid hat
      have HS := Lib.hid hS
      have hS2 : S.size ≤ 1000000 := by omega
      clear hS hat hsz
      by_cases hi0 : i = 0
      · have hF : decide (i = 0) = true := decide_eq_true hi0
        have q0 : ((i : Int) == 0) = true := by rw [beq_iff_eq]; omega
        have hF1 : decide (i + 1 = 0) = false := decide_eq_false (by omega)
        have HNO : Hid (partB true x = false → pathB l = false) := Lib.hid (fun h => by rw [← HPO.out, hstep, hF, h]; rfl)
        have HST : Hid (pathOk (decide (i = 0)) ((splitD 47 l).drop i) = (partB true x && pathOk (decide (i + 1 = 0)) ((splitD 47 l).drop (i + 1)))) := Lib.hid (by rw [hstep, hF, hF1])
        clear hstep hF1
        clear hi0 hF
        by_cases hx0 : x = []
        · subst hx0
          have HBAD : Hid (pathB l = false) := Lib.hid (HNO.out (partB_nil _))
          have qe : S.toList.isEmpty = true := by rw [HS.out, tx_toList]; rfl
          go_wp2
          go_ret
          exact ⟨by rw [HBAD.out]; rfl, HB1.out⟩
        · have hx1 : 0 < x.length := List.length_pos_iff.2 hx0
          have hs1 : 0 < S.size := by have := HSZ.out; omega
          have qe : S.toList.isEmpty = false := by
            rw [HS.out, tx_toList]
            cases x with
            | nil => exact absurd rfl hx0
            | cons c q => rfl
          have HX0 := Lib.hid hx1
          clear hx0
          obtain ⟨c0, hc0⟩ : ∃ c0, S[0].toNat = c0 := ⟨_, rfl⟩
          have HC0 : Hid (x[0].toNat = c0) := Lib.hid (by rw [← hc0]; exact congrArg UInt8.toNat (HAT.out 0 hs1 hx1).symm)
          obtain ⟨ce, hce⟩ : ∃ ce, S[S.size - 1].toNat = ce := ⟨_, rfl⟩
          have HCE : Hid ((x[x.length - 1]'(by omega)).toNat = ce) := Lib.hid (by rw [← hce, HAT.out (S.size - 1) (by omega) (by have := HSZ.out; omega)]; simp only [HSZ.out])
          by_cases hh : x[0].toNat = 46
          · have HBAD : Hid (pathB l = false) := Lib.hid (HNO.out (part_head hx1 hh))
            have q1 : ((c0 : Int) == 46) = true := by rw [← HC0.out, hh]; rfl
            clear hh
            go_wp2
            go_ret
            exact ⟨by rw [HBAD.out]; rfl, HB1.out⟩
          · have q1 : ((c0 : Int) == 46) = false := by rw [beq_eq_false_iff_ne, ← HC0.out]; omega
            have HH := Lib.hid hh
            clear hh
            by_cases hl : (x[x.length - 1]'(by omega)).toNat = 46
            · have HBAD : Hid (pathB l = false) := Lib.hid (HNO.out (part_last (by omega) hl))
              have q2 : ((ce : Int) == 46) = true := by rw [← HCE.out, hl]; rfl
              clear hl
              go_wp2
              go_ret
              exact ⟨by rw [HBAD.out]; rfl, HB1.out⟩
            · have q2 : ((ce : Int) == 46) = false := by rw [beq_eq_false_iff_ne, ← HCE.out]; omega
              have HL := Lib.hid hl
              clear hl
              obtain ⟨cb, W2, hcv, hb2, hcb⟩ := bytes_of S x HS.out wr
              have HB2 := Lib.hid (HBV.out.trans (hb2.mono HBV.out.size))
              have HB3 := Lib.hid (HB.out.trans (HB2.out.mono HB.out.size))
              have HCB := Lib.hid hcb
              clear hb2 hcb
              go_wp2
              go_hide hQ
              have HQ := Lib.hid hQ
              clear hQ
              go_loop [37] (fun jv => ∃ j : Nat, j ≤ S.size ∧ jv = .int .i64 (j : Int) ∧ ∀ k (h : k < x.length), k < j → charB true x[k] = true) (fun jv => S.size - (intOf jv).toNat)
              case atStart => exact ⟨0, by omega, rfl, fun k _ h => by omega⟩
              case round =>
                obtain ⟨j, hj, rfl, hn⟩ := hrel
                have HN2 := Lib.hid hn
                clear hn
                by_cases hjl : j < S.size
                · have hjx : j < x.length := by have := HSZ.out; omega
                  have hcb := HCB.out j hjx
                  by_cases hk : charB true x[j] = true
                  · have HK := Lib.hid hk
                    have hy := small_yes hk
                    clear hk
                    obtain ⟨cn, hcn⟩ : ∃ cn, cn = x[j].toNat := ⟨_, rfl⟩
                    rw [← hcn] at hy hcb
                    have hc8 : cn < 256 := by rw [hcn]; exact x[j].toNat_lt
                    clear hcn
                    rcases hy with ⟨y1, y2⟩ | ⟨y1, y2⟩ | y1 | y1
                    all_goals
                      first | (have k1 : decide ((cn : Int) ≤ 57) = false := decide_eq_false (by omega)) | (have k1 : decide ((cn : Int) ≤ 57) = true := decide_eq_true (by omega)) | skip
                      first | (have k2 : decide ((cn : Int) ≤ 90) = false := decide_eq_false (by omega)) | (have k2 : decide ((cn : Int) ≤ 90) = true := decide_eq_true (by omega)) | skip
                      first | (have k3 : decide ((cn : Int) ≤ 122) = false := decide_eq_false (by omega)) | (have k3 : decide ((cn : Int) ≤ 122) = true := decide_eq_true (by omega)) | skip
                      first | (have g1 : decide ((97 : Int) ≤ (cn : Int)) = false := decide_eq_false (by omega)) | (have g1 : decide ((97 : Int) ≤ (cn : Int)) = true := decide_eq_true (by omega)) | skip
                      first | (have g2 : decide ((48 : Int) ≤ (cn : Int)) = false := decide_eq_false (by omega)) | (have g2 : decide ((48 : Int) ≤ (cn : Int)) = true := decide_eq_true (by omega)) | skip
                      first | (have g3 : decide ((65 : Int) ≤ (cn : Int)) = false := decide_eq_false (by omega)) | (have g3 : decide ((65 : Int) ≤ (cn : Int)) = true := decide_eq_true (by omega)) | skip
                      first | (have q45 : ((cn : Int) == 45) = false := by (rw [beq_eq_false_iff_ne]; omega)) | (have q45 : ((cn : Int) == 45) = true := by (rw [beq_iff_eq]; omega)) | skip
                      first | (have q46 : ((cn : Int) == 46) = false := by (rw [beq_eq_false_iff_ne]; omega)) | (have q46 : ((cn : Int) == 46) = true := by (rw [beq_iff_eq]; omega)) | skip
                      first | (have q95 : ((cn : Int) == 95) = false := by (rw [beq_eq_false_iff_ne]; omega)) | (have q95 : ((cn : Int) == 95) = true := by (rw [beq_iff_eq]; omega)) | skip
                      first | (have q126 : ((cn : Int) == 126) = false := by (rw [beq_eq_false_iff_ne]; omega)) | (have q126 : ((cn : Int) == 126) = true := by (rw [beq_iff_eq]; omega)) | skip
                      go_wp2
                    all_goals
                      go_round
                      case rel =>
                        refine ⟨j + 1, by omega, by go_num, fun k hk hkj => ?_⟩
                        by_cases hkj' : k < j
                        · exact HN2.out k hk hkj'
                        · obtain rfl : k = j := by omega
                          exact HK.out
                      case measure => simp [intOf]; omega
                  · have HBAD : Hid (pathB l = false) := Lib.hid (HNO.out (part_char hjx (Bool.eq_false_iff.2 hk)))
                    have hy := small_no hk
                    clear hk
                    obtain ⟨cn, hcn⟩ : ∃ cn, cn = x[j].toNat := ⟨_, rfl⟩
                    rw [← hcn] at hy hcb
                    have hc8 : cn < 256 := by rw [hcn]; exact x[j].toNat_lt
                    clear hcn
                    rcases hy with y1 | ⟨y1, y2⟩ | ⟨y1, y2⟩ | y1
                    all_goals
                      first | (have k1 : decide ((cn : Int) ≤ 57) = false := decide_eq_false (by omega)) | (have k1 : decide ((cn : Int) ≤ 57) = true := decide_eq_true (by omega)) | skip
                      first | (have k2 : decide ((cn : Int) ≤ 90) = false := decide_eq_false (by omega)) | (have k2 : decide ((cn : Int) ≤ 90) = true := decide_eq_true (by omega)) | skip
                      first | (have k3 : decide ((cn : Int) ≤ 122) = false := decide_eq_false (by omega)) | (have k3 : decide ((cn : Int) ≤ 122) = true := decide_eq_true (by omega)) | skip
                      first | (have g1 : decide ((97 : Int) ≤ (cn : Int)) = false := decide_eq_false (by omega)) | (have g1 : decide ((97 : Int) ≤ (cn : Int)) = true := decide_eq_true (by omega)) | skip
                      first | (have g2 : decide ((48 : Int) ≤ (cn : Int)) = false := decide_eq_false (by omega)) | (have g2 : decide ((48 : Int) ≤ (cn : Int)) = true := decide_eq_true (by omega)) | skip
                      first | (have g3 : decide ((65 : Int) ≤ (cn : Int)) = false := decide_eq_false (by omega)) | (have g3 : decide ((65 : Int) ≤ (cn : Int)) = true := decide_eq_true (by omega)) | skip
                      first | (have q45 : ((cn : Int) == 45) = false := by (rw [beq_eq_false_iff_ne]; omega)) | (have q45 : ((cn : Int) == 45) = true := by (rw [beq_iff_eq]; omega)) | skip
                      first | (have q46 : ((cn : Int) == 46) = false := by (rw [beq_eq_false_iff_ne]; omega)) | (have q46 : ((cn : Int) == 46) = true := by (rw [beq_iff_eq]; omega)) | skip
                      first | (have q95 : ((cn : Int) == 95) = false := by (rw [beq_eq_false_iff_ne]; omega)) | (have q95 : ((cn : Int) == 95) = true := by (rw [beq_iff_eq]; omega)) | skip
                      first | (have q126 : ((cn : Int) == 126) = false := by (rw [beq_eq_false_iff_ne]; omega)) | (have q126 : ((cn : Int) == 126) = true := by (rw [beq_iff_eq]; omega)) | skip
                      go_wp2
                      rw [← HQ.out]
                      go_wp2
                      go_ret
                      exact ⟨by rw [HBAD.out]; rfl, HB3.out⟩
                · have hje : j = S.size := by omega
                  subst hje
                  have HP : Hid (partB true x = (x.contains 46 && decide (c0 ≠ 45))) := Lib.hid ((part_rest (f := true) HX0.out HH.out HL.out (fun k hk _ => HN2.out k hk (by have := HSZ.out; omega))).trans (congrArg (fun n => !true || (x.contains 46 && decide (n ≠ 45))) HC0.out))
                  by_cases hm : c0 = 45
                  · have HBAD : Hid (pathB l = false) := Lib.hid (HNO.out (by rw [HP.out, hm]; simp))
                    have q9 : ((c0 : Int) == 45) = true := by rw [hm]; rfl
                    clear hm
                    go_wp2
                    rw [← HQ.out]
                    go_wp2
                    go_ret
                    exact ⟨by rw [HBAD.out]; rfl, HB3.out⟩
                  · have q9 : ((c0 : Int) == 45) = false := by rw [beq_eq_false_iff_ne]; omega
                    cases hdc : x.contains 46 with
                    | false =>
                      have HCO : Hid (∀ W, Calls Tryd.prog 19 #[.string S, .string ⟨#[46]⟩] W fun e w' => e = .returned (.bool false) ∧ W = w') := Lib.hid (fun W => by rw [← hdc]; exact HCN.out W)
                      have HBAD : Hid (pathB l = false) := Lib.hid (HNO.out (by rw [HP.out, hdc]; rfl))
                      clear hdc hm
                      go_wp2
                      rw [← HQ.out]
                      go_wp2_with (go_at_call 19; refine (HCO.out _).mono ?_; rintro e w' ⟨rfl, rfl⟩)
                      go_ret
                      exact ⟨by rw [HBAD.out]; rfl, HB3.out⟩
                    | true =>
                      have HCO : Hid (∀ W, Calls Tryd.prog 19 #[.string S, .string ⟨#[46]⟩] W fun e w' => e = .returned (.bool true) ∧ W = w') := Lib.hid (fun W => by rw [← hdc]; exact HCN.out W)
                      have HOK : Hid (partB true x = true) := Lib.hid (by rw [HP.out, hdc]; simp [hm])
                      clear hdc hm
                      go_wp2
                      rw [← HQ.out]
                      go_wp2_with (go_at_call 19; refine (HCO.out _).mono ?_; rintro e w' ⟨rfl, rfl⟩)
                      go_roundw
                      case rel =>
                        refine ⟨i + 1, by omega, by go_num, ?_, HB2.out⟩
                        rw [← HPO.out, HST.out, HOK.out]; rfl
                      case measure => simp [intOf]; omega
      · have hF : decide (i = 0) = false := decide_eq_false hi0
        have q0 : ((i : Int) == 0) = false := by rw [beq_eq_false_iff_ne]; omega
        have hF1 : decide (i + 1 = 0) = false := decide_eq_false (by omega)
        have HNO : Hid (partB false x = false → pathB l = false) := Lib.hid (fun h => by rw [← HPO.out, hstep, hF, h]; rfl)
        have HST : Hid (pathOk (decide (i = 0)) ((splitD 47 l).drop i) = (partB false x && pathOk (decide (i + 1 = 0)) ((splitD 47 l).drop (i + 1)))) := Lib.hid (by rw [hstep, hF, hF1])
        clear hstep hF1
        clear hi0 hF
        by_cases hx0 : x = []
        · subst hx0
          have HBAD : Hid (pathB l = false) := Lib.hid (HNO.out (partB_nil _))
          have qe : S.toList.isEmpty = true := by rw [HS.out, tx_toList]; rfl
          go_wp2
          go_ret
          exact ⟨by rw [HBAD.out]; rfl, HB1.out⟩
        · have hx1 : 0 < x.length := List.length_pos_iff.2 hx0
          have hs1 : 0 < S.size := by have := HSZ.out; omega
          have qe : S.toList.isEmpty = false := by
            rw [HS.out, tx_toList]
            cases x with
            | nil => exact absurd rfl hx0
            | cons c q => rfl
          have HX0 := Lib.hid hx1
          clear hx0
          obtain ⟨c0, hc0⟩ : ∃ c0, S[0].toNat = c0 := ⟨_, rfl⟩
          have HC0 : Hid (x[0].toNat = c0) := Lib.hid (by rw [← hc0]; exact congrArg UInt8.toNat (HAT.out 0 hs1 hx1).symm)
          obtain ⟨ce, hce⟩ : ∃ ce, S[S.size - 1].toNat = ce := ⟨_, rfl⟩
          have HCE : Hid ((x[x.length - 1]'(by omega)).toNat = ce) := Lib.hid (by rw [← hce, HAT.out (S.size - 1) (by omega) (by have := HSZ.out; omega)]; simp only [HSZ.out])
          by_cases hh : x[0].toNat = 46
          · have HBAD : Hid (pathB l = false) := Lib.hid (HNO.out (part_head hx1 hh))
            have q1 : ((c0 : Int) == 46) = true := by rw [← HC0.out, hh]; rfl
            clear hh
            go_wp2
            go_ret
            exact ⟨by rw [HBAD.out]; rfl, HB1.out⟩
          · have q1 : ((c0 : Int) == 46) = false := by rw [beq_eq_false_iff_ne, ← HC0.out]; omega
            have HH := Lib.hid hh
            clear hh
            by_cases hl : (x[x.length - 1]'(by omega)).toNat = 46
            · have HBAD : Hid (pathB l = false) := Lib.hid (HNO.out (part_last (by omega) hl))
              have q2 : ((ce : Int) == 46) = true := by rw [← HCE.out, hl]; rfl
              clear hl
              go_wp2
              go_ret
              exact ⟨by rw [HBAD.out]; rfl, HB1.out⟩
            · have q2 : ((ce : Int) == 46) = false := by rw [beq_eq_false_iff_ne, ← HCE.out]; omega
              have HL := Lib.hid hl
              clear hl
              obtain ⟨cb, W2, hcv, hb2, hcb⟩ := bytes_of S x HS.out wr
              have HB2 := Lib.hid (HBV.out.trans (hb2.mono HBV.out.size))
              have HB3 := Lib.hid (HB.out.trans (HB2.out.mono HB.out.size))
              have HCB := Lib.hid hcb
              clear hb2 hcb
              go_wp2
              go_hide hQ
              have HQ := Lib.hid hQ
              clear hQ
              go_loop [37] (fun jv => ∃ j : Nat, j ≤ S.size ∧ jv = .int .i64 (j : Int) ∧ ∀ k (h : k < x.length), k < j → charB false x[k] = true) (fun jv => S.size - (intOf jv).toNat)
              case atStart => exact ⟨0, by omega, rfl, fun k _ h => by omega⟩
              case round =>
                obtain ⟨j, hj, rfl, hn⟩ := hrel
                have HN2 := Lib.hid hn
                clear hn
                by_cases hjl : j < S.size
                · have hjx : j < x.length := by have := HSZ.out; omega
                  have hcb := HCB.out j hjx
                  by_cases hk : charB false x[j] = true
                  · have HK := Lib.hid hk
                    have hy := char_yes hk
                    clear hk
                    obtain ⟨cn, hcn⟩ : ∃ cn, cn = x[j].toNat := ⟨_, rfl⟩
                    rw [← hcn] at hy hcb
                    have hc8 : cn < 256 := by rw [hcn]; exact x[j].toNat_lt
                    clear hcn
                    rcases hy with ⟨y1, y2⟩ | ⟨y1, y2⟩ | y1 | y1 | ⟨y1, y2⟩ | y1 | y1
                    all_goals
                      first | (have k1 : decide ((cn : Int) ≤ 57) = false := decide_eq_false (by omega)) | (have k1 : decide ((cn : Int) ≤ 57) = true := decide_eq_true (by omega)) | skip
                      first | (have k2 : decide ((cn : Int) ≤ 90) = false := decide_eq_false (by omega)) | (have k2 : decide ((cn : Int) ≤ 90) = true := decide_eq_true (by omega)) | skip
                      first | (have k3 : decide ((cn : Int) ≤ 122) = false := decide_eq_false (by omega)) | (have k3 : decide ((cn : Int) ≤ 122) = true := decide_eq_true (by omega)) | skip
                      first | (have g1 : decide ((97 : Int) ≤ (cn : Int)) = false := decide_eq_false (by omega)) | (have g1 : decide ((97 : Int) ≤ (cn : Int)) = true := decide_eq_true (by omega)) | skip
                      first | (have g2 : decide ((48 : Int) ≤ (cn : Int)) = false := decide_eq_false (by omega)) | (have g2 : decide ((48 : Int) ≤ (cn : Int)) = true := decide_eq_true (by omega)) | skip
                      first | (have g3 : decide ((65 : Int) ≤ (cn : Int)) = false := decide_eq_false (by omega)) | (have g3 : decide ((65 : Int) ≤ (cn : Int)) = true := decide_eq_true (by omega)) | skip
                      first | (have q45 : ((cn : Int) == 45) = false := by (rw [beq_eq_false_iff_ne]; omega)) | (have q45 : ((cn : Int) == 45) = true := by (rw [beq_iff_eq]; omega)) | skip
                      first | (have q46 : ((cn : Int) == 46) = false := by (rw [beq_eq_false_iff_ne]; omega)) | (have q46 : ((cn : Int) == 46) = true := by (rw [beq_iff_eq]; omega)) | skip
                      first | (have q95 : ((cn : Int) == 95) = false := by (rw [beq_eq_false_iff_ne]; omega)) | (have q95 : ((cn : Int) == 95) = true := by (rw [beq_iff_eq]; omega)) | skip
                      first | (have q126 : ((cn : Int) == 126) = false := by (rw [beq_eq_false_iff_ne]; omega)) | (have q126 : ((cn : Int) == 126) = true := by (rw [beq_iff_eq]; omega)) | skip
                      go_wp2
                    all_goals
                      go_round
                      case rel =>
                        refine ⟨j + 1, by omega, by go_num, fun k hk hkj => ?_⟩
                        by_cases hkj' : k < j
                        · exact HN2.out k hk hkj'
                        · obtain rfl : k = j := by omega
                          exact HK.out
                      case measure => simp [intOf]; omega
                  · have HBAD : Hid (pathB l = false) := Lib.hid (HNO.out (part_char hjx (Bool.eq_false_iff.2 hk)))
                    have hy := big_no hk
                    clear hk
                    obtain ⟨cn, hcn⟩ : ∃ cn, cn = x[j].toNat := ⟨_, rfl⟩
                    rw [← hcn] at hy hcb
                    have hc8 : cn < 256 := by rw [hcn]; exact x[j].toNat_lt
                    clear hcn
                    rcases hy with y1 | ⟨y1, y2⟩ | ⟨y1, y2⟩ | ⟨y1, y2⟩ | y1 | ⟨y1, y2⟩ | y1
                    all_goals
                      first | (have k1 : decide ((cn : Int) ≤ 57) = false := decide_eq_false (by omega)) | (have k1 : decide ((cn : Int) ≤ 57) = true := decide_eq_true (by omega)) | skip
                      first | (have k2 : decide ((cn : Int) ≤ 90) = false := decide_eq_false (by omega)) | (have k2 : decide ((cn : Int) ≤ 90) = true := decide_eq_true (by omega)) | skip
                      first | (have k3 : decide ((cn : Int) ≤ 122) = false := decide_eq_false (by omega)) | (have k3 : decide ((cn : Int) ≤ 122) = true := decide_eq_true (by omega)) | skip
                      first | (have g1 : decide ((97 : Int) ≤ (cn : Int)) = false := decide_eq_false (by omega)) | (have g1 : decide ((97 : Int) ≤ (cn : Int)) = true := decide_eq_true (by omega)) | skip
                      first | (have g2 : decide ((48 : Int) ≤ (cn : Int)) = false := decide_eq_false (by omega)) | (have g2 : decide ((48 : Int) ≤ (cn : Int)) = true := decide_eq_true (by omega)) | skip
                      first | (have g3 : decide ((65 : Int) ≤ (cn : Int)) = false := decide_eq_false (by omega)) | (have g3 : decide ((65 : Int) ≤ (cn : Int)) = true := decide_eq_true (by omega)) | skip
                      first | (have q45 : ((cn : Int) == 45) = false := by (rw [beq_eq_false_iff_ne]; omega)) | (have q45 : ((cn : Int) == 45) = true := by (rw [beq_iff_eq]; omega)) | skip
                      first | (have q46 : ((cn : Int) == 46) = false := by (rw [beq_eq_false_iff_ne]; omega)) | (have q46 : ((cn : Int) == 46) = true := by (rw [beq_iff_eq]; omega)) | skip
                      first | (have q95 : ((cn : Int) == 95) = false := by (rw [beq_eq_false_iff_ne]; omega)) | (have q95 : ((cn : Int) == 95) = true := by (rw [beq_iff_eq]; omega)) | skip
                      first | (have q126 : ((cn : Int) == 126) = false := by (rw [beq_eq_false_iff_ne]; omega)) | (have q126 : ((cn : Int) == 126) = true := by (rw [beq_iff_eq]; omega)) | skip
                      go_wp2
                      rw [← HQ.out]
                      go_wp2
                      go_ret
                      exact ⟨by rw [HBAD.out]; rfl, HB3.out⟩
                · have hje : j = S.size := by omega
                  subst hje
                  have HOK : Hid (partB false x = true) := Lib.hid (by rw [part_rest HX0.out HH.out HL.out (fun k hk _ => HN2.out k hk (by have := HSZ.out; omega))]; rfl)
                  go_wp2
                  rw [← HQ.out]
                  go_wp2
                  go_roundw
                  case rel =>
                    refine ⟨i + 1, by omega, by go_num, ?_, HB2.out⟩
                    rw [← HPO.out, HST.out, HOK.out]; rfl
                  case measure => simp [intOf]; omega
    · have him2 : i = m := by omega
      have HG : Hid (pathB l = true) := Lib.hid (by rw [← HPO.out, List.drop_eq_nil_of_le (by have := HMM.out; omega)]; cases decide (i = 0) <;> rfl)
      subst him2
      go_wp2
      go_ret
      exact ⟨by rw [HG.out]; rfl, HB1.out⟩
end Go.Proofs.YtgojmckfabhkaaaDoor.Sem
