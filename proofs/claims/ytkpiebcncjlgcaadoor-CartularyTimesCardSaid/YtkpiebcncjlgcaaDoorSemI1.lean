/- THE WALK of the document's Parse, no plus in it. Conditions: a bound on the length. -/
import Derived.Test.YtkpiebcncjlgcaaDoorSemI
namespace Go.Proofs.YtkpiebcncjlgcaaDoor.Sem
open Go Go.RowKit
set_option linter.unusedVariables false

set_option maxRecDepth 100000 in
set_option maxHeartbeats 40000000 in
theorem rparse_noplus (l : List UInt8) (w : World) (hl : 2 ≤ l.length ∧ l.length ≤ 100 ∧ l.head? = some 118) (hm0 : ¬ (43 : UInt8) ∈ l.tail) :
    Calls Tryd.prog 21 #[.string (tx l)] w fun e w' => RP l e ∧ Below w.heap.size w w' := by
  obtain ⟨g1, g2, g3⟩ := hl
  obtain ⟨s, rfl⟩ : ∃ s, l = 118 :: s := by
    cases l with
    | nil => cases g3
    | cons x s => exact ⟨s, by rw [show x = 118 from Option.some.inj g3]⟩
  have hsl : 0 < s.length ∧ s.length ≤ 99 := by simp at g1 g2; omega
  have HL := Lib.hid hsl
  have hm : ¬ (43 : UInt8) ∈ s := hm0
  clear hm0
  have hsz : (tx (118 :: s)).size = s.length + 1 := by rw [tx_size]; simp
  have hp : 0 < (tx (118 :: s)).size := by omega
  have h0 : (tx (118 :: s))[0] = 118 := tx_at (118 :: s) 0 hp
  have hex : (tx (118 :: s)).extract 1 (s.length + 1) = tx s := by rw [tx_extract, List.take_of_length_le (by simp)]; rfl
  have hex' : (tx (118 :: s)).extract 1 (tx (118 :: s)).size = tx s := by rw [hsz]; exact hex
  obtain ⟨S, hS⟩ : ∃ S, S = tx (118 :: s) := ⟨_, rfl⟩
  rw [← hS] at hsz hp hex hex' ⊢
  have h0' : S[0] = 118 := by subst hS; exact h0
  have h1' : ¬ S.size < 2 := by omega
  have h2' : ¬ 100 < S.size := by omega
  have q : ((S[0].toNat : Int) == 118) = true := by rw [h0']; rfl
  have q2 : ((S[0].toNat : Int) != 118) = false := by unfold bne; rw [q]; rfl
  have hsi : S.size ≤ 1000 := by omega
  clear h0 h0' g1 g2 g3 hS
  obtain ⟨Wi, hWi⟩ : ∃ Wi, Wi = (w.alloc (.cells #[.string ⟨#[]⟩, .string ⟨#[]⟩, .string ⟨#[]⟩, .string ⟨#[]⟩, .string ⟨#[]⟩, .int .i64 0] 45)).alloc (.cells #[.string ⟨#[]⟩, .string ⟨#[]⟩, .string ⟨#[]⟩, .string ⟨#[]⟩, .string ⟨#[]⟩, .int .i64 0] 45) := ⟨_, rfl⟩
  have X0 : Hid (StR w.heap.size w Wi #[.string ⟨#[]⟩, .string ⟨#[]⟩, .string ⟨#[]⟩, .string ⟨#[]⟩, .string ⟨#[]⟩, .int .i64 0]) := Lib.hid (by
    rw [hWi]
    refine ⟨((Below.refl _ w).alloc (Nat.le_refl _) _).alloc (by simp) _, ?_, heap_alloc_two w _ _⟩
    rw [Below.heap_alloc _ _ _ (by simp)]; exact World.alloc_heap_new w _)
  go_enter Tryd.func21, Tryd.ntmps21
  go_wp2_with fail
  rw [← hWi]
  clear hWi hex hex' q q2 h1' h2' hsi
  obtain ⟨c0, c1, c2, c3, c4, c5, f0, f1, f2, f3, f4, f5⟩ := rows6 X0.out.2.2
  obtain ⟨d0, d1, d2, d3, d4, d5, e0, e1, e2, e3, e4, e5⟩ := rows6 X0.out.2.1
  have hfd := fun W => find_any (tx s) s 43 W rfl (by omega)
  have hno := cutA_no 43 s hm
  have hF : FindV s 43 = -1 := by unfold FindV; rw [if_neg hm]
  have HFD0 : Hid (∀ W, Calls Tryd.prog 32 #[.string (tx s), .int .u8 43] W fun e w' => e = .returned (.int .i64 (-1)) ∧ W = w') := Lib.hid (fun W => by have h9 := hfd W; rw [hF] at h9; exact h9)
  have HC1 : Hid (¬ (43 ∈ s ∧ wordsB false (cutZ 43 s) = false)) := Lib.hid (fun h => hm h.1)
  have HS1 := Lib.hid hno.1
  have HBLD : Hid (tx (cutZ 43 s) = ⟨#[]⟩) := Lib.hid (by rw [hno.2]; rfl)
  have HP := Lib.hid hm
  have HZ1 : Hid (s.length ≤ 200) := Lib.hid (by omega)
  clear hfd hF hm hno
  refine (HFD0.out _).mono ?_
  rintro e w' ⟨rfl, rfl⟩
  have hfd := fun W => find_any (tx s) s 45 W rfl (by have := HZ1.out; omega)
  by_cases hm : (45 : UInt8) ∈ s
  · obtain ⟨A, B, hAB, hnA⟩ := mem_cut 45 s hm
    have hcA : cutA 45 s = A := by rw [hAB]; exact (cutA_at 45 A B hnA).1
    have hcZ : cutZ 45 s = B := by rw [hAB]; exact (cutA_at 45 A B hnA).2
    have hF : FindV s 45 = (A.length : Int) := by unfold FindV; rw [if_pos hm, hcA]
    have HFD : Hid (∀ W, Calls Tryd.prog 32 #[.string (tx s), .int .u8 45] W fun e w' => e = .returned (.int .i64 (A.length : Int)) ∧ W = w') := Lib.hid (fun W => by have h9 := hfd W; rw [hF] at h9; exact h9)
    have hsz1 : (tx s).size = A.length + 1 + B.length := by rw [tx_size, hAB]; simp; omega
    have hex1 : (tx s).extract (A.length + 1) (A.length + 1 + B.length) = tx B := by
      rw [tx_extract, hAB, List.take_of_length_le (by simp; omega), show A ++ 45 :: B = (A ++ [45]) ++ B by simp, List.drop_left' (by simp)]
    have hex1' : (tx s).extract (A.length + 1) (tx s).size = tx B := by rw [hsz1]; exact hex1
    have hex2 : (tx s).extract 0 A.length = tx A := by rw [tx_extract, hAB]; simp
    have hbAB : A.length + 1 + B.length ≤ 200 := by have h9 := HZ1.out; rw [hAB] at h9; simp at h9; omega
    have HPRE : Hid (tx (cutZ 45 s) = tx B) := Lib.hid (by rw [hcZ])
    have HS2 := Lib.hid hcA
    have HSM : Hid (43 ∈ s ∨ 45 ∈ s) := Lib.hid (Or.inr hm)
    have HZ2 : Hid (A.length ≤ 200) := Lib.hid (by omega)
    obtain ⟨S1, hS1⟩ : ∃ S1, S1 = tx s := ⟨_, rfl⟩
    rw [← hS1] at hsz1 hex1 hex1' hex2 HFD ⊢
    clear hfd hF hAB hS1
    cases hw : wordsB true B with
    | false =>
      have PP := Lib.hid (rp_p HL.out HC1.out HS1.out hm (by rw [hcZ]; exact hw))
      have HW : Hid (∀ W, Calls Tryd.prog 33 #[.string (tx B), .bool true] W fun e w' => e = .returned (.bool false) ∧ Below W.heap.size W w') := Lib.hid (fun W => by have h9 := rwords_any B true W (by omega); rw [hw] at h9; exact h9)
      clear hw hm hcA hcZ
      go_wp2_with (first | (go_at_call 32; refine (HFD.out _).mono ?_; rintro e w' ⟨rfl, rfl⟩) | fail)
      have YM : Hid (StR w.heap.size w ((Wi).setCell ⟨w.heap.size + 1, 3, none⟩ (.string (tx B))) #[.string ⟨#[]⟩, .string ⟨#[]⟩, .string ⟨#[]⟩, .string (tx B), .string ⟨#[]⟩, .int .i64 0]) := Lib.hid (X0.out.set 3 (.string (tx B)))
      refine (HW.out _).mono ?_
      rintro e W4 ⟨rfl, hb⟩
      have Y4 : Hid (StR w.heap.size w W4 #[.string ⟨#[]⟩, .string ⟨#[]⟩, .string ⟨#[]⟩, .string (tx B), .string ⟨#[]⟩, .int .i64 0]) := Lib.hid ((YM.out).below hb)
      clear hb
      clear c0 c1 c2 c3 c4 c5 f0 f1 f2 f3 f4 f5 d0 d1 d2 d3 d4 d5 e0 e1 e2 e3 e4 e5
      obtain ⟨c0, c1, c2, c3, c4, c5, f0, f1, f2, f3, f4, f5⟩ := rows6 Y4.out.2.2
      obtain ⟨d0, d1, d2, d3, d4, d5, e0, e1, e2, e3, e4, e5⟩ := rows6 Y4.out.2.1
      go_wp2
      exact leafR (Or.inl ⟨PP.out, rfl⟩) Y4.out.1 Y4.out.2.1 _ rfl rfl
    | true =>
      have HC2 : Hid (¬ (45 ∈ s ∧ wordsB true (cutZ 45 s) = false)) := Lib.hid (fun h => by rw [hcZ, hw] at h; cases h.2)
      have HW : Hid (∀ W, Calls Tryd.prog 33 #[.string (tx B), .bool true] W fun e w' => e = .returned (.bool true) ∧ Below W.heap.size W w') := Lib.hid (fun W => by have h9 := rwords_any B true W (by omega); rw [hw] at h9; exact h9)
      clear hw hm hcA hcZ
      go_wp2_with (first | (go_at_call 32; refine (HFD.out _).mono ?_; rintro e w' ⟨rfl, rfl⟩) | fail)
      have YM : Hid (StR w.heap.size w ((Wi).setCell ⟨w.heap.size + 1, 3, none⟩ (.string (tx B))) #[.string ⟨#[]⟩, .string ⟨#[]⟩, .string ⟨#[]⟩, .string (tx B), .string ⟨#[]⟩, .int .i64 0]) := Lib.hid (X0.out.set 3 (.string (tx B)))
      refine (HW.out _).mono ?_
      rintro e W4 ⟨rfl, hb⟩
      have Y4 : Hid (StR w.heap.size w W4 #[.string ⟨#[]⟩, .string ⟨#[]⟩, .string ⟨#[]⟩, .string (tx B), .string ⟨#[]⟩, .int .i64 0]) := Lib.hid ((YM.out).below hb)
      clear hb
      clear c0 c1 c2 c3 c4 c5 f0 f1 f2 f3 f4 f5 d0 d1 d2 d3 d4 d5 e0 e1 e2 e3 e4 e5
      obtain ⟨c0, c1, c2, c3, c4, c5, f0, f1, f2, f3, f4, f5⟩ := rows6 Y4.out.2.2
      obtain ⟨d0, d1, d2, d3, d4, d5, e0, e1, e2, e3, e4, e5⟩ := rows6 Y4.out.2.1
      have hzs2 : A.length ≤ 200 := HZ2.out
      go_wp2_with fail
      refine (rcut_any A 46 _ (by omega)).mono ?_
      rintro e W5 ⟨v, rfl, hown, hb⟩
      have hbase : w.heap.size + 2 ≤ (W4).heap.size := by have := lt_of_block Y4.out.2.2; omega
      obtain ⟨g, cap, hv, hgB, hgl⟩ := hown.form (by rw [List.length_map]; exact List.length_pos_iff.2 (splitD_ne 46 _))
      obtain ⟨ws, hws⟩ : ∃ ws, ws = splitD 46 A := ⟨_, rfl⟩
      rw [← hws] at hown hv
      have hwsb : ws.length ≤ 201 := by rw [hws]; have h7 := splitD_len 46 A; omega
      have hwsl : ∀ x ∈ ws, x.length ≤ 1000000 := fun x hx => by rw [hws] at hx; have := splitD_word 46 _ x hx; omega
      have hpos : 0 < ws.length := by rw [hws]; exact List.length_pos_iff.2 (splitD_ne 46 _)
      have HWS := Lib.hid hws
      have hml : (ws.map tx).length = ws.length := List.length_map _
      rw [hml] at hv
      subst hv
      obtain ⟨m, hm⟩ : ∃ m, m = ws.length := ⟨_, rfl⟩
      rw [← hm] at hown
      have Y5 : Hid (StR w.heap.size w W5 #[.string ⟨#[]⟩, .string ⟨#[]⟩, .string ⟨#[]⟩, .string (tx B), .string ⟨#[]⟩, .int .i64 0]) := Lib.hid (Y4.out.below hb)
      have HO5 := Lib.hid (ownsS_mono hbase hown)
      have Y6 : Hid (StR w.heap.size w (W5.setCell ⟨w.heap.size + 1, 5, none⟩ (.int .i64 (3 - (m : Int)))) #[.string ⟨#[]⟩, .string ⟨#[]⟩, .string ⟨#[]⟩, .string (tx B), .string ⟨#[]⟩, .int .i64 (3 - (m : Int))]) := Lib.hid ((Y5.out).set 5 (.int .i64 (3 - (m : Int))))
      have HO6 := Lib.hid (ownsRow_setCell_below HO5.out (a := ⟨w.heap.size + 1, 5, none⟩) (by show w.heap.size + 1 < w.heap.size + 2; omega) (.int .i64 (3 - (m : Int))))
      have hgN : w.heap.size + 2 ≤ g := by omega
      rw [← hm] at hwsb hpos hml ⊢
      have HM := Lib.hid hm
      have HWL := Lib.hid hwsl
      clear c0 c1 c2 c3 c4 c5 f0 f1 f2 f3 f4 f5 d0 d1 d2 d3 d4 d5 e0 e1 e2 e3 e4 e5
      obtain ⟨c0, c1, c2, c3, c4, c5, f0, f1, f2, f3, f4, f5⟩ := rows6 Y5.out.2.2
      obtain ⟨d0, d1, d2, d3, d4, d5, e0, e1, e2, e3, e4, e5⟩ := rows6 Y5.out.2.1
      clear hb hws hown hbase hgB hgl hm hwsl
      by_cases h3 : 3 < m
      · have PP := Lib.hid (rp_n HL.out HC1.out HS1.out HC2.out HS2.out HWS.out (Or.inl (by have := HM.out; omega)))
        go_wp2
        exact leafR (Or.inl ⟨PP.out, rfl⟩) Y6.out.1 Y6.out.2.1 _ rfl rfl
      · by_cases h4 : m < 3
        · have PP := Lib.hid (rp_n HL.out HC1.out HS1.out HC2.out HS2.out HWS.out (Or.inr ⟨HSM.out, by have := HM.out; omega⟩))
          go_wp2
          exact leafR (Or.inl ⟨PP.out, rfl⟩) Y6.out.1 Y6.out.2.1 _ rfl rfl
        · have h5 : m = 3 := by omega
          have NP : Hid (¬ (3 < ws.length ∨ ((43 ∈ s ∨ 45 ∈ s) ∧ ws.length < 3))) := Lib.hid (by have := HM.out; omega)
          clear h3 h4
          subst h5
          go_wp2
          obtain ⟨W6, hW6⟩ : ∃ W6, W6 = W5.setCell ⟨w.heap.size + 1, 5, none⟩ (.int .i64 0) := ⟨_, rfl⟩
          have Y6' : Hid (StR w.heap.size w (W5.setCell ⟨w.heap.size + 1, 5, none⟩ (.int .i64 0)) #[.string ⟨#[]⟩, .string ⟨#[]⟩, .string ⟨#[]⟩, .string (tx B), .string ⟨#[]⟩, .int .i64 0]) := Y6
          have HO6' : Hid (ownsS (W5.setCell ⟨w.heap.size + 1, 5, none⟩ (.int .i64 0)) (w.heap.size + 2) (.slice (some ⟨g, 0, none⟩) 3 cap) (ws.map tx)) := HO6
          rw [← hW6] at Y6' HO6' ⊢
          clear Y6 HO6 Y5 HO5 hW6
          clear c0 c1 c2 c3 c4 c5 f0 f1 f2 f3 f4 f5 d0 d1 d2 d3 d4 d5 e0 e1 e2 e3 e4 e5
          obtain ⟨c0, c1, c2, c3, c4, c5, f0, f1, f2, f3, f4, f5⟩ := rows6 Y6'.out.2.2
          obtain ⟨d0, d1, d2, d3, d4, d5, e0, e1, e2, e3, e4, e5⟩ := rows6 Y6'.out.2.1

          have hcells : ∀ i (h : i < ws.length), W6.cell? ⟨g, i, none⟩ = some (.string (tx ws[i])) := fun i h => by
            have h1 := HO6'.out.cell (by rw [List.length_map]; exact HM.out.symm) i (by have := HM.out; omega)
            rw [List.getElem_map] at h1
            exact h1
          have HCL := Lib.hid hcells
          clear hcells
          go_loop [83] (fun iv => ∃ i : Nat, i ≤ 3 ∧ iv = .int .i64 (i : Int) ∧ ∀ k (h : k < ws.length), k < i → numberB ws[k] = true) (fun iv => 3 - (intOf iv).toNat)
          case atStart => exact ⟨0, by omega, rfl, fun k _ h => by omega⟩
          case round =>
            obtain ⟨i, hi, rfl, hn⟩ := hrel
            have HN := Lib.hid hn
            clear hn
            by_cases him : i < 3
            · have hiw : i < ws.length := by have := HM.out; omega
              have hci := HCL.out i hiw
              cases hnu : numberB ws[i] with
              | false =>
                have HNU : Hid (∀ W, Calls Tryd.prog 35 #[.string (tx ws[i])] W fun e w' => e = .returned (.bool false) ∧ W = w') := Lib.hid (fun W => by have h9 := rnumber_any ws[i] W (HWL.out _ (List.getElem_mem _)); rw [hnu] at h9; exact h9)
                have PP := Lib.hid (rp_d HL.out HC1.out HS1.out HC2.out HS2.out HWS.out NP.out (all_nn hiw hnu))
                clear hnu
                generalize tx ws[i] = S at hci HNU
                go_wp2_with (go_at_call 35; refine (HNU.out _).mono ?_; rintro e w' ⟨rfl, rfl⟩)
                exact leafR (Or.inl ⟨PP.out, rfl⟩) Y6'.out.1 Y6'.out.2.1 _ rfl rfl
              | true =>
                have HNU : Hid (∀ W, Calls Tryd.prog 35 #[.string (tx ws[i])] W fun e w' => e = .returned (.bool true) ∧ W = w') := Lib.hid (fun W => by have h9 := rnumber_any ws[i] W (HWL.out _ (List.getElem_mem _)); rw [hnu] at h9; exact h9)
                have HNT := Lib.hid hnu
                clear hnu
                generalize tx ws[i] = S at hci HNU
                go_wp2_with (go_at_call 35; refine (HNU.out _).mono ?_; rintro e w' ⟨rfl, rfl⟩)
                go_round
                case rel =>
                  refine ⟨i + 1, by omega, by go_num, fun k hk hki => ?_⟩
                  by_cases hki' : k < i
                  · exact HN.out k hk hki'
                  · have hke : k = i := by omega
                    subst hke
                    exact HNT.out
                case measure => simp [intOf]; omega
            · have hie : 3 = i := by omega
              subst hie
              obtain ⟨v, hv, hvp, hvb⟩ := rp_ok HL.out HC1.out HS1.out HC2.out HS2.out HWS.out NP.out (all_ny (fun k hk hk2 => HN.out k hk (by have := HM.out; omega)))
              have hvp2 : tx v.pre = tx B := by rw [hvp]; exact HPRE.out
              have hvb2 : tx v.bld = ⟨#[]⟩ := by rw [hvb]; exact HBLD.out
              have HV := Lib.hid hv
              have HVP := Lib.hid hvp2
              have HVB := Lib.hid hvb2
              clear hv hvp hvb hvp2 hvb2
              have hlen : (ws.map tx).length + [(⟨#[48]⟩ : ByteArray), ⟨#[48]⟩].length ≤ 8796093022208 := by rw [List.length_map]; have := HM.out; simp; omega
              have hBs : w.heap.size + 2 ≤ (W6.alloc (.cells #[.string ⟨#[48]⟩, .string ⟨#[48]⟩] 9)).heap.size := by rw [World.size_alloc]; have := lt_of_block Y6'.out.2.2; omega
              go_wp2_with (at_builtin; go_loud (refine append_strs _ rfl (.tmp 92) (.tmp 93) rfl (w.heap.size + 2) _ _ [⟨#[48]⟩, ⟨#[48]⟩] rfl (HO6'.out.alloc _) ⟨W6.heap.size, 0, none⟩ 2 rfl (new_strs W6 [⟨#[48]⟩, ⟨#[48]⟩] _) hlen hBs ?_); go_loud (intro v' W7 hown' hg'; have Y7 := Lib.hid ((Y6'.out.below ((Below.refl _ W6).alloc (Nat.le_refl _) _)).gb hg' hgN); obtain ⟨g', cap', hv', hgB', hgl'⟩ := hown'.form (by simp); have hml' : (ws.map tx ++ [(⟨#[48]⟩ : ByteArray), ⟨#[48]⟩]).length = 3 + 2 := (by rw [List.length_append, List.length_map, ← HM.out] <;> rfl); rw [hml'] at hv'; subst hv'; have k0 := hown'.cell hml' 0 (by omega); have k1 := hown'.cell hml' 1 (by omega); have k2 := hown'.cell hml' 2 (by omega); generalize (ws.map tx ++ [(⟨#[48]⟩ : ByteArray), ⟨#[48]⟩])[0]'(by omega) = X0 at k0; generalize (ws.map tx ++ [(⟨#[48]⟩ : ByteArray), ⟨#[48]⟩])[1]'(by omega) = X1 at k1; generalize (ws.map tx ++ [(⟨#[48]⟩ : ByteArray), ⟨#[48]⟩])[2]'(by omega) = X2 at k2; unfold sv at k0 k1 k2; have hne1 : ¬ g' = w.heap.size + 1 := (by omega); have hne2 : ¬ w.heap.size + 1 = g' := (by omega); clear c0 c1 c2 c3 c4 c5 f0 f1 f2 f3 f4 f5 d0 d1 d2 d3 d4 d5 e0 e1 e2 e3 e4 e5; obtain ⟨c0, c1, c2, c3, c4, c5, f0, f1, f2, f3, f4, f5⟩ := rows6 Y7.out.2.2; obtain ⟨d0, d1, d2, d3, d4, d5, e0, e1, e2, e3, e4, e5⟩ := rows6 Y7.out.2.1; clear hown' hg' hgB' hgl' hml'))
              exact leafR (Or.inr ⟨v, _, _, _, _, HV.out, by rw [HVP.out, HVB.out]⟩) ((((Y7.out.set 0 _).set 1 _).set 2 _)).1 ((((Y7.out.set 0 _).set 1 _).set 2 _)).2.1 _ rfl rfl
  · have hno := cutA_no 45 s hm
    have hF : FindV s 45 = -1 := by unfold FindV; rw [if_neg hm]
    have HFD : Hid (∀ W, Calls Tryd.prog 32 #[.string (tx s), .int .u8 45] W fun e w' => e = .returned (.int .i64 (-1)) ∧ W = w') := Lib.hid (fun W => by have h9 := hfd W; rw [hF] at h9; exact h9)
    have HC2 : Hid (¬ (45 ∈ s ∧ wordsB true (cutZ 45 s) = false)) := Lib.hid (fun h => hm h.1)
    have HS2 := Lib.hid hno.1
    have HPRE : Hid (tx (cutZ 45 s) = ⟨#[]⟩) := Lib.hid (by rw [hno.2]; rfl)
    have HZ2 : Hid (s.length ≤ 200) := HZ1
    have HSN : Hid (¬ (43 ∈ s ∨ 45 ∈ s)) := Lib.hid (fun h => h.elim HP.out hm)
    clear hfd hF hm hno
    go_wp2_with (first | (go_at_call 32; refine (HFD.out _).mono ?_; rintro e w' ⟨rfl, rfl⟩) | fail)
    have hzs2 : s.length ≤ 200 := HZ2.out
    refine (rcut_any s 46 _ (by omega)).mono ?_
    rintro e W5 ⟨v, rfl, hown, hb⟩
    have hbase : w.heap.size + 2 ≤ (Wi).heap.size := by have := lt_of_block X0.out.2.2; omega
    obtain ⟨g, cap, hv, hgB, hgl⟩ := hown.form (by rw [List.length_map]; exact List.length_pos_iff.2 (splitD_ne 46 _))
    obtain ⟨ws, hws⟩ : ∃ ws, ws = splitD 46 s := ⟨_, rfl⟩
    rw [← hws] at hown hv
    have hwsb : ws.length ≤ 201 := by rw [hws]; have h7 := splitD_len 46 s; omega
    have hwsl : ∀ x ∈ ws, x.length ≤ 1000000 := fun x hx => by rw [hws] at hx; have := splitD_word 46 _ x hx; omega
    have hpos : 0 < ws.length := by rw [hws]; exact List.length_pos_iff.2 (splitD_ne 46 _)
    have HWS := Lib.hid hws
    have hml : (ws.map tx).length = ws.length := List.length_map _
    rw [hml] at hv
    subst hv
    obtain ⟨m, hm⟩ : ∃ m, m = ws.length := ⟨_, rfl⟩
    rw [← hm] at hown
    have Y5 : Hid (StR w.heap.size w W5 #[.string ⟨#[]⟩, .string ⟨#[]⟩, .string ⟨#[]⟩, .string ⟨#[]⟩, .string ⟨#[]⟩, .int .i64 0]) := Lib.hid (X0.out.below hb)
    have HO5 := Lib.hid (ownsS_mono hbase hown)
    have Y6 : Hid (StR w.heap.size w (W5.setCell ⟨w.heap.size + 1, 5, none⟩ (.int .i64 (3 - (m : Int)))) #[.string ⟨#[]⟩, .string ⟨#[]⟩, .string ⟨#[]⟩, .string ⟨#[]⟩, .string ⟨#[]⟩, .int .i64 (3 - (m : Int))]) := Lib.hid ((Y5.out).set 5 (.int .i64 (3 - (m : Int))))
    have HO6 := Lib.hid (ownsRow_setCell_below HO5.out (a := ⟨w.heap.size + 1, 5, none⟩) (by show w.heap.size + 1 < w.heap.size + 2; omega) (.int .i64 (3 - (m : Int))))
    have hgN : w.heap.size + 2 ≤ g := by omega
    rw [← hm] at hwsb hpos hml ⊢
    have HM := Lib.hid hm
    have HWL := Lib.hid hwsl
    clear c0 c1 c2 c3 c4 c5 f0 f1 f2 f3 f4 f5 d0 d1 d2 d3 d4 d5 e0 e1 e2 e3 e4 e5
    obtain ⟨c0, c1, c2, c3, c4, c5, f0, f1, f2, f3, f4, f5⟩ := rows6 Y5.out.2.2
    obtain ⟨d0, d1, d2, d3, d4, d5, e0, e1, e2, e3, e4, e5⟩ := rows6 Y5.out.2.1
    clear hb hws hown hbase hgB hgl hm hwsl
    by_cases h3 : 3 < m
    · have PP := Lib.hid (rp_n HL.out HC1.out HS1.out HC2.out HS2.out HWS.out (Or.inl (by have := HM.out; omega)))
      go_wp2
      exact leafR (Or.inl ⟨PP.out, rfl⟩) Y6.out.1 Y6.out.2.1 _ rfl rfl
    · have h5 : m ≤ 3 := by omega
      have NP : Hid (¬ (3 < ws.length ∨ ((43 ∈ s ∨ 45 ∈ s) ∧ ws.length < 3))) := Lib.hid (by
        have := HM.out
        rintro (h | h)
        · omega
        · exact HSN.out h.1)
      go_wp2
      obtain ⟨W6, hW6⟩ : ∃ W6, W6 = W5.setCell ⟨w.heap.size + 1, 5, none⟩ (.int .i64 (3 - (m : Int))) := ⟨_, rfl⟩
      have Y6' : Hid (StR w.heap.size w (W5.setCell ⟨w.heap.size + 1, 5, none⟩ (.int .i64 (3 - (m : Int)))) #[.string ⟨#[]⟩, .string ⟨#[]⟩, .string ⟨#[]⟩, .string ⟨#[]⟩, .string ⟨#[]⟩, .int .i64 (3 - (m : Int))]) := Y6
      have HO6' : Hid (ownsS (W5.setCell ⟨w.heap.size + 1, 5, none⟩ (.int .i64 (3 - (m : Int)))) (w.heap.size + 2) (.slice (some ⟨g, 0, none⟩) m cap) (ws.map tx)) := HO6
      rw [← hW6] at Y6' HO6' ⊢
      clear Y6 HO6 Y5 HO5 hW6
      clear c0 c1 c2 c3 c4 c5 f0 f1 f2 f3 f4 f5 d0 d1 d2 d3 d4 d5 e0 e1 e2 e3 e4 e5
      obtain ⟨c0, c1, c2, c3, c4, c5, f0, f1, f2, f3, f4, f5⟩ := rows6 Y6'.out.2.2
      obtain ⟨d0, d1, d2, d3, d4, d5, e0, e1, e2, e3, e4, e5⟩ := rows6 Y6'.out.2.1

      have hcells : ∀ i (h : i < ws.length), W6.cell? ⟨g, i, none⟩ = some (.string (tx ws[i])) := fun i h => by
        have h1 := HO6'.out.cell (by rw [List.length_map]; exact HM.out.symm) i (by have := HM.out; omega)
        rw [List.getElem_map] at h1
        exact h1
      have HCL := Lib.hid hcells
      clear hcells
      go_loop [83] (fun iv => ∃ i : Nat, i ≤ m ∧ iv = .int .i64 (i : Int) ∧ ∀ k (h : k < ws.length), k < i → numberB ws[k] = true) (fun iv => m - (intOf iv).toNat)
      case atStart => exact ⟨0, by omega, rfl, fun k _ h => by omega⟩
      case round =>
        obtain ⟨i, hi, rfl, hn⟩ := hrel
        have HN := Lib.hid hn
        clear hn
        by_cases him : i < m
        · have hiw : i < ws.length := by have := HM.out; omega
          have hci := HCL.out i hiw
          cases hnu : numberB ws[i] with
          | false =>
            have HNU : Hid (∀ W, Calls Tryd.prog 35 #[.string (tx ws[i])] W fun e w' => e = .returned (.bool false) ∧ W = w') := Lib.hid (fun W => by have h9 := rnumber_any ws[i] W (HWL.out _ (List.getElem_mem _)); rw [hnu] at h9; exact h9)
            have PP := Lib.hid (rp_d HL.out HC1.out HS1.out HC2.out HS2.out HWS.out NP.out (all_nn hiw hnu))
            clear hnu
            generalize tx ws[i] = S at hci HNU
            go_wp2_with (go_at_call 35; refine (HNU.out _).mono ?_; rintro e w' ⟨rfl, rfl⟩)
            exact leafR (Or.inl ⟨PP.out, rfl⟩) Y6'.out.1 Y6'.out.2.1 _ rfl rfl
          | true =>
            have HNU : Hid (∀ W, Calls Tryd.prog 35 #[.string (tx ws[i])] W fun e w' => e = .returned (.bool true) ∧ W = w') := Lib.hid (fun W => by have h9 := rnumber_any ws[i] W (HWL.out _ (List.getElem_mem _)); rw [hnu] at h9; exact h9)
            have HNT := Lib.hid hnu
            clear hnu
            generalize tx ws[i] = S at hci HNU
            go_wp2_with (go_at_call 35; refine (HNU.out _).mono ?_; rintro e w' ⟨rfl, rfl⟩)
            go_round
            case rel =>
              refine ⟨i + 1, by omega, by go_num, fun k hk hki => ?_⟩
              by_cases hki' : k < i
              · exact HN.out k hk hki'
              · have hke : k = i := by omega
                subst hke
                exact HNT.out
            case measure => simp [intOf]; omega
        · have hie : m = i := by omega
          subst hie
          obtain ⟨v, hv, hvp, hvb⟩ := rp_ok HL.out HC1.out HS1.out HC2.out HS2.out HWS.out NP.out (all_ny (fun k hk hk2 => HN.out k hk (by have := HM.out; omega)))
          have hvp2 : tx v.pre = ⟨#[]⟩ := by rw [hvp]; exact HPRE.out
          have hvb2 : tx v.bld = ⟨#[]⟩ := by rw [hvb]; exact HBLD.out
          have HV := Lib.hid hv
          have HVP := Lib.hid hvp2
          have HVB := Lib.hid hvb2
          clear hv hvp hvb hvp2 hvb2
          have hlen : (ws.map tx).length + [(⟨#[48]⟩ : ByteArray), ⟨#[48]⟩].length ≤ 8796093022208 := by rw [List.length_map]; have := HM.out; simp; omega
          have hBs : w.heap.size + 2 ≤ (W6.alloc (.cells #[.string ⟨#[48]⟩, .string ⟨#[48]⟩] 9)).heap.size := by rw [World.size_alloc]; have := lt_of_block Y6'.out.2.2; omega
          go_wp2_with (at_builtin; go_loud (refine append_strs _ rfl (.tmp 92) (.tmp 93) rfl (w.heap.size + 2) _ _ [⟨#[48]⟩, ⟨#[48]⟩] rfl (HO6'.out.alloc _) ⟨W6.heap.size, 0, none⟩ 2 rfl (new_strs W6 [⟨#[48]⟩, ⟨#[48]⟩] _) hlen hBs ?_); go_loud (intro v' W7 hown' hg'; have Y7 := Lib.hid ((Y6'.out.below ((Below.refl _ W6).alloc (Nat.le_refl _) _)).gb hg' hgN); obtain ⟨g', cap', hv', hgB', hgl'⟩ := hown'.form (by simp); have hml' : (ws.map tx ++ [(⟨#[48]⟩ : ByteArray), ⟨#[48]⟩]).length = m + 2 := (by rw [List.length_append, List.length_map, ← HM.out] <;> rfl); rw [hml'] at hv'; subst hv'; have k0 := hown'.cell hml' 0 (by omega); have k1 := hown'.cell hml' 1 (by omega); have k2 := hown'.cell hml' 2 (by omega); generalize (ws.map tx ++ [(⟨#[48]⟩ : ByteArray), ⟨#[48]⟩])[0]'(by omega) = X0 at k0; generalize (ws.map tx ++ [(⟨#[48]⟩ : ByteArray), ⟨#[48]⟩])[1]'(by omega) = X1 at k1; generalize (ws.map tx ++ [(⟨#[48]⟩ : ByteArray), ⟨#[48]⟩])[2]'(by omega) = X2 at k2; unfold sv at k0 k1 k2; have hne1 : ¬ g' = w.heap.size + 1 := (by omega); have hne2 : ¬ w.heap.size + 1 = g' := (by omega); clear c0 c1 c2 c3 c4 c5 f0 f1 f2 f3 f4 f5 d0 d1 d2 d3 d4 d5 e0 e1 e2 e3 e4 e5; obtain ⟨c0, c1, c2, c3, c4, c5, f0, f1, f2, f3, f4, f5⟩ := rows6 Y7.out.2.2; obtain ⟨d0, d1, d2, d3, d4, d5, e0, e1, e2, e3, e4, e5⟩ := rows6 Y7.out.2.1; clear hown' hg' hgB' hgl' hml'))
          exact leafR (Or.inr ⟨v, _, _, _, _, HV.out, by rw [HVP.out, HVB.out]⟩) ((((Y7.out.set 0 _).set 1 _).set 2 _)).1 ((((Y7.out.set 0 _).set 1 _).set 2 _)).2.1 _ rfl rfl
end Go.Proofs.YtkpiebcncjlgcaaDoor.Sem
