/- THE WALK of the reference's Apply. Conditions: the lengths. -/
import Derived.Test.YtilfdeboeohnbaaDeltaRefSize
import Derived.Test.YtilfdeboeohnbaaInts
import Derived.Test.YtilfdeboeohnbaaDeltaXs
import Derived.Deep.QuietTactic
import Derived.BigQuiet
namespace Go.Proofs.Ytilfdeboeohnbaa
open Go.RowKit Delta
set_option linter.unusedVariables false

theorem ext_list (d : ByteArray) (a b : Nat) : (d.extract a b).data.toList = (d.data.toList.drop a).take (b - a) := by
  simp [ByteArray.data_extract, List.extract_eq_take_drop]

theorem seven (x : List Nat) (h : x.length = 7) : ∃ a b c d e f g, x = [a, b, c, d, e, f, g] := by
  match x, h with
  | [a, b, c, d, e, f, g], _ => exact ⟨a, b, c, d, e, f, g, rfl⟩

set_option maxRecDepth 100000 in
set_option maxHeartbeats 4000000 in
theorem refApply_any (base d : ByteArray) (most : Int) (w : World) (hbs : (base.size : Int) ≤ 1000000) (hd : (d.size : Int) ≤ 1000000) :
    Calls Try.prog 10 #[.string base, .string d, .int .i64 most] w fun e w' => e = .returned (.tuple #[.string ⟨(applyS base.data.toList d.data.toList most).1.toArray⟩, .int .i64 ((applyS base.data.toList d.data.toList most).2 : Int)]) ∧ Below w.heap.size w w' := by
  obtain ⟨fr, n, at_, er, hS⟩ : ∃ fr n at_ er, sizesS d.data.toList = (fr, n, at_, er) := ⟨_, _, _, _, rfl⟩
  have c1 : ∀ W, Calls Try.prog 12 #[.string d] W fun e w' => e = .returned (.tuple #[.int .i64 (fr : Int), .int .i64 (n : Int), .int .i64 (at_ : Int), .int .i64 (er : Int)]) ∧ Below W.heap.size W w' := by
    intro W
    have := refSizes_any d W hd
    rw [hS] at this
    exact this
  have hA : applyS base.data.toList d.data.toList most = if er ≠ 0 then ([], er) else if fr ≠ base.size then ([], 4) else if most < (n : Int) then ([], 2) else ap base.data.toList n d.size (d.data.toList.drop at_) [] := by
    unfold applyS
    rw [hS]
    rfl
  obtain ⟨RES, hRES⟩ : ∃ RES, RES = applyS base.data.toList d.data.toList most := ⟨_, rfl⟩
  rw [← hRES] at hA ⊢
  clear hRES
  have HA := Lib.hid hA
  have hsb := sizesS_bounds d.data.toList
  rw [hS] at hsb
  obtain ⟨hfr, hn, hat⟩ := hsb
  rw [Array.length_toList] at hat
  have hat : at_ ≤ d.size := hat
  simp only [] at hfr hn
  clear hA hS
  go_enter Try.func10, Try.ntmps10
  go_wp2_with fail
  refine (c1 _).mono ?_
  rintro e w1 ⟨rfl, hb1⟩
  have HN := Lib.hid hn
  clear hn hfr
  by_cases h0 : er = 0
  · subst h0
    by_cases h1 : fr = base.size
    · subst h1
      by_cases h2 : most < (n : Int)
      · have e : RES = ([], 2) := by rw [HA.out, if_neg (by omega), if_neg (by omega), if_pos h2]
        clear c1
        go_wp2
        go_returns
        exact ⟨by rw [e]; rfl, hb1⟩
      · have e : RES = ap base.data.toList n d.size (d.data.toList.drop at_) [] := by rw [HA.out, if_neg (by omega), if_neg (by omega), if_neg h2]
        have HE := Lib.hid e
        have HB := Lib.hid hb1
        clear e hb1 c1
        go_wp2
        go_loopw [10, 12] (fun av ov wr => ∃ (a f : Nat) (u : ByteArray), a ≤ d.size ∧ d.size ≤ a + f ∧ u.size ≤ n ∧ av = .int .i64 (a : Int) ∧ ov = .string u ∧ RES = ap base.data.toList n f (d.data.toList.drop a) u.data.toList ∧ Below w.heap.size w wr) (fun av _ _ => d.size - (intOf av).toNat)
        case atStart => exact ⟨at_, d.size, ⟨#[]⟩, hat, by omega, Nat.zero_le _, rfl, rfl, HE.out, HB.out⟩
        case round =>
          obtain ⟨a, f, u, ha, hf, hu, rfl, rfl, hr, hb⟩ := hrel
          have HR := Lib.hid hr
          have HBB := Lib.hid hb
          have hn0 := HN.out
          have hn' : n ≤ 34359738368 := by omega
          clear hr hb hat hn0
          by_cases hlt : a < d.size
          · have hd1 := drop_at d a hlt
            have hdl := drop_len' d (a + 1)
            obtain ⟨c, hc⟩ : ∃ c, d[a] = c := ⟨_, rfl⟩
            obtain ⟨r, hrr⟩ : ∃ r, r = d.data.toList.drop (a + 1) := ⟨_, rfl⟩
            rw [hc, ← hrr] at hd1
            rw [← hrr] at hdl
            have hr1 := HR.out
            rw [hd1] at hr1
            have hfl : (c :: r).length ≤ f := by rw [List.length_cons]; omega
            have HR1 := Lib.hid hr1
            have HFL := Lib.hid hfl
            have HDL := Lib.hid hdl
            have HRR := Lib.hid hrr
            have hcb := c.toNat_lt
            clear hr1 hfl hdl hrr hd1 HR
            by_cases hc0 : c.toNat = 0
            · have e : RES = ([], 3) := by
                rw [HR1.out]
                exact ap_error _ _ _ _ _ _ _ (by unfold piece; rw [if_pos hc0]) HFL.out
              have hcz : ((c.toNat : Int) == 0) = true := by rw [beq_iff_eq]; omega
              clear hc0
              go_wp2
              go_returns
              exact ⟨by rw [e]; rfl, HBB.out⟩
            · have hcz : ((c.toNat : Int) == 0) = false := by rw [beq_eq_false_iff_ne]; omega
              have HC0 := Lib.hid hc0
              clear hc0
              by_cases hc128 : c.toNat < 128
              · have hdl := HDL.out
                by_cases hlt2 : r.length < c.toNat
                · have e : RES = ([], 6) := by
                    rw [HR1.out]
                    exact ap_error _ _ _ _ _ _ _ (by unfold piece; rw [if_neg HC0.out, if_pos hc128, if_pos hlt2]) HFL.out
                  have ht : (d.size : Int) < (a : Int) + 1 + (c.toNat : Int) := by omega
                  clear hdl hlt2
                  go_wp2
                  go_returns
                  exact ⟨by rw [e]; rfl, HBB.out⟩
                · have ht : ¬ (d.size : Int) < (a : Int) + 1 + (c.toNat : Int) := by omega
                  have hp : piece base.data.toList c r = .ok ((d.extract (a + 1) (a + 1 + c.toNat)).data.toList, r.drop c.toNat) := by
                    unfold piece
                    rw [if_neg HC0.out, if_pos hc128, if_neg hlt2, ext_list, ← HRR.out, show a + 1 + c.toNat - (a + 1) = c.toNat by omega]
                  have hmin : min (a + 1 + c.toNat) d.size - (a + 1) = c.toNat := by omega
                  have hps : (d.extract (a + 1) (a + 1 + c.toNat)).size = c.toNat := by rw [ByteArray.size_extract]; exact hmin
                  have hrd : r.drop c.toNat = d.data.toList.drop (a + 1 + c.toNat) := by rw [HRR.out, List.drop_drop]
                  obtain ⟨P, hP⟩ : ∃ P, d.extract (a + 1) (a + 1 + c.toNat) = P := ⟨_, rfl⟩
                  rw [hP] at hp hps
                  have HP := Lib.hid hp
                  have HRD := Lib.hid hrd
                  have hpl : P.data.toList.length = P.size := by rw [Array.length_toList]; rfl
                  have HPL := Lib.hid hpl
                  have t1 : ((a : Int) + 1 + (c.toNat : Int)).toNat = a + 1 + c.toNat := by omega
                  have t2 : ((a : Int) + 1).toNat = a + 1 := by omega
                  have hul : u.data.toList.length = u.size := by rw [Array.length_toList]; rfl
                  have HUL := Lib.hid hul
                  clear hp hrd hpl hul hlt2 hdl
                  by_cases hov : n < u.size + c.toNat
                  · have e : RES = ([], 3) := by
                      rw [HR1.out]
                      exact ap_over _ _ _ _ _ _ _ _ HP.out HFL.out (by rw [HUL.out, HPL.out, hps]; omega)
                    have hov2 : (n : Int) < (u.size : Int) + (c.toNat : Int) := by omega
                    go_wp2
                    go_returns
                    exact ⟨by first | (rw [e]; rfl) | rfl, HBB.out⟩
                  · have hov2 : ¬ (n : Int) < (u.size : Int) + (c.toNat : Int) := by omega
                    have hle : ¬ n - u.data.toList.length < P.data.toList.length := by rw [HUL.out, HPL.out, hps]; omega
                    obtain ⟨hst, hsl⟩ := ap_step base.data.toList n f c r u.data.toList P.data.toList (r.drop c.toNat) HP.out HFL.out hle
                    rw [← HR1.out, HRD.out] at hst
                    have HST := Lib.hid hst
                    have HSL := Lib.hid hsl
                    clear hst hsl
                    go_wp2
                    go_roundw
                    case rel =>
                      have hsl := HSL.out
                      rw [HRD.out, drop_len'] at hsl
                      have q1 : a + 1 + c.toNat ≤ d.size := by omega
                      have q2 : d.size ≤ a + 1 + c.toNat + (f - 1) := by omega
                      have q3 : (u ++ P).size ≤ n := by rw [ByteArray.size_append]; omega
                      refine ⟨a + 1 + c.toNat, f - 1, u ++ P, q1, q2, q3, by go_num, rfl, ?_, HBB.out⟩
                      rw [ByteArray.data_append, Array.toList_append]
                      exact HST.out
                    case measure => simp [intOf]; omega
              · obtain ⟨B0, hB0⟩ : ∃ B0, B0 = wr.heap.size := ⟨_, rfl⟩
                have h0 : ownsI (wr.alloc (.cells #[] 3)) B0 (.slice (some ⟨wr.heap.size, 0, none⟩) 0 0) [] := by rw [hB0]; exact ownsI_made wr (Nat.le_refl _)
                have hb0 : Below w.heap.size w (wr.alloc (.cells #[] 3)) := HBB.out.alloc HBB.out.size _
                have hws : B0 < (wr.alloc (.cells #[] 3)).heap.size := by rw [World.size_alloc]; omega
                have hWS : w.heap.size ≤ B0 := by rw [hB0]; exact HBB.out.size
                have HWS := Lib.hid hWS
                have H0 := Lib.hid h0
                have HB0 := Lib.hid hb0
                have HW0 := Lib.hid hws
                clear h0 hb0 hws hWS hB0
                go_wp2
                go_loopw [10, 13, 15, 16] (fun av cv xv iv_ wx => ∃ (a' i : Nat) (x : List Nat), i ≤ 7 ∧ x.length = i ∧ (∀ b ∈ x, b < 256) ∧ a' ≤ d.size ∧ a + 1 ≤ a' ∧ av = .int .i64 (a' : Int) ∧ cv = .int .i64 ((c.toNat / 2 ^ i : Nat) : Int) ∧ iv_ = .int .i64 (i : Int) ∧ ownsI wx B0 xv (x.map Int.ofNat) ∧ cp c.toNat 7 r 0 0 = cp c.toNat (7 - i) (d.data.toList.drop a') (lo x) (hi x) ∧ Below w.heap.size w wx ∧ B0 < wx.heap.size) (fun _ _ _ iv_ _ => 100 - (intOf iv_).toNat)
                case atStart => exact ⟨a + 1, 0, [], by omega, rfl, by simp, by omega, by omega, by go_num, by go_num, rfl, H0.out, by rw [HRR.out]; rfl, HB0.out, HW0.out⟩
                case round =>
                  obtain ⟨a', i, x, hi7, hxl, hx256, ha', haa, rfl, rfl, rfl, hox, hcp, hbx, hsx⟩ := hrel
                  have HOX := Lib.hid hox
                  have HCP := Lib.hid hcp
                  have HBX := Lib.hid hbx
                  have HXL := Lib.hid hxl
                  have HX2 := Lib.hid hx256
                  have HSX := Lib.hid hsx
                  clear hox hcp hbx hxl hx256 hsx
                  by_cases h7 : i < 7
                  · obtain ⟨C, hC⟩ : ∃ C, c.toNat / 2 ^ i = C := ⟨_, rfl⟩
                    have hC2 : c.toNat / 2 ^ (i + 1) = C / 2 := by rw [← hC, Nat.pow_succ, Nat.div_div_eq_div_mul]
                    have hCb : C < 256 := by rw [← hC]; exact Nat.lt_of_le_of_lt (Nat.div_le_self _ _) hcb
                    rw [hC]
                    have HC := Lib.hid hC
                    have HC2 := Lib.hid hC2
                    have hlen : (x.map Int.ofNat).length + [(0 : Int)].length ≤ 17592186044416 := by rw [List.length_map, HXL.out]; simp; omega
                    have hBs : B0 ≤ (wr.alloc (.cells #[.int .i64 0] 3)).heap.size := by rw [World.size_alloc]; have := HSX.out; omega
                    clear hC hC2
                    by_cases hbit : C % 2 = 0
                    · have hbv : ((C : Int) % 2 == 1) = false := by rw [beq_eq_false_iff_ne]; omega
                      go_wp2_with (at_builtin; refine append_ints _ rfl (.tmp 70) (.tmp 71) rfl B0 _ _ [0] rfl (HOX.out.alloc _) ⟨wr.heap.size, 0, none⟩ 1 rfl (new_ints wr [0] _) hlen hBs ?_; intro v' w' hown' hg')
                      go_roundw
                      case rel =>
                        refine ⟨a', i + 1, x ++ [0], by omega, by rw [List.length_append, HXL.out]; rfl, ?_, ha', haa, rfl, by rw [HC2.out]; go_num, by go_num, by rw [List.map_append]; exact hown', ?_, (HBX.out.alloc HBX.out.size _).grown hg' (by have := HWS.out; omega) (fun k hk => by have := (HOX.out.lt k hk).1; have := HWS.out; omega), ?_⟩
                        · intro b hb
                          rcases List.mem_append.1 hb with h | h
                          · exact HX2.out b h
                          · simp at h; omega
                        · rw [HCP.out]
                          exact cp_round0 _ i x _ HXL.out h7 (by rw [HC.out]; exact hbit)
                        · have := hg'.size
                          rw [World.size_alloc] at this
                          have := HSX.out
                          omega
                      case measure => simp [intOf]; omega
                    · have hbv : ((C : Int) % 2 == 1) = true := by rw [beq_iff_eq]; omega
                      by_cases hend : a' < d.size
                      · obtain ⟨b, hb⟩ : ∃ b, d[a'] = b := ⟨_, rfl⟩
                        have hda := drop_at d a' hend
                        rw [hb] at hda
                        have HDA := Lib.hid hda
                        have hbb := b.toNat_lt
                        clear hda
                        go_wp2_with (at_builtin; refine append_ints _ rfl (.tmp 70) (.tmp 71) rfl B0 _ _ [0] rfl (HOX.out.alloc _) ⟨wr.heap.size, 0, none⟩ 1 rfl (new_ints wr [0] _) hlen hBs ?_; intro v' w' hown' hg'; obtain ⟨g, cap, hv, hgB, hgs⟩ := hown'.form (by simp); have hl : (x.map Int.ofNat ++ [(0 : Int)]).length = i + 1 := (by simp [HXL.out]); rw [hl] at hv; subst hv; have fr := hown'.free hl i; obtain ⟨z, ce⟩ : ∃ z, w'.cell? ⟨g, i, none⟩ = some z := ⟨_, hown'.cell hl i (by omega)⟩; have HL := Lib.hid hl; have HOW := Lib.hid hown'; have HGG := Lib.hid hg'; clear hl hown' hg')
                        obtain ⟨hst, hgs2⟩ := HOW.out.stored HL.out i (b.toNat : Int)
                        have hset : (x.map Int.ofNat ++ [(0 : Int)]).set i (b.toNat : Int) = (x ++ [b.toNat]).map Int.ofNat := by
                          rw [List.set_append_right _ _ (by rw [List.length_map, HXL.out]; exact Nat.le_refl _), List.length_map, HXL.out, Nat.sub_self, List.map_append]
                          rfl
                        rw [hset] at hst
                        have hb1 : Below w.heap.size w w' := (HBX.out.alloc HBX.out.size _).grown HGG.out (by have := HWS.out; omega) (fun k hk => by have := (HOX.out.lt k hk).1; have := HWS.out; omega)
                        refine ⟨⟨a' + 1, i + 1, x ++ [b.toNat], by omega, by rw [List.length_append, HXL.out]; rfl, ?_, by omega, by omega, by go_num, by rw [HC2.out]; go_num, by go_num, hst, ?_, below_gb hb1 hgs2 hb1.size (by have := HWS.out; omega), ?_⟩, by simp [intOf]; omega⟩
                        · intro y hy
                          rcases List.mem_append.1 hy with h | h
                          · exact HX2.out y h
                          · simp at h; omega
                        · rw [HCP.out, HDA.out]
                          exact cp_round1 _ i x b _ HXL.out h7 (by rw [HC.out]; exact hbit)
                        · have := HGG.out.size
                          rw [World.size_alloc] at this
                          have := hgs2.size
                          have := HSX.out
                          omega
                      · have e1 : cp c.toNat 7 r 0 0 = .error 6 := by
                          rw [HCP.out, List.drop_eq_nil_of_le (by rw [Array.length_toList]; exact Nat.le_of_not_lt hend)]
                          exact cp_nil _ i _ _ h7 (by rw [HC.out]; exact hbit)
                        have e : RES = ([], 6) := by
                          rw [HR1.out]
                          exact ap_error _ _ _ _ _ _ _ (by unfold piece; rw [if_neg HC0.out, if_neg hc128, e1]) HFL.out
                        have HE2 := Lib.hid e
                        clear e e1
                        go_wp2_with (at_builtin; refine append_ints _ rfl (.tmp 70) (.tmp 71) rfl B0 _ _ [0] rfl (HOX.out.alloc _) ⟨wr.heap.size, 0, none⟩ 1 rfl (new_ints wr [0] _) hlen hBs ?_; intro v' w' hown' hg')
                        go_returns
                        exact ⟨by rw [HE2.out]; rfl, (HBX.out.alloc HBX.out.size _).grown hg' (by have := HWS.out; omega) (fun k hk => by have := (HOX.out.lt k hk).1; have := HWS.out; omega)⟩
                  · obtain rfl : i = 7 := by omega
                    obtain ⟨b0, b1, b2, b3, b4, b5, b6, rfl⟩ := seven x HXL.out
                    obtain ⟨g, cap, hv, hgB, hgs⟩ := HOX.out.form (by simp)
                    have hl : ([b0, b1, b2, b3, b4, b5, b6].map Int.ofNat).length = 7 := rfl
                    rw [hl] at hv
                    subst hv
                    have q0 : wr.cell? ⟨g, 0, none⟩ = some (.int .i64 (b0 : Int)) := HOX.out.cell hl 0 (by omega)
                    have q1 : wr.cell? ⟨g, 1, none⟩ = some (.int .i64 (b1 : Int)) := HOX.out.cell hl 1 (by omega)
                    have q2 : wr.cell? ⟨g, 2, none⟩ = some (.int .i64 (b2 : Int)) := HOX.out.cell hl 2 (by omega)
                    have q3 : wr.cell? ⟨g, 3, none⟩ = some (.int .i64 (b3 : Int)) := HOX.out.cell hl 3 (by omega)
                    have q4 : wr.cell? ⟨g, 4, none⟩ = some (.int .i64 (b4 : Int)) := HOX.out.cell hl 4 (by omega)
                    have q5 : wr.cell? ⟨g, 5, none⟩ = some (.int .i64 (b5 : Int)) := HOX.out.cell hl 5 (by omega)
                    have q6 : wr.cell? ⟨g, 6, none⟩ = some (.int .i64 (b6 : Int)) := HOX.out.cell hl 6 (by omega)
                    have p0 : b0 < 256 := HX2.out _ (by simp)
                    have p1 : b1 < 256 := HX2.out _ (by simp)
                    have p2 : b2 < 256 := HX2.out _ (by simp)
                    have p3 : b3 < 256 := HX2.out _ (by simp)
                    have p4 : b4 < 256 := HX2.out _ (by simp)
                    have p5 : b5 < 256 := HX2.out _ (by simp)
                    have p6 : b6 < 256 := HX2.out _ (by simp)
                    have hcp : cp c.toNat 7 r 0 0 = .ok (lo [b0, b1, b2, b3, b4, b5, b6], hi [b0, b1, b2, b3, b4, b5, b6], d.data.toList.drop a') := by rw [HCP.out]; exact cp_done _ _ _ _
                    have hlo : lo [b0, b1, b2, b3, b4, b5, b6] = b0 + 256 * b1 + 65536 * b2 + 16777216 * b3 := rfl
                    have hhi : hi [b0, b1, b2, b3, b4, b5, b6] = b4 + 256 * b5 + 65536 * b6 := rfl
                    rw [hlo, hhi] at hcp
                    have HCPF := Lib.hid hcp
                    clear hcp hlo hhi hl
                    go_wp2
                    go_quiet (fail)
                    go_wp2
                    go_quiet (fail)
                    obtain ⟨O, hO⟩ : ∃ O, O = b0 + 256 * b1 + 65536 * b2 + 16777216 * b3 := ⟨_, rfl⟩
                    obtain ⟨K, hK⟩ : ∃ K, K = b4 + 256 * b5 + 65536 * b6 := ⟨_, rfl⟩
                    have eO : (b0 : Int) + 256 * (b1 : Int) + 65536 * (b2 : Int) + 16777216 * (b3 : Int) = (O : Int) := by omega
                    have eK : (b4 : Int) + 256 * (b5 : Int) + 65536 * (b6 : Int) = (K : Int) := by omega
                    have hcp := HCPF.out
                    rw [← hO, ← hK] at hcp
                    rw [eO, eK]
                    have hO2 : O < 4294967296 := by omega
                    have hK2 : K < 16777216 := by omega
                    clear HCPF
                    have HCPF := Lib.hid hcp
                    clear hcp eO eK hO hK q0 q1 q2 q3 q4 q5 q6 p0 p1 p2 p3 p4 p5 p6
                    by_cases hk0 : K = 0
                    · have hkk : kk K = 65536 := by unfold kk; rw [if_pos hk0]
                      have hz : ((K : Int) == 0) = true := by rw [beq_iff_eq]; omega
                      by_cases hbad : base.size < O + 65536
                      · have e : RES = ([], 3) := by
                          rw [HR1.out]
                          refine ap_error _ _ _ _ _ _ _ ?_ HFL.out
                          unfold piece
                          rw [if_neg HC0.out, if_neg hc128, HCPF.out]
                          simp only []
                          rw [hkk, if_pos (by rw [Array.length_toList]; show base.size < 65536 ∨ base.size - 65536 < O; omega)]
                        have hb2 : (base.size : Int) < (O : Int) + 65536 := by omega
                        have HE2 := Lib.hid e
                        clear e hbad hkk
                        go_wp2
                        go_returns
                        exact ⟨by rw [HE2.out]; rfl, below_drewN HBX.out _⟩
                      · have hb2 : ¬ (base.size : Int) < (O : Int) + 65536 := by omega
                        have hp : piece base.data.toList c r = .ok ((base.extract O (O + 65536)).data.toList, d.data.toList.drop a') := by
                          unfold piece
                          rw [if_neg HC0.out, if_neg hc128, HCPF.out]
                          simp only []
                          rw [hkk, if_neg (by rw [Array.length_toList]; show ¬ (base.size < 65536 ∨ base.size - 65536 < O); omega), ext_list, show O + 65536 - O = 65536 by omega]
                        have hmin : min (O + 65536) base.size - O = 65536 := by omega
                        have hps : (base.extract O (O + 65536)).size = 65536 := by rw [ByteArray.size_extract]; exact hmin
                        obtain ⟨P, hP⟩ : ∃ P, base.extract O (O + 65536) = P := ⟨_, rfl⟩
                        rw [hP] at hp hps
                        have HP := Lib.hid hp
                        have hpl : P.data.toList.length = P.size := by rw [Array.length_toList]; rfl
                        have HPL := Lib.hid hpl
                        have t1 : ((O : Int) + 65536).toNat = O + 65536 := by omega
                        have hul : u.data.toList.length = u.size := by rw [Array.length_toList]; rfl
                        have HUL := Lib.hid hul
                        have hdl := HDL.out
                        clear hp hpl hul hbad hkk hdl
                        by_cases hov : n < u.size + 65536
                        · have hle : n - u.data.toList.length < P.data.toList.length := by rw [HUL.out, HPL.out, hps]; omega
                          have e : RES = ([], 3) := by
                            rw [HR1.out]
                            exact ap_over base.data.toList n f c r u.data.toList P.data.toList _ HP.out HFL.out hle
                          have HE2 := Lib.hid e
                          have hov2 : (n : Int) < (u.size : Int) + 65536 := by omega
                          clear e hle
                          go_wp2
                          go_returns
                          exact ⟨by rw [HE2.out]; rfl, below_drewN HBX.out _⟩
                        · have hle : ¬ n - u.data.toList.length < P.data.toList.length := by rw [HUL.out, HPL.out, hps]; omega
                          have hov2 : ¬ (n : Int) < (u.size : Int) + 65536 := by omega
                          obtain ⟨hst, hsl⟩ := ap_step base.data.toList n f c r u.data.toList P.data.toList _ HP.out HFL.out hle
                          rw [← HR1.out] at hst
                          have HST := Lib.hid hst
                          have HSL := Lib.hid hsl
                          clear hst hsl hle
                          go_wp2
                          go_roundw
                          case rel =>
                            have hsl := HSL.out
                            rw [drop_len'] at hsl
                            have q2 : d.size ≤ a' + (f - 1) := by omega
                            have q3 : (u ++ P).size ≤ n := by rw [ByteArray.size_append]; omega
                            refine ⟨a', f - 1, u ++ P, ha', q2, q3, rfl, rfl, ?_, below_drewN HBX.out _⟩
                            rw [ByteArray.data_append, Array.toList_append]
                            exact HST.out
                          case measure => simp [intOf]; omega
                    · have hkk : kk K = K := by unfold kk; rw [if_neg hk0]
                      have hz : ((K : Int) == 0) = false := by rw [beq_eq_false_iff_ne]; omega
                      by_cases hbad : base.size < O + K
                      · have e : RES = ([], 3) := by
                          rw [HR1.out]
                          refine ap_error _ _ _ _ _ _ _ ?_ HFL.out
                          unfold piece
                          rw [if_neg HC0.out, if_neg hc128, HCPF.out]
                          simp only []
                          rw [hkk, if_pos (by rw [Array.length_toList]; show base.size < K ∨ base.size - K < O; omega)]
                        have hb2 : (base.size : Int) < (O : Int) + (K : Int) := by omega
                        have HE2 := Lib.hid e
                        clear e hbad hkk
                        go_wp2
                        go_returns
                        exact ⟨by rw [HE2.out]; rfl, below_drewN HBX.out _⟩
                      · have hb2 : ¬ (base.size : Int) < (O : Int) + (K : Int) := by omega
                        have hp : piece base.data.toList c r = .ok ((base.extract O (O + K)).data.toList, d.data.toList.drop a') := by
                          unfold piece
                          rw [if_neg HC0.out, if_neg hc128, HCPF.out]
                          simp only []
                          rw [hkk, if_neg (by rw [Array.length_toList]; show ¬ (base.size < K ∨ base.size - K < O); omega), ext_list, show O + K - O = K by omega]
                        have hmin : min (O + K) base.size - O = K := by omega
                        have hps : (base.extract O (O + K)).size = K := by rw [ByteArray.size_extract]; exact hmin
                        obtain ⟨P, hP⟩ : ∃ P, base.extract O (O + K) = P := ⟨_, rfl⟩
                        rw [hP] at hp hps
                        have HP := Lib.hid hp
                        have hpl : P.data.toList.length = P.size := by rw [Array.length_toList]; rfl
                        have HPL := Lib.hid hpl
                        have t1 : ((O : Int) + (K : Int)).toNat = O + K := by omega
                        have hul : u.data.toList.length = u.size := by rw [Array.length_toList]; rfl
                        have HUL := Lib.hid hul
                        have hdl := HDL.out
                        clear hp hpl hul hbad hkk hdl
                        by_cases hov : n < u.size + K
                        · have hle : n - u.data.toList.length < P.data.toList.length := by rw [HUL.out, HPL.out, hps]; omega
                          have e : RES = ([], 3) := by
                            rw [HR1.out]
                            exact ap_over base.data.toList n f c r u.data.toList P.data.toList _ HP.out HFL.out hle
                          have HE2 := Lib.hid e
                          have hov2 : (n : Int) < (u.size : Int) + (K : Int) := by omega
                          clear e hle
                          go_wp2
                          go_returns
                          exact ⟨by rw [HE2.out]; rfl, below_drewN HBX.out _⟩
                        · have hle : ¬ n - u.data.toList.length < P.data.toList.length := by rw [HUL.out, HPL.out, hps]; omega
                          have hov2 : ¬ (n : Int) < (u.size : Int) + (K : Int) := by omega
                          obtain ⟨hst, hsl⟩ := ap_step base.data.toList n f c r u.data.toList P.data.toList _ HP.out HFL.out hle
                          rw [← HR1.out] at hst
                          have HST := Lib.hid hst
                          have HSL := Lib.hid hsl
                          clear hst hsl hle
                          go_wp2
                          go_roundw
                          case rel =>
                            have hsl := HSL.out
                            rw [drop_len'] at hsl
                            have q2 : d.size ≤ a' + (f - 1) := by omega
                            have q3 : (u ++ P).size ≤ n := by rw [ByteArray.size_append]; omega
                            refine ⟨a', f - 1, u ++ P, ha', q2, q3, rfl, rfl, ?_, below_drewN HBX.out _⟩
                            rw [ByteArray.data_append, Array.toList_append]
                            exact HST.out
                          case measure => simp [intOf]; omega
          · obtain rfl : a = d.size := by omega
            have h1 := HR.out
            rw [List.drop_eq_nil_of_le (by rw [Array.length_toList]; exact Nat.le_refl _), ap_end, Array.length_toList] at h1
            by_cases hun : u.size < n
            · have e : RES = ([], 6) := by rw [h1]; exact if_pos hun
              have HE2 := Lib.hid e
              clear h1 e
              go_wp2
              go_returns
              exact ⟨by rw [HE2.out]; rfl, HBB.out⟩
            · have e : RES = (u.data.toList, 0) := by rw [h1]; exact if_neg hun
              have HE2 := Lib.hid e
              clear h1 e
              go_wp2
              go_returns
              exact ⟨by rw [HE2.out]; rfl, HBB.out⟩
    · have e : RES = ([], 4) := by rw [HA.out, if_neg (by omega), if_pos h1]
      have hx : ((fr : Int) == (base.size : Int)) = false := by rw [beq_eq_false_iff_ne]; omega
      clear c1 h1
      go_wp2
      go_returns
      exact ⟨by rw [e]; rfl, hb1⟩
  · have e : RES = ([], er) := by rw [HA.out, if_pos h0]
    have hx : ((er : Int) == 0) = false := by rw [beq_eq_false_iff_ne]; omega
    clear c1 h0
    go_wp2
    go_returns
    exact ⟨by rw [e]; rfl, hb1⟩
end Go.Proofs.Ytilfdeboeohnbaa
