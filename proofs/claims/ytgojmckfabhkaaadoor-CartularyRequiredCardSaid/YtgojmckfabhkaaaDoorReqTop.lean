/- THE WALK of CartularyRequired. Conditions: bounds on lengths; the table of powers of ten; bytealg.MaxLen holds an int. -/
import Derived.Test.YtgojmckfabhkaaaDoorReqTopMath
import Derived.Deep.DeepCutAuto
import Derived.Deep.CutRange
import Derived.Deep.CutBlock
namespace Go.Proofs.YtgojmckfabhkaaaDoor.Sem
open Go Go.RowKit Sums
set_option linter.unusedVariables false

/-- The integers that came in. -/
structure IntsAt (w : World) (A : Option Addr) (n cap : Nat) (L : List Int) : Prop where
  len : L.length = n
  le : n ≤ cap
  small : cap ≤ maxLen
  at_ : ∀ i, i < n → ∃ ad, A = some ad ∧ ad.block < w.heap.size ∧ w.cell? (ad.add i) = some (.int .i64 (L.getD i 0))
theorem rowV_shape {w : World} {B s n : Nat} {e : TypeId} {v : Value} {xs : List Value} (h : w.ownsRow B e s v n xs) : ∃ A cap, v = .slice A n cap ∧ n ≤ cap ∧ cap ≤ maxLen := by
  rcases h.2 with ⟨rfl, rfl⟩ | ⟨g, cap, cur, rfl, -, -, h1, h2, -⟩
  · exact ⟨none, 0, rfl, Nat.le_refl _, Nat.zero_le _⟩
  · exact ⟨_, cap, rfl, h1, h2⟩

set_option maxRecDepth 100000 in
set_option maxHeartbeats 2000000 in
theorem req_bad (p : List UInt8) (B I : ByteArray) (A : Option Addr) (n cap : Nat) (w : World) (ht : tabOk w) (hp : pathB p = false) (hz : p.length ≤ 9223372036854775807) (mx : Int) (hmx : w.cell? ⟨0, 0, none⟩ = some (.int .i64 mx)) (hw0 : 0 < w.heap.size) :
    Calls Tryd.prog 3 #[.string (tx p), .string B, .slice A n cap, .string I] w fun e w' => e = .returned (.bool true) ∧ Below w.heap.size w w' := by
  have hr := fun W => rpath_all p W hz
  have hm := fun W h => mpath_all p W hz mx h
  rw [hp] at hr hm
  have HR := Lib.hid hr
  have HM := Lib.hid hm
  have HF := Lib.hid (make_first w ht)
  have HMX := Lib.hid hmx
  obtain ⟨P, hP⟩ : ∃ P, P = tx p := ⟨_, rfl⟩
  rw [← hP] at HR HM ⊢
  clear hP hr hm ht hmx hp
  go_enter Tryd.func3, Tryd.ntmps3
  go_wp2_with fail
  refine HF.out.mono ?_
  rintro e w1 ⟨rfl, hb1⟩
  go_wp2_with fail
  refine (HR.out _).mono ?_
  rintro e w2 ⟨rfl, hb2⟩
  have hb3 := below_next hb1 hb2 hb1.size
  go_wp2_with fail
  refine (HM.out _ ((hb3.cell (p := ⟨0, 0, none⟩) hw0).trans HMX.out)).mono ?_
  rintro e w3 ⟨rfl, hb4⟩
  have HB := Lib.hid (below_next hb3 hb4 hb3.size)
  clear hb1 hb2 hb3 hb4
  go_wp2
  go_ret
  exact ⟨rfl, HB.out⟩

/-- What the first loop leaves. -/
structure RQ (w W : World) (p base id : List UInt8) (tv lv wv : Value) (ps : List (Int × List UInt8)) : Prop where
  len : ps.length ≤ 20
  all : ∀ q ∈ ps, makeR base id q.1 = some q.2
  txt : tv = .string (tx (textD p ps))
  list : ownsS W w.heap.size lv (ps.map fun q => tx q.2)
  when : ownsI W w.heap.size wv (ps.map Prod.fst)
  below : Below w.heap.size w W
theorem RQ.start (w W : World) (p base id : List UInt8) (lv wv : Value) (h1 : ownsS W w.heap.size lv []) (h2 : ownsI W w.heap.size wv []) (hb : Below w.heap.size w W) : RQ w W p base id (.string (tx (textD p []))) lv wv [] := ⟨by simp, by simp, rfl, h1, h2, hb⟩


set_option maxRecDepth 100000 in
set_option maxHeartbeats 4000000 in
theorem req_main (p b i : List UInt8) (A : Option Addr) (n cap : Nat) (L : List Int) (w : World) (hL : IntsAt w A n cap L) (ht : tabOk w) (hp : pathB p = true) (hbz : b.length ≤ 140737488355328) (hiz : i.length ≤ 140737488355328) (mx : Int) (hmx : w.cell? ⟨0, 0, none⟩ = some (.int .i64 mx)) (hw0 : 0 < w.heap.size) :
    Calls Tryd.prog 3 #[.string (tx p), .string (tx b), .slice A n cap, .string (tx i)] w fun e w' => e = .returned (.bool true) ∧ Below w.heap.size w w' := by
  obtain ⟨hpw, hpl⟩ := path_word hp
  have hr := fun W => rpath_all p W (by omega)
  rw [hp] at hr
  have HR := Lib.hid hr
  have HF := Lib.hid (make_first w ht)
  have HMX := Lib.hid hmx
  have HT := Lib.hid ht
  have HPW := Lib.hid hpw
  have HPL := Lib.hid hpl
  have HPP := Lib.hid hp
  have HLL := Lib.hid hL
  have hcap := hL.small
  have hnc := hL.le
  unfold maxLen at hcap
  have HPLAIN := Lib.hid (fun W => plain_any p W (by omega))
  have hps : (tx p).size ≤ 200 := by rw [tx_size]; exact hpl
  have hr0 : tx ([109, 111, 100, 117, 108, 101, 32] ++ p ++ [10]) ++ (⟨#[114, 101, 113, 117, 105, 114, 101, 32, 40, 10]⟩ : ByteArray) = tx (textD p []) := by
    rw [show (⟨#[114, 101, 113, 117, 105, 114, 101, 32, 40, 10]⟩ : ByteArray) = tx [114, 101, 113, 117, 105, 114, 101, 32, 40, 10] from rfl, tx_append]
    unfold textD linesT headT
    simp
  have HR0 := Lib.hid hr0
  have hpl0 : (tx ([109, 111, 100, 117, 108, 101, 32] ++ p ++ [10])).size ≤ 300 := by rw [tx_size]; simp; omega
  generalize tx ([109, 111, 100, 117, 108, 101, 32] ++ p ++ [10]) = PL at *
  clear hr ht hmx hpw hp hL hr0
  go_enter Tryd.func3, Tryd.ntmps3
  go_wp2_with fail
  refine HF.out.mono ?_
  rintro e w1 ⟨rfl, hb1⟩
  go_wp2_with fail
  refine (HR.out _).mono ?_
  rintro e w2 ⟨rfl, hb2⟩
  have HB2 := Lib.hid (below_next hb1 hb2 hb1.size)
  clear hb1 hb2
  go_wp2_with fail
  refine (HPLAIN.out _).mono ?_
  rintro e w2' ⟨rfl, rfl⟩

  go_upto_block 0 with fail
  go_cut [11, 12, 13] (fun s11 s12 s13 wx => ∃ ps : List (Int × List UInt8), RQ w wx p b i s11 s12 s13 ps)
  case first =>
    go_wp2_with fail
    go_loopw [11, 12, 13, 14] (fun tv lv wv iv W => ∃ (k : Nat) (ps : List (Int × List UInt8)), k ≤ n ∧ k ≤ 20 ∧ ps.length ≤ k ∧ iv = .int .i64 (k : Int) ∧ RQ w W p b i tv lv wv ps) (fun _ _ _ iv _ => n - (intOf iv).toNat)
    case atStart =>
      refine ⟨0, [], by omega, by omega, by simp, rfl, ?_⟩
      have hb0 := (HB2.out.alloc HB2.out.size (.cells #[] 9))
      have h9 := RQ.start w ((w2'.alloc (.cells #[] 9)).alloc (.cells #[] 3)) p b i _ _ ((ownsS_made w2' HB2.out.size).alloc _) (ownsI_made (w2'.alloc (.cells #[] 9)) hb0.size) (hb0.alloc hb0.size _)
      rw [World.size_alloc] at h9
      rw [HR0.out]
      exact h9
    case round =>
      obtain ⟨k, ps, hk, hk20, hpk, rfl, hrq⟩ := hrel
      have HRQ := Lib.hid hrq
      have htv := hrq.txt
      subst htv
      clear hrq
      by_cases hkn : k < n
      · by_cases hk2 : k < 20
        · obtain ⟨ad, hA, hadb, hck⟩ := HLL.out.at_ k hkn
          subst hA
          obtain ⟨t, ht⟩ : ∃ t, t = L.getD k 0 := ⟨_, rfl⟩
          rw [← ht] at hck
          have hckw := (HRQ.out.below.cell (p := ad.add k) (by rw [block_of_add]; exact hadb)).trans hck
          have HCK := Lib.hid hck
          have HAD := Lib.hid hadb
          have HMK := Lib.hid (make_any b i t wr ((HT.out).below HRQ.out.below) hiz hbz)
          clear ht hck hadb
          go_wp2_with fail
          refine HMK.out.mono ?_
          rintro e w3 hmp
          unfold MakeP at hmp
          obtain ⟨hme, hb3⟩ := hmp
          have HB3 := Lib.hid (below_next HRQ.out.below hb3 HRQ.out.below.size)
          cases hmk : makeR b i t with
          | none =>
            rw [hmk] at hme
            obtain ⟨c, hc0, rfl⟩ := hme
            have qc : (c != 0) = true := by rw [bne_iff_ne]; exact hc0
            have HL3 := Lib.hid (HRQ.out.list.below hb3)
            have HW3 := Lib.hid (HRQ.out.when.below hb3)
            clear hb3 hmk hckw HMK hc0
            go_wp2
            go_roundw
            case rel => exact ⟨k + 1, ps, hkn, by omega, by omega, by go_num, ⟨HRQ.out.len, HRQ.out.all, rfl, HL3.out, HW3.out, HB3.out⟩⟩
            case measure => first | (simp [intOf]; done) | (simp [intOf]; omega)
          | some v =>
            rw [hmk] at hme
            subst hme
            have HMD := Lib.hid hmk
            obtain ⟨hvw, hvl⟩ := made_word hmk
            have HL3 := Lib.hid (HRQ.out.list.below hb3)
            have HW3 := Lib.hid (HRQ.out.when.below hb3)
            have hck3 := (HB3.out.cell (p := ad.add k) (by rw [block_of_add]; exact HAD.out)).trans HCK.out
            have htl := textD_len p ps HPL.out (fun q hq => (made_word (HRQ.out.all q hq)).2)
            have hts : (tx (textD p ps)).size ≤ 10000 := by rw [tx_size]; have := HRQ.out.len; omega
            have hvs : (tx v).size ≤ 100 := by rw [tx_size]; exact hvl
            have hzz : tx (textD p ps) ++ ((((⟨#[9]⟩ : ByteArray) ++ tx p) ++ ⟨#[9]⟩) ++ tx v ++ ⟨#[32, 47, 47, 32, 105, 110, 100, 105, 114, 101, 99, 116, 10]⟩) = tx (textD p (ps ++ [(t, v)])) := by
              rw [show (⟨#[9]⟩ : ByteArray) = tx [9] from rfl, show (⟨#[32, 47, 47, 32, 105, 110, 100, 105, 114, 101, 99, 116, 10]⟩ : ByteArray) = tx [32, 47, 47, 32, 105, 110, 100, 105, 114, 101, 99, 116, 10] from rfl]
              simp only [tx_append]
              rw [textD_snoc]
              unfold lineT
              simp
            have HZZ := Lib.hid hzz
            obtain ⟨V, hV⟩ : ∃ V, V = tx v := ⟨_, rfl⟩
            rw [← hV] at HZZ hvs ⊢
            have HV := Lib.hid hV
            have hBs : w.heap.size ≤ (w3.alloc (.cells #[.string V] 9)).heap.size := by rw [World.size_alloc]; have := HB3.out.size; omega
            have hlen : (ps.map fun q => tx q.2).length + [V].length ≤ 8796093022208 := by have := HRQ.out.len; simp; omega
            have hlen2 : (ps.map Prod.fst).length + [t].length ≤ 17592186044416 := by have := HRQ.out.len; simp; omega
            have HBS := Lib.hid hBs
            clear hb3 hmk hckw HMK hzz hV htl hvw hvl
            go_wp2_with (at_builtin; first
              | (refine append_strs _ rfl (.tmp 77) (.tmp 79) rfl w.heap.size _ _ [V] rfl (HL3.out.alloc _) ⟨w3.heap.size, 0, none⟩ 1 rfl (new_strs w3 [V] _) hlen HBS.out ?_
                 intro v4 w4 hown4 hg4
                 have hb4 := (HB3.out.alloc HB3.out.size (.cells #[.string V] 9)).grown hg4 HBS.out (fun q e => (HL3.out.lt q e).1)
                 have hck4 := (hb4.cell (p := ad.add k) (by rw [block_of_add]; exact HAD.out)).trans HCK.out
                 have hw4 : ownsI w4 w.heap.size u13 (ps.map Prod.fst) := World.ownsRow.kept (HW3.out.alloc (.cells #[.string V] 9)) hg4 (own_ne (HW3.out.alloc (.cells #[.string V] 9)) (HL3.out.alloc (.cells #[.string V] 9)) (by decide))
                 have HB4 := Lib.hid hb4
                 have HW4 := Lib.hid hw4
                 have HOWN4 := Lib.hid hown4
                 clear hb4 hw4 hg4 hown4)
              | (refine append_ints _ rfl (.tmp 81) (.tmp 86) rfl w.heap.size _ _ [t] rfl (HW4.out.alloc _) ⟨w4.heap.size, 0, none⟩ 1 rfl (new_ints w4 [t] _) hlen2 (by rw [World.size_alloc]; have := HB4.out.size; omega) ?_
                 intro v5 w5 hown5 hg5
                 have hb5 := (HB4.out.alloc HB4.out.size (.cells #[.int .i64 t] 3)).grown hg5 (by rw [World.size_alloc]; have := HB4.out.size; omega) (fun q e => (HW4.out.lt q e).1)
                 have hl5 : ownsS w5 w.heap.size v4 ((ps.map fun q => tx q.2) ++ [V]) := World.ownsRow.kept (HOWN4.out.alloc (.cells #[.int .i64 t] 3)) hg5 (own_ne (HOWN4.out.alloc (.cells #[.int .i64 t] 3)) (HW4.out.alloc (.cells #[.int .i64 t] 3)) (by decide))
                 have HB5 := Lib.hid hb5
                 have HL5 := Lib.hid hl5
                 have HW5 := Lib.hid hown5
                 clear hb5 hl5 hown5 hg5))
            go_roundw
            case rel =>
              refine ⟨k + 1, ps ++ [(t, v)], hkn, by omega, by simp; omega, by go_num, ⟨by simp; omega, fun q hq => ?_, by rw [← HZZ.out], ?_, ?_, HB5.out⟩⟩
              · rcases List.mem_append.1 hq with hq | hq
                · exact HRQ.out.all q hq
                · obtain rfl := List.mem_singleton.1 hq
                  exact HMD.out
              · rw [List.map_append]
                have h9 := HL5.out
                rw [HV.out] at h9
                exact h9
              · rw [List.map_append]
                exact HW5.out
            case measure => first | (simp [intOf]; done) | (simp [intOf]; omega)
        · go_wp2
          go_meet
          exact ⟨ps, ⟨HRQ.out.len, HRQ.out.all, rfl, HRQ.out.list, HRQ.out.when, HRQ.out.below⟩⟩
      · go_wp2
        go_meet
        exact ⟨ps, ⟨HRQ.out.len, HRQ.out.all, rfl, HRQ.out.list, HRQ.out.when, HRQ.out.below⟩⟩
  case rest =>

    obtain ⟨ps, hrq⟩ := hcut
    have htv := hrq.txt
    subst htv
    obtain ⟨A12, c12, h12, hc12, hm12⟩ := rowV_shape hrq.list
    obtain ⟨A13, c13, h13, hc13, hm13⟩ := rowV_shape hrq.when
    rw [List.length_map] at h12 hc12 h13 hc13
    subst h12
    subst h13
    obtain ⟨m, hm⟩ : ∃ m, m = ps.length := ⟨_, rfl⟩
    have hm20 : m ≤ 20 := by rw [hm]; exact hrq.len
    have HM := Lib.hid hm
    rw [← hm] at hc12 hc13 ⊢
    have hmc12 : c12 ≤ 9223372036854775807 := hm12
    have hmc13 : c13 ≤ 9223372036854775807 := hm13
    have HLI := Lib.hid hrq.list
    have HWI := Lib.hid hrq.when
    rw [← hm] at HLI HWI
    have HALL := Lib.hid hrq.all
    have HBC := Lib.hid hrq.below
    have htl := textD_len p ps HPL.out (fun q hq => (made_word (hrq.all q hq)).2)
    have hts : (tx (textD p ps)).size ≤ 10000 := by rw [tx_size]; omega
    have hfl : tx (textD p ps) ++ (⟨#[41, 10]⟩ : ByteArray) = tx (fullT p (ps.map Prod.snd)) := by
      rw [show (⟨#[41, 10]⟩ : ByteArray) = tx [41, 10] from rfl, tx_append, textD_full]
    have HFL := Lib.hid hfl
    have hfz : (fullT p (ps.map Prod.snd)).length ≤ 65535 := by rw [← textD_full, List.length_append]; simp; omega
    have hpr := pr_full (vs := ps.map Prod.snd) HPW.out (fun v hv => by obtain ⟨q, hq, rfl⟩ := List.mem_map.1 hv; exact (made_word (hrq.all q hq)).1)
    have HPA := Lib.hid (fun W => mparse_any (fullT p (ps.map Prod.snd)) _ W hfz hpr)
    have HMO := Lib.hid (fun W h1 h2 => mod_any (fullT p (ps.map Prod.snd)) p (ps.map Prod.snd) W hfz hpr HPP.out mx h1 h2 (by rw [List.length_map]; omega))
    clear hrq hm hm12 hm13 htl hfl hfz hpr
    go_wp2_with fail
    rw [HFL.out]
    refine (HPA.out _).mono ?_
    rintro e w3 ⟨⟨lv, rfl, hls⟩, hb3⟩
    obtain ⟨g, cl, rfl, hcl, hgB, hgl, hat⟩ := hls.form (by rw [wantL_len]; omega)
    rw [wantL_len, List.length_map, ← HM.out] at hcl ⊢
    have HAT := Lib.hid hat
    have HGL := Lib.hid hgl
    have HB3 := Lib.hid hb3
    clear hls hat hgl hgB hb3
    go_wp2_with fail
    rw [HFL.out]
    have hmx3 : w3.cell? ⟨0, 0, none⟩ = some (.int .i64 mx) := (HB3.out.cell (p := ⟨0, 0, none⟩) (by show 0 < wc.heap.size; have := HBC.out.size; omega)).trans ((HBC.out.cell (p := ⟨0, 0, none⟩) hw0).trans HMX.out)
    refine (HMO.out w3 hmx3 (by have := HBC.out.size; have := HB3.out.size; omega)).mono ?_
    rintro e w4 ⟨rfl, hb4⟩
    have HB4 := Lib.hid hb4
    clear hb4 hmx3
    go_wp2
    go_loopw [139] (fun iv W => ∃ k : Nat, k ≤ m ∧ iv = .int .i64 (k : Int) ∧ Below w4.heap.size w4 W) (fun iv _ => m - (intOf iv).toNat)
    case atStart => exact ⟨0, Nat.zero_le _, rfl, Below.refl _ _⟩
    case round =>
      obtain ⟨k, hk, rfl, hbw⟩ := hrel
      have HBW := Lib.hid hbw
      have HBWC : Hid (Below wc.heap.size wc wr) := Lib.hid (HB3.out.trans ((HB4.out.trans (hbw.mono HB4.out.size)).mono HB3.out.size))
      have HBW3 : Hid (Below w3.heap.size w3 wr) := Lib.hid (HB4.out.trans (hbw.mono HB4.out.size))
      clear hbw
      by_cases hkm : k < m
      · have hkp : k < ps.length := by rw [← HM.out]; exact hkm
        obtain ⟨gL, cL, eL, hLB, hLl⟩ := HLI.out.form (by rw [List.length_map]; omega)
        obtain ⟨gW, cW, eW, hWB, hWl⟩ := HWI.out.form (by rw [List.length_map]; omega)
        injection eL with eL1 eL2 eL3
        injection eW with eW1 eW2 eW3
        subst eL1
        subst eW1
        have hz : ∀ W', Below wc.heap.size wc W' → ∀ j (hj : j < ps.length), W'.cell? ⟨gL, j, none⟩ = some (.string (tx (ps[j]'hj).2)) ∧ W'.cell? ⟨gW, j, none⟩ = some (.int .i64 (ps[j]'hj).1) := fun W' hb j hj => by
          have h1 := HLI.out.cell (by rw [List.length_map, HM.out]) j (by rw [HM.out]; exact hj)
          have h2 := HWI.out.cell (by rw [List.length_map, HM.out]) j (by rw [HM.out]; exact hj)
          refine ⟨(hb.cell (p := ⟨gL, j, none⟩) hLl).trans (h1.trans ?_), (hb.cell (p := ⟨gW, j, none⟩) hWl).trans (h2.trans ?_)⟩
          · unfold sv; rw [List.getElem_map]
          · unfold Go.Proofs.YtgojmckfabhkaaaDoor.iv; rw [List.getElem_map]
        have HZ := Lib.hid hz
        obtain ⟨gw, cw, hln⟩ := HAT.out (k + 1) (by rw [wantL_len, List.length_map]; omega)
        rw [wantL_succ p (ps.map Prod.snd) k _ (by rw [List.length_map]; exact hkp)] at hln
        rw [List.getElem_map] at hln
        have hln2 := hln.below HGL.out HBW3.out
        obtain ⟨x0, x1, x2, hws⟩ := hln2
        dsimp only [List.length_cons, List.length_nil] at x0 x1 x2 hws
        obtain ⟨t, htt⟩ : ∃ t, t = ps[k].1 := ⟨_, rfl⟩
        obtain ⟨v, hvv⟩ : ∃ v, v = ps[k].2 := ⟨_, rfl⟩
        have hmk : makeR b i t = some v := by rw [htt, hvv]; exact HALL.out _ (List.getElem_mem hkp)
        have HMK := Lib.hid hmk
        rw [← hvv] at hws
        have y0 : wr.cell? ⟨gw, 0, none⟩ = some (.string (tx p)) := hws.cell rfl 0 (by decide)
        have y1 : wr.cell? ⟨gw, 1, none⟩ = some (.string (tx v)) := hws.cell rfl 1 (by decide)
        have hgwl : gw < wr.heap.size := (hws.lt gw rfl).2
        have hcs : ((3 + k : Nat) : Int) = (k : Int) + 3 := by omega
        rw [hcs] at x2
        have qr : ((tx [114, 101, 113, 117, 105, 114, 101]).toList == [114, 101, 113, 117, 105, 114, 101]) = true := by rw [tx_toList]; rfl
        obtain ⟨RV, hRV⟩ : ∃ RV, RV = tx [114, 101, 113, 117, 105, 114, 101] := ⟨_, rfl⟩
        rw [← hRV] at x0 qr
        obtain ⟨z0, z1⟩ := hz wr HBWC.out k hkp
        rw [← hvv] at z0
        rw [← htt] at z1
        have HVT := Lib.hid (And.intro htt hvv)
        have hglw : g < wr.heap.size := Nat.lt_of_lt_of_le HGL.out HBW3.out.size
        have hgLw : gL < wr.heap.size := Nat.lt_of_lt_of_le hLl HBWC.out.size
        have hgWw : gW < wr.heap.size := Nat.lt_of_lt_of_le hWl HBWC.out.size
        have HY : Hid (∀ W', Below wr.heap.size wr W' → W'.cell? ⟨gw, 0, none⟩ = some (.string (tx p)) ∧ W'.cell? ⟨gw, 1, none⟩ = some (.string (tx v)) ∧ W'.cell? ⟨gL, k, none⟩ = some (.string (tx v)) ∧ W'.cell? ⟨gW, k, none⟩ = some (.int .i64 t)) :=
          Lib.hid (fun W' hb => ⟨(hb.cell (p := ⟨gw, 0, none⟩) hgwl).trans y0, (hb.cell (p := ⟨gw, 1, none⟩) hgwl).trans y1, (hb.cell (p := ⟨gL, k, none⟩) hgLw).trans z0, (hb.cell (p := ⟨gW, k, none⟩) hgWw).trans z1⟩)
        have HPO := Lib.hid (fun W => parse_one hmk W)
        obtain ⟨kt1, kt2, -, -⟩ := makeR_is hmk
        have HST := Lib.hid (fun W h => stamp_tx t kt1 kt2 W h)
        have HTW := Lib.hid ((HT.out).below (HBC.out.trans (HBWC.out.mono HBC.out.size)))
        have hk1 : k + 1 ≤ m := hkm
        have hk1c : k + 1 < cl := by omega
        have hkc13 : k < c13 := by omega
        clear hln hws hmk htt hvv hcs hRV hz eL2 eL3 eW2 eW3
        go_wp2_with fail
        refine (HPO.out _).mono ?_
        rintro e w5 ⟨⟨bb, rr, rfl⟩, hb5⟩
        clear x0 x1 x2 y0 y1 z0 z1
        have hba := ((Below.refl wr.heap.size wr).alloc (Nat.le_refl _) (.cells #[.string RV, .slice (some ⟨gw, 0, none⟩) 2 cw, .int .i64 ((k : Int) + 3)] 35))
        have hb5w : Below wr.heap.size wr w5 := hba.trans (hb5.mono hba.size)
        have hr5 := below_heap hb5 (heap_alloc_same wr (.cells #[.string RV, .slice (some ⟨gw, 0, none⟩) 2 cw, .int .i64 ((k : Int) + 3)] 35)) (by rw [World.size_alloc]; omega)
        have hb5a := hb5w.alloc hb5w.size (.cells #[.string bb, .int .i64 t, .string rr] 37)
        have hr5a := heap_alloc_keep hr5 (.cells #[.string bb, .int .i64 t, .string rr] 37)
        have hq5a := heap_alloc_same w5 (.cells #[.string bb, .int .i64 t, .string rr] 37)
        have HR5 := Lib.hid (And.intro hb5a (And.intro hr5a hq5a))
        clear hba hb5 hb5w hr5 hb5a hr5a hq5a
        go_wp2_with fail
        obtain ⟨X25, hX25⟩ : ∃ X25, X25 = wr.heap.size := ⟨_, rfl⟩
        obtain ⟨X26, hX26⟩ : ∃ X26, X26 = w5.heap.size := ⟨_, rfl⟩
        obtain ⟨W5, hW5⟩ : ∃ W5, W5 = w5.alloc (.cells #[.string bb, .int .i64 t, .string rr] 37) := ⟨_, rfl⟩
        rw [← hW5] at HR5 ⊢
        rw [← hX25, ← hX26]
        obtain ⟨d0, d1, d2, -⟩ := rows3 HR5.out.2.1
        obtain ⟨q0, q1, q2, -⟩ := rows3 HR5.out.2.2
        rw [← hX25] at d0 d1 d2
        rw [← hX26] at q0 q1 q2
        obtain ⟨y0, y1, z0, z1⟩ := HY.out W5 HR5.out.1
        clear hX25 hX26 hW5
        go_quiet (fail)

        go_wp2_with fail
        refine (HST.out _ (HTW.out.below (below_drewN HR5.out.1 _))).mono ?_
        rintro e w7 ⟨rfl, hb7⟩
        have hb7w : Below wr.heap.size wr w7 := below_next (below_drewN HR5.out.1 _) hb7 (below_drewN HR5.out.1 _).size
        have HB7 := Lib.hid hb7w
        clear hb7 hb7w d0 d1 d2 q0 q1 q2 y0 y1 z0 z1 HR5 qr
        obtain ⟨y0, y1, z0, z1⟩ := HY.out w7 HB7.out
        have hGs : (tx (stampOf t)).toList = stampOf t := tx_toList _
        have HGS := Lib.hid hGs
        obtain ⟨G, hG⟩ : ∃ G, G = tx (stampOf t) := ⟨_, rfl⟩
        rw [← hG] at HGS ⊢
        have hkle : k ≤ m := by omega
        have HB7C := Lib.hid (HBWC.out.trans (HB7.out.mono HBWC.out.size))
        have HB74 := Lib.hid (HBW.out.trans (HB7.out.mono HBW.out.size))
        have HTW7 := Lib.hid (HTW.out.below HB7.out)
        clear hGs hG
        go_wp2
        go_hide hQ
        have HQ := Lib.hid hQ
        clear hQ
        go_loopw [211] (fun jv Wj => ∃ j : Nat, j ≤ k ∧ jv = .int .i64 (j : Int) ∧ Below w7.heap.size w7 Wj) (fun jv _ => k - (intOf jv).toNat)
        case atStart => exact ⟨0, Nat.zero_le _, rfl, Below.refl _ _⟩
        case round =>

          obtain ⟨j, hj, rfl, hbv⟩ := hrel
          have HBV := Lib.hid hbv
          by_cases hjk : j < k
          · have hjp : j < ps.length := by have := HM.out; omega
            have hcb : Below wc.heap.size wc wr := HB7C.out.trans (hbv.mono HB7C.out.size)
            obtain ⟨z0j, z1j⟩ := HZ.out wr hcb j hjp
            have hmj : makeR b i ps[j].1 = some ps[j].2 := HALL.out _ (List.getElem_mem hjp)
            generalize ps[j].1 = tj at z1j hmj
            generalize ps[j].2 = vj at z0j hmj
            obtain ⟨jt1, jt2, -, -⟩ := makeR_is hmj
            have HSJ := Lib.hid (fun W h => stamp_tx tj jt1 jt2 W h)
            have HTJ := Lib.hid (HTW7.out.below hbv)
            have HMJ := Lib.hid hmj
            have hgLj : gL < wr.heap.size := Nat.lt_of_lt_of_le hLl hcb.size
            have hgWj : gW < wr.heap.size := Nat.lt_of_lt_of_le hWl hcb.size
            have hjc : j < c13 := by omega
            have hjc12 : j < c12 := by omega
            clear hmj hcb hbv
            go_wp2_with fail
            refine (HSJ.out _ HTJ.out).mono ?_
            rintro e w8 ⟨rfl, hb8⟩
            have HB8 := Lib.hid (below_next HBV.out hb8 HBV.out.size)
            clear hb8
            cases hlt : Op.bytesLess (stampOf tj) (stampOf t) with
            | true =>
              have HCM := Lib.hid (fun W => compare_two HMJ.out HMK.out hlt W)
              have hbl : Op.bytesLess (tx (stampOf tj)).toList G.toList = true := by rw [tx_toList, HGS.out]; exact hlt
              obtain ⟨Gj, hGj⟩ : ∃ Gj, Gj = tx (stampOf tj) := ⟨_, rfl⟩
              rw [← hGj] at hbl ⊢
              clear hlt hGj
              go_wp2_with fail
              refine (HCM.out _).mono ?_
              rintro e w9 ⟨rfl, hb9⟩
              have HB9 := Lib.hid (below_next HB8.out hb9 HB8.out.size)
              clear hb9
              go_wp2
              go_roundw
              case rel => exact ⟨j + 1, by omega, by go_num, HB9.out⟩
              case measure => first | (simp [intOf]; done) | (simp [intOf]; omega)
            | false =>
              have hbl : Op.bytesLess (tx (stampOf tj)).toList G.toList = false := by rw [tx_toList, HGS.out]; exact hlt
              obtain ⟨Gj, hGj⟩ : ∃ Gj, Gj = tx (stampOf tj) := ⟨_, rfl⟩
              rw [← hGj] at hbl ⊢
              clear hlt hGj
              go_wp2
              go_roundw
              case rel => exact ⟨j + 1, by omega, by go_num, HB8.out⟩
              case measure => first | (simp [intOf]; done) | (simp [intOf]; omega)
          · clear hbv y0 y1 z0 z1
            go_wp2
            rw [← HQ.out]
            go_wp2
            go_roundw
            case rel => exact ⟨k + 1, by omega, by go_num, HB74.out.trans (HBV.out.mono HB74.out.size)⟩
            case measure => first | (simp [intOf]; done) | (simp [intOf]; omega)
      · go_wp2
        go_ret
        exact ⟨rfl, HBC.out.trans (HBWC.out.mono HBC.out.size)⟩


theorem cartularyRequired_walk (P B I : ByteArray) (A : Option Addr) (n cap : Nat) (L : List Int) (w : World) (hL : IntsAt w A n cap L) (ht : tabOk w) (hP : P.size ≤ maxLen) (hB : B.size ≤ 140737488355328) (hI : I.size ≤ 140737488355328) (mx : Int) (hmx : w.cell? ⟨0, 0, none⟩ = some (.int .i64 mx)) :
    Calls Tryd.prog 3 #[.string P, .string B, .slice A n cap, .string I] w fun e w' => e = .returned (.bool true) ∧ Below w.heap.size w w' := by
  have hw0 : 0 < w.heap.size := World.block_lt_of_cell? w ⟨0, 0, none⟩ hmx
  have hp := tx_size P.data.toList
  have hb := tx_size B.data.toList
  have hi := tx_size I.data.toList
  rw [← tx_of] at hp hb hi
  unfold maxLen at hP
  rw [tx_of P, tx_of B, tx_of I]
  cases hq : pathB P.data.toList with
  | false => exact req_bad _ _ _ A n cap w ht hq (by omega) mx hmx hw0
  | true => exact req_main _ _ _ A n cap L w hL ht hq (by omega) (by omega) mx hmx hw0
end Go.Proofs.YtgojmckfabhkaaaDoor.Sem
