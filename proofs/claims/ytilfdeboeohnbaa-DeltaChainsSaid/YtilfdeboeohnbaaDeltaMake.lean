/- THE WALK of Make. Conditions: the lengths. -/
import Derived.Test.YtilfdeboeohnbaaDeltaFlush
import Derived.Deep.Onto
import Derived.Deep.DeepCutAuto
import Derived.Deep.CutRange
import Derived.Deep.CutBlock
namespace Go.Proofs.Ytilfdeboeohnbaa
open Go.RowKit Delta
set_option linter.unusedVariables false

/-- A text appended, as one step of a region that draws its order. -/
theorem step_append_text {ops : Array Oper} {o : Oper} {a : Act} {w : World} {K : Act → World → Prop} {Q : Exit → Act → World → Prop} {E : Prop}
    (hgd : o.guard = none) (s x : Operand) (ho : o.op = Op.call { callee := Callee.builtin Builtin.append, args := #[s, x], argTypes := #[44, 9] })
    (B : Nat) (v : Value) (l : List UInt8) (hs : a.eval s = v) (hown : ownsB w B v l) (t : ByteArray) (hx : a.eval x = .string t) (hlen : l.length + t.size ≤ 140737488355328) (hB : B ≤ w.heap.size)
    (hK : ∀ v' w', ownsB w' B v' (l ++ t.data.toList) → w.grownBy w' v.ownBlock → K (a.put o.dst v') w') :
    if Region.wanted o (yielded ops a.tmps) = true then Oper.wp Try.prog o a w K Q else E := by
  have hw : Region.wanted o (yielded ops a.tmps) = true := by simp [Region.wanted, hgd]
  rw [if_pos hw]
  obtain ⟨i0, hi, hz0, hz1, hz2⟩ := info_parts infoU8
  obtain ⟨v', w', hrun, hown', hg, _⟩ := Lib.run_append_own_string (P := Try.prog) w B 44 9 o.type 5 i0 Try.underlying44 Try.underlying9 hi hz0 hz1 hz2 v l.length (l.map bv) hown t (by unfold maxLen; omega) (by omega) hB
  have hl : (l ++ t.data.toList).length = l.length + t.size := by rw [List.length_append, Array.length_toList]; rfl
  have h := hK v' w' (by unfold ownsB; rw [hl, List.map_append]; exact hown') hg
  unfold Oper.wp
  simp [execOp, ho, resolve, invoke, builtin, hs, hx, hrun, Result.andThen]
  exact h

theorem ext_list2 (d : ByteArray) (a b : Nat) : (d.extract a b).data.toList = (d.data.toList.drop a).take (b - a) := by
  simp [ByteArray.data_extract, List.extract_eq_take_drop]
theorem ownsB.base {w : World} {B B' : Nat} {v : Value} {l : List UInt8} (h : ownsB w B v l) (hB : B' ≤ B) : ownsB w B' v l := World.ownsRow.mono h hB
theorem ownsB.cellsB {w : World} {B g : Nat} {v : Value} {l : List UInt8} (h : ownsB w B v l) (hg : v.ownBlock = some g) : ∀ j u, (l.map bv)[j]? = some u → w.cell? ((⟨g, 0, none⟩ : Addr).add j) = some u := World.ownsRow.cells h hg
theorem sized_pos (n : Nat) : 0 < (sized n).length := by rw [sized]; split <;> simp

theorem places.ne_sl {w : World} {M N O : Nat} {v : Value} (h : places w M N) (ho : sl1 w O v) : M ≠ O := fun e => by
  obtain ⟨es, clock, h1, _⟩ := h
  unfold sl1 at ho
  rw [← e, h1] at ho
  injection ho with ho
  cases ho
theorem places.ne_own {w : World} {M N B : Nat} {v : Value} {l : List UInt8} (h : places w M N) (ho : ownsB w B v l) : v.ownBlock ≠ some M := fun e => by
  obtain ⟨cur, hc⟩ := ho.heap e
  obtain ⟨es, clock, h1, _⟩ := h
  rw [h1] at hc
  injection hc with hc
  cases hc

def OkIn (ok : Bool) (k N : Nat) : Prop := ok = true → k < N
/-- From k in b and from i in t on stand the same n bytes. -/
def Same (b t : ByteArray) (k i n : Nat) : Prop := n ≤ 65536 ∧ i + n ≤ t.size ∧ (0 < n → k + n ≤ b.size) ∧ (b.data.toList.drop k).take n = (t.data.toList.drop i).take n
theorem Same.zero (b t : ByteArray) (k i : Nat) (hi : i ≤ t.size) : Same b t k i 0 := ⟨by omega, by omega, by omega, rfl⟩
theorem take_more (l : ByteArray) (a n : Nat) (h : a + n < l.size) : (l.data.toList.drop a).take (n + 1) = (l.data.toList.drop a).take n ++ [l[a + n]] := by
  have hl : l.data.toList.length = l.size := by rw [Array.length_toList]; rfl
  rw [List.take_add_one, List.getElem?_drop, List.getElem?_eq_getElem (by rw [hl]; exact h)]
  rfl
theorem take_next (l : ByteArray) (i : Nat) (h : i < l.size) : l.data.toList.take (i + 1) = l.data.toList.take i ++ [l[i]] := by
  have hl : l.data.toList.length = l.size := by rw [Array.length_toList]; rfl
  rw [List.take_add_one, List.getElem?_eq_getElem (by rw [hl]; exact h)]
  rfl
theorem Same.succ {b t : ByteArray} {k i n : Nat} (h : Same b t k i n) (hn : n < 65536) (hk : k + n < b.size) (hi : i + n < t.size) (he : b[k + n] = t[i + n]) : Same b t k i (n + 1) := by
  refine ⟨by omega, by omega, fun _ => by omega, ?_⟩
  rw [take_more b k n hk, take_more t i n hi, h.2.2.2, he]

/-- The state of Make's second loop. -/
structure MkInv (b t : ByteArray) (w wr : World) (P O M i : Nat) : Prop where
  ex : ∃ pv ov pl ops x, MkSt wr w.heap.size P O M b.size pv ov pl (sized b.size ++ sized t.size ++ ops) ∧ Mk b.data.toList ops x ∧ x ++ pl = t.data.toList.take i ∧ ops.length + 2 * pl.length ≤ 2 * i
  hi : i ≤ t.size
  hb : Below w.heap.size w wr

theorem MkInv.drewN {b t : ByteArray} {w wr : World} {P O M i : Nat} (h : MkInv b t w wr P O M i) (n : Nat) : MkInv b t w (wr.drewN n) P O M i := by
  obtain ⟨⟨pv, ov, pl, ops, x, h1, h2⟩, h3, h4⟩ := h
  exact ⟨⟨pv, ov, pl, ops, x, h1.drewN n, h2⟩, h3, below_drewN h4 n⟩

/-- How Make ends. -/
def MakeEnd (b t : ByteArray) (w : World) (e : Ending) (w' : World) : Prop :=
  ∃ ops, e = .returned (.string ⟨(sized b.size ++ sized t.size ++ ops).toArray⟩) ∧ Mk b.data.toList ops t.data.toList ∧ ops.length ≤ t.size + (t.size + 126) / 127 ∧ Below w.heap.size w w'

set_option maxRecDepth 100000 in
set_option maxHeartbeats 8000000 in
theorem make_any (b t : ByteArray) (w : World) (hb : (b.size : Int) ≤ 1000000) (ht : (t.size : Int) ≤ 1000000) :
    Calls Try.prog 14 #[.string b, .string t] w (MakeEnd b t w) := by
  have hmf : ∀ (fn : Fn) (first cap : Array Value) (w : World), (Instr.makeFunc fn first cap).run Try.prog w = .ok (.func fn first cap) w := fun _ _ _ _ => rfl
  have hmm : ∀ w, (Instr.makeMap 52 none).run Try.prog w = .ok (.map (some w.heap.size)) (w.alloc (.map #[] 0)) := fun _ => rfl
  have l1 := sized_length 5 b.size (by omega) (by omega)
  have l2 := sized_length 5 t.size (by omega) (by omega)
  go_enter Try.func14, Try.ntmps14
  go_wp2_with fail
  refine (sized_any b.size _ (by omega)).mono ?_
  rintro e w1 ⟨v1, rfl, hown1, hb1⟩
  obtain ⟨g1, cp1, hv1, hg1, hg1s⟩ := hown1.form (sized_pos _)
  subst hv1
  have HO1 := Lib.hid hown1
  have HB1 := Lib.hid hb1
  clear hown1 hb1 hg1 hg1s
  go_wp2_with fail
  refine (sized_any t.size _ (by omega)).mono ?_
  rintro e w2 ⟨v2, rfl, hown2, hb2⟩
  obtain ⟨g2, cp2, hv2, hg2, hg2s⟩ := hown2.form (sized_pos _)
  subst hv2
  have hown12 : ownsB w2 w.heap.size (.slice (some ⟨g1, 0, none⟩) (sized b.size).length cp1) (sized b.size) := HO1.out.below hb2
  have hb02 : Below w.heap.size w w2 := HB1.out.trans (hb2.mono HB1.out.size)
  have hnews := hown2.cellsB (g := g2) rfl
  have hlen : (sized b.size).length + (sized t.size).length ≤ 140737488355328 := by omega
  have hBs : w.heap.size ≤ w2.heap.size := hb02.size
  have HN := Lib.hid hnews
  have HO2 := Lib.hid hown12
  have HB2 := Lib.hid hb02
  clear hnews hown2 hown12 hb02 hb2 HO1 HB1 hg2s hg2
  go_wp2_with (at_builtin; go_loud (refine append_bytes _ rfl (.tmp 20) (.tmp 23) rfl w.heap.size _ (sized b.size) (sized t.size) rfl HO2.out ⟨g2, 0, none⟩ cp2 rfl HN.out hlen hBs ?_); intro v3 w3 hown3 hgr3; obtain ⟨A3, cp3, hv3, _, _⟩ := hown3.shape; obtain ⟨m3, hm3⟩ : ∃ m, m = (sized b.size ++ sized t.size).length := ⟨_, rfl⟩; rw [← hm3] at hv3; subst hv3; have HM3 := Lib.hid hm3; clear hm3; have HB3 := Lib.hid (HO2.out.grown HB2.out hgr3 hBs); have HO3 := Lib.hid hown3; clear hown3 hgr3)
  obtain ⟨O, hO⟩ : ∃ O, O = w3.heap.size := ⟨_, rfl⟩
  have hw4 : sl1 (w3.alloc (.cells #[.slice A3 m3 cp3] 44)) w3.heap.size (.slice A3 m3 cp3) := heap_alloc_same _ _
  have hs4 : (w3.alloc (.cells #[.slice A3 m3 cp3] 44)).heap.size = w3.heap.size + 1 := World.size_alloc _ _
  have hb4 : Below w.heap.size w (w3.alloc (.cells #[.slice A3 m3 cp3] 44)) := HB3.out.alloc HB3.out.size _
  have ho4 := HO3.out.alloc (.cells #[.slice A3 m3 cp3] 44)
  have hBO : w.heap.size ≤ O := by rw [hO]; exact HB3.out.size
  rw [← hO] at hw4 hs4 ⊢
  generalize w3.alloc (.cells #[.slice A3 m3 cp3] 44) = w4 at hw4 hs4 hb4 ho4 ⊢
  have hw5 : sl1 (w4.alloc (.map #[] 0)) O (.slice A3 m3 cp3) := hw4.gb (gb_alloc (gb_refl _ none) _) (by simp)
  have hb5 : Below w.heap.size w (w4.alloc (.map #[] 0)) := hb4.alloc hb4.size _
  have ho5 := ho4.alloc (.map #[] 0)
  have hm5 : places (w4.alloc (.map #[] 0)) (O + 1) b.size := by rw [← hs4]; exact places_made w4 b.size
  have HW5 := Lib.hid hw5
  have HB5 := Lib.hid hb5
  have HO5 := Lib.hid ho5
  have HM5 := Lib.hid hm5
  have HHO := Lib.hid hO
  clear hw4 hs4 hb4 ho4 hw5 hb5 ho5 hm5 hO HB3 HO3 HB2 HO2 HN hlen hBs
  go_wp2_with fail
  obtain ⟨M, hM⟩ : ∃ M, M = O + 1 := ⟨_, rfl⟩
  rw [← hM] at HM5 ⊢
  have hBM : w.heap.size ≤ M := by omega
  clear hM
  generalize w4.alloc (.map #[] 0) = w5 at HW5 HB5 HO5 HM5 ⊢
  go_loopw [7] (fun iv_ wr => ∃ i : Nat, i ≤ b.size ∧ iv_ = .int .i64 (i : Int) ∧ places wr M b.size ∧ sl1 wr O (.slice A3 m3 cp3) ∧ ownsB wr w.heap.size (.slice A3 m3 cp3) (sized b.size ++ sized t.size) ∧ Below w.heap.size w wr) (fun iv_ _ => b.size - (intOf iv_).toNat)
  case atStart => exact ⟨0, by omega, rfl, HM5.out, HW5.out, HO5.out, HB5.out⟩
  case round =>
    obtain ⟨i, hi, rfl, hm, ho, how, hbw⟩ := hrel
    have HM := Lib.hid hm
    have HO := Lib.hid ho
    have HOW := Lib.hid how
    have HBW := Lib.hid hbw
    clear hm ho how hbw
    by_cases hlt : i + 4 ≤ b.size
    · go_wp2_with (first | (refine wp_lookup_places _ rfl (.tmp 34) (.tmp 39) rfl M b.size _ rfl rfl HM.out ?_; intro k ok hk; clear hk) | (refine wp_update_places _ rfl (.tmp 45) (.tmp 50) (.tmp 51) rfl M b.size i _ rfl rfl rfl HM.out (by omega) ?_; intro w6 hm6 hg6; have HM6 := Lib.hid hm6; have HG6 := Lib.hid hg6; clear hm6 hg6))
      all_goals
        refine ⟨⟨i + 1, by omega, by go_num, ?_⟩, by simp [intOf]; omega⟩
        first
          | exact ⟨HM6.out, HO.out.gb HG6.out (by intro e; injection e with e; exact HM.out.ne_sl HO.out e.symm), HOW.out.kept HG6.out (.inr (HM.out.ne_own HOW.out)), below_gb HBW.out HG6.out HBW.out.size hBM⟩
          | exact ⟨HM.out, HO.out, HOW.out, HBW.out⟩
    · have hlt2 : ¬ (i : Int) + 4 ≤ (b.size : Int) := by omega
      go_wp2
      obtain ⟨P, hP⟩ : ∃ P, P = wr.heap.size := ⟨_, rfl⟩
      have hBs := HBW.out.size
      have hg8 : wr.grownBy (wr.alloc (.cells #[.slice none 0 0] 44)) none := gb_alloc (gb_refl _ _) _
      have hst : MkSt (wr.alloc (.cells #[.slice none 0 0] 44)) w.heap.size P O M b.size (.slice none 0 0) (.slice A3 m3 cp3) [] (sized b.size ++ sized t.size ++ []) := by
        rw [List.append_nil, hP]
        exact ⟨heap_alloc_same _ _, HO.out.gb hg8 (by simp), ownsQ_nil _ _, HOW.out.alloc _, .inl rfl, HM.out.alloc _, by have := lt_of_block HO.out; omega, by omega, hBO, by rw [World.size_alloc]; omega⟩
      have hinv : MkInv b t w (wr.alloc (.cells #[.slice none 0 0] 44)) P O M 0 := ⟨⟨_, _, _, _, _, hst, Mk.nil _, by simp, by simp⟩, Nat.zero_le _, HBW.out.alloc hBs _⟩
      have HINV := Lib.hid hinv
      rw [← hP]
      clear hst hinv hg8 hP HM HO HOW HBW
      generalize wr.alloc (.cells #[.slice none 0 0] 44) = w8 at HINV ⊢
      go_loopw [12] (fun iv_ wr => ∃ i : Nat, iv_ = .int .i64 (i : Int) ∧ MkInv b t w wr P O M i) (fun iv_ _ => t.size - (intOf iv_).toNat)
      case atStart => exact ⟨0, rfl, HINV.out⟩
      case round =>
        obtain ⟨i2, rfl, hinv⟩ := hrel
        have HINV2 := Lib.hid hinv
        have hit := hinv.hi
        clear hinv
        by_cases hi2 : i2 < t.size
        · go_upto_if 61 with fail
          go_cut [14, 15] (fun s14 s15 wx => ∃ (k : Nat) (ok : Bool), s14 = .int .i64 (k : Int) ∧ s15 = .bool ok ∧ OkIn ok k b.size ∧ wr = wx)
          case first =>
            have hm : places wr M b.size := by obtain ⟨_, _, _, _, _, h, _⟩ := HINV2.out.ex; exact h.m
            have HM2 := Lib.hid hm
            clear hm
            by_cases h4 : i2 + 4 ≤ t.size
            · go_wp2_with (refine wp_lookup_places _ rfl (.tmp 63) (.tmp 68) rfl M b.size _ rfl rfl HM2.out ?_; intro k ok hk; have HK := Lib.hid hk; clear hk)
              go_meet
              exact ⟨k, ok, rfl, rfl, HK.out, rfl⟩
            · have h4' : ¬ (i2 : Int) + 4 ≤ (t.size : Int) := by omega
              go_wp2
              go_meet
              exact ⟨0, false, rfl, rfl, (fun h => by cases h), rfl⟩
          case rest =>
            obtain ⟨k, ok, rfl, rfl, hk, rfl⟩ := hcut
            have HK := Lib.hid hk
            clear hk
            go_upto_block 4 with fail
            go_cut [13] (fun s13 wx => ∃ n : Nat, s13 = .int .i64 (n : Int) ∧ Same b t k i2 n ∧ MkInv b t w wx P O M i2)
            case first =>
              cases ok with
              | false =>
                go_wp2_with fail
                go_loopw [13] (fun nv wq => nv = .int .i64 0 ∧ MkInv b t w wq P O M i2) (fun nv _ => 1)
                case atStart => exact ⟨rfl, HINV2.out⟩
                case round =>
                  obtain ⟨rfl, hinv3⟩ := hrel
                  have HINV3 := Lib.hid hinv3
                  clear hinv3
                  go_wp2_with fail
                  go_quiet (fail)
                  go_wp2
                  go_meet
                  exact ⟨0, rfl, Same.zero _ _ _ _ hit, HINV3.out.drewN _⟩
              | true =>
                have hkb := HK.out rfl
                clear HK
                go_wp2_with fail
                go_loopw [13] (fun nv wq => ∃ n : Nat, nv = .int .i64 (n : Int) ∧ Same b t k i2 n ∧ MkInv b t w wq P O M i2) (fun nv _ => 70000 - (intOf nv).toNat)
                case atStart => exact ⟨0, rfl, Same.zero _ _ _ _ hit, HINV2.out⟩
                case round =>
                  obtain ⟨n, rfl, hsm, hinv3⟩ := hrel
                  have HINV3 := Lib.hid hinv3
                  clear hinv3
                  have hn0 := hsm.1
                  have hn1 := hsm.2.1
                  have HSM := Lib.hid hsm
                  clear hsm
                  have w1 : IntKind.i64.wrap ((k : Int) + (n : Int)) = (k : Int) + (n : Int) := IntWalk.i64_in _ (by omega)
                  have w2 : IntKind.i64.wrap ((i2 : Int) + (n : Int)) = (i2 : Int) + (n : Int) := IntWalk.i64_in _ (by omega)
                  have t1 : ((k : Int) + (n : Int)).toNat = k + n := by omega
                  have t2 : ((i2 : Int) + (n : Int)).toNat = i2 + n := by omega
                  have z1 : (0 : Int) ≤ (k : Int) + (n : Int) := by omega
                  have z2 : (0 : Int) ≤ (i2 : Int) + (n : Int) := by omega
                  by_cases c2 : n < 65536
                  · have d2 : decide ((n : Int) < 65536) = true := by simp; omega
                    by_cases c3 : k + n < b.size
                    · have d3 : decide ((k : Int) + (n : Int) < (b.size : Int)) = true := by simp; omega
                      have e3 : (k : Int) + (n : Int) < (b.size : Int) := by omega
                      by_cases c4 : i2 + n < t.size
                      · have d4 : decide ((i2 : Int) + (n : Int) < (t.size : Int)) = true := by simp; omega
                        have e4 : (i2 : Int) + (n : Int) < (t.size : Int) := by omega
                        by_cases c5 : b[k + n] = t[i2 + n]
                        · have d5 : ((b[k + n].toNat : Int) == (t[i2 + n].toNat : Int)) = true := by rw [c5]; simp
                          have HSM2 := Lib.hid (HSM.out.succ c2 c3 c4 c5)
                          clear c5
                          go_wp2_with fail
                          go_quiet (fail)
                          clear w1 w2 d2 d3 d4
                          go_wp2
                          exact ⟨⟨n + 1, by go_num, HSM2.out, HINV3.out.drewN _⟩, by simp [intOf]; omega⟩
                        · have d5 : ((b[k + n].toNat : Int) == (t[i2 + n].toNat : Int)) = false := by
                            rw [beq_eq_false_iff_ne]
                            intro e
                            exact c5 (UInt8.toNat_inj.1 (by omega))
                          clear c5
                          go_wp2_with fail
                          go_quiet (fail)
                          go_wp2
                          go_meet
                          exact ⟨n, rfl, HSM.out, HINV3.out.drewN _⟩
                      · have d4 : decide ((i2 : Int) + (n : Int) < (t.size : Int)) = false := by simp; omega
                        go_wp2_with fail
                        go_quiet (fail)
                        go_wp2
                        go_meet
                        exact ⟨n, rfl, HSM.out, HINV3.out.drewN _⟩
                    · have d3 : decide ((k : Int) + (n : Int) < (b.size : Int)) = false := by simp; omega
                      go_wp2_with fail
                      go_quiet (fail)
                      go_wp2
                      go_meet
                      exact ⟨n, rfl, HSM.out, HINV3.out.drewN _⟩
                  · have d2 : decide ((n : Int) < 65536) = false := by simp; omega
                    go_wp2_with fail
                    go_quiet (fail)
                    go_wp2
                    go_meet
                    exact ⟨n, rfl, HSM.out, HINV3.out.drewN _⟩
            case rest =>
              obtain ⟨n, rfl, hsm, hinv3⟩ := hcut
              have HINV3 := Lib.hid hinv3
              clear hinv3 HINV2
              have hn0 := hsm.1
              have hn1 := hsm.2.1
              have hn2 := hsm.2.2.1
              have HSM := Lib.hid hsm.2.2.2
              clear hsm HK
              obtain ⟨pv, ov, pl, ops, x, hst, hmk, hx, hl⟩ := HINV3.out.ex
              obtain ⟨A5, cp5, hv5, hc51, hc52⟩ := hst.q.shape
              subst hv5
              have HST := Lib.hid hst
              have HMK := Lib.hid hmk
              have HX := Lib.hid hx
              clear hmk hx
              by_cases h4 : n < 4
              · obtain ⟨kp, fp⟩ := hst.cp.cell
                obtain ⟨C, hC⟩ : ∃ C, t[i2] = C := ⟨_, rfl⟩
                have hnc1 := new_cells wc [C] 5
                have hmc : ([C].map bv).toArray = #[.int .u8 (C.toNat : Int)] := rfl
                rw [hmc] at hnc1
                have HNC := Lib.hid hnc1
                have hg1 : wc.grownBy (wc.alloc (.cells #[.int .u8 (C.toNat : Int)] 5)) none := gb_alloc (gb_refl _ _) _
                obtain ⟨d1, d2⟩ := (hst.cp.gb hg1 (by simp)).cell
                have hq1 : ownsQ ((wc.alloc (.cells #[.int .u8 (C.toNat : Int)] 5)).drew) w.heap.size (.slice A5 pl.length cp5) pl := hst.q.kept (row := none) (gb_drew hg1) (by cases (Value.slice A5 pl.length cp5).ownBlock <;> simp)
                have HQ1 := Lib.hid hq1
                have hlen1 : pl.length + [C].length ≤ 140737488355328 := by simp; omega
                have hB1 : w.heap.size ≤ ((wc.alloc (.cells #[.int .u8 (C.toNat : Int)] 5)).drew).heap.size := by have := HST.out.hB; show w.heap.size ≤ (wc.alloc (.cells #[.int .u8 (C.toNat : Int)] 5)).heap.size; rw [World.size_alloc]; omega
                clear hst hn2 hnc1 hmc hg1 hq1
                have hi2' : (i2 : Int) < (t.size : Int) := by omega
                go_wp2_with fail
                go_region_law (first
                  | (refine step_append_q (by rfl) (.tmp 110) (.tmp 114) (by rfl) w.heap.size _ pl [C] (by rfl) HQ1.out ⟨wc.heap.size, 0, none⟩ 1 1 (by rfl) (by omega) (by rfl) HNC.out hlen1 hB1 ?_
                     intro v6 w6 hown6 hg6 hl6
                     have G6 : wc.grownBy w6 (Value.slice A5 pl.length cp5).ownBlock := gb_trans (gb_drew (gb_alloc (gb_refl _ _) _)) hg6
                     obtain ⟨A6, cp6, hv6, _, _⟩ := hown6.shape
                     obtain ⟨m6, hm6⟩ : ∃ m, m = (pl ++ [C]).length := ⟨_, rfl⟩
                     rw [← hm6] at hv6
                     subst hv6
                     have HM6 := Lib.hid hm6
                     clear hm6
                     obtain ⟨r1, r2⟩ := (HST.out.cp.gb G6 HST.out.P_ne_q).cell))
                all_goals
                  have st := HST.out.put_q G6 hown6 (loc_w hl6)
                  have HSTN := Lib.hid st
                  clear st r1 r2 d1 d2 kp fp
                  go_wp2
                  have hx2 : x ++ (pl ++ [C]) = t.data.toList.take (i2 + 1) := by rw [← List.append_assoc, HX.out, take_next t i2 hi2, hC]
                  have hl2 : ops.length + 2 * (pl ++ [C]).length ≤ 2 * (i2 + 1) := by rw [List.length_append]; simp; omega
                  exact ⟨⟨i2 + 1, by go_num, ⟨⟨_, _, _, _, _, HSTN.out, HMK.out, hx2, hl2⟩, hi2, (HINV3.out.hb.grown G6 HST.out.hB (fun k hk => (HST.out.q.lt k hk).1)).setCell HST.out.hP _⟩⟩, by simp [intOf]; omega⟩
              · have h4' : ¬ (n : Int) < 4 := by omega
                clear hst
                go_wp2_with fail
                refine (flush_any P O M b.size w.heap.size _ _ pl (sized b.size ++ sized t.size ++ ops) _ HST.out (by omega) (by rw [List.length_append, List.length_append]; omega)).mono ?_
                rintro e w7 ⟨rfl, ⟨pv7, ov7, hst7⟩, hb7⟩
                have HST7 := Lib.hid hst7
                have hb07 := HINV3.out.hb.trans hb7
                have HB7 := Lib.hid hb07
                obtain ⟨kO, fO⟩ := hst7.co.cell
                have hBs7 := hb07.size
                have hc7 := chunks_length pl.length pl (Nat.le_refl _)
                have hlen7 : (sized b.size ++ sized t.size ++ ops ++ chunks pl).length + (copyL k n 7).length ≤ 140737488355328 := by
                  have := copyL_le k n 7
                  rw [List.length_append, List.length_append, List.length_append, hc7]; omega
                clear hst7 hb7 hb07 hc7
                go_wp2_with fail
                have hcl8 := copyL_le k n 7
                have hn30 := hn2 (by omega)
                go_region_law (first
                  | (go_simp
                     go_at_call 23
                     refine (copyOf_any k n _ (by omega) (by omega)).mono ?_
                     rintro e w9 ⟨v9, rfl, hown9, hb9⟩
                     have hg9 : w7.grownBy w9 none := gb_trans (gb_drew (gb_refl _ _)) (gb_of_below hb9 none)
                     obtain ⟨g9, cp9, hv9, _, _⟩ := hown9.form (copyL_len k n 7)
                     subst hv9
                     have HN9 := Lib.hid (hown9.cellsB (g := g9) rfl)
                     have HST9 := Lib.hid (HST7.out.gb hg9)
                     have hB9 : w.heap.size ≤ w9.heap.size := Nat.le_trans hBs7 hg9.size
                     have HG9 := Lib.hid hg9
                     clear hb9 hown9 hg9
                     obtain ⟨r1, r2⟩ := HST9.out.co.cell)
                  | (refine step_append_at (by rfl) (.tmp 120) (.tmp 123) (by rfl) w.heap.size _ _ (copyL k n 7) (by rfl) HST9.out.o ⟨g9, 0, none⟩ _ cp9 rfl (by rfl) HN9.out hlen7 hB9 ?_
                     intro v6 w6 hown6 hg6 hl6
                     obtain ⟨A6, cp6, hv6, _, _⟩ := hown6.shape
                     obtain ⟨m6, hm6⟩ : ∃ m, m = ((sized b.size ++ sized t.size ++ ops ++ chunks pl) ++ copyL k n 7).length := ⟨_, rfl⟩
                     rw [← hm6] at hv6
                     subst hv6
                     have HM6 := Lib.hid hm6
                     clear hm6
                     have HG6 := Lib.hid hg6
                     have HL6 := Lib.hid hl6
                     have HO6 := Lib.hid hown6
                     obtain ⟨q1, q2⟩ := (HST9.out.co.gb hg6 HST9.out.O_ne_o).cell
                     clear hg6 hl6 hown6))
                all_goals
                  have st := HST9.out.put_o HG6.out HO6.out HL6.out
                  have hb6 : Below w.heap.size w (w6.setCell ⟨O, 0, none⟩ (.slice A6 m6 cp6)) := (((HB7.out.grown HG9.out hBs7 (by simp)).grown HG6.out hB9 (fun k hk => (HST9.out.o.lt k hk).1))).setCell HST9.out.hO _
                  have HSTN := Lib.hid st
                  have HBN := Lib.hid hb6
                  clear st hb6 q1 q2 r1 r2 kO fO
                  go_wp2
                  have hc := chunks_length pl.length pl (Nat.le_refl _)
                  have hmk2 := (HMK.out.append (chunks_mk b.data.toList pl.length pl (Nat.le_refl _))).append (copy_mk b.data.toList k n (by omega) (by omega) (by rw [Array.length_toList]; exact hn30) (by rw [Array.length_toList]; show b.size < 4294967296; omega))
                  have hx2 : (x ++ pl ++ (b.data.toList.drop k).take n) ++ [] = t.data.toList.take (i2 + n) := by rw [List.append_nil, HX.out, HSM.out, List.take_add]
                  have hst8 := HSTN.out
                  rw [List.append_assoc (sized b.size ++ sized t.size), List.append_assoc (sized b.size ++ sized t.size)] at hst8
                  have hl2 : (ops ++ chunks pl ++ copyL k n 7).length + 2 * ([] : List UInt8).length ≤ 2 * (i2 + n) := by rw [List.length_append, List.length_append, hc]; simp only [List.length_nil]; omega
                  exact ⟨⟨i2 + n, by go_num, ⟨⟨_, _, _, _, _, hst8, hmk2, hx2, hl2⟩, hn1, HBN.out⟩⟩, by simp [intOf]; omega⟩
        · have h2 : ¬ (i2 : Int) < (t.size : Int) := by omega
          have hi2e : i2 = t.size := by omega
          obtain ⟨pv, ov, pl, ops, x, hst, hmk, hx, hl⟩ := HINV2.out.ex
          have HST := Lib.hid hst
          have hxt : x ++ pl = t.data.toList := by rw [hx, hi2e]; exact List.take_of_length_le (by rw [Array.length_toList]; exact Nat.le_refl _)
          have hmk2 := hmk.append (chunks_mk b.data.toList pl.length pl (Nat.le_refl _))
          rw [hxt] at hmk2
          have HMK := Lib.hid hmk2
          clear hst hmk hx hxt hmk2 hi2e
          go_wp2_with fail
          refine (flush_any P O M b.size w.heap.size _ _ pl (sized b.size ++ sized t.size ++ ops) _ HST.out (by omega) (by rw [List.length_append, List.length_append]; omega)).mono ?_
          rintro e w7 ⟨rfl, ⟨pv7, ov7, hst7⟩, hb7⟩
          rw [List.append_assoc (sized b.size ++ sized t.size)] at hst7
          obtain ⟨ops7, ho7⟩ : ∃ o, o = ops ++ chunks pl := ⟨_, rfl⟩
          rw [← ho7] at hst7
          have hmk7 := HMK.out
          rw [← ho7] at hmk7
          have HMK7 := Lib.hid hmk7
          obtain ⟨A7, cp7, hv7, hc71, hc72⟩ := hst7.o.shape
          obtain ⟨m7, hm7⟩ : ∃ m, m = (sized b.size ++ sized t.size ++ ops7).length := ⟨_, rfl⟩
          rw [← hm7] at hv7 hc71
          subst hv7
          have HM7 := Lib.hid hm7
          have HST7 := Lib.hid hst7
          have HB7 := Lib.hid (HINV2.out.hb.trans hb7)
          obtain ⟨kO, fO⟩ := hst7.co.cell
          clear hst7 hb7 ho7 hmk7 hm7 HST HMK HINV2
          go_wp2_with fail
          refine (sized_any b.size _ (by omega)).mono ?_
          rintro e w9 ⟨v9, rfl, hown9, hb9⟩
          obtain ⟨g9, cp9, hv9, _, _⟩ := hown9.form (sized_pos _)
          subst hv9
          have HO9 := Lib.hid hown9
          have HB9 := Lib.hid hb9
          clear hown9 hb9
          go_wp2_with fail
          refine (sized_any t.size _ (by omega)).mono ?_
          rintro e w10 ⟨v10, rfl, hown10, hb10⟩
          obtain ⟨g10, cp10, hv10, _, _⟩ := hown10.form (sized_pos _)
          subst hv10
          have HN10 := Lib.hid (hown10.cellsB (g := g10) rfl)
          have HO10 := Lib.hid (HO9.out.below hb10)
          have HB10 := Lib.hid (HB9.out.trans (hb10.mono HB9.out.size))
          have hlen10 : (sized b.size).length + (sized t.size).length ≤ 140737488355328 := by omega
          have hBs10 := HB10.out.size
          clear hown10 hb10 HO9 HB9
          go_wp2_with (at_builtin; go_loud (refine append_bytes _ rfl (.tmp 132) (.tmp 135) rfl w7.heap.size _ (sized b.size) (sized t.size) rfl HO10.out ⟨g10, 0, none⟩ cp10 rfl HN10.out hlen10 hBs10 ?_); intro v11 w11 hown11 hgr11; obtain ⟨A11, cp11, hv11, _, _⟩ := hown11.shape; obtain ⟨m11, hm11⟩ : ∃ m, m = (sized b.size ++ sized t.size).length := ⟨_, rfl⟩; rw [← hm11] at hv11; subst hv11; have HM11 := Lib.hid hm11; clear hm11; have HB11 := Lib.hid (HO10.out.grown HB10.out hgr11 hBs10); have HO11 := Lib.hid hown11; clear hown11 hgr11)
          go_loopw [1, 16] (fun tv sv wr => ∃ (u : ByteArray) (S : List UInt8) (A : Option Addr) (m c : Nat), tv = .string u ∧ sv = .slice A m c ∧ m = S.length ∧ ownsB wr w7.heap.size sv S ∧ S ++ chunks u.data.toList = sized b.size ++ sized t.size ++ chunks t.data.toList ∧ S.length + 2 * u.size ≤ 10 + 2 * t.size ∧ Below w7.heap.size w7 wr) (fun tv _ _ => match tv with | .string u => u.size | _ => 0)
          case atStart => exact ⟨t, _, A11, m11, cp11, rfl, rfl, HM11.out, HO11.out, rfl, by rw [List.length_append]; omega, HB11.out⟩
          case round =>
            obtain ⟨u, S, A12, m12, c12, rfl, rfl, hm12, how, hS, hlS, hbw⟩ := hrel
            have HM12 := Lib.hid hm12
            have HOW := Lib.hid how
            have HS := Lib.hid hS
            have HBW := Lib.hid hbw
            have hst8 := HST7.out.gb (gb_of_below hbw none)
            have HST8 := Lib.hid hst8
            obtain ⟨x1, x2⟩ := hst8.co.cell
            have hc12 := how.shape
            clear hm12 hS hbw hst8
            by_cases hu : u.size = 0
            · have hul : u.data.toList = [] := List.eq_nil_of_length_eq_zero (by rw [Array.length_toList]; exact hu)
              have hS2 := HS.out
              rw [hul, chunks_nil, List.append_nil] at hS2
              have HS2 := Lib.hid hS2
              have hc1 := run_own_string wr _ _ _ how
              have hc2 := run_own_string wr _ _ _ HST8.out.o
              have hct := chunks_length t.size t.data.toList (by rw [Array.length_toList]; exact Nat.le_refl _)
              have htl : t.data.toList.length = t.size := by rw [Array.length_toList]; rfl
              rw [htl] at hct
              have hbe : Below w.heap.size w wr := HB7.out.trans (HBW.out.mono HB7.out.size)
              have HBE := Lib.hid hbe
              have HCT := Lib.hid hct
              clear hS2 hul htl how hct hbe hc12
              by_cases hcmp : m12 < m7
              · go_wp2
                go_ret
                refine ⟨chunks t.data.toList, ?_, chunks_mk _ t.size _ (by rw [Array.length_toList]; exact Nat.le_refl _), Nat.le_of_eq HCT.out, HBE.out⟩
                rw [← HS2.out]
                rfl
              · go_wp2
                go_ret
                refine ⟨ops7, by rw [List.append_assoc]; rfl, HMK7.out, ?_, HBE.out⟩
                have h1 := HM7.out
                have h2 := HM12.out
                have h3 := HCT.out
                rw [HS2.out, List.length_append] at h2
                rw [List.length_append] at h1
                omega
            · clear how hc12
              by_cases hle : u.size ≤ 127
              · have hnl : u.size ≤ u.size ∧ u.size ≤ 127 ∧ 0 < u.size := by omega
                have hpos : (0 : Int) < (u.size : Int) := by omega
                have hnI : (0 : Int) ≤ (u.size : Int) := by omega
                have hnI2 : (u.size : Int) ≤ (u.size : Int) := by omega
                obtain ⟨C, hC⟩ : ∃ C : UInt8, C = UInt8.ofNat (u.size) := ⟨_, rfl⟩
                have hcv : (C.toNat : Int) = (u.size : Int) := by rw [hC, UInt8.toNat_ofNat']; omega
                have hnc1 := new_cells wr [C] 5
                have hmc : ([C].map bv).toArray = #[.int .u8 (u.size : Int)] := by show #[Value.int .u8 (C.toNat : Int)] = _; rw [hcv]
                rw [hmc] at hnc1
                have HNC := Lib.hid hnc1
                have hwr : IntKind.u8.wrap (u.size : Int) = (u.size : Int) := by
                  simp [IntKind.wrap, IntKind.bits, IntKind.signed]
                  omega
                have hlen1 : S.length + [C].length ≤ 140737488355328 := by simp; omega
                have hpz : (u).size = u.size := rfl
                have hlen2 : (S ++ [C]).length + (u).size ≤ 140737488355328 := by rw [hpz, List.length_append]; simp; omega
                have hB1 : w7.heap.size ≤ ((wr.alloc (.cells #[.int .u8 (u.size : Int)] 5)).drew).heap.size := by have := HBW.out.size; show w7.heap.size ≤ (wr.alloc (.cells #[.int .u8 (u.size : Int)] 5)).heap.size; rw [World.size_alloc]; omega
                have HCC := Lib.hid hC
                clear hnc1 hmc hC hcv hpz
                go_wp2_with fail
                go_region_law (first
                  | (refine step_append_at (by rfl) (.tmp 143) (.tmp 146) (by rfl) w7.heap.size _ S [C] (by rfl) ((HOW.out.alloc _).drew) ⟨wr.heap.size, 0, none⟩ 1 1 (by rfl) (by rfl) HNC.out hlen1 hB1 ?_
                     intro v14 w14 hown14 hg14 hl14
                     have HO14 := Lib.hid hown14
                     have hb14 : Below w7.heap.size w7 w14 := (HBW.out.alloc HBW.out.size _).grown (w := (wr.alloc (.cells #[.int .u8 (u.size : Int)] 5))) (w' := w14) ⟨hg14.os, hg14.tape, hg14.output, hg14.size, hg14.block⟩ hB1 (fun k hk => (HOW.out.lt k hk).1)
                     have HB14 := Lib.hid hb14
                     clear hown14 hg14 hl14 hb14)
                  | (refine step_append_text (by rfl) (.tmp 147) (.tmp 150) (by rfl) w7.heap.size _ (S ++ [C]) (by rfl) HO14.out _ (by rfl) hlen2 HB14.out.size ?_
                     intro v15 w15 hown15 hg15
                     obtain ⟨A15, cp15, hv15, _, _⟩ := hown15.shape
                     obtain ⟨m15, hm15⟩ : ∃ m, m = ((S ++ [C]) ++ (u).data.toList).length := ⟨_, rfl⟩
                     have hv16 : v15 = .slice A15 m15 cp15 := by rw [hm15]; exact hv15
                     clear hv15
                     subst hv16
                     have HM15 := Lib.hid hm15
                     have HO15 := Lib.hid hown15
                     have HB15 := Lib.hid (HB14.out.grown hg15 HB14.out.size (fun k hk => (HO14.out.lt k hk).1))
                     clear hown15 hg15 hm15))
                all_goals
                  go_wp2
                  have e1 : (u).data.toList = u.data.toList.take (u.size) := (List.take_of_length_le (by rw [Array.length_toList]; exact Nat.le_refl _)).symm
                  have e2 : (ByteArray.empty).data.toList = u.data.toList.drop (u.size) := (List.drop_eq_nil_of_le (by rw [Array.length_toList]; exact Nat.le_refl _)).symm
                  have e3 : u.data.toList.length = u.size := by rw [Array.length_toList]; rfl
                  have hch := chunks_step u.data.toList (by rw [e3]; omega)
                  rw [e3, show min u.size 127 = u.size by omega, ← HCC.out] at hch
                  have hS2 := HS.out
                  rw [hch] at hS2
                  have ho2 := HO15.out
                  rw [e1] at ho2
                  have hm2 := HM15.out
                  rw [e1] at hm2
                  have e4 : (ByteArray.empty).size = u.size - u.size := by rw [Nat.sub_self]; rfl
                  refine ⟨⟨ByteArray.empty, S ++ [C] ++ u.data.toList.take (u.size), A15, m15, cp15, rfl, rfl, hm2, ho2, ?_, ?_, HB15.out⟩, ?_⟩
                  · rw [e2, ← hS2]; simp
                  · rw [List.length_append, List.length_append, List.length_take, e3, e4]; simp; omega
                  · simp only [e4]; omega
              · have hnl : 127 ≤ u.size ∧ 127 ≤ 127 ∧ 0 < 127 := by omega
                have hpos : (0 : Int) < (u.size : Int) := by omega
                have hnI : (0 : Int) ≤ 127 := by omega
                have hnI2 : 127 ≤ (u.size : Int) := by omega
                obtain ⟨C, hC⟩ : ∃ C : UInt8, C = UInt8.ofNat (127) := ⟨_, rfl⟩
                have hcv : (C.toNat : Int) = 127 := by rw [hC, UInt8.toNat_ofNat']; omega
                have hnc1 := new_cells wr [C] 5
                have hmc : ([C].map bv).toArray = #[.int .u8 127] := by show #[Value.int .u8 (C.toNat : Int)] = _; rw [hcv]
                rw [hmc] at hnc1
                have HNC := Lib.hid hnc1
                have hwr : IntKind.u8.wrap 127 = 127 := by
                  simp [IntKind.wrap, IntKind.bits, IntKind.signed]
                have hlen1 : S.length + [C].length ≤ 140737488355328 := by simp; omega
                have hpz : (u.extract 0 127).size = 127 := by rw [ByteArray.size_extract]; omega
                have hlen2 : (S ++ [C]).length + (u.extract 0 127).size ≤ 140737488355328 := by rw [hpz, List.length_append]; simp; omega
                have hB1 : w7.heap.size ≤ ((wr.alloc (.cells #[.int .u8 127] 5)).drew).heap.size := by have := HBW.out.size; show w7.heap.size ≤ (wr.alloc (.cells #[.int .u8 127] 5)).heap.size; rw [World.size_alloc]; omega
                have HCC := Lib.hid hC
                clear hnc1 hmc hC hcv hpz
                go_wp2_with fail
                go_region_law (first
                  | (refine step_append_at (by rfl) (.tmp 143) (.tmp 146) (by rfl) w7.heap.size _ S [C] (by rfl) ((HOW.out.alloc _).drew) ⟨wr.heap.size, 0, none⟩ 1 1 (by rfl) (by rfl) HNC.out hlen1 hB1 ?_
                     intro v14 w14 hown14 hg14 hl14
                     have HO14 := Lib.hid hown14
                     have hb14 : Below w7.heap.size w7 w14 := (HBW.out.alloc HBW.out.size _).grown (w := (wr.alloc (.cells #[.int .u8 127] 5))) (w' := w14) ⟨hg14.os, hg14.tape, hg14.output, hg14.size, hg14.block⟩ hB1 (fun k hk => (HOW.out.lt k hk).1)
                     have HB14 := Lib.hid hb14
                     clear hown14 hg14 hl14 hb14)
                  | (refine step_append_text (by rfl) (.tmp 147) (.tmp 150) (by rfl) w7.heap.size _ (S ++ [C]) (by rfl) HO14.out _ (by rfl) hlen2 HB14.out.size ?_
                     intro v15 w15 hown15 hg15
                     obtain ⟨A15, cp15, hv15, _, _⟩ := hown15.shape
                     obtain ⟨m15, hm15⟩ : ∃ m, m = ((S ++ [C]) ++ (u.extract 0 127).data.toList).length := ⟨_, rfl⟩
                     have hv16 : v15 = .slice A15 m15 cp15 := by rw [hm15]; exact hv15
                     clear hv15
                     subst hv16
                     have HM15 := Lib.hid hm15
                     have HO15 := Lib.hid hown15
                     have HB15 := Lib.hid (HB14.out.grown hg15 HB14.out.size (fun k hk => (HO14.out.lt k hk).1))
                     clear hown15 hg15 hm15))
                all_goals
                  go_wp2
                  have e1 : (u.extract 0 127).data.toList = u.data.toList.take (127) := by rw [ext_list2, List.drop_zero, Nat.sub_zero]
                  have e2 : (u.extract 127 u.size).data.toList = u.data.toList.drop (127) := by rw [ext_list2]; exact List.take_of_length_le (by rw [List.length_drop, Array.length_toList]; exact Nat.le_refl _)
                  have e3 : u.data.toList.length = u.size := by rw [Array.length_toList]; rfl
                  have hch := chunks_step u.data.toList (by rw [e3]; omega)
                  rw [e3, show min u.size 127 = 127 by omega, ← HCC.out] at hch
                  have hS2 := HS.out
                  rw [hch] at hS2
                  have ho2 := HO15.out
                  rw [e1] at ho2
                  have hm2 := HM15.out
                  rw [e1] at hm2
                  have e4 : (u.extract 127 u.size).size = u.size - 127 := by rw [ByteArray.size_extract]; omega
                  refine ⟨⟨u.extract 127 u.size, S ++ [C] ++ u.data.toList.take (127), A15, m15, cp15, rfl, rfl, hm2, ho2, ?_, ?_, HB15.out⟩, ?_⟩
                  · rw [e2, ← hS2]; simp
                  · rw [List.length_append, List.length_append, List.length_take, e3, e4]; simp; omega
                  · simp only [e4]; omega
end Go.Proofs.Ytilfdeboeohnbaa
