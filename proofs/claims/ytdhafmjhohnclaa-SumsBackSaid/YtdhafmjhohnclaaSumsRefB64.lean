/- THE WALK of the reference's base 64. -/
import Derived.Test.YtdhafmjhohnclaaSumsB64Math
import Derived.Test.YtdhafmjhohnclaaSumsB64
import Derived.LoopTactic
namespace Go.Proofs.Ytdhafmjhohnclaa
open Go.RowKit Sums
set_option linter.unusedVariables false

def lenSl : Value → Nat | .slice _ n _ => n | _ => 0
/-- An owned slice of bytes as the walk wants to see it. -/
theorem ownsB.form {w : World} {B : Nat} {v : Value} {l : List UInt8} (h : ownsB w B v l) : ∃ A cap, v = .slice A l.length cap ∧ l.length ≤ cap ∧ cap ≤ maxLen ∧ (∀ j u, l[j]? = some u → ∃ g, A = some ⟨g, 0, none⟩ ∧ w.cell? ⟨g, j, none⟩ = some (bv u)) := by
  rcases h.2 with ⟨rfl, hl⟩ | ⟨g, cap, cur, rfl, hB, hh, hn, hm, hc, htake⟩
  · have : l = [] := List.length_eq_zero_iff.1 hl
    subst this
    exact ⟨none, 0, rfl, Nat.le_refl _, Nat.zero_le _, fun j u hu => by simp at hu⟩
  · refine ⟨some ⟨g, 0, none⟩, cap, rfl, hn, hm, fun j u hu => ⟨g, rfl, ?_⟩⟩
    have h2 := World.ownsRow.cells h (g := g) rfl j (bv u) (by simp [hu])
    have hadd : (⟨g, 0, none⟩ : Addr).add j = ⟨g, j, none⟩ := by unfold Addr.add; split <;> simp_all
    rwa [hadd] at h2

theorem bit_w (b : UInt8) (k : Nat) : bits .and .u8 ((b.toNat : Int) / 2 ^ k) 1 = ((bit b k).toNat : Int) := by
  have hb := b.toNat_lt
  have hd : b.toNat / 2 ^ k ≤ b.toNat := Nat.div_le_self _ _
  have e1 : ((b.toNat : Int) / 2 ^ k) = ((b.toNat / 2 ^ k : Nat) : Int) := by simp
  rw [e1, bit_toNat]
  generalize b.toNat / 2 ^ k = d at hd
  have := u8_and_nat d 1 (by omega) (by omega)
  rw [Nat.and_one_is_mod] at this
  exact this

theorem padN_cases (c : Nat) (h1 : 1 ≤ c) (h3 : c ≤ 3) : (c = 1 ∧ padN c = 4) ∨ (c = 2 ∧ padN c = 2) ∨ (c = 3 ∧ padN c = 0) := by
  match c, h1, h3 with
  | 1, _, _ => exact .inl ⟨rfl, rfl⟩
  | 2, _, _ => exact .inr (.inl ⟨rfl, rfl⟩)
  | 3, _, _ => exact .inr (.inr ⟨rfl, rfl⟩)

theorem letter_slice (n : Nat) (h : n < 64) : b64Letters.extract n (n + 1) = ⟨#[letter n]⟩ := by
  have : ∀ n : Fin 64, b64Letters.extract n.val (n.val + 1) = ⟨#[letter n.val]⟩ := by decide +kernel
  exact this ⟨n, h⟩

set_option maxRecDepth 100000 in
set_option maxHeartbeats 8000000 in
theorem refB64_any (s : ByteArray) (w : World) (hs : (s.size : Int) ≤ 1000000) :
    Calls Try.prog 24 #[.string s] w fun e w' => e = .returned (.string ⟨(b64 s.data.toList).toArray⟩) ∧ Below w.heap.size w w' := by
  go_enter Try.func24, Try.ntmps24
  go_wp2
  go_loopw [3, 4] (fun v i wr => ∃ (m : Nat) (acc : ByteArray), i = .int .i64 m ∧ (m : Int) ≤ s.size + 2 ∧ v = .string acc ∧ (acc.size : Int) ≤ 4 * m ∧ acc.data.toList ++ b64 (s.data.toList.drop m) = b64 s.data.toList ∧ Below w.heap.size w wr) (fun _ i _ => s.size - (intOf i).toNat)
  case atStart => exact ⟨0, ⟨#[]⟩, rfl, by omega, rfl, by decide, by simp, Below.refl _ _⟩
  case round =>
    obtain ⟨m, acc, rfl, hm, rfl, hacc, hr, hb⟩ := hrel
    obtain ⟨wo, rfl⟩ : ∃ wo : World, wo = wr := ⟨_, rfl⟩
    have HR := Lib.hid hr
    have hB := hb.size
    clear hr
    by_cases hlt : m < s.size
    · obtain ⟨g, hg⟩ : ∃ g, g = (s.data.toList.drop m).take 3 := ⟨_, rfl⟩
      obtain ⟨c, hc⟩ : ∃ c, c = g.length := ⟨_, rfl⟩
      have hcl : c = min 3 (s.size - m) := by rw [hc, hg, List.length_take, List.length_drop, Array.length_toList]; rfl
      have hget : ∀ q (hq : q < c), g[q]'(by rw [← hc]; exact hq) = s[m + q]'(by omega) := by
        intro q hq
        subst hg
        rw [List.getElem_take, List.getElem_drop]
        rfl
      have hgt : ∀ J (h1 : m ≤ J) (h2 : J < m + c) (h3 : J < s.size), g.take (J + 1 - m) = g.take (J - m) ++ [s[J]] := by
        intro J h1 h2 h3
        obtain ⟨q, rfl⟩ : ∃ q, J = m + q := ⟨J - m, by omega⟩
        rw [show m + q + 1 - m = q + 1 by omega, show m + q - m = q by omega, List.take_succ_eq_append_getElem (by rw [← hc]; omega), hget q (by omega)]
      have c1 : 1 ≤ c := by omega
      have c3 : c ≤ 3 := by omega
      have cs : m + c ≤ s.size := by omega
      have c4 : c < 3 → m + c = s.size := by omega
      have HG := Lib.hid hg
      have HC := Lib.hid hc
      have HGT := Lib.hid hgt
      have HCL := Lib.hid c4
      clear hg hgt hget hcl hc c4
      go_wp2
      go_loopw [5, 6] (fun v i wr => ∃ J : Nat, m ≤ J ∧ J ≤ m + c ∧ i = .int .i64 J ∧ ownsB wr w.heap.size v (gbits (g.take (J - m))) ∧ Below w.heap.size w wr) (fun _ i _ => 3 + m - (intOf i).toNat)
      case atStart => exact ⟨m, Nat.le_refl _, by omega, rfl, by rw [Nat.sub_self]; exact ownsB_made wo hB, hb.alloc hB _⟩
      case round =>
        obtain ⟨J, hJ1, hJ2, rfl, hown, hbJ⟩ := hrel
        have hgl := gbits_length (g.take (J - m))
        have hgl2 : (g.take (J - m)).length ≤ 3 := Nat.le_trans (List.length_take_le _ _) (by omega)
        have hBJ := hbJ.size
        by_cases hJ : J < m + c
        · have hJs : J < s.size := by omega
          have i1 : (J : Int) < (m : Int) + 3 := by omega
          obtain ⟨G, hG⟩ : ∃ G, G = gbits (g.take (J - m)) := ⟨_, rfl⟩
          rw [← hG] at hown hgl
          have HGG := Lib.hid hG
          have HHL := Lib.hid hgl
          obtain ⟨wj, rfl⟩ : ∃ wj : World, wj = wr := ⟨_, rfl⟩
          have hGl : G.length ≤ 24 := by omega
          clear hG hgl
          go_wp2
          go_loopw [5, 7] (fun v i wr => ∃ t : Nat, t ≤ 8 ∧ i = .int .i64 (7 - (t : Int)) ∧ ownsB wr w.heap.size v (G ++ (bitsOf s[J]).take t) ∧ Below w.heap.size w wr) (fun _ i _ => (intOf i + 1).toNat)
          case atStart => exact ⟨0, by omega, rfl, by rw [List.take_zero, List.append_nil]; exact hown, hbJ⟩
          case round =>
            obtain ⟨t, ht, rfl, hown3, hb3⟩ := hrel
            have hB3 := hb3.size
            have hl3 : (G ++ (bitsOf s[J]).take t).length + 1 ≤ 140737488355328 := by
              have := List.length_take_le t (bitsOf s[J])
              rw [List.length_append]; omega
            by_cases ht8 : t < 8
            · have hbw := bit_w s[J] (7 - t)
              have hsn := bitsOf_take s[J] t ht8
              obtain ⟨D, hD⟩ : ∃ D, D = bit s[J] (7 - t) := ⟨_, rfl⟩
              rw [← hD] at hbw hsn
              have HSN := Lib.hid hsn
              clear hD hsn
              go_wp2_with (at_builtin; refine append_bytes _ rfl (.tmp 36) (.tmp 43) rfl w.heap.size _ _ [D] rfl (hown3.alloc _) ⟨wr.heap.size, 0, none⟩ 1 rfl (new_cells wr _ _) hl3 (by simp; omega) ?_; intro v' w' hown' hg')
              go_roundw
              case rel =>
                refine ⟨t + 1, by omega, by go_num, ?_, (hb3.alloc hB3 _).grown hg' (by simp; omega) fun k hk => (hown3.lt k hk).1⟩
                rw [HSN.out, ← List.append_assoc]
                exact hown'
              case measure => simp [intOf]; omega
            · obtain rfl : t = 8 := by omega
              go_wp2
              go_roundw
              case rel =>
                refine ⟨J + 1, by omega, by omega, by go_num, ?_, hb3⟩
                rw [HGT.out J hJ1 hJ hJs, gbits_snoc, ← HGG.out]
                exact hown3
              case measure => simp [intOf]; omega
        · obtain rfl : J = m + c := by omega
          have hgfull : g.take (m + c - m) = g := by rw [Nat.add_sub_cancel_left, HC.out]; exact List.take_length
          rw [hgfull] at hown hgl
          have hpadl : (padded g).length = 8 * c + padN c := by rw [padded, List.length_append, gbits_length, List.length_replicate, ← HC.out]
          have hguard : ¬ ((m + c : Nat) : Int) < (m : Int) + 3 ∨ (((m + c : Nat) : Int) < (m : Int) + 3 ∧ ¬ ((m + c : Nat) : Int) < s.size) := by
            have := HCL.out
            omega
          obtain ⟨jj, hjj⟩ : ∃ jj, jj = m + c := ⟨_, rfl⟩
          have HGL := Lib.hid hgl
          have HPL := Lib.hid hpadl
          clear hgl hpadl hgfull hgl2
          obtain ⟨wj, rfl⟩ : ∃ wj : World, wj = wr := ⟨_, rfl⟩
          rcases hguard with hguard | ⟨hguard, hguard2⟩
          all_goals
            go_wp2
            go_loopw [5] (fun v wr => ∃ p : Nat, p ≤ padN c ∧ ownsB wr w.heap.size v (gbits g ++ List.replicate p 0) ∧ Below w.heap.size w wr) (fun v _ => 40 - lenSl v)
            case atStart => exact ⟨0, Nat.zero_le _, by rw [List.replicate_zero, List.append_nil]; exact hown, hbJ⟩
            case round =>
              obtain ⟨p, hp, hownp, hbp⟩ := hrel
              obtain ⟨A, cap, hv, hlc, hcm, hcell⟩ := hownp.form
              have hlen : (gbits g ++ List.replicate p 0).length = 8 * c + p := by rw [List.length_append, HGL.out, List.length_replicate, ← HC.out]
              obtain ⟨N, hN⟩ : ∃ N, N = 8 * c + p := ⟨_, rfl⟩
              have hpc := padN_cases c c1 c3
              rw [hlen, ← hN] at hv hlc
              unfold maxLen at hcm
              have hBp := hbp.size
              have hNs : N ≤ 30 := by omega
              by_cases hpp : p < padN c
              · have hm6 : ((N : Int) % 6 != 0) = true := by rw [bne_iff_ne]; omega
                have hl50 : (gbits g ++ List.replicate p 0).length + 1 ≤ 140737488355328 := by rw [hlen]; omega
                have HN := Lib.hid hN
                have HP := Lib.hid hpc
                have HLN := Lib.hid hlen
                clear hN hpc hlen hcell
                subst hv
                go_wp2_with (at_builtin; refine append_bytes _ rfl (.tmp 49) (.tmp 50) rfl w.heap.size _ _ [0] rfl (hownp.alloc _) ⟨wr.heap.size, 0, none⟩ 1 rfl (new_cells wr _ _) hl50 (by simp; omega) ?_; intro v' w' hown' hg')
                go_roundw
                case rel =>
                  refine ⟨p + 1, by omega, ?_, (hbp.alloc hBp _).grown hg' (by simp; omega) fun k hk => (hownp.lt k hk).1⟩
                  rw [List.replicate_succ', ← List.append_assoc]
                  exact hown'
                case measure =>
                  obtain ⟨A', cap', hv', _⟩ := hown'.form
                  rw [hv']
                  simp only [lenSl, List.length_append, HLN.out, List.length_singleton]
                  have := HN.out
                  omega
              · obtain rfl : p = padN c := by omega
                have hm6 : ((N : Int) % 6 != 0) = false := by rw [bne_eq_false_iff_eq]; omega
                have hcell' : ∀ j (hj : j < (padded g).length), ∃ g', A = some ⟨g', 0, none⟩ ∧ wr.cell? ⟨g', j, none⟩ = some (.int .u8 ((padded g)[j].toNat : Int)) := by
                  intro j hj
                  exact hcell j _ (by rw [HC.out]; exact List.getElem?_eq_getElem hj)
                have HCE := Lib.hid hcell'
                have HN := Lib.hid hN
                have HP := Lib.hid hpc
                clear hN hpc hlen hcell hcell'
                subst hv
                obtain ⟨wp, rfl⟩ : ∃ wp : World, wp = wr := ⟨_, rfl⟩
                go_wp2
                clear hm6 hguard
                go_loop [3, 8] (fun v i => ∃ (q x : Nat) (a : ByteArray), q ≤ 4 ∧ x = 6 * q ∧ i = .int .i64 x ∧ v = .string a ∧ a.data.toList = acc.data.toList ++ (outG g).take q) (fun _ i => 30 - (intOf i).toNat)
                case atStart => exact ⟨0, 0, acc, by omega, rfl, rfl, rfl, by rw [List.take_zero, List.append_nil]⟩
                case round =>
                  obtain ⟨q, x, a, hq, hx6, rfl, rfl, hal⟩ := hrel
                  have has : a.size = acc.size + min q 4 := by
                    have h1 : a.size = a.data.toList.length := by rw [Array.length_toList]; rfl
                    have h2 : acc.size = acc.data.toList.length := by rw [Array.length_toList]; rfl
                    rw [h1, hal, List.length_append, ← h2, List.length_take]; rfl
                  have has2 : (a.size : Int) ≤ 5000000 := by omega
                  have hx24 : x ≤ 24 := by omega
                  have HX := Lib.hid hx6
                  have HAL := Lib.hid hal
                  have HAS := Lib.hid has
                  clear has hal hx6
                  by_cases hq4 : q < 4
                  · have hx2 : x < 24 := by have := HX.out; omega
                    by_cases hxN : x < N
                    · have hN6 : x + 6 ≤ N := by have h1 := HN.out; have h2 := HX.out; have h3 := HP.out; omega
                      obtain ⟨g', hA, _⟩ := HCE.out x (by have h1 := HPL.out; have h2 := HN.out; omega)
                      subst hA
                      have hc6 : (x : Int) + 6 ≤ cap := by omega
                      have hN30 : N = (padded g).length := by have h1 := HPL.out; have h2 := HN.out; omega
                      have HNP := Lib.hid hN30
                      clear hN30
                      go_wp2
                      go_loop [9, 68] (fun n i => ∃ t : Nat, t ≤ 6 ∧ i = .int .i64 t ∧ n = .int .i64 (bitN (((padded g).drop x).take t))) (fun _ i => 6 - (intOf i).toNat)
                      case atStart => exact ⟨0, by omega, rfl, rfl⟩
                      case round =>
                        obtain ⟨t, ht, rfl, rfl⟩ := hrel
                        have hble := bitN_lt (((padded g).drop x).take t) (fun y hy => padded_le g y (List.mem_of_mem_drop (List.mem_of_mem_take hy)))
                        have hbl64 : bitN (((padded g).drop x).take t) < 64 := by
                          refine Nat.lt_of_lt_of_le hble ?_
                          have h1 := List.length_take_le t ((padded g).drop x)
                          exact (Nat.pow_le_pow_right (by omega) (Nat.le_trans h1 ht) : 2 ^ (((padded g).drop x).take t).length ≤ 2 ^ 6)
                        by_cases ht6 : t < 6
                        · have hxt : x + t < (padded g).length := by have := HNP.out; omega
                          obtain ⟨g2, hg2, hcl2⟩ := HCE.out (x + t) hxt
                          simp only [Option.some.injEq, Addr.mk.injEq, and_true] at hg2
                          subst hg2
                          have hsn : ((padded g).drop x).take (t + 1) = ((padded g).drop x).take t ++ [(padded g)[x + t]] := by
                            rw [List.take_succ_eq_append_getElem (by rw [List.length_drop]; omega), List.getElem_drop]
                          have hx1 := padded_le g _ (List.getElem_mem hxt)
                          obtain ⟨D, hD⟩ : ∃ D, D = (padded g)[x + t] := ⟨_, rfl⟩
                          rw [← hD] at hcl2 hsn hx1
                          obtain ⟨M, hM⟩ : ∃ M, M = bitN (((padded g).drop x).take t) := ⟨_, rfl⟩
                          have hM2 : bitN (((padded g).drop x).take (t + 1)) = 2 * M + D.toNat := by rw [hsn, bitN_snoc, ← hM]
                          rw [← hM] at hbl64 ⊢
                          have HM2 := Lib.hid hM2
                          clear hD hsn hM hM2 hble hxt
                          go_wp2
                          go_round
                          case rel => exact ⟨t + 1, by omega, by go_num, by rw [HM2.out]; go_num⟩
                          case measure => simp [intOf]; omega
                        · obtain rfl : t = 6 := by omega
                          obtain ⟨M, hM⟩ : ∃ M, M = bitN (((padded g).drop x).take 6) := ⟨_, rfl⟩
                          have hout : outC g q = letter M := by
                            rw [hM, HX.out]
                            exact outC_yes g q _ (by have h1 := HNP.out; have h2 := HX.out; omega) rfl
                          rw [← hM] at hbl64 ⊢
                          have HO := Lib.hid hout
                          clear hM hout hble
                          go_wp2
                          go_round
                          case rel =>
                            refine ⟨q + 1, x + 6, _, by omega, by have := HX.out; omega, by go_num, rfl, ?_⟩
                            rw [outG_take g q hq4, HO.out, ← List.append_assoc, ← HAL.out, ByteArray.data_append, Array.toList_append]
                            congr 1
                            exact congrArg (fun x => x.data.toList) (letter_slice M hbl64)
                          case measure => simp [intOf]; omega
                    · have hno : outC g q = 61 := outC_no g q (by have h1 := HPL.out; have h2 := HN.out; have h3 := HX.out; omega)
                      have HNO := Lib.hid hno
                      clear hno
                      go_wp2
                      go_round
                      case rel =>
                        refine ⟨q + 1, x + 6, _, by omega, by have := HX.out; omega, by go_num, rfl, ?_⟩
                        rw [outG_take g q hq4, HNO.out, ← List.append_assoc, ← HAL.out, ByteArray.data_append, Array.toList_append]
                      case measure => simp [intOf]; omega
                  · obtain rfl : q = 4 := by omega
                    have hx24' : ¬ (x : Int) < 24 := by have := HX.out; omega
                    clear hx24 hq hq4
                    go_wp2
                    go_roundw
                    case rel =>
                      refine ⟨m + 3, a, by go_num, by omega, rfl, ?_, ?_, hbp⟩
                      · have := HAS.out; omega
                      · rw [HAL.out, ← HR.out, List.append_assoc]
                        congr 1
                        have hne : s.data.toList.drop m ≠ [] := by
                          intro e
                          have := congrArg List.length e
                          rw [List.length_drop, Array.length_toList] at this
                          have h3 : s.data.size = s.size := rfl
                          simp at this
                          omega
                        rw [b64_group _ hne, ← HG.out, List.drop_drop]
                        rfl
                    case measure => simp [intOf]; omega
    · have hnil : s.data.toList.drop m = [] := List.drop_of_length_le (by rw [Array.length_toList]; have : s.data.size = s.size := rfl; omega)
      have e : acc = ⟨(b64 s.data.toList).toArray⟩ := by
        apply ByteArray.ext
        apply Array.toList_inj.1
        rw [← HR.out, hnil]
        simp [b64]
      have HE := Lib.hid e
      clear e hnil
      go_wp2
      go_ret
      exact ⟨by rw [← HE.out]; rfl, hb⟩
end Go.Proofs.Ytdhafmjhohnclaa
