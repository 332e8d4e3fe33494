/- THE WALK of 'DeltaChains'. -/
import Derived.Test.YtilfdeboeohnbaaDeltaMakesWalk
import Derived.Test.YtilfdeboeohnbaaStrs
import Derived.Test.YtilfdeboeohnbaaLaw
namespace Go.Proofs.Ytilfdeboeohnbaa
open Go.RowKit Delta
set_option linter.unusedVariables false

/-- The deltas ds lead from the text a to the text b. -/
def Chain : ByteArray → List ByteArray → ByteArray → Prop
  | a, [], b => a = b
  | a, d :: r, b => ∃ c : ByteArray, applyS a.data.toList d.data.toList 300 = (c.data.toList, 0) ∧ c.size ≤ 300 ∧ d.size ≤ 1000 ∧ Chain c r b
theorem Chain.snoc {d c : ByteArray} {b : ByteArray} (h1 : applyS b.data.toList d.data.toList 300 = (c.data.toList, 0)) (h2 : c.size ≤ 300) (h3 : d.size ≤ 1000) : ∀ (a : ByteArray) (ds : List ByteArray), Chain a ds b → Chain a (ds ++ [d]) c
  | a, [], h => by
    have e : a = b := h
    subst e
    exact ⟨c, h1, h2, h3, rfl⟩
  | a, d' :: r, h => by
    obtain ⟨c', e1, e2, e3, e4⟩ := h
    exact ⟨c', e1, e2, e3, Chain.snoc h1 h2 h3 c' r e4⟩

set_option maxHeartbeats 2000000 in
theorem deltaChains_walk (w : World) (A : Option Addr) (n cap : Nat) (ss : List ByteArray) (hS : StrsIn w A n cap ss) :
    Calls Try.prog 6 #[.slice A n cap] w fun e w' => e = .returned (.bool true) ∧ Below w.heap.size w w' := by
  have hcap := hS.cap
  have hle := hS.le
  unfold maxLen at hcap
  have HS := Lib.hid hS
  clear hS
  go_enter Try.func6, Try.ntmps6
  go_wp2
  go_loopw [3, 4, 5, 6] (fun dv fv lv iv_ wr => ∃ (k : Nat) (first last : ByteArray) (ds : List ByteArray) (A' : Option Addr) (m c : Nat), k ≤ n ∧ k ≤ 12 ∧ iv_ = .int .i64 (k : Int) ∧ fv = .string first ∧ lv = .string last ∧ dv = .slice A' m c ∧ m = ds.length ∧ ownsS wr w.heap.size dv ds ∧ Chain first ds last ∧ first.size ≤ 300 ∧ last.size ≤ 300 ∧ ds.length ≤ k ∧ Below w.heap.size w wr) (fun _ _ _ iv_ _ => 12 - (intOf iv_).toNat)
  case atStart => exact ⟨0, ⟨#[]⟩, ⟨#[]⟩, [], _, _, _, by omega, by omega, rfl, rfl, rfl, rfl, rfl, ownsS_made w (Nat.le_refl _), rfl, by decide, by decide, by simp, (Below.refl _ _).alloc (Nat.le_refl _) _⟩
  case round =>
    obtain ⟨k, first, last, ds, A', m, c, hk, hk12, rfl, rfl, rfl, rfl, hm, hown, hch, hf3, hl3, hdl, hb⟩ := hrel
    have HM := Lib.hid hm
    have HO := Lib.hid hown
    have HC := Lib.hid hch
    have HB := Lib.hid hb
    clear hm hown hch hb
    by_cases hkn : k < n ∧ k < 12
    · obtain ⟨hkn, hk2⟩ := hkn
      obtain ⟨ad, hA, hab, hcell⟩ := HS.out.at_ k hkn
      subst hA
      have hsz := HS.out.size k hkn
      obtain ⟨x0, hx0⟩ : ∃ x0, x0 = ss.getD k ByteArray.empty := ⟨_, rfl⟩
      rw [← hx0] at hcell hsz
      unfold maxLen at hsz
      clear hx0
      have hcell' : wr.cell? (ad.add k) = some (.string x0) := (HB.out.cell (p := ad.add k) (by rw [block_of_add]; exact hab)).trans hcell
      clear hcell
      have hfs := few_size x0 300
      go_wp2_with fail
      refine (few_any x0 300 _ (by omega) (by omega)).mono ?_
      rintro e w1 ⟨rfl, rfl⟩
      generalize fewB x0 300 = x at hfs
      by_cases h0 : k = 0
      · have hd0 : ds = [] := List.eq_nil_of_length_eq_zero (by omega)
        subst hd0
        have e0 : ((k : Int) == 0) = true := by rw [beq_iff_eq]; omega
        go_wp2
        go_roundw
        case rel => exact ⟨k + 1, x, x, [], A', m, c, by omega, by omega, by go_num, rfl, rfl, rfl, HM.out, HO.out, rfl, hfs, hfs, by simp, HB.out⟩
        case measure => simp [intOf]; omega
      · have e0 : ((k : Int) == 0) = false := by rw [beq_eq_false_iff_ne]; omega
        go_wp2_with fail
        refine (make_any last x _ (by omega) (by omega)).mono ?_
        rintro e w1 ⟨ops, rfl, hmk, hl, hb1⟩
        have a1 := made_applies last x ops (by omega) (by omega) hmk 300 (by omega)
        have a3 := made_len last x ops (by omega) (by omega) hl
        obtain ⟨D, hD⟩ : ∃ D : ByteArray, (⟨(sized last.size ++ sized x.size ++ ops).toArray⟩ : ByteArray) = D := ⟨_, rfl⟩
        have hDl : D.data.toList = sized last.size ++ sized x.size ++ ops := by rw [← hD]
        rw [hD] at a3 ⊢
        rw [← hDl] at a1
        have hch2 := Chain.snoc a1 hfs (by omega : D.size ≤ 1000) _ _ HC.out
        have hown1 : ownsS w1 w.heap.size (.slice A' m c) ds := HO.out.below hb1
        have hbw1 : Below w.heap.size w w1 := HB.out.trans (hb1.mono HB.out.size)
        have HC2 := Lib.hid hch2
        have HO1 := Lib.hid hown1
        have HB1 := Lib.hid hbw1
        have hlen : ds.length + [D].length ≤ 8796093022208 := by simp; omega
        have hBs : w.heap.size ≤ (w1.alloc (.cells #[.string D] 9)).heap.size := by rw [World.size_alloc]; have := hbw1.size; omega
        clear a1 a3 hD hDl hmk hl hb1 hch2 hown1 hbw1
        go_wp2_with (at_builtin; go_loud (refine append_strs _ rfl (.tmp 32) (.tmp 36) rfl w.heap.size _ ds [D] rfl (HO1.out.alloc _) ⟨w1.heap.size, 0, none⟩ 1 rfl (new_strs w1 [D] _) hlen hBs ?_); intro v' w' hown' hg')
        go_roundw
        case rel =>
          obtain ⟨g2, c2, hv2, _, _⟩ := hown'.form (by simp)
          exact ⟨k + 1, first, x, ds ++ [D], _, _, _, by omega, by omega, by go_num, rfl, rfl, hv2, rfl, hown', HC2.out, hf3, hfs, by simp; omega, (HO1.out.alloc _).grown (HB1.out.alloc HB1.out.size _) hg' hBs⟩
        case measure => simp [intOf]; omega
    · by_cases hkn1 : k < n
      all_goals
        go_wp2
        go_loopw [8, 42] (fun sv_ jv wq => ∃ (j : Nat) (s : ByteArray), j ≤ ds.length ∧ jv = .int .i64 (j : Int) ∧ sv_ = .string s ∧ Chain s (ds.drop j) last ∧ s.size ≤ 300 ∧ ownsS wq w.heap.size (.slice A' m c) ds ∧ Below w.heap.size w wq) (fun _ jv _ => m - (intOf jv).toNat)
        case atStart => exact ⟨0, first, by omega, rfl, rfl, HC.out, hf3, HO.out, HB.out⟩
        case round =>
          obtain ⟨j, s, hj, rfl, rfl, hch, hs3, hown, hbq⟩ := hrel
          have HC3 := Lib.hid hch
          have HO3 := Lib.hid hown
          have HB3 := Lib.hid hbq
          have hm := HM.out
          clear hch hown hbq
          by_cases hjl : j < ds.length
          · obtain ⟨g, c3, hv, _, _⟩ := HO3.out.form (by omega)
            injection hv with hv1 hv2 hv3
            have hdr : ds.drop j = ds[j] :: ds.drop (j + 1) := List.drop_eq_getElem_cons hjl
            have hch := HC3.out
            rw [hdr] at hch
            obtain ⟨x, hap, hx3, hd3, hch2⟩ := hch
            have hce : wr.cell? ⟨g, j, none⟩ = some (.string ds[j]) := by
              have h := HO3.out
              rw [hv1] at h
              exact h.cell hm.symm j (by omega)
            generalize ds[j] = D at hap hd3 hce
            have k3 : ∀ W, Calls Try.prog 9 #[.string s, .string D, .int .i64 300] W fun e w' => e = .returned (.tuple #[.string x, .int .i64 0]) ∧ Below W.heap.size W w' := fun W => by
              have := apply_any s D 300 W (by omega) (by omega)
              rw [hap] at this
              simp only [applyV, back] at this
              exact this
            have K3 := Lib.hid k3
            have HC4 := Lib.hid hch2
            have hjm : (j : Int) < (m : Int) := by omega
            subst hv1
            clear k3 hap hch2 hdr hv2 hm hv3
            go_wp2_with fail
            refine (K3.out _).mono ?_
            rintro e w2 ⟨rfl, hb2⟩
            go_wp2
            go_roundw
            case rel => exact ⟨j + 1, x, by omega, by go_num, rfl, HC4.out, hx3, HO3.out.below hb2, HB3.out.trans (hb2.mono HB3.out.size)⟩
            case measure => simp [intOf]; omega
          · have hdr : ds.drop j = [] := List.drop_eq_nil_of_le (by omega)
            have hch := HC3.out
            rw [hdr] at hch
            have hsl : s = last := hch
            subst hsl
            have hjm : ¬ (j : Int) < (m : Int) := by omega
            clear hdr hch hm
            go_wp2_with fail
            refine (awake_any _).mono ?_
            rintro e w2 ⟨rfl, hb2⟩
            go_wp2
            go_ret
            exact ⟨rfl, HB3.out.trans (hb2.mono HB3.out.size)⟩
end Go.Proofs.Ytilfdeboeohnbaa
