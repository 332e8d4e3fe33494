/- THE WALK of 'DeltaBases'. -/
import Derived.Test.YtilfdeboeohnbaaDeltaAwake
import Derived.Test.YtilfdeboeohnbaaFew
namespace Go.Proofs.Ytilfdeboeohnbaa
open Go.RowKit Delta
set_option linter.unusedVariables false

set_option maxHeartbeats 2000000 in
theorem deltaBases_walk (base d : ByteArray) (most : Int) (hbs : base.size ≤ maxLen) (hds : d.size ≤ maxLen) (hm : (Lit.int .i64 most).wf = true) (w : World) :
    Calls Try.prog 4 #[.string base, .string d, .int .i64 most] w fun e w' => e = .returned (.bool true) ∧ Below w.heap.size w w' := by
  unfold maxLen at hbs hds
  have f1 := few_size base 2000
  have f2 := few_size d 500
  have k1 : ∀ W, _ := fun W => few_any base 2000 W (by omega) (by omega)
  have k2 : ∀ W, _ := fun W => few_any d 500 W (by omega) (by omega)
  generalize fewB base 2000 = B at f1 k1
  generalize fewB d 500 = D at f2 k2
  have k3 : ∀ W, _ := fun W => apply_any B D most W (by omega) (by omega)
  have k5 : ∀ W, _ := fun W => sizes_any D W (by omega)
  have e1 := applyS_err6 B.data.toList D.data.toList most
  have e2 := sizesS_err6 D.data.toList
  have z1 := applyS_bad B.data.toList D.data.toList most
  have z2 := applyS_other B.data.toList D.data.toList most
  have z3 := applyS_fits B.data.toList D.data.toList most
  have z4 := sizesS_bounds D.data.toList
  have z5 : B.data.toList.length = B.size := by rw [Array.length_toList]; rfl
  rw [z5] at z2
  generalize applyS B.data.toList D.data.toList most = R at k3 e1 z1 z2 z3
  generalize sizesS D.data.toList = S at k5 e2 z1 z2 z3 z4
  obtain ⟨s, x⟩ := R
  obtain ⟨n, b, m, g⟩ := S
  simp only [applyV, sizesV] at k3 k5 e1 e2 z1 z2 z3 z4
  obtain ⟨z41, z42, -⟩ := z4
  obtain ⟨u, hu⟩ : ∃ u : ByteArray, ⟨s.toArray⟩ = u := ⟨_, rfl⟩
  have hul : u.size = s.length := by rw [← hu]; exact List.size_toArray
  rw [hu] at k3
  have K1 := Lib.hid k1
  have K2 := Lib.hid k2
  have K3 := Lib.hid k3
  have K5 := Lib.hid k5
  have HU := Lib.hid hu
  clear k1 k2 k3 k5 z5 hu
  by_cases hg : g = 0
  · subst hg
    by_cases hn : n = B.size
    · subst hn
      by_cases hx : x = 0
      · subst hx
        obtain ⟨h1, h2⟩ := z3 rfl
        have h1' : (s.length : Int) = b := by omega
        have hls : (u.size : Int) = (b : Int) := by rw [hul]; omega
        have q1 : ((b : Int) == (b : Int)) = true := by simp
        clear z1 z2 z3 hul h1 h1'
        go_enter Try.func4, Try.ntmps4
        go_wp2_with fail
        refine (K2.out _).mono ?_
        rintro e w1 ⟨rfl, rfl⟩
        go_wp2_with fail
        refine (K5.out _).mono ?_
        rintro e w1 ⟨rfl, hb1⟩
        go_wp2_with fail
        refine (K1.out _).mono ?_
        rintro e w2 ⟨rfl, rfl⟩
        go_wp2_with fail
        refine (K2.out _).mono ?_
        rintro e w2 ⟨rfl, rfl⟩
        go_wp2_with fail
        refine (K3.out _).mono ?_
        rintro e w2 ⟨rfl, hb2⟩
        go_wp2_with fail
        refine (K1.out _).mono ?_
        rintro e w3 ⟨rfl, rfl⟩
        go_wp2_with fail
        refine (awake_any _).mono ?_
        rintro e w3 ⟨rfl, hb3⟩
        go_wp2
        go_ret
        have s1 := hb1.size
        have s2 := hb2.size
        exact ⟨rfl, (hb1.trans (hb2.mono s1)).trans (hb3.mono (by omega))⟩
      · have qx : ((x : Int) != 0) = true := by rw [bne_iff_ne]; omega
        clear z1 z2 z3
        go_enter Try.func4, Try.ntmps4
        go_wp2_with fail
        refine (K2.out _).mono ?_
        rintro e w1 ⟨rfl, rfl⟩
        go_wp2_with fail
        refine (K5.out _).mono ?_
        rintro e w1 ⟨rfl, hb1⟩
        go_wp2_with fail
        refine (K1.out _).mono ?_
        rintro e w2 ⟨rfl, rfl⟩
        go_wp2_with fail
        refine (K2.out _).mono ?_
        rintro e w2 ⟨rfl, rfl⟩
        go_wp2_with fail
        refine (K3.out _).mono ?_
        rintro e w2 ⟨rfl, hb2⟩
        go_wp2_with fail
        refine (K1.out _).mono ?_
        rintro e w3 ⟨rfl, rfl⟩
        go_wp2_with fail
        refine (awake_any _).mono ?_
        rintro e w3 ⟨rfl, hb3⟩
        go_wp2
        go_ret
        have s1 := hb1.size
        have s2 := hb2.size
        exact ⟨rfl, (hb1.trans (hb2.mono s1)).trans (hb3.mono (by omega))⟩
    · have h1 := z2 rfl hn
      simp only [Prod.mk.injEq] at h1
      obtain ⟨rfl, rfl⟩ := h1
      have hue : u = ⟨#[]⟩ := HU.out.symm
      subst hue
      have qn : ((n : Int) != (B.size : Int)) = true := by rw [bne_iff_ne]; omega
      clear z1 z2 z3 hul HU
      go_enter Try.func4, Try.ntmps4
      go_wp2_with fail
      refine (K2.out _).mono ?_
      rintro e w1 ⟨rfl, rfl⟩
      go_wp2_with fail
      refine (K5.out _).mono ?_
      rintro e w1 ⟨rfl, hb1⟩
      go_wp2_with fail
      refine (K1.out _).mono ?_
      rintro e w2 ⟨rfl, rfl⟩
      go_wp2_with fail
      refine (K2.out _).mono ?_
      rintro e w2 ⟨rfl, rfl⟩
      go_wp2_with fail
      refine (K3.out _).mono ?_
      rintro e w2 ⟨rfl, hb2⟩
      go_wp2_with fail
      refine (K1.out _).mono ?_
      rintro e w3 ⟨rfl, rfl⟩
      go_wp2_with fail
      refine (awake_any _).mono ?_
      rintro e w3 ⟨rfl, hb3⟩
      go_wp2
      go_ret
      have s1 := hb1.size
      have s2 := hb2.size
      exact ⟨rfl, (hb1.trans (hb2.mono s1)).trans (hb3.mono (by omega))⟩
  · have h1 := z1 hg
    simp only [Prod.mk.injEq] at h1
    obtain ⟨rfl, rfl⟩ := h1
    have hue : u = ⟨#[]⟩ := HU.out.symm
    subst hue
    have qn : ((x : Int) != 0) = true := by rw [bne_iff_ne]; omega
    clear z1 z2 z3 hul HU
    go_enter Try.func4, Try.ntmps4
    go_wp2_with fail
    refine (K2.out _).mono ?_
    rintro e w1 ⟨rfl, rfl⟩
    go_wp2_with fail
    refine (K5.out _).mono ?_
    rintro e w1 ⟨rfl, hb1⟩
    go_wp2_with fail
    refine (K1.out _).mono ?_
    rintro e w2 ⟨rfl, rfl⟩
    go_wp2_with fail
    refine (K2.out _).mono ?_
    rintro e w2 ⟨rfl, rfl⟩
    go_wp2_with fail
    refine (K3.out _).mono ?_
    rintro e w2 ⟨rfl, hb2⟩
    go_wp2_with fail
    refine (awake_any _).mono ?_
    rintro e w3 ⟨rfl, hb3⟩
    go_wp2
    go_ret
    have s1 := hb1.size
    have s2 := hb2.size
    exact ⟨rfl, (hb1.trans (hb2.mono s1)).trans (hb3.mono (by omega))⟩
end Go.Proofs.Ytilfdeboeohnbaa
