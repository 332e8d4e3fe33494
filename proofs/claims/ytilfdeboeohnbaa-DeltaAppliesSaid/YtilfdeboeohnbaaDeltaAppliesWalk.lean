/- THE WALK of 'DeltaApplies'. -/
import Derived.Test.YtilfdeboeohnbaaDeltaAwake
import Derived.Test.YtilfdeboeohnbaaDeltaRefAp
import Derived.Test.YtilfdeboeohnbaaFew
namespace Go.Proofs.Ytilfdeboeohnbaa
open Go.RowKit Delta
set_option linter.unusedVariables false

set_option maxHeartbeats 1000000 in
theorem deltaApplies_walk (base d : ByteArray) (most : Int) (hbs : base.size ≤ maxLen) (hds : d.size ≤ maxLen) (hm : (Lit.int .i64 most).wf = true) (w : World) :
    Calls Try.prog 3 #[.string base, .string d, .int .i64 most] w fun e w' => e = .returned (.bool true) ∧ Below w.heap.size w w' := by
  unfold maxLen at hbs hds
  have f1 := few_size base 2000
  have f2 := few_size d 500
  have k1 : ∀ W, _ := fun W => few_any base 2000 W (by omega) (by omega)
  have k2 : ∀ W, _ := fun W => few_any d 500 W (by omega) (by omega)
  generalize fewB base 2000 = B at f1 k1
  generalize fewB d 500 = D at f2 k2
  have k3 : ∀ W, _ := fun W => apply_any B D most W (by omega) (by omega)
  have k4 : ∀ W, _ := fun W => refApply_any B D most W (by omega) (by omega)
  have k5 : ∀ W, _ := fun W => sizes_any D W (by omega)
  have k6 : ∀ W, _ := fun W => refSizes_any D W (by omega)
  have e1 := applyS_err6 B.data.toList D.data.toList most
  have e2 := sizesS_err6 D.data.toList
  generalize applyS B.data.toList D.data.toList most = R at k3 k4 e1
  generalize sizesS D.data.toList = S at k5 k6 e2
  obtain ⟨s, x⟩ := R
  obtain ⟨a, b, n, g⟩ := S
  simp only [applyV, sizesV, sizesW] at k3 k4 k5 k6 e1 e2
  have K1 := Lib.hid k1
  have K2 := Lib.hid k2
  have K3 := Lib.hid k3
  have K4 := Lib.hid k4
  have K5 := Lib.hid k5
  have K6 := Lib.hid k6
  clear k1 k2 k3 k4 k5 k6
  go_enter Try.func3, Try.ntmps3
  go_wp2_with fail
  refine (K1.out _).mono ?_
  rintro e w1 ⟨rfl, rfl⟩
  go_wp2_with fail
  refine (K2.out _).mono ?_
  rintro e w1 ⟨rfl, rfl⟩
  go_wp2_with fail
  refine (K3.out _).mono ?_
  rintro e w1 ⟨rfl, hb1⟩
  go_wp2_with fail
  refine (K4.out _).mono ?_
  rintro e w2 ⟨rfl, hb2⟩
  go_wp2_with fail
  refine (K5.out _).mono ?_
  rintro e w3 ⟨rfl, hb3⟩
  go_wp2_with fail
  refine (K6.out _).mono ?_
  rintro e w4 ⟨rfl, hb4⟩
  go_wp2_with fail
  refine (awake_any _).mono ?_
  rintro e w5 ⟨rfl, hb5⟩
  go_wp2
  go_ret
  have s1 := hb1.size
  have s2 := hb2.size
  have s3 := hb3.size
  have s4 := hb4.size
  exact ⟨rfl, (((hb1.trans (hb2.mono s1)).trans (hb3.mono (by omega))).trans (hb4.mono (by omega))).trans (hb5.mono (by omega))⟩
end Go.Proofs.Ytilfdeboeohnbaa
