/- THE WALKS of pseudo.rev (is it twelve hexadecimal digits?). Conditions: a bound on the length. THE WALK of pseudo.build: a version's build with its plus sign. Conditions: a bound on the length. -/
import Derived.Test.YtgojmckfabhkaaaDoorSumsDigWalks
import Derived.Test.YtgojmckfabhkaaaDoorSemD
import Derived.Test.YtgojmckfabhkaaaDoorSemE
namespace Go.Proofs.YtgojmckfabhkaaaDoor.Sem
open Go Go.RowKit Sums
set_option linter.unusedVariables false

/-- Is it the beginning of a commit's name? -/
def revB (l : List UInt8) : Bool := hexed l && decide (l.length = 12)

set_option maxRecDepth 100000 in
theorem rev_any (l : List UInt8) (w : World) (hz : l.length ≤ 140737488355328) :
    Calls Tryd.prog 13 #[.string (tx l)] w fun e w' => e = .returned (.bool (revB l)) ∧ Below w.heap.size w w' := by
  have hsz := tx_size l
  have hc : Calls Tryd.prog 30 #[.string (tx l)] w fun e w' => e = .returned (unhexV l) ∧ Below w.heap.size w w' := by
    have h := unhex_any (tx l) w (by rw [hsz]; omega)
    rw [tx_list] at h
    exact h
  obtain ⟨T, hT⟩ : ∃ T, T = tx l := ⟨_, rfl⟩
  rw [← hT] at hsz hc ⊢
  clear hT
  cases hx : hexed l with
  | false =>
    have hv : unhexV l = .tuple #[.string ⟨#[]⟩, .bool false] := by unfold unhexV; rw [hx]; rfl
    have hr : revB l = false := by unfold revB; rw [hx]; rfl
    rw [hv] at hc
    rw [hr]
    have HC := Lib.hid hc
    clear hv hr hc
    go_enter Tryd.func13, Tryd.ntmps13
    go_wp2_with (go_at_call 30; refine HC.out.mono ?_; rintro e w' ⟨rfl, hb⟩)
    go_ret
    exact ⟨rfl, hb⟩
  | true =>
    have hv : unhexV l = .tuple #[.string ⟨(pairs l).toArray⟩, .bool true] := by unfold unhexV; rw [hx]; rfl
    have hr : revB l = decide (l.length = 12) := by unfold revB; rw [hx]; rfl
    rw [hv] at hc
    rw [hr]
    have HC := Lib.hid hc
    clear hv hr hc
    go_enter Tryd.func13, Tryd.ntmps13
    by_cases h12 : l.length = 12
    · have q : decide (l.length = 12) = true := decide_eq_true h12
      have HQ := Lib.hid q
      have hs12 : T.size = 12 := by omega
      clear q
      go_wp2_with (go_at_call 30; refine HC.out.mono ?_; rintro e w' ⟨rfl, hb⟩)
      go_ret
      refine ⟨?_, hb⟩
      first | rfl | simp [h12] | (rw [HQ.out]; simp [hs12])
    · have HQ := Lib.hid (decide_eq_false h12)
      have hs12 : ¬ T.size = 12 := by omega
      go_wp2_with (go_at_call 30; refine HC.out.mono ?_; rintro e w' ⟨rfl, hb⟩)
      go_ret
      refine ⟨?_, hb⟩
      first | rfl | (rw [HQ.out]; congr 2; simp; omega) | simp [h12]
end Go.Proofs.YtgojmckfabhkaaaDoor.Sem

namespace Go.Proofs.YtgojmckfabhkaaaDoor.Sem
open Go Go.RowKit
set_option linter.unusedVariables false

def plusD (b : List UInt8) : List UInt8 := if b = [] then [] else 43 :: b

set_option maxRecDepth 100000 in
theorem build_any (v : Ver) (w : World) (hz : v.bld.length ≤ 1000000) :
    Calls Tryd.prog 16 #[.agg (verA v)] w fun e w' => e = .returned (.string (tx (plusD v.bld))) ∧ Below w.heap.size w w' := by
  unfold verA
  have hsz := tx_size v.bld
  have hl := tx_toList v.bld
  generalize tx v.maj = S0
  generalize tx v.mnr = S1
  generalize tx v.pat = S2
  generalize tx v.pre = S3
  generalize (v.short : Int) = z
  by_cases hb : v.bld = []
  · have hr : tx (plusD v.bld) = ⟨#[]⟩ := by unfold plusD; rw [if_pos hb]; rfl
    have hq : (tx v.bld).toList.isEmpty = true := by rw [hl, hb]; rfl
    rw [hr]
    clear hr hl
    obtain ⟨T, hT⟩ : ∃ T, T = tx v.bld := ⟨_, rfl⟩
    rw [← hT] at hq hsz ⊢
    clear hT hb
    go_enter Tryd.func16, Tryd.ntmps16
    go_wp2
    go_ret
    exact ⟨rfl, (Below.refl _ w).alloc (Nat.le_refl _) _⟩
  · have hr : (⟨#[43]⟩ : ByteArray) ++ tx v.bld = tx (plusD v.bld) := by unfold plusD; rw [if_neg hb]; exact tx_append [43] _
    have hq : (tx v.bld).toList.isEmpty = false := by
      rw [hl]
      cases h : v.bld with
      | nil => exact absurd h hb
      | cons c q => rfl
    clear hl
    obtain ⟨T, hT⟩ : ∃ T, T = tx v.bld := ⟨_, rfl⟩
    rw [← hT] at hq hsz hr ⊢
    obtain ⟨Z, hZ⟩ : ∃ Z, Z = tx (plusD v.bld) := ⟨_, rfl⟩
    rw [← hZ] at hr ⊢
    have hT2 : T.size ≤ 1000000 := by omega
    clear hT hZ hb
    go_enter Tryd.func16, Tryd.ntmps16
    go_wp2
    go_ret
    exact ⟨by first | rfl | rw [hr], (Below.refl _ w).alloc (Nat.le_refl _) _⟩
end Go.Proofs.YtgojmckfabhkaaaDoor.Sem
