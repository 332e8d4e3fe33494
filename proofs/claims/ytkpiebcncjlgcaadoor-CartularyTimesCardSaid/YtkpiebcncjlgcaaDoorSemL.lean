/- THE WALK of semver.Sort at a list of two, of before. No conditions but contracts of Compare. -/
import Derived.Test.YtkpiebcncjlgcaaDoorSemG
import Derived.Test.YtkpiebcncjlgcaaDoorSemK
namespace Go.Proofs.YtkpiebcncjlgcaaDoor.Sem
open Go Go.RowKit
set_option linter.unusedVariables false

theorem less_self : ∀ l : List UInt8, Op.bytesLess l l = false
  | [] => rfl
  | x :: l => by simp [Op.bytesLess, less_self l]

set_option maxRecDepth 100000 in
theorem before_any (A B : ByteArray) (z : Int) (w : World) (H : Hid (∀ W, Calls Tryd.prog 25 #[.string A, .string B] W fun e w' => e = .returned (.int .i64 z) ∧ Below W.heap.size W w')) (h0 : z = 0 → A = B) :
    Calls Tryd.prog 40 #[.string A, .string B] w fun e w' => e = .returned (.bool (decide (z < 0))) ∧ Below w.heap.size w w' := by
  by_cases h1 : z < 0
  · have hd : decide (z < 0) = true := decide_eq_true h1
    clear h0
    go_enter Tryd.func40, Tryd.ntmps40
    go_wp2_with (go_at_call 25; refine (H.out _).mono ?_; rintro e w' ⟨rfl, hb⟩)
    go_ret
    exact ⟨by simp [hd], hb⟩
  · have hd : decide (z < 0) = false := decide_eq_false h1
    by_cases h2 : z = 0
    · have hA := h0 h2
      subst hA
      subst h2
      have hl : Op.bytesLess A.toList A.toList = false := less_self _
      go_enter Tryd.func40, Tryd.ntmps40
      go_wp2_with (go_at_call 25; refine (H.out _).mono ?_; rintro e w' ⟨rfl, hb⟩)
      go_ret
      exact ⟨rfl, hb⟩
    · have hq : (z == 0) = false := by rw [beq_eq_false_iff_ne]; exact h2
      clear h0
      go_enter Tryd.func40, Tryd.ntmps40
      go_wp2_with (go_at_call 25; refine (H.out _).mono ?_; rintro e w' ⟨rfl, hb⟩)
      go_ret
      exact ⟨by simp [hd], hb⟩

/-- What 'Sort' answers: a slice of the call's own. -/
def SortP (R : List ByteArray) (w : World) (e : Ending) (w' : World) : Prop := ∃ v, e = .returned v ∧ ownsS w' w.heap.size v R ∧ Below w.heap.size w w'
def SortR (R : List ByteArray) (w : World) (g cap : Nat) (W : World) : Prop := ownsS W w.heap.size (.slice (some ⟨g, 0, none⟩) 2 cap) R ∧ Below w.heap.size w W

theorem SortR.below {R : List ByteArray} {w W W' : World} {g cap : Nat} (h : SortR R w g cap W) (hb : Below W.heap.size W W') : SortR R w g cap W' := ⟨h.1.below hb, below_next h.2 hb h.2.size⟩

set_option maxRecDepth 100000 in
set_option maxHeartbeats 8000000 in
theorem sort_two (X Y : ByteArray) (bb : Bool) (w : World) (g0 : Nat) (hc0 : w.cell? ⟨g0, 0, none⟩ = some (.string Y)) (hc1 : w.cell? ⟨g0, 1, none⟩ = some (.string X))
    (HB : Hid (∀ W, Calls Tryd.prog 40 #[.string X, .string Y] W fun e w' => e = .returned (.bool bb) ∧ Below W.heap.size W w')) :
    Calls Tryd.prog 24 #[.slice (some ⟨g0, 0, none⟩) 2 2] w (SortP (if bb then [X, Y] else [Y, X]) w) := by
  have hnews : ∀ j u, ([Y, X].map sv)[j]? = some u → w.cell? ((⟨g0, 0, none⟩ : Addr).add j) = some u := by
    intro j u hu
    have hadd : (⟨g0, 0, none⟩ : Addr).add j = ⟨g0, j, none⟩ := by unfold Addr.add; split <;> simp_all
    rw [hadd]
    match j, hu with
    | 0, hu => rw [hc0]; exact hu
    | 1, hu => rw [hc1]; exact hu
    | j + 2, hu => simp at hu
  have HN := Lib.hid hnews
  obtain ⟨R, hR⟩ : ∃ R, R = (if bb then [X, Y] else [Y, X]) := ⟨_, rfl⟩
  rw [← hR]
  have HR := Lib.hid hR
  clear hnews hR hc0 hc1
  go_enter Tryd.func24, Tryd.ntmps24
  go_wp2_with (at_builtin; go_loud (refine append_strs _ rfl (.const (.slice none 0 0)) (.tmp 6) rfl w.heap.size _ [] [Y, X] rfl (ownsS_nil w w.heap.size) ⟨g0, 0, none⟩ 2 rfl HN.out (by simp) (Nat.le_refl _) ?_); go_loud (intro v' W1 hown' hg'; obtain ⟨g, cap, hv', hgB, hgl⟩ := hown'.form (by simp); subst hv'; have hb1 := (Below.refl w.heap.size w).grown hg' (Nat.le_refl _) (fun k e => by cases e)))
  have hw0 : IntKind.i64.wrap 0 = 0 := by decide
  have h0 : SortR [Y, X] w g cap W1 := ⟨hown', hb1⟩
  have H0 := Lib.hid h0
  clear h0 hg' hown' hb1
  go_loopw [4] (fun iv W => (iv = .int .i64 1 ∧ SortR [Y, X] w g cap W) ∨ (iv = .int .i64 2 ∧ SortR R w g cap W)) (fun iv _ => 2 - (intOf iv).toNat)
  case atStart => exact Or.inl ⟨rfl, H0.out⟩
  case round =>
    rcases hrel with ⟨rfl, hs⟩ | ⟨rfl, hs⟩
    · have HS := Lib.hid hs
      clear hs
      go_wp2_with fail
      go_hide hQ
      have HQ := Lib.hid hQ
      clear hQ
      go_loopw [5] (fun kv W => (kv = .int .i64 1 ∧ SortR [Y, X] w g cap W) ∨ (kv = .int .i64 0 ∧ SortR R w g cap W)) (fun kv _ => (intOf kv).toNat)
      case atStart => exact Or.inl ⟨rfl, HS.out⟩
      case round =>
        rcases hrel with ⟨rfl, hs⟩ | ⟨rfl, hs⟩
        · have k0 := (hs.1).cell rfl 0 (by decide)
          have k1 := (hs.1).cell rfl 1 (by decide)
          have k0' : wr.cell? ⟨g, 0, none⟩ = some (.string Y) := k0
          have k1' : wr.cell? ⟨g, 1, none⟩ = some (.string X) := k1
          have hsd : SortR [Y, X] w g cap wr.drew := ⟨hs.1, hs.2.drew⟩
          have HSS : Hid (∀ w', SortR [Y, X] w g cap w' → (w'.cell? ⟨g, 0, none⟩ = some (.string Y) ∧ w'.cell? ⟨g, 1, none⟩ = some (.string X) ∧ SortR [Y, X] w g cap w')) :=
            Lib.hid (fun w' h => ⟨(h.1).cell rfl 0 (by decide), (h.1).cell rfl 1 (by decide), h⟩)
          clear k0 k1 hs k0' k1'
          cases bb with
          | true =>
            go_wp2_with fail
            go_region_held3 (fun w' => w'.cell? ⟨g, 0, none⟩ = some (.string Y) ∧ w'.cell? ⟨g, 1, none⟩ = some (.string X) ∧ SortR [Y, X] w g cap w')
              (first
                | exact HSS.out _ hq
                | exact HSS.out _ hsd)
              (first
                | (go_at_call 40
                   (with_reducible refine (HB.out _).mono ?_)
                   rintro e w' ⟨rfl, hb⟩
                   have hq : SortR [Y, X] w g cap w' := SortR.below (by assumption) hb))
            rename_i hh
            clear hh hb
            obtain ⟨e0, e1, -⟩ := HSS.out _ hq
            have g0' := (hq.1).free rfl 0
            have g1' := (hq.1).free rfl 1
            obtain ⟨st1, gr1⟩ := (hq.1).stored rfl 1 Y
            obtain ⟨st2, gr2⟩ := st1.stored rfl 0 X
            have HST : Hid (ownsS ((w'.setCell ⟨g, 1, none⟩ (.string Y)).setCell ⟨g, 0, none⟩ (.string X)) w.heap.size (.slice (some ⟨g, 0, none⟩) 2 cap) R) := by
              rw [HR.out]
              exact st2
            have HBB : Hid (Below w.heap.size w ((w'.setCell ⟨g, 1, none⟩ (.string Y)).setCell ⟨g, 0, none⟩ (.string X))) := Lib.hid ((hq.2.setCell (p := ⟨g, 1, none⟩) hgB _).setCell (p := ⟨g, 0, none⟩) hgB _)
            clear st1 gr1 st2 gr2 HSS hsd
            clear hq
            go_wp2_with fail
            have e0d : w'.drew.cell? ⟨g, 0, none⟩ = some (.string Y) := e0
            have e1d : w'.drew.cell? ⟨g, 1, none⟩ = some (.string X) := e1
            have g0d : w'.drew.frozen? ⟨g, 0, none⟩ = false := g0'
            have g1d : w'.drew.frozen? ⟨g, 1, none⟩ = false := g1'
            have HSTd : Hid (ownsS ((w'.setCell ⟨g, 1, none⟩ (.string Y)).setCell ⟨g, 0, none⟩ (.string X)).drew w.heap.size (.slice (some ⟨g, 0, none⟩) 2 cap) R) := Lib.hid (ownsS.drew HST.out)
            have HBBd := Lib.hid (HBB.out.drew)
            clear e1 g1' HST HBB
            go_hide hQ2
            have HQ2 := Lib.hid hQ2
            clear hQ2
            refine wp_region_noPanic ?_
            go_region_law (fail)
            all_goals refine NoPanic.normal ?_
            all_goals
              generalize ((w'.setCell ⟨g, 1, none⟩ (.string Y)).setCell ⟨g, 0, none⟩ (.string X)).drew = W9 at HSTd HBBd ⊢
              clear e0 g0' e0d e1d g0d g1d
              rw [← HQ2.out]
              go_wp2
              go_roundw
              case rel => exact Or.inr ⟨rfl, HSTd.out, HBBd.out⟩
              case measure => simp [intOf]
          | false =>
            go_wp2_with fail
            go_region_held3 (fun w' => w'.cell? ⟨g, 0, none⟩ = some (.string Y) ∧ w'.cell? ⟨g, 1, none⟩ = some (.string X) ∧ SortR [Y, X] w g cap w')
              (first
                | exact HSS.out _ hq
                | exact HSS.out _ hsd)
              (first
                | (go_at_call 40
                   (with_reducible refine (HB.out _).mono ?_)
                   rintro e w' ⟨rfl, hb⟩
                   have hq : SortR [Y, X] w g cap w' := SortR.below (by assumption) hb))
            have HQQ : Hid (SortR R w g cap w') := Lib.hid (by rw [HR.out]; exact hq)
            clear HSS hsd
            clear hq
            go_wp2
            rw [← HQ.out]
            go_wp2
            go_roundw
            case rel => exact Or.inr ⟨rfl, HQQ.out⟩
            case measure => simp [intOf]
        · have HS2 := Lib.hid hs
          clear hs
          go_wp2_with fail
          go_quiet (fail)
          have HS3 : Hid (SortR R w g cap (wr.drewN nq)) := Lib.hid ⟨HS2.out.1, below_drewN HS2.out.2 _⟩
          clear HS2
          go_wp2
          rw [← HQ.out]
          go_wp2
          go_roundw
          case rel => exact Or.inr ⟨rfl, HS3.out⟩
          case measure => simp [intOf]
    · have HS := Lib.hid hs
      clear hs
      go_wp2_with fail
      go_ret
      exact ⟨_, rfl, HS.out.1, HS.out.2⟩
end Go.Proofs.YtkpiebcncjlgcaaDoor.Sem
