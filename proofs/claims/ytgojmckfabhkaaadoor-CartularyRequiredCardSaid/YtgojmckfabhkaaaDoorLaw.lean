/- THE END OF A LAW's PROOF: from 'below the first world's blocks nothing has turned' to what the row asks. No program in sight. No conditions. -/
import Derived.Test.YtgojmckfabhkaaaDoorRows
import Derived.WalkKit
import Derived.ProofKit
import Derived.OpenShut
import Derived.ShutString
import Derived.SizedLaws
namespace Go.Proofs.YtgojmckfabhkaaaDoor
open Go Go.RowKit

theorem post_of_below {H : Type} {enc : TypeId × Value → H} {P : Program} {f : Func} {s : ChangeSpec} {apart fresh handsOn : Bool} {W W' : World} {args : Array Value} {v : Value} {ds gs : List (DataW H)} {before pa pv : List MemPlace}
    (hW : DataW.Whole enc P f.params.toList s.vars apart W args.toList ds gs before)
    (hres : ∀ (b : Nat) (sp : Nat → Bool) (hd : Bool), DataW.TrodAll enc P W' b sp hd f.resultTypes.toList (v.resultList f.resultTypes.size) (s.fn H (ds ++ gs)).results [])
    (hargs : ∀ sp : Nat → Bool, (∀ p ∈ before, sp p.block = true) → DataW.TrodAll enc P W' 0 sp true f.params.toList args.toList (s.fn H (ds ++ gs)).args pa)
    (hvars : ∀ sp : Nat → Bool, (∀ p ∈ before, sp p.block = true) → DataW.TrodVars enc P W' sp s.vars (s.fn H (ds ++ gs)).vars pv)
    (hps : before = pa ++ pv) (hk : W.keptBut W' (· ∈ before)) : s.post enc P f apart fresh handsOn false W args v W' := by
  have hold : ∀ p ∈ before, (fun b => decide (b < W.heap.size)) p.block = true := fun p hp => by simpa using hW.lt p hp
  refine ⟨ds, gs, before, [], pa, pv, hW, hres _ _ _, hargs _ hold, hvars _ hold, World.keptBut_mono (fun p hp => ⟨hp, ?_⟩) hk, fun h => by cases h⟩
  rw [hps, List.mem_append] at hp
  exact Or.inr hp

/-- The same where an argument lies in memory: it is read again behind the call. -/
theorem post_of_below_mem {H : Type} {enc : TypeId × Value → H} {P : Program} {f : Func} {s : ChangeSpec} {apart fresh handsOn : Bool} {W W' : World} {args : Array Value} {v : Value} {ds gs : List (DataW H)} {before pa pv : List MemPlace}
    (hW : DataW.Whole enc P f.params.toList s.vars apart W args.toList ds gs before)
    (hres : ∀ (b : Nat) (sp : Nat → Bool) (hd : Bool), DataW.TrodAll enc P W' b sp hd f.resultTypes.toList (v.resultList f.resultTypes.size) (s.fn H (ds ++ gs)).results [])
    (hargs : DataW.TrodAll enc P W' 0 (fun b => decide (b < W.heap.size)) true f.params.toList args.toList (s.fn H (ds ++ gs)).args pa)
    (hvars : ∀ sp : Nat → Bool, (∀ p ∈ before, sp p.block = true) → DataW.TrodVars enc P W' sp s.vars (s.fn H (ds ++ gs)).vars pv)
    (hps : before = pa ++ pv) (hk : W.keptBut W' (· ∈ before)) : s.post enc P f apart fresh handsOn false W args v W' := by
  have hold : ∀ p ∈ before, (fun b => decide (b < W.heap.size)) p.block = true := fun p hp => by simpa using hW.lt p hp
  refine ⟨ds, gs, before, [], pa, pv, hW, hres _ _ _, hargs, hvars _ hold, World.keptBut_mono (fun p hp => ⟨hp, ?_⟩) hk, fun h => by cases h⟩
  rw [hps, List.mem_append] at hp
  exact Or.inr hp

end Go.Proofs.YtgojmckfabhkaaaDoor
namespace Go.Proofs.YtgojmckfabhkaaaDoor
open Go Go.RowKit Go.ChangeShapes
theorem laidOut : laidOutB Tryd.prog = true := by kernel_rfl
theorem own : ownKnob Tryd.prog.godebug = none := by kernel_rfl

/-- A slice of strings that came in, nil or not: its elements. -/
structure StrsIn (w : World) (A : Option Addr) (n cap : Nat) (ss : List ByteArray) : Prop where
  len : ss.length = n
  le : n ≤ cap
  cap : cap ≤ maxLen
  at_ : ∀ i, i < n → ∃ ad, A = some ad ∧ ad.block < w.heap.size ∧ w.cell? (ad.add i) = some (.string (ss.getD i ByteArray.empty))
  size : ∀ i, i < n → (ss.getD i ByteArray.empty).size ≤ maxLen

theorem strsIn_of {H : Type} {enc : TypeId × Value → H} {w : World} {spare : Nat → Bool} {held : Bool} {A : Option Addr} {n cap fuel : Nat} {x : DataW H × List MemPlace}
    (hc : Tryd.prog.cellsOf 9 = 1) (h : DataW.trod enc Tryd.prog w 0 spare held fuel 28 [.slice A n cap] = some x) : ∃ ss, StrsIn w A n cap ss := by
  rcases open_strings Tryd.underlying28 Tryd.underlying9 hc h with ⟨hcs, hx⟩ | ⟨a, len', cap', ss, hcs, _, hl, hm, hz, hx, hcell, hws⟩
  · simp only [List.cons.injEq, Value.slice.injEq, and_true] at hcs
    obtain ⟨rfl, rfl, rfl⟩ := hcs
    exact ⟨[], rfl, Nat.le_refl _, Nat.zero_le _, fun i hi => absurd hi (by omega), fun i hi => absurd hi (by omega)⟩
  · simp only [List.cons.injEq, Value.slice.injEq, and_true] at hcs
    obtain ⟨rfl, rfl, rfl⟩ := hcs
    have hn : n ≤ ss.length := by rw [hz]; split <;> omega
    have hb : 0 < n → a.block < w.heap.size := by
      intro h0
      have h := World.block_lt_of_cell? w (a.add 0) (hcell 0 (by omega))
      unfold Addr.add at h
      simpa using h
    refine ⟨ss.take n, by simp; omega, hl, hm, ?_, ?_⟩
    · intro i hi
      refine ⟨a, rfl, hb (by omega), ?_⟩
      have e : (ss.take n).getD i ByteArray.empty = ss.getD i ByteArray.empty := by simp [List.getD, List.getElem?_take, hi]
      rw [e]
      exact hcell i (by omega)
    · intro i hi
      have e : (ss.take n).getD i ByteArray.empty = ss.getD i ByteArray.empty := by simp [List.getD, List.getElem?_take, hi]
      rw [e]
      have hi' : i < ss.length := by omega
      have e2 : ss.getD i ByteArray.empty = ss[i] := by simp [List.getD, hi']
      rw [e2]
      exact hws _ (List.getElem_mem hi')
end Go.Proofs.YtgojmckfabhkaaaDoor
