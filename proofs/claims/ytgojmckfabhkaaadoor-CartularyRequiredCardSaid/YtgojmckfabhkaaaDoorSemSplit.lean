/- strings.SplitSeq AT A FULL STOP: the iterator, told by what it has still to say. Conditions: the text is no longer than a million bytes. -/
import Derived.RangeFuncNested
import Derived.RangeFuncBound
import Derived.RangeFuncCalls
import Derived.RangeFuncLeaves
import Derived.Shelf.Abstract
import Derived.Shelf.RegionOpen
import Derived.WalkKit
import Derived.OwnWalkIn
import Derived.TacticsInMore
import Derived.LoopNIn
import Derived.LoopIn
import Derived.Lib.Hide
import Derived.Test.YtgojmckfabhkaaaDoorSemPlain
namespace Go.Proofs.YtgojmckfabhkaaaDoor.Sem
open Go Go.RowKit Go.Shelf
set_option linter.unusedVariables false
attribute [local go_sem] Oper.semAt_some

/-- How much the iterator has still to say. -/
def leftS (B : Nat) (W : World) : Nat := match W.cell? ⟨B, 0, none⟩ with | some (.string s) => s.size | _ => 0

theorem leftS_at {B : Nat} {W : World} {s : ByteArray} (h : W.cell? ⟨B, 0, none⟩ = some (.string s)) : leftS B W = s.size := by unfold leftS; rw [h]

set_option maxRecDepth 100000 in
set_option maxHeartbeats 2000000 in
theorem split_run (hIdx : ∀ (s : ByteArray) (c : UInt8) (w : World), Calls Tryd.prog 36 #[.string s, .string ⟨#[c]⟩] w fun e w' => e = .returned (.int .i64 (Lib.indexByte s.data.toList c)) ∧ w' = w)
    (n l Bp Bs Bv : Nat) (hn : 1 ≤ n) (Q : Bool → List UInt8 → World → Prop) (Qd Qx : World → Prop)
    (hc : ∀ d r W, Q d r W → r.length ≤ 1000000 ∧ W.cell? ⟨Bs, 0, none⟩ = some (.string (tx r)) ∧ W.frozen? ⟨Bs, 0, none⟩ = false ∧ W.cell? ⟨Bp, 0, none⟩ = some (.string ⟨#[46]⟩) ∧ W.cell? ⟨Bv, 0, none⟩ = some (.int .i64 0))
    (hd : ∀ d r W, Q d r W → Q d r W.drew)
    (hy : ∀ r W, Q false r W → YieldAt Fence.wide (n - 1) Tryd.prog l #[.string (tx (cutA 46 r))] W fun e W' => (e = .returned (.bool true) ∧ ((46 ∈ r → Q true r W') ∧ (46 ∉ r → Qd W'))) ∨ (e = .returned (.bool false) ∧ Qx W'))
    (hs : ∀ a b W, 46 ∉ a → Q true (a ++ 46 :: b) W → Q false b (W.setCell ⟨Bs, 0, none⟩ (.string (tx b))))
    (r0 : List UInt8) (W0 : World) (h0 : Q false r0 W0) :
    CallsIn Fence.wide n Tryd.prog 80 #[.func (.yield l) #[] #[], .pointer (some ⟨Bp, 0, none⟩), .pointer (some ⟨Bs, 0, none⟩), .pointer (some ⟨Bv, 0, none⟩)] W0
      fun e W' => (∃ v, e = .returned v) ∧ (Qd W' ∨ Qx W') := by
  have hmix : Tryd.prog.follows .mixedOrders = true := by kernel_rfl
  obtain ⟨-, c1, c2, c3, c4⟩ := hc _ r0 W0 h0
  refine callsIn_of_wp Tryd.func80 rfl trivial ?_ rfl
  simp only [Tryd.ntmps80, List.size_toArray, List.length_cons, List.length_nil, Nat.reduceAdd, Nat.reduceSub, Array.replicate_succ, Array.replicate_zero, List.push_toArray, List.append_toArray, List.nil_append, List.cons_append]
  gi_wp2

  gi_loopw [7] (fun p wr => ∃ r, Q false r wr) (fun p wr => leftS Bs wr)
  case atStart => exact ⟨r0, h0⟩
  case round =>
    obtain ⟨r, hr⟩ := hrel
    obtain ⟨hlen, d1, d2, d3, d4⟩ := hc _ _ _ hr
    have hmz : Tryd.prog.follows .mixedOrders = true := hmix
    by_cases hm : (46 : UInt8) ∈ r
    · obtain ⟨a, b, rfl, hna⟩ := mem_cut 46 r hm
      have hix : Lib.indexByte (tx (a ++ 46 :: b)).data.toList 46 = (a.length : Int) := by rw [tx_list]; exact idx_at 46 a b hna
      have hsz : (tx (a ++ 46 :: b)).size = a.length + 1 + b.length := by rw [tx_size]; simp; omega
      have hyy := hy _ _ hr
      rw [(cutA_at 46 a b hna).1] at hyy
      obtain ⟨fn, tmps, assign, body, hyr, hR⟩ := hyy
      have e1 : (tx (a ++ 46 :: b)).extract 0 a.length = tx a := by rw [tx_extract]; simp
      have e2 : (tx (a ++ 46 :: b)).extract (a.length + 1) (a.length + 1 + b.length) = tx b := by
        rw [tx_extract, List.take_of_length_le (by simp; omega), show a ++ 46 :: b = (a ++ [46]) ++ b by simp, List.drop_left' (by simp)]
      have hlen' : a.length + 1 + b.length ≤ 1000000 := by simp at hlen; omega
      obtain ⟨S, hS⟩ : ∃ S, S = tx (a ++ 46 :: b) := ⟨_, rfl⟩
      rw [← hS] at hix hsz e1 e2 d1
      have HS := Lib.hid hS
      clear hS hlen
      gi_wp2_with (refine ⟨trivial, ?_⟩; gi_at_call 36; refine (callsIn_wide.2 (hIdx _ _ _)).mono ?_; rintro e w' ⟨rfl, rfl⟩)
      refine hR.mono ?_
      rintro e W3 (⟨rfl, hq3, -⟩ | ⟨rfl, hx3⟩)
      · have hq4 := hq3 (by simp)
        obtain ⟨-, f1, f2, f3, f4⟩ := hc _ _ _ hq4
        rw [← HS.out] at f1
        have HF1 := Lib.hid (leftS_at f1)
        have HQ := Lib.hid (hs a b W3 hna hq4)
        gi_wp2
        go_roundw
        case rel => exact ⟨b, HQ.out⟩
        case measure =>
          have g1 := (hc _ _ _ HQ.out).2.1
          rw [leftS_at g1, leftS_at d1, tx_size, hsz]
          omega
      · gi_wp2
        refine bodyPost_ret (results_none rfl _ _ _) rfl ?_
        exact ⟨⟨_, rfl⟩, .inr hx3⟩
    · have hix : Lib.indexByte (tx r).data.toList 46 = -1 := by rw [tx_list]; exact idx_no 46 r hm
      obtain ⟨fn, tmps, assign, body, hyr, hR⟩ := hy _ _ hr
      rw [(cutA_no 46 r hm).1] at hyr
      gi_wp2_with (refine ⟨trivial, ?_⟩; gi_at_call 36; refine (callsIn_wide.2 (hIdx _ _ _)).mono ?_; rintro e w' ⟨rfl, rfl⟩)
      refine hR.mono ?_
      rintro e W3 (⟨rfl, -, hq3⟩ | ⟨rfl, hx3⟩)
      · have hq4 := hq3 hm
        gi_wp2
        go_end0
        exact ⟨⟨_, rfl⟩, .inl hq4⟩
      · gi_wp2
        go_end0
        exact ⟨⟨_, rfl⟩, .inr hx3⟩
end Go.Proofs.YtgojmckfabhkaaaDoor.Sem
