/- THE WALKS of the writer of bits. Conditions: the numbers. -/
import Derived.Test.YtncdaohjjhcaaaaKt
import Derived.Test.YtncdaohjjhcaaaaCodNum
import Derived.Test.YtncdaohjjhcaaaaBytesStr
import Derived.StillTailTactics
import Derived.Deep.RegionLaw
import Derived.Deep.DeepCutAuto
import Derived.Deep.CutBlock
namespace Go.Proofs.Ytncdaohjjhcaaaa
open Go.RowKit Sums
set_option linter.unusedVariables false

def wcell (w : World) (b : Nat) (v : Value) (h n : Nat) : Prop := w.heap[b]? = some (.cells #[v, .int .u64 (h : Int), .int .i64 (n : Int)] 34 (0, 0))
/-- What was written so far. -/
structure WAt (w : World) (b B : Nat) (v : Value) (a : St) : Prop where
  ok : a.ok
  cell : wcell w b v (a.v / 2 ^ (8 * (a.n / 8))) (a.n % 8)
  own : ownsB w B v (lits a.v (a.n / 8))
def haveOf (w : World) (b : Nat) : Nat := match w.cell? ⟨b, 2, none⟩ with | some (.int _ n) => n.toNat | _ => 0

theorem haveOf_cell {w : World} {b : Nat} {v : Value} {y m : Nat} (h : wcell w b v y m) : haveOf w b = m := by
  unfold haveOf
  rw [show w.cell? ⟨b, 2, none⟩ = some (.int .i64 (m : Int)) from (cell_at h 2).trans rfl]
  rfl

set_option maxRecDepth 100000 in
set_option maxHeartbeats 2000000 in
theorem wbits_any (b B x k : Nat) (v : Value) (a : St) (w : World) (h : WAt w b B v a) (hB : B ≤ w.heap.size) (hns : a.n ≤ 1000000000) (hk : k ≤ 32) (hx : x < 2 ^ 32) :
    Calls Try.prog 19 #[.pointer (some ⟨b, 0, none⟩), .int .u32 (x : Int), .int .i64 (k : Int)] w fun e w' => e = .returned (.tuple #[]) ∧ (∃ v', WAt w' b B v' (a.put k (x % 2 ^ k))) ∧ Kt 5 b B w w' := by
  have HW := Lib.hid h
  have c1 := cell_at h.cell 1
  have c2 := cell_at h.cell 2
  simp only [List.getElem?_toArray, List.getElem?_cons_zero, List.getElem?_cons_succ] at c1 c2
  have f1 := free_at h.cell 1
  have f2 := free_at h.cell 2
  have hr := rest_lt h.ok
  have hrp := rest_put a k (x % 2 ^ k)
  have hlp := lits_put a h.ok k (x % 2 ^ k)
  have hpo : (a.put k (x % 2 ^ k)).ok := St.put_ok h.ok (Nat.mod_lt _ (Nat.two_pow_pos k))
  have hn8 : a.n % 8 < 8 := Nat.mod_lt _ (by decide)
  have hnn : (a.put k (x % 2 ^ k)).n = 8 * (a.n / 8) + (a.n % 8 + k) := by show a.n + k = _; omega
  have hown := h.own
  rw [← hlp] at hown
  have hcell := h.cell
  obtain ⟨A, hA⟩ : ∃ A, A = a.put k (x % 2 ^ k) := ⟨_, rfl⟩
  rw [← hA] at hrp hown hpo hnn ⊢
  obtain ⟨H, hH⟩ : ∃ H, H = a.v / 2 ^ (8 * (a.n / 8)) := ⟨_, rfl⟩
  obtain ⟨n0, hn0⟩ : ∃ n0, n0 = a.n % 8 := ⟨_, rfl⟩
  obtain ⟨q, hq⟩ : ∃ q, q = a.n / 8 := ⟨_, rfl⟩
  rw [← hq] at hrp hown hnn hH hcell
  rw [← hn0] at hr hrp hn8 hnn hcell c2
  rw [← hq] at hr c1
  rw [← hH] at hr hrp c1 hcell
  have hv1 := put_w H x k n0 hr hn8 hk (by omega)
  rw [← hrp] at hv1
  obtain ⟨Z, hZ⟩ : ∃ Z, Z = A.v / 2 ^ (8 * q) := ⟨_, rfl⟩
  rw [← hZ] at hv1
  have hk0 : (0 : Int) ≤ (k : Int) := by omega
  have hk1 : (k : Int) ≤ 32 := by omega
  have hn1 : (n0 : Int) < 8 := by omega
  have hw1 : IntKind.i64.wrap ((n0 : Int) + (k : Int)) = (n0 : Int) + (k : Int) := IntWalk.i64_in _ (by omega)
  have hset := heap_set (heap_set hcell 1 (.int .u64 (Z : Int))) 2 (.int .i64 ((n0 : Int) + (k : Int)))
  simp only [List.setIfInBounds_toArray, List.set_cons_zero, List.set_cons_succ] at hset
  have HSET := Lib.hid (fun (W : World) (hW : W.heap = w.heap) => heap_set (heap_set (show W.heap[b]? = _ by rw [hW]; exact hcell) 1 (.int .u64 (Z : Int))) 2 (.int .i64 ((n0 : Int) + (k : Int))))
  have HOWN := Lib.hid hown
  have HPO := Lib.hid hpo
  have HNN := Lib.hid hnn
  have HZ := Lib.hid hZ
  have HCELL := Lib.hid hcell
  have hne := row_ne hown hcell (by decide)
  have HNE := Lib.hid hne
  have HQS : RowKit.Hid (q ≤ 1000000000 ∧ n0 + k < 40) := Lib.hid ⟨by omega, by omega⟩
  clear h hr hrp hlp hpo hnn hown hcell hH hn0 hq hZ hset hne hA hn8
  go_enter Try.func19, Try.ntmps19
  go_wp2_with fail
  refine wp_region_still_tail 18 (by kernel_rfl) (by kernel_rfl) ?_
  simp only [List.take_succ_cons, List.take_zero, List.drop_succ_cons, List.drop_zero]
  repeat still_step
  refine wpStill_nil ?_
  change wpList _ _ _ _ _ w.drew
  have d1 : w.drew.cell? ⟨b, 1, none⟩ = some (.int .u64 (H : Int)) := c1
  have d2 : w.drew.cell? ⟨b, 2, none⟩ = some (.int .i64 (n0 : Int)) := c2
  have g1 : w.drew.frozen? ⟨b, 1, none⟩ = false := f1
  have g2 : w.drew.frozen? ⟨b, 2, none⟩ = false := f2
  have hww : w.drew.heap = w.heap := rfl
  have HE := HSET.out w.drew hww
  simp only [List.setIfInBounds_toArray, List.set_cons_zero, List.set_cons_succ] at HE
  have HE2 := Lib.hid HE
  have HK := Lib.hid (kt_set (kt_set (kt_drew (kt_refl 5 b B w)) 1 (.int .u64 (Z : Int))) 2 (.int .i64 ((n0 : Int) + (k : Int))))
  have HO := Lib.hid (show ownsB ((w.drew.setCell ⟨b, 1, none⟩ (.int .u64 (Z : Int))).setCell ⟨b, 2, none⟩ (.int .i64 ((n0 : Int) + (k : Int)))) B v (lits A.v q) from HOWN.out.kept (row := some b) (gb_set (gb_set (gb_drew (gb_refl w _)) 1 _) 2 _) (.inr HNE.out))
  clear HE hww c1 c2 f1 f2
  have hnk : ((n0 + k : Nat) : Int) = (n0 : Int) + (k : Int) := by omega
  have HNK := Lib.hid hnk
  clear hnk
  generalize w.drew = W0 at d1 d2 g1 g2 HE2 HK HO ⊢
  go_wp2_with fail
  go_loopw [] (fun wr => ∃ (j : Nat) (v' : Value), 8 * j ≤ n0 + k ∧ wcell wr b v' (A.v / 2 ^ (8 * (q + j))) (n0 + k - 8 * j) ∧ ownsB wr B v' (lits A.v (q + j)) ∧ B ≤ wr.heap.size ∧ Kt 5 b B w wr) (fun wr => haveOf wr b)
  case atStart =>
    refine ⟨0, v, by omega, ?_, HO.out, ?_, HK.out⟩
    · unfold wcell
      rw [Nat.mul_zero, Nat.sub_zero, HNK.out]
      rw [Nat.add_zero, ← HZ.out]
      exact HE2.out
    · exact Nat.le_trans hB HK.out.size
  case round =>
    obtain ⟨j, v1, hj, hc, ho, hBs, hk1⟩ := hrel
    have e2 := cell_at hc 2
    simp only [List.getElem?_toArray, List.getElem?_cons_zero, List.getElem?_cons_succ] at e2
    obtain ⟨m, hm⟩ : ∃ m, m = n0 + k - 8 * j := ⟨_, rfl⟩
    rw [← hm] at hc e2
    have HM := Lib.hid hm
    by_cases h8 : 8 ≤ m
    · obtain ⟨Y, hY⟩ : ∃ Y, Y = A.v / 2 ^ (8 * (q + j)) := ⟨_, rfl⟩
      obtain ⟨C, hC⟩ : ∃ C, C = lb A.v (q + j) := ⟨_, rfl⟩
      obtain ⟨Y2, hY2⟩ : ∃ Y, Y = A.v / 2 ^ (8 * (q + j + 1)) := ⟨_, rfl⟩
      have hbv : (Y : Int) % 256 = (C.toNat : Int) := by rw [hY, hC]; exact byte_lits _ _
      have hbv2 : IntKind.u8.wrap (Y : Int) = (C.toNat : Int) := hbv
      have hyv : (Y : Int) / 256 = (Y2 : Int) := by
        rw [hY, hY2, ← shr8]
        omega
      have hls : lits A.v (q + (j + 1)) = lits A.v (q + j) ++ [C] := by rw [hC, ← Nat.add_assoc, lits_succ]
      have HLS := Lib.hid hls
      have HY2 := Lib.hid hY2
      rw [← hY] at hc
      have e0 := cell_at hc 0
      have e1 := cell_at hc 1
      simp only [List.getElem?_toArray, List.getElem?_cons_zero, List.getElem?_cons_succ] at e0 e1
      have hgo := haveOf_cell hc
      have hnw := row_ne ho hc (by decide)
      have HCS : RowKit.Hid (∀ w', wr.grownBy w' v1.ownBlock → wcell w' b v1 Y m) := Lib.hid (fun w' hg => gb_heap hg hc (fun e => hnw e.symm))
      have hal := HCS.out _ (gb_alloc (gb_refl wr _) (.cells #[.int .u8 (C.toNat : Int)] 5))
      have d0 := cell_at hal 0
      have d1 := cell_at hal 1
      have d2 := cell_at hal 2
      simp only [List.getElem?_toArray, List.getElem?_cons_zero, List.getElem?_cons_succ] at d0 d1 d2
      have HNC := Lib.hid (new_cells wr [C] 5)
      have hlen : (lits A.v (q + j)).length + [C].length ≤ 140737488355328 := by
        rw [lits_length]
        simp
        have := HQS.out
        omega
      have hB1 : B ≤ ((wr.alloc (.cells #[.int .u8 (C.toNat : Int)] 5)).drew).heap.size := by
        show B ≤ (wr.alloc _).heap.size
        rw [World.size_alloc]
        omega
      have HO1 := Lib.hid ho
      have HK1 := Lib.hid hk1
      have HB1 := Lib.hid hB1
      have HLN := Lib.hid hlen
      have hm8 : (8 : Int) ≤ (m : Int) := by omega
      have hw8 : IntKind.i64.wrap ((m : Int) - 8) = (m : Int) - 8 := IntWalk.i64_in _ (by have := HM.out; have := HQS.out; omega)
      clear hm hY hC hY2 hls hc ho hal hnw hlen hk1 hB1
      go_wp2_with fail
      go_region_law (first
        | (refine step_append_bytes (by rfl) (.tmp 47) (.tmp 53) (by rfl) B v1 (lits A.v (q + j)) [C] (by rfl) ((HO1.out.alloc _).drew) ⟨wr.heap.size, 0, none⟩ 1 (by rfl) HNC.out HLN.out HB1.out ?_
           intro v2 w2 hown2 hg2
           obtain ⟨A2, m2, p2, rfl⟩ := row_shape hown2
           have G := gb_trans (gb_drew (gb_alloc (gb_refl wr v1.ownBlock) (.cells #[.int .u8 (C.toNat : Int)] 5))) hg2
           have hc2 := HCS.out _ G
           have r0 := cell_at hc2 0
           simp only [List.getElem?_toArray, List.getElem?_cons_zero, List.getElem?_cons_succ] at r0
           have s0 := free_at hc2 0))
      all_goals
        have hs1 := heap_set hc2 0 (.slice A2 m2 p2)
        simp only [List.setIfInBounds_toArray, List.set_cons_zero, List.set_cons_succ] at hs1
        have ho3 : ownsB (w2.setCell ⟨b, 0, none⟩ (.slice A2 m2 p2)) B (.slice A2 m2 p2) (lits A.v (q + j) ++ [C]) := hown2.kept (row := some b) (gb_set (gb_refl w2 _) 0 _) (.inr (row_ne hown2 hc2 (by decide)))
        have k3 : Kt 5 b B w (w2.setCell ⟨b, 0, none⟩ (.slice A2 m2 p2)) := kt_set (kt_gb (kt_drew (kt_alloc HK1.out (.cells #[.int .u8 (C.toNat : Int)] 5))) ((HO1.out.alloc _).drew) hg2) 0 _
        have hsz3 : B ≤ (w2.setCell ⟨b, 0, none⟩ (.slice A2 m2 p2)).heap.size := by
          have := G.size
          have h2 : w2.heap.size = (w2.setCell ⟨b, 0, none⟩ (.slice A2 m2 p2)).heap.size := by simp [World.setCell]
          omega
        rw [← HLS.out] at ho3
        generalize w2.setCell ⟨b, 0, none⟩ (.slice A2 m2 p2) = W3 at hs1 ho3 k3 hsz3 ⊢
        have i1 := cell_at hs1 1
        have i2 := cell_at hs1 2
        simp only [List.getElem?_toArray, List.getElem?_cons_zero, List.getElem?_cons_succ] at i1 i2
        have j1 := free_at hs1 1
        have j2 := free_at hs1 2
        have hs2 := heap_set (heap_set hs1 1 (.int .u64 (Y2 : Int))) 2 (.int .i64 ((m : Int) - 8))
        simp only [List.setIfInBounds_toArray, List.set_cons_zero, List.set_cons_succ] at hs2
        have ho4 : ownsB ((W3.setCell ⟨b, 1, none⟩ (.int .u64 (Y2 : Int))).setCell ⟨b, 2, none⟩ (.int .i64 ((m : Int) - 8))) B (.slice A2 m2 p2) (lits A.v (q + (j + 1))) := ho3.kept (row := some b) (gb_set (gb_set (gb_refl W3 _) 1 _) 2 _) (.inr (row_ne ho3 hs1 (by decide)))
        have k4 := kt_set (kt_set k3 1 (.int .u64 (Y2 : Int))) 2 (.int .i64 ((m : Int) - 8))
        have hsz4 : B ≤ ((W3.setCell ⟨b, 1, none⟩ (.int .u64 (Y2 : Int))).setCell ⟨b, 2, none⟩ (.int .i64 ((m : Int) - 8))).heap.size := by simpa [World.setCell] using hsz3
        have HS2 := Lib.hid hs2
        have HO4 := Lib.hid ho4
        have HK4 := Lib.hid k4
        have HZ4 := Lib.hid hsz4
        have HG1 := Lib.hid hgo
        clear hs1 ho3 k3 hsz3 hs2 ho4 k4 hsz4 hown2 hg2 G hc2 r0 s0 d0 d1 d2 e0 e1 e2 hbv hbv2 hgo
        go_wp2
        have hm9 : ((m - 8 : Nat) : Int) = (m : Int) - 8 := by omega
        have hw9 : wcell ((W3.setCell ⟨b, 1, none⟩ (.int .u64 (Y2 : Int))).setCell ⟨b, 2, none⟩ (.int .i64 ((m : Int) - 8))) b (.slice A2 m2 p2) (A.v / 2 ^ (8 * (q + (j + 1)))) (n0 + k - 8 * (j + 1)) := by
          unfold wcell
          rw [show n0 + k - 8 * (j + 1) = m - 8 by have := HM.out; omega, hm9, ← Nat.add_assoc, ← HY2.out]
          exact HS2.out
        refine ⟨⟨j + 1, .slice A2 m2 p2, by have := HM.out; omega, hw9, HO4.out, HZ4.out, HK4.out⟩, ?_⟩
        rw [haveOf_cell hw9]
        have := HG1.out
        have := HM.out
        omega
    · have hj2 : q + j = A.n / 8 := by
        have := HNN.out
        omega
      have hm2 : m = A.n % 8 := by
        have := HNN.out
        omega
      have hm8 : ¬ (8 : Int) ≤ (m : Int) := by omega
      rw [hj2, hm2] at hc
      rw [hj2] at ho
      have E := Lib.hid (And.intro hc (And.intro ho hk1))
      clear hc ho hk1 hm hj2
      go_wp2
      go_end0
      obtain ⟨x1, x2, x3⟩ := E.out
      exact ⟨rfl, ⟨v1, HPO.out, x1, x2⟩, x3⟩
end Go.Proofs.Ytncdaohjjhcaaaa
