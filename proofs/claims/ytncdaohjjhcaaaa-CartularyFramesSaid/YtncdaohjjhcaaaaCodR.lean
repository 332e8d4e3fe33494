/- THE WALKS of the reader of bits: how it is filled. Conditions: the numbers. -/
import Derived.Test.YtncdaohjjhcaaaaCodNum
import Derived.Test.YtncdaohjjhcaaaaBytes
import Derived.BigQuiet
import Derived.Deep.QuietTactic
import Derived.StillTailTactics
import Derived.LoopTactic
namespace Go.Proofs.Ytncdaohjjhcaaaa
open Go.RowKit Sums
set_option linter.unusedVariables false

def rcell (w : World) (b : Nat) (s : ByteArray) (at_ h hv : Nat) (fr : Int) : Prop := w.heap[b]? = some (.cells #[.string s, .int .i64 (at_ : Int), .int .u64 (h : Int), .int .i64 (hv : Int), .int .i64 fr] 58 (0, 0))
def num (s : ByteArray) : Nat := litN s.data.toList
/-- p bits are read; at bytes are taken in, hv of their bits wait. -/
structure RIn (w : World) (b : Nat) (s : ByteArray) (p : Nat) (fr : Int) (at_ hv : Nat) : Prop where
  eq : 8 * at_ = p + hv
  le : at_ ≤ s.size
  small : hv ≤ 40
  cell : rcell w b s at_ (num s / 2 ^ p % 2 ^ hv) hv fr
def atOf (w : World) (b : Nat) : Nat := match w.cell? ⟨b, 1, none⟩ with | some (.int _ n) => n.toNat | _ => 0
theorem atOf_cell {w : World} {b : Nat} {s : ByteArray} {a h hv : Nat} {fr : Int} (hc : rcell w b s a h hv fr) : atOf w b = a := by
  unfold atOf
  rw [show w.cell? ⟨b, 1, none⟩ = some (.int .i64 (a : Int)) from (cell_at hc 1).trans rfl]
  rfl
theorem byte_num (s : ByteArray) (i : Nat) (h : i < s.size) : (s[i]).toNat = num s / 2 ^ (8 * i) % 256 := by
  have hl : s.data.toList.length = s.size := by simp
  have h1 := lits_litN s.data.toList
  have h2 : s.data.toList[i]'(by omega) = s[i] := by simp [ByteArray.getElem_eq_getElem_data]
  have h3 : (lits (litN s.data.toList) s.data.toList.length)[i]? = some (s[i]) := by
    rw [h1, List.getElem?_eq_getElem (by omega), h2]
  unfold lits at h3
  rw [List.getElem?_map, List.getElem?_range (by omega)] at h3
  have h4 := Option.some.inj h3
  rw [← h4, lb_toNat, show (256 : Nat) ^ i = 2 ^ (8 * i) by rw [Nat.pow_mul]]
  rfl
theorem num_lt (s : ByteArray) : num s < 2 ^ (8 * s.size) := by
  have := litN_lt' s.data.toList
  have hl : s.data.toList.length = s.size := by simp
  rwa [hl] at this
theorem fill_step (X p hv : Nat) : X / 2 ^ p % 2 ^ hv + X / 2 ^ (p + hv) % 256 * 2 ^ hv = X / 2 ^ p % 2 ^ (hv + 8) := by
  rw [Nat.pow_add 2 hv 8, Nat.mod_mul, Nat.pow_add, ← Nat.div_div_eq_div_mul, Nat.mul_comm (2 ^ hv)]

set_option maxRecDepth 100000 in
set_option maxHeartbeats 2000000 in
theorem fill_any (b n p : Nat) (s : ByteArray) (fr : Int) (at0 hv0 : Nat) (w : World) (h : RIn w b s p fr at0 hv0) (hn : n ≤ 32) (hs : s.size ≤ 1000000000) :
    Calls Try.prog 45 #[.pointer (some ⟨b, 0, none⟩), .int .i64 (n : Int)] w fun e w' => e = .returned (.tuple #[]) ∧ (∃ at1 hv1, RIn w' b s p fr at1 hv1 ∧ (n ≤ hv1 ∨ at1 = s.size)) ∧ w.grownBy w' (some b) := by
  have HR := Lib.hid h
  clear h
  go_enter Try.func45, Try.ntmps45
  go_wp2_with fail
  go_loopw [] (fun wr => ∃ at1 hv1, RIn wr b s p fr at1 hv1 ∧ w.grownBy wr (some b)) (fun wr => s.size - atOf wr b)
  case atStart => exact ⟨at0, hv0, HR.out, gb_refl _ _⟩
  case round =>
    obtain ⟨a, hv, hr, hg⟩ := hrel
    have HR1 := Lib.hid hr
    have HG1 := Lib.hid hg
    have c0 := cell_at hr.cell 0
    have c1 := cell_at hr.cell 1
    have c3 := cell_at hr.cell 3
    simp only [List.getElem?_toArray, List.getElem?_cons_zero, List.getElem?_cons_succ] at c0 c1 c3
    have hle := hr.le
    have hhv := hr.small
    by_cases h1 : hv < n
    · have h1i : (hv : Int) < (n : Int) := by omega
      by_cases h2 : a < s.size
      · have h2i : (a : Int) < (s.size : Int) := by omega
        have hmea := atOf_cell hr.cell
        have HME := Lib.hid hmea
        have hab : 8 * a = p + hv := hr.eq
        clear hr hg hmea
        go_wp2_with fail
        go_quiet (fail)
        clear c0 c1 c3
        have hrq : RIn (wr.drewN nq) b s p fr a hv := ⟨HR1.out.eq, HR1.out.le, HR1.out.small, HR1.out.cell⟩
        have hgq : w.grownBy (wr.drewN nq) (some b) := ⟨HG1.out.os, HG1.out.tape, HG1.out.output, HG1.out.size, HG1.out.block⟩
        have hcell := hrq.cell
        obtain ⟨H, hH⟩ : ∃ H, H = num s / 2 ^ p % 2 ^ hv := ⟨_, rfl⟩
        rw [← hH] at hcell
        have hHl : H < 2 ^ hv := by rw [hH]; exact Nat.mod_lt _ (Nat.two_pow_pos _)
        obtain ⟨y, hy⟩ : ∃ y : UInt8, y = s[a] := ⟨_, rfl⟩
        have hyn : y.toNat = num s / 2 ^ (p + hv) % 256 := by rw [hy, byte_num, hab]
        have hstep : H + y.toNat * 2 ^ hv = num s / 2 ^ p % 2 ^ (hv + 8) := by rw [hyn, hH, fill_step]
        have hyl := y.toNat_lt
        have hov : y.toNat * 2 ^ hv + H < 18446744073709551616 := by
          have h3 := pow_le' hv 32 (by omega)
          have h4 := Nat.mul_le_mul (show y.toNat ≤ 255 by omega) h3
          omega
        have hor := or_w H y.toNat hv hHl hov
        rw [hstep] at hor
        have hwy : IntKind.u64.wrap (y.toNat : Int) = (y.toNat : Int) := by rw [IntKind.wrap_u64]; omega
        obtain ⟨Z, hZ⟩ : ∃ Z, Z = num s / 2 ^ p % 2 ^ (hv + 8) := ⟨_, rfl⟩
        rw [← hZ] at hor
        have hset := heap_set (heap_set (heap_set (show (wr.drewN nq).drew.heap[b]? = _ from hcell) 2 (.int .u64 (Z : Int))) 1 (.int .i64 ((a : Int) + 1))) 3 (.int .i64 ((hv : Int) + 8))
        simp only [List.setIfInBounds_toArray, List.set_cons_zero, List.set_cons_succ] at hset
        have hgs := gb_set (gb_set (gb_set (gb_drew hgq) 2 (.int .u64 (Z : Int))) 1 (.int .i64 ((a : Int) + 1))) 3 (.int .i64 ((hv : Int) + 8))
        have HSET := Lib.hid hset
        have HGS := Lib.hid hgs
        have HZ := Lib.hid hZ
        have c0 := cell_at hcell 0
        have c1 := cell_at hcell 1
        have c2 := cell_at hcell 2
        have c3 := cell_at hcell 3
        simp only [List.getElem?_toArray, List.getElem?_cons_zero, List.getElem?_cons_succ] at c0 c1 c2 c3
        have d1 : (wr.drewN nq).drew.cell? ⟨b, 1, none⟩ = some (.int .i64 (a : Int)) := c1
        have d2 : (wr.drewN nq).drew.cell? ⟨b, 2, none⟩ = some (.int .u64 (H : Int)) := c2
        have d3 : (wr.drewN nq).drew.cell? ⟨b, 3, none⟩ = some (.int .i64 (hv : Int)) := c3
        have f1 : (wr.drewN nq).drew.frozen? ⟨b, 1, none⟩ = false := free_at hcell 1
        have f2 : (wr.drewN nq).drew.frozen? ⟨b, 2, none⟩ = false := free_at hcell 2
        have f3 : (wr.drewN nq).drew.frozen? ⟨b, 3, none⟩ = false := free_at hcell 3
        have hidx : s[a] = y := hy.symm
        have hw1 : IntKind.i64.wrap ((a : Int) + 1) = (a : Int) + 1 := IntWalk.i64_in _ (by omega)
        have hw8 : IntKind.i64.wrap ((hv : Int) + 8) = (hv : Int) + 8 := IntWalk.i64_in _ (by omega)
        have hv0 : (0 : Int) ≤ (hv : Int) := by omega
        have ha0 : (0 : Int) ≤ (a : Int) := by omega
        clear hrq hgq hcell hH hHl hy hyn hstep hyl hov hset hgs hZ
        generalize wr.drewN nq = W at c0 c1 c2 c3 d1 d2 d3 f1 f2 f3 HSET HGS ⊢
        go_wp2_with fail
        refine wp_region_still_tail 22 (by kernel_rfl) (by kernel_rfl) ?_
        simp only [List.take_succ_cons, List.take_zero, List.drop_succ_cons, List.drop_zero]
        repeat still_step
        refine wpStill_nil ?_
        change wpList _ _ _ _ _ W.drew
        clear c0 c1 c2 c3
        generalize W.drew = W0 at d1 d2 d3 f1 f2 f3 HSET HGS ⊢
        go_wp2
        have hfin : RIn (((W0.setCell ⟨b, 2, none⟩ (.int .u64 (Z : Int))).setCell ⟨b, 1, none⟩ (.int .i64 ((a : Int) + 1))).setCell ⟨b, 3, none⟩ (.int .i64 ((hv : Int) + 8))) b s p fr (a + 1) (hv + 8) := ⟨by omega, h2, by omega, by
          unfold rcell
          rw [← HZ.out]
          exact HSET.out⟩
        refine ⟨⟨a + 1, hv + 8, hfin, HGS.out⟩, ?_⟩
        rw [atOf_cell hfin.cell, HME.out]
        omega
      · have h2i : ¬ (a : Int) < (s.size : Int) := by omega
        have hend : a = s.size := by omega
        have E : RowKit.Hid (∀ nq : Nat, RIn (wr.drewN nq) b s p fr a hv ∧ w.grownBy (wr.drewN nq) (some b)) := Lib.hid (fun nq => ⟨⟨hr.eq, hr.le, hr.small, hr.cell⟩, ⟨hg.os, hg.tape, hg.output, hg.size, hg.block⟩⟩)
        have HEND := Lib.hid hend
        clear hr hg hend
        go_wp2_with fail
        go_quiet (fail)
        have E2 := Lib.hid (E.out nq)
        clear c0 c1 c3 E
        generalize wr.drewN nq = W at E2 ⊢
        go_wp2
        go_end0
        exact ⟨rfl, ⟨a, hv, E2.out.1, .inr HEND.out⟩, E2.out.2⟩
    · have h1i : ¬ (hv : Int) < (n : Int) := by omega
      have E : RowKit.Hid (∀ nq : Nat, RIn (wr.drewN nq) b s p fr a hv ∧ w.grownBy (wr.drewN nq) (some b)) := Lib.hid (fun nq => ⟨⟨hr.eq, hr.le, hr.small, hr.cell⟩, ⟨hg.os, hg.tape, hg.output, hg.size, hg.block⟩⟩)
      clear hr hg
      go_wp2_with fail
      go_quiet (fail)
      have E2 := Lib.hid (E.out nq)
      clear c0 c1 c3 E
      generalize wr.drewN nq = W at E2 ⊢
      go_wp2
      go_end0
      exact ⟨rfl, ⟨a, hv, E2.out.1, .inl (by omega)⟩, E2.out.2⟩
end Go.Proofs.Ytncdaohjjhcaaaa
