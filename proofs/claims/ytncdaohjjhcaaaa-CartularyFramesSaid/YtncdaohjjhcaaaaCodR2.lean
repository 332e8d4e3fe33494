/- THE WALKS of the reader of bits. Conditions: the numbers. -/
import Derived.Test.YtncdaohjjhcaaaaCodR
namespace Go.Proofs.Ytncdaohjjhcaaaa
open Go.RowKit Sums
set_option linter.unusedVariables false

def RAt (w : World) (b : Nat) (s : ByteArray) (p : Nat) (fr : Int) : Prop := ∃ a hv, RIn w b s p fr a hv
theorem rin_drewN {w : World} {b p a hv : Nat} {s : ByteArray} {fr : Int} (h : RIn w b s p fr a hv) (n : Nat) : RIn (w.drewN n) b s p fr a hv := ⟨h.eq, h.le, h.small, h.cell⟩
theorem gb_drewN {w w1 : World} {r : Option Nat} (h : w.grownBy w1 r) (n : Nat) : w.grownBy (w1.drewN n) r := ⟨h.os, h.tape, h.output, h.size, h.block⟩
theorem rat_gb {w w' : World} {b p : Nat} {s : ByteArray} {fr : Int} {r : Option Nat} (h : RAt w b s p fr) (hg : w.grownBy w' r) (hr : some b ≠ r) : RAt w' b s p fr := by
  obtain ⟨a, hv, h⟩ := h
  exact ⟨a, hv, h.eq, h.le, h.small, gb_heap hg h.cell hr⟩
/-- What waits, cut to n bits. -/
theorem wait_mod {w : World} {b p a hv : Nat} {s : ByteArray} {fr : Int} (h : RIn w b s p fr a hv) (n : Nat) (hn : n ≤ hv ∨ a = s.size) : num s / 2 ^ p % 2 ^ hv % 2 ^ n = num s / 2 ^ p % 2 ^ n := by
  rcases hn with hn | hn
  · exact Nat.mod_mod_of_dvd _ (Nat.pow_dvd_pow 2 hn)
  · have h1 := num_lt s
    have h2 := h.eq
    rw [← hn, h2, Nat.pow_add] at h1
    have h3 : num s / 2 ^ p < 2 ^ hv := by rw [Nat.div_lt_iff_lt_mul (Nat.two_pow_pos _), Nat.mul_comm]; exact h1
    rw [Nat.mod_eq_of_lt h3]
theorem wait_shr (X p hv n : Nat) (h : n ≤ hv) : X / 2 ^ p % 2 ^ hv / 2 ^ n = X / 2 ^ (p + n) % 2 ^ (hv - n) := by
  obtain ⟨d, rfl⟩ : ∃ d, hv = n + d := ⟨hv - n, by omega⟩
  rw [Nat.pow_add 2 n d, Nat.mod_mul_right_div_self, Nat.div_div_eq_div_mul, ← Nat.pow_add, Nat.add_sub_cancel_left]
theorem wait_lt {w : World} {b p a hv : Nat} {s : ByteArray} {fr : Int} (h : RIn w b s p fr a hv) : num s / 2 ^ p % 2 ^ hv < 1099511627776 :=
  Nat.lt_of_lt_of_le (Nat.mod_lt _ (Nat.two_pow_pos _)) (pow_le' hv 40 h.small)

set_option maxRecDepth 100000 in
set_option maxHeartbeats 1000000 in
theorem peek_any (b n p : Nat) (s : ByteArray) (fr : Int) (w : World) (h : RAt w b s p fr) (hn : n ≤ 32) (hs : s.size ≤ 1000000000) :
    Calls Try.prog 31 #[.pointer (some ⟨b, 0, none⟩), .int .i64 (n : Int)] w fun e w' => (∃ k : Int, e = .returned (.tuple #[.int .u32 ((num s / 2 ^ p % 2 ^ n : Nat) : Int), .int .i64 k])) ∧ RAt w' b s p fr ∧ w.grownBy w' (some b) := by
  obtain ⟨a0, hv0, h⟩ := h
  have C := Lib.hid (fill_any b n p s fr a0 hv0 w h hn hs)
  have hn0 : (0 : Int) ≤ (n : Int) := by omega
  have hn1 : (n : Int) ≤ 32 := by omega
  obtain ⟨X, hX⟩ : ∃ X, X = num s / 2 ^ p % 2 ^ n := ⟨_, rfl⟩
  rw [← hX]
  have HX := Lib.hid hX
  clear h hX
  go_enter Try.func31, Try.ntmps31
  go_wp2_with fail
  refine (C.out).mono ?_
  rintro e w1 ⟨rfl, ⟨a, hv, hr, hend⟩, hg⟩
  have c2 := cell_at hr.cell 2
  have c3 := cell_at hr.cell 3
  simp only [List.getElem?_toArray, List.getElem?_cons_zero, List.getElem?_cons_succ] at c2 c3
  have hlt := wait_lt hr
  have hm := wait_mod hr n hend
  obtain ⟨H, hH⟩ : ∃ H, H = num s / 2 ^ p % 2 ^ hv := ⟨_, rfl⟩
  rw [← hH] at c2 hlt hm
  have hand := and_w H n hn (by omega)
  rw [hm, ← HX.out] at hand
  have hXl : X < 4294967296 := by rw [HX.out]; exact Nat.lt_of_lt_of_le (Nat.mod_lt _ (Nat.two_pow_pos _)) (pow_le' n 32 hn)
  have hc32 : IntKind.u32.wrap (X : Int) = (X : Int) := IntWalk.u32_in _ (by omega)
  have hc32b : (X : Int) % 4294967296 = (X : Int) := by omega
  have HR1 := Lib.hid hr
  have HG1 := Lib.hid hg
  clear hr hg hend hH hlt hm hXl
  go_wp2_with fail
  go_quiet (fail)
  have E := Lib.hid (And.intro (rin_drewN HR1.out nq) (gb_drewN HG1.out nq))
  clear c2 c3
  generalize w1.drewN nq = W at E ⊢
  go_wp2
  all_goals
    go_ret2
    exact ⟨⟨_, rfl⟩, ⟨a, hv, E.out.1⟩, E.out.2⟩

set_option maxRecDepth 100000 in
set_option maxHeartbeats 1000000 in
theorem skip_any (b n p : Nat) (s : ByteArray) (fr : Int) (w : World) (h : RAt w b s p fr) (hn : n ≤ 32) (hs : s.size ≤ 1000000000) (hp : p + n ≤ 8 * s.size) :
    Calls Try.prog 32 #[.pointer (some ⟨b, 0, none⟩), .int .i64 (n : Int)] w fun e w' => e = .returned (.bool true) ∧ RAt w' b s (p + n) fr ∧ w.grownBy w' (some b) := by
  obtain ⟨a0, hv0, h⟩ := h
  have C := Lib.hid (fill_any b n p s fr a0 hv0 w h hn hs)
  have hn0 : (0 : Int) ≤ (n : Int) := by omega
  have hn1 : (n : Int) ≤ 32 := by omega
  clear h
  go_enter Try.func32, Try.ntmps32
  go_wp2_with fail
  refine (C.out).mono ?_
  rintro e w1 ⟨rfl, ⟨a, hv, hr, hend⟩, hg⟩
  have heq := hr.eq
  have hle := hr.le
  have hsm := hr.small
  have hnv : n ≤ hv := by rcases hend with h | h <;> omega
  have hcell := hr.cell
  obtain ⟨H, hH⟩ : ∃ H, H = num s / 2 ^ p % 2 ^ hv := ⟨_, rfl⟩
  have hsh := wait_shr (num s) p hv n hnv
  rw [← hH] at hcell hsh
  obtain ⟨Z, hZ⟩ : ∃ Z, Z = num s / 2 ^ (p + n) % 2 ^ (hv - n) := ⟨_, rfl⟩
  rw [← hZ] at hsh
  have hsi : (H : Int) / 2 ^ n = (Z : Int) := by rw [← hsh]; simp
  have hsi2 : (H : Int) / 2 ^ min n 64 = (Z : Int) := by rw [Nat.min_eq_left (by omega)]; exact hsi
  have c2 := cell_at hcell 2
  have c3 := cell_at hcell 3
  simp only [List.getElem?_toArray, List.getElem?_cons_zero, List.getElem?_cons_succ] at c2 c3
  have f2 := free_at hcell 2
  have f3 := free_at hcell 3
  have hset := heap_set (heap_set hcell 2 (.int .u64 (Z : Int))) 3 (.int .i64 ((hv : Int) - (n : Int)))
  simp only [List.setIfInBounds_toArray, List.set_cons_zero, List.set_cons_succ] at hset
  have hgs := gb_set (gb_set hg 2 (.int .u64 (Z : Int))) 3 (.int .i64 ((hv : Int) - (n : Int)))
  have hwi : IntKind.i64.wrap ((hv : Int) - (n : Int)) = (hv : Int) - (n : Int) := IntWalk.i64_in _ (by omega)
  have hcmp : ¬ (hv : Int) < (n : Int) := by omega
  have HSET := Lib.hid hset
  have HGS := Lib.hid hgs
  have HZ := Lib.hid hZ
  clear hr hg hend hcell hH hsh hset hgs hZ
  go_wp2
  go_ret
  refine ⟨rfl, ⟨a, hv - n, by omega, hle, by omega, ?_⟩, HGS.out⟩
  unfold rcell
  rw [← HZ.out, show ((hv - n : Nat) : Int) = (hv : Int) - (n : Int) by omega]
  exact HSET.out

set_option maxRecDepth 100000 in
theorem rbits_any (b n p : Nat) (s : ByteArray) (fr : Int) (w : World) (h : RAt w b s p fr) (hn : n ≤ 32) (hs : s.size ≤ 1000000000) (hp : p + n ≤ 8 * s.size) :
    Calls Try.prog 22 #[.pointer (some ⟨b, 0, none⟩), .int .i64 (n : Int)] w fun e w' => e = .returned (.tuple #[.int .u32 ((num s / 2 ^ p % 2 ^ n : Nat) : Int), .bool true]) ∧ RAt w' b s (p + n) fr ∧ w.grownBy w' (some b) := by
  have C := Lib.hid (peek_any b n p s fr w h hn hs)
  obtain ⟨X, hX⟩ : ∃ X, X = num s / 2 ^ p % 2 ^ n := ⟨_, rfl⟩
  rw [← hX] at C ⊢
  clear h hX
  go_enter Try.func22, Try.ntmps22
  go_wp2_with fail
  refine (C.out).mono ?_
  rintro e w1 ⟨⟨k, rfl⟩, hr, hg⟩
  have D := Lib.hid (skip_any b n p s fr w1 hr hn hs hp)
  have HG := Lib.hid hg
  clear hr hg
  go_wp2_with fail
  refine (D.out).mono ?_
  rintro e w2 ⟨rfl, hr, hg⟩
  have E := Lib.hid (And.intro hr (gb_trans HG.out hg))
  clear hr hg
  go_wp2
  go_ret2
  exact ⟨rfl, E.out⟩

set_option maxRecDepth 100000 in
set_option maxHeartbeats 1000000 in
theorem ralign_any (b p : Nat) (s : ByteArray) (fr : Int) (w : World) (h : RAt w b s p fr) (hs : s.size ≤ 1000000000) :
    Calls Try.prog 21 #[.pointer (some ⟨b, 0, none⟩)] w fun e w' => e = .returned (.tuple #[]) ∧ (∃ a hv, RIn w' b s (up8 p) fr a hv ∧ hv % 8 = 0) ∧ w.grownBy w' (some b) := by
  obtain ⟨a, hv, hr⟩ := h
  have heq := hr.eq
  have hle := hr.le
  have hsm := hr.small
  have hcell := hr.cell
  obtain ⟨n, hn⟩ : ∃ n, n = hv % 8 := ⟨_, rfl⟩
  have hup : up8 p = p + n := by unfold up8; omega
  have hnv : n ≤ hv := by omega
  obtain ⟨H, hH⟩ : ∃ H, H = num s / 2 ^ p % 2 ^ hv := ⟨_, rfl⟩
  have hsh := wait_shr (num s) p hv n hnv
  rw [← hH] at hcell hsh
  obtain ⟨Z, hZ⟩ : ∃ Z, Z = num s / 2 ^ (p + n) % 2 ^ (hv - n) := ⟨_, rfl⟩
  rw [← hZ] at hsh
  have hrem : (hv : Int) % 8 = (n : Int) := by omega
  have hsi : (H : Int) / 2 ^ n = (Z : Int) := by rw [← hsh]; simp
  have hsi2 : (H : Int) / 2 ^ min n 64 = (Z : Int) := by rw [Nat.min_eq_left (by omega)]; exact hsi
  have c2 := cell_at hcell 2
  have c3 := cell_at hcell 3
  simp only [List.getElem?_toArray, List.getElem?_cons_zero, List.getElem?_cons_succ] at c2 c3
  have f2 := free_at hcell 2
  have f3 := free_at hcell 3
  have hset := heap_set (heap_set hcell 2 (.int .u64 (Z : Int))) 3 (.int .i64 ((hv : Int) - (n : Int)))
  simp only [List.setIfInBounds_toArray, List.set_cons_zero, List.set_cons_succ] at hset
  have hgs := gb_set (gb_set (gb_refl w (some b)) 2 (.int .u64 (Z : Int))) 3 (.int .i64 ((hv : Int) - (n : Int)))
  have hwi : IntKind.i64.wrap ((hv : Int) - (n : Int)) = (hv : Int) - (n : Int) := IntWalk.i64_in _ (by omega)
  have hn0 : (0 : Int) ≤ (n : Int) := by omega
  have hv0 : (0 : Int) ≤ (hv : Int) := by omega
  have HSET := Lib.hid hset
  have HGS := Lib.hid hgs
  have HZ := Lib.hid hZ
  have HN := Lib.hid hn
  have HUP := Lib.hid hup
  clear hr hcell hH hsh hset hgs hZ hn hup
  go_enter Try.func21, Try.ntmps21
  go_wp2
  go_end0
  rw [HUP.out]
  refine ⟨rfl, ⟨a, hv - n, ⟨by omega, hle, by omega, ?_⟩, by have := HN.out; omega⟩, HGS.out⟩
  unfold rcell
  rw [← HZ.out, show ((hv - n : Nat) : Int) = (hv : Int) - (n : Int) by omega]
  exact HSET.out

set_option maxRecDepth 100000 in
set_option maxHeartbeats 1000000 in
theorem rbytes_any (b n p : Nat) (s : ByteArray) (fr : Int) (w : World) (h : RAt w b s p fr) (hs : s.size ≤ 1000000000) (hn : up8 p / 8 + n ≤ s.size) :
    Calls Try.prog 12 #[.pointer (some ⟨b, 0, none⟩), .int .i64 (n : Int)] w fun e w' => e = .returned (.tuple #[.string (s.extract (up8 p / 8) (up8 p / 8 + n)), .bool true]) ∧ RAt w' b s (up8 p + 8 * n) fr ∧ w.grownBy w' (some b) := by
  have C := Lib.hid (ralign_any b p s fr w h hs)
  obtain ⟨m, hm⟩ : ∃ m, m = up8 p / 8 := ⟨_, rfl⟩
  have hm8 : up8 p = 8 * m := by rw [hm]; unfold up8; omega
  rw [← hm] at hn ⊢
  rw [hm8] at C ⊢
  have hn0 : (0 : Int) ≤ (n : Int) := by omega
  clear h hm hm8
  go_enter Try.func12, Try.ntmps12
  go_wp2_with fail
  refine (C.out).mono ?_
  rintro e w1 ⟨rfl, ⟨a, hv, hr, h8⟩, hg⟩
  have heq := hr.eq
  have hle := hr.le
  have hsm := hr.small
  have hcell := hr.cell
  have HCE : RowKit.Hid (∀ nq : Nat, (w1.drewN nq).heap[b]? = some (.cells #[.string s, .int .i64 (a : Int), .int .u64 ((num s / 2 ^ (8 * m) % 2 ^ hv : Nat) : Int), .int .i64 (hv : Int), .int .i64 fr] 58 (0, 0))) := Lib.hid (fun nq => hcell)
  have HG : RowKit.Hid (∀ nq : Nat, w.grownBy (w1.drewN nq) (some b)) := Lib.hid (fun nq => gb_drewN hg nq)
  have c1 := cell_at hcell 1
  have c3 := cell_at hcell 3
  simp only [List.getElem?_toArray, List.getElem?_cons_zero, List.getElem?_cons_succ] at c1 c3
  have hq : (hv : Int) / 8 = ((hv / 8 : Nat) : Int) := by omega
  have hv0 : (0 : Int) ≤ (hv : Int) := by omega
  obtain ⟨k, hk⟩ : ∃ k, k = hv / 8 := ⟨_, rfl⟩
  rw [← hk] at hq
  have hsub : IntKind.i64.wrap ((a : Int) - (k : Int)) = (m : Int) := by rw [IntWalk.i64_in _ (by omega)]; omega
  have HK := Lib.hid hk
  clear hr hg hcell hk
  go_wp2_with fail
  go_quiet (fail)
  clear c1 c3
  have hc := HCE.out nq
  have hgq := HG.out nq
  generalize w1.drewN nq = W at hc hgq ⊢
  have c0 := cell_at hc 0
  have c1 := cell_at hc 1
  have c2 := cell_at hc 2
  have c3 := cell_at hc 3
  simp only [List.getElem?_toArray, List.getElem?_cons_zero, List.getElem?_cons_succ] at c0 c1 c2 c3
  have f1 := free_at hc 1
  have f2 := free_at hc 2
  have f3 := free_at hc 3
  have hset := heap_set (heap_set (heap_set hc 1 (.int .i64 ((m : Int) + (n : Int)))) 2 (.int .u64 0)) 3 (.int .i64 0)
  simp only [List.setIfInBounds_toArray, List.set_cons_zero, List.set_cons_succ] at hset
  have hgs := gb_set (gb_set (gb_set hgq 1 (.int .i64 ((m : Int) + (n : Int)))) 2 (.int .u64 0)) 3 (.int .i64 0)
  have hsb2 : IntKind.i64.wrap ((s.size : Int) - (m : Int)) = (s.size : Int) - (m : Int) := IntWalk.i64_in _ (by omega)
  have hcmp : ¬ (s.size : Int) - (m : Int) < (n : Int) := by omega
  have hadd : IntKind.i64.wrap ((m : Int) + (n : Int)) = (m : Int) + (n : Int) := IntWalk.i64_in _ (by omega)
  have hm0 : (0 : Int) ≤ (m : Int) := by omega
  have hmn : (m : Int) ≤ (m : Int) + (n : Int) := by omega
  have hmn2 : (m : Int) + (n : Int) ≤ (s.size : Int) := by omega
  have hmnN : m + n ≤ s.size := hn
  have HSET := Lib.hid hset
  have HGS := Lib.hid hgs
  clear hc hgq hset hgs hq
  go_wp2
  go_ret2
  refine ⟨rfl, ⟨m + n, 0, by omega, hn, by omega, ?_⟩, HGS.out⟩
  unfold rcell
  rw [Nat.pow_zero, Nat.mod_one]
  exact HSET.out

set_option maxRecDepth 100000 in
set_option maxHeartbeats 1000000 in
theorem rleft_any (b p : Nat) (s : ByteArray) (fr : Int) (w : World) (h : RAt w b s p fr) (hs : s.size ≤ 1000000000) :
    Calls Try.prog 14 #[.pointer (some ⟨b, 0, none⟩)] w fun e w' => e = .returned (.int .i64 (8 * (s.size : Int) - (p : Int))) ∧ w.grownBy w' none := by
  obtain ⟨a, hv, hr⟩ := h
  have heq := hr.eq
  have hle := hr.le
  have hsm := hr.small
  have c0 := cell_at hr.cell 0
  have c1 := cell_at hr.cell 1
  have c3 := cell_at hr.cell 3
  simp only [List.getElem?_toArray, List.getElem?_cons_zero, List.getElem?_cons_succ] at c0 c1 c3
  have h1 : IntKind.i64.wrap ((s.size : Int) - (a : Int)) = (s.size : Int) - (a : Int) := IntWalk.i64_in _ (by omega)
  have h2 : IntKind.i64.wrap (8 * ((s.size : Int) - (a : Int))) = 8 * ((s.size : Int) - (a : Int)) := IntWalk.i64_in _ (by omega)
  have h3 : IntKind.i64.wrap (8 * ((s.size : Int) - (a : Int)) + (hv : Int)) = 8 * (s.size : Int) - (p : Int) := by rw [IntWalk.i64_in _ (by omega)]; omega
  clear hr
  go_enter Try.func14, Try.ntmps14
  go_wp2_with fail
  go_quiet (fail)
  have E := Lib.hid (gb_drewN (gb_refl w none) nq)
  clear c0 c1 c3
  generalize w.drewN nq = W at E ⊢
  go_wp2
  go_ret
  exact ⟨rfl, E.out⟩

set_option maxRecDepth 100000 in
theorem rnew_any (s : ByteArray) (w : World) (hs : s.size ≤ 1000000000) :
    Calls Try.prog 10 #[.string s, .int .i64 0] w fun e w' => e = .returned (.pointer (some ⟨w.heap.size, 0, none⟩)) ∧ RAt w' w.heap.size s 0 0 ∧ Below w.heap.size w w' ∧ w.heap.size < w'.heap.size := by
  have hmin : min (0 : Int) (s.size : Int) = 0 := by omega
  have h0 : rcell (w.alloc (.cells #[.string s, .int .i64 0, .int .u64 0, .int .i64 0, .int .i64 0] 58)) w.heap.size s 0 (num s / 2 ^ 0 % 2 ^ 0) 0 0 := by
    unfold rcell
    rw [Nat.pow_zero, Nat.mod_one]
    exact heap_alloc_same w _
  have HB := Lib.hid ((Below.refl w.heap.size w).alloc (Nat.le_refl _) (.cells #[.string s, .int .i64 0, .int .u64 0, .int .i64 0, .int .i64 0] 58))
  have H0 := Lib.hid h0
  clear h0
  go_enter Try.func10, Try.ntmps10
  go_wp2
  go_ret
  exact ⟨rfl, ⟨0, 0, rfl, Nat.zero_le _, by decide, H0.out⟩, HB.out, by rw [World.size_alloc]; exact Nat.lt_succ_self _⟩
end Go.Proofs.Ytncdaohjjhcaaaa
