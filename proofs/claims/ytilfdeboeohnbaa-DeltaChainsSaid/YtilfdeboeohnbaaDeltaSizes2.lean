/- THE WALK of Sizes: both lengths, or the error that the reader panics with. -/
import Derived.Test.YtilfdeboeohnbaaDeltaSizes
namespace Go.Proofs.Ytilfdeboeohnbaa
open Go.RowKit Delta
set_option linter.unusedVariables false

theorem five_blocks (w : World) (o0 o1 o2 o3 o4 : Obj) :
    (((((w.alloc o0).alloc o1).alloc o2).alloc o3).alloc o4).heap[w.heap.size]? = some o0 ∧ (((((w.alloc o0).alloc o1).alloc o2).alloc o3).alloc o4).heap[w.heap.size + 1]? = some o1 ∧
    (((((w.alloc o0).alloc o1).alloc o2).alloc o3).alloc o4).heap[w.heap.size + 2]? = some o2 ∧ (((((w.alloc o0).alloc o1).alloc o2).alloc o3).alloc o4).heap[w.heap.size + 3]? = some o3 ∧
    (((((w.alloc o0).alloc o1).alloc o2).alloc o3).alloc o4).heap[w.heap.size + 4]? = some o4 ∧ Below w.heap.size w (((((w.alloc o0).alloc o1).alloc o2).alloc o3).alloc o4) := by
  have s1 : (w.alloc o0).heap.size = w.heap.size + 1 := World.size_alloc _ _
  have s2 : ((w.alloc o0).alloc o1).heap.size = w.heap.size + 2 := by rw [World.size_alloc, s1]
  have s3 : (((w.alloc o0).alloc o1).alloc o2).heap.size = w.heap.size + 3 := by rw [World.size_alloc, s2]
  have s4 : ((((w.alloc o0).alloc o1).alloc o2).alloc o3).heap.size = w.heap.size + 4 := by rw [World.size_alloc, s3]
  have h0 := heap_alloc_same w o0
  have h1 := heap_alloc_same (w.alloc o0) o1
  have h2 := heap_alloc_same ((w.alloc o0).alloc o1) o2
  have h3 := heap_alloc_same (((w.alloc o0).alloc o1).alloc o2) o3
  have h4 := heap_alloc_same ((((w.alloc o0).alloc o1).alloc o2).alloc o3) o4
  rw [s1] at h1
  rw [s2] at h2
  rw [s3] at h3
  rw [s4] at h4
  refine ⟨heap_alloc_keep (heap_alloc_keep (heap_alloc_keep (heap_alloc_keep h0 _) _) _) _, heap_alloc_keep (heap_alloc_keep (heap_alloc_keep h1 _) _) _, heap_alloc_keep (heap_alloc_keep h2 _) _, heap_alloc_keep h3 _, h4, ?_⟩
  exact (((((Below.refl _ _).alloc (Nat.le_refl _) _).alloc (by omega) _).alloc (by omega) _).alloc (by omega) _).alloc (by omega) _

/-- A variable of the call's own, of one number. -/
def num1 (w : World) (b : Nat) (t : TypeId) (x : Int) : Prop := w.heap[b]? = some (.cells #[.int .i64 x] t (0, 0))
theorem num1.cell {w : World} {b t : Nat} {x : Int} (h : num1 w b t x) : w.cell? ⟨b, 0, none⟩ = some (.int .i64 x) ∧ w.frozen? ⟨b, 0, none⟩ = false := ⟨(cell_at h 0).trans rfl, free_at h 0⟩
theorem num1.gb {w w' : World} {b t : Nat} {x : Int} {r : Option Nat} (h : num1 w b t x) (hg : w.grownBy w' r) (hr : some b ≠ r) : num1 w' b t x := gb_heap hg h hr
theorem num1.set_ {w : World} {b t : Nat} {x : Int} (h : num1 w b t x) (y : Int) : num1 (w.setCell ⟨b, 0, none⟩ (.int .i64 y)) b t y := heap_set h 0 _
theorem num1.far {w : World} {b t : Nat} {x : Int} (h : num1 w b t x) {p : Addr} (hp : b ≠ p.block) (u : Value) : num1 (w.setCell p u) b t x := (Below.heap_setCell w p u b hp).trans h

theorem num1.off {w : World} {b t : Nat} {x : Int} (h : num1 w b t x) (c : Nat) (hp : b ≠ c) (u : Value) : num1 (w.setCell ⟨c, 0, none⟩ u) b t x := (Below.heap_setCell w _ u b hp).trans h
theorem num1.drew {w : World} {b t : Nat} {x : Int} (h : num1 w b t x) : num1 w.drew b t x := h
theorem below_off {B : Nat} {a w : World} (h : Below B a w) (c : Nat) (hc : B ≤ c) (u : Value) : Below B a (w.setCell ⟨c, 0, none⟩ u) := h.setCell (p := ⟨c, 0, none⟩) hc u

def sizesV (r : Nat × Nat × Nat × Nat) : Value := .tuple #[.int .i64 (r.1 : Int), .int .i64 (r.2.1 : Int), .int .i64 (r.2.2.1 : Int), .int .i64 (r.2.2.2 : Int)]

/-- What the door leaves where the body panicked. -/
theorem sizes_door (w w1 : World) (x : Nat) (hb : Below w.heap.size w w1) (y0 y1 y2 y3 : Int) (n0 : num1 w1 w.heap.size 3 y0) (n1 : num1 w1 (w.heap.size + 1) 3 y1) (n2 : num1 w1 (w.heap.size + 2) 3 y2) (n3 : num1 w1 (w.heap.size + 3) 23 y3) :
    ∃ W, W = (((w1.setCell ⟨w.heap.size, 0, none⟩ (.int .i64 0)).setCell ⟨w.heap.size + 1, 0, none⟩ (.int .i64 0)).setCell ⟨w.heap.size + 2, 0, none⟩ (.int .i64 0)).setCell ⟨w.heap.size + 3, 0, none⟩ (.int .i64 (x : Int)) ∧
      W.cell? ⟨w.heap.size, 0, none⟩ = some (.int .i64 0) ∧ W.cell? ⟨w.heap.size + 1, 0, none⟩ = some (.int .i64 0) ∧ W.cell? ⟨w.heap.size + 2, 0, none⟩ = some (.int .i64 0) ∧ W.cell? ⟨w.heap.size + 3, 0, none⟩ = some (.int .i64 (x : Int)) ∧ Below w.heap.size w W := by
  refine ⟨_, rfl, ?_, ?_, ?_, ?_, ?_⟩
  · exact ((((n0.set_ 0).far (p := ⟨w.heap.size + 1, 0, none⟩) (by simp) _).far (p := ⟨w.heap.size + 2, 0, none⟩) (by simp) _).far (p := ⟨w.heap.size + 3, 0, none⟩) (by simp) _).cell.1
  · exact ((((n1.far (p := ⟨w.heap.size, 0, none⟩) (by simp) _).set_ 0).far (p := ⟨w.heap.size + 2, 0, none⟩) (by simp) _).far (p := ⟨w.heap.size + 3, 0, none⟩) (by simp) _).cell.1
  · exact ((((n2.far (p := ⟨w.heap.size, 0, none⟩) (by simp) _).far (p := ⟨w.heap.size + 1, 0, none⟩) (by simp) _).set_ 0).far (p := ⟨w.heap.size + 3, 0, none⟩) (by simp) _).cell.1
  · exact ((((n3.far (p := ⟨w.heap.size, 0, none⟩) (by simp) _).far (p := ⟨w.heap.size + 1, 0, none⟩) (by simp) _).far (p := ⟨w.heap.size + 2, 0, none⟩) (by simp) _).set_ _).cell.1
  · exact (((hb.setCell (Nat.le_refl _) _).setCell (p := ⟨w.heap.size + 1, 0, none⟩) (by simp) _).setCell (p := ⟨w.heap.size + 2, 0, none⟩) (by simp) _).setCell (p := ⟨w.heap.size + 3, 0, none⟩) (by simp) _

/-- What the door finds where the body returned. -/
theorem sizes_end (w w2 : World) (B n n2 a : Nat) (hb : Below B w w2) (y0 y1 y2 y3 : Int) (n0 : num1 w2 B 3 y0) (n1 : num1 w2 (B + 1) 3 y1) (n2' : num1 w2 (B + 1 + 1) 3 y2) (n3 : num1 w2 (B + 1 + 1 + 1) 23 y3) :
    ∃ W, W = ((((((w2.setCell ⟨B, 0, none⟩ (.int .i64 (n : Int))).setCell ⟨B + 1, 0, none⟩ (.int .i64 (n2 : Int))).setCell ⟨B, 0, none⟩ (.int .i64 (n : Int))).setCell ⟨B + 1, 0, none⟩ (.int .i64 (n2 : Int))).setCell ⟨B + 1 + 1, 0, none⟩ (.int .i64 (a : Int))).setCell ⟨B + 1 + 1 + 1, 0, none⟩ (.int .i64 0)).drew ∧
      W.cell? ⟨B, 0, none⟩ = some (.int .i64 (n : Int)) ∧ W.cell? ⟨B + 1, 0, none⟩ = some (.int .i64 (n2 : Int)) ∧ W.cell? ⟨B + 1 + 1, 0, none⟩ = some (.int .i64 (a : Int)) ∧ W.cell? ⟨B + 1 + 1 + 1, 0, none⟩ = some (.int .i64 0) ∧ Below B w W :=
  ⟨_, rfl, ((((((n0.set_ (n : Int)).off (B + 1) (by omega) (.int .i64 (n2 : Int))).set_ (n : Int)).off (B + 1) (by omega) (.int .i64 (n2 : Int))).off (B + 1 + 1) (by omega) (.int .i64 (a : Int))).off (B + 1 + 1 + 1) (by omega) (.int .i64 0)).drew.cell.1, ((((((n1.off B (by omega) (.int .i64 (n : Int))).set_ (n2 : Int)).off B (by omega) (.int .i64 (n : Int))).set_ (n2 : Int)).off (B + 1 + 1) (by omega) (.int .i64 (a : Int))).off (B + 1 + 1 + 1) (by omega) (.int .i64 0)).drew.cell.1, ((((((n2'.off B (by omega) (.int .i64 (n : Int))).off (B + 1) (by omega) (.int .i64 (n2 : Int))).off B (by omega) (.int .i64 (n : Int))).off (B + 1) (by omega) (.int .i64 (n2 : Int))).set_ (a : Int)).off (B + 1 + 1 + 1) (by omega) (.int .i64 0)).drew.cell.1, ((((((n3.off B (by omega) (.int .i64 (n : Int))).off (B + 1) (by omega) (.int .i64 (n2 : Int))).off B (by omega) (.int .i64 (n : Int))).off (B + 1) (by omega) (.int .i64 (n2 : Int))).off (B + 1 + 1) (by omega) (.int .i64 (a : Int))).set_ 0).drew.cell.1, (below_off (below_off (below_off (below_off (below_off (below_off hb B (by omega) _) (B + 1) (by omega) _) B (by omega) _) (B + 1) (by omega) _) (B + 1 + 1) (by omega) _) (B + 1 + 1 + 1) (by omega) _).drew⟩

set_option maxRecDepth 100000 in
set_option maxHeartbeats 4000000 in
theorem sizes_any (d : ByteArray) (w : World) (hd : (d.size : Int) ≤ 1000000) :
    Calls Try.prog 11 #[.string d] w fun e w' => e = .returned (sizesV (sizesS d.data.toList)) ∧ Below w.heap.size w w' := by
  have hmf : ∀ (fn : Fn) (first cap : Array Value) (w : World), (Instr.makeFunc fn first cap).run Try.prog w = .ok (.func fn first cap) w := fun _ _ _ _ => rfl
  obtain ⟨b0, b1, b2, b3, b4, hbl⟩ := five_blocks w (.cells #[.int .i64 0] 3) (.cells #[.int .i64 0] 3) (.cells #[.int .i64 0] 3) (.cells #[.int .i64 0] 23) (.cells #[.string d, .int .i64 0] 43)
  have HB0 := Lib.hid b0
  have HB1 := Lib.hid b1
  have HB2 := Lib.hid b2
  have HB3 := Lib.hid b3
  have hr : rdrL (((((w.alloc (.cells #[.int .i64 0] 3)).alloc (.cells #[.int .i64 0] 3)).alloc (.cells #[.int .i64 0] 3)).alloc (.cells #[.int .i64 0] 23)).alloc (.cells #[.string d, .int .i64 0] 43)) (w.heap.size + 4) d d.data.toList := ⟨0, Nat.zero_le _, b4, rfl⟩
  have HR := Lib.hid hr
  have HBL := Lib.hid hbl
  clear b0 b1 b2 b3 b4 hbl hr
  go_enter_defers Try.func11, Try.ntmps11
  go_wp2_with fail
  refine (size_any d _ _ _ hd HR.out).mono ?_
  rintro e w1 ⟨he1, hg1⟩
  have m0 : num1 w1 w.heap.size 3 0 := gb_heap hg1 HB0.out (by simp)
  have m1 : num1 w1 (w.heap.size + 1) 3 0 := gb_heap hg1 HB1.out (by simp)
  have m2 : num1 w1 (w.heap.size + 2) 3 0 := gb_heap hg1 HB2.out (by simp)
  have m3 : num1 w1 (w.heap.size + 3) 23 0 := gb_heap hg1 HB3.out (by simp)
  have hb1 : Below w.heap.size w w1 := below_gb HBL.out hg1 HBL.out.size (by omega)
  clear hg1
  cases hz : sz d.data.toList 0 0 with
  | error x =>
    rw [hz] at he1
    have he : e = .panicked (wrong x) := he1
    subst he
    obtain ⟨W, hW, k0, k1, k2, k3, hWb⟩ := sizes_door w w1 x hb1 _ _ _ _ m0 m1 m2 m3
    go_wp2
    refine leaves_cons (f := 18) (args := #[.pointer (some ⟨w.heap.size, 0, none⟩), .pointer (some ⟨w.heap.size + 1, 0, none⟩), .pointer (some ⟨w.heap.size + 2, 0, none⟩), .pointer (some ⟨w.heap.size + 3, 0, none⟩)]) (by simp) (by simp [go_sem]) ?_
    refine (sizes_catch w.heap.size _ _ _ _ _ _ _ m0.cell.1 m1.cell.1 m2.cell.1 m3.cell.1 m0.cell.2 m1.cell.2 m2.cell.2 m3.cell.2).mono ?_
    rintro e u' w'' ⟨rfl, rfl, rfl⟩
    rw [← hW]
    clear hW
    simp [Leaves, settle, results, Try.results11, go_sem, k0, k1, k2, k3]
    have hS : sizesS d.data.toList = (0, 0, 0, x) := by unfold sizesS; rw [hz]
    exact ⟨by rw [hS]; rfl, hWb⟩
  | ok nr =>
    obtain ⟨n, l1⟩ := nr
    rw [hz] at he1
    obtain ⟨rfl, hr1⟩ : e = .returned (.int .i64 (n : Int)) ∧ rdrL w1 (w.heap.size + 4) d l1 := he1
    have HR1 := Lib.hid hr1
    have HZ := Lib.hid hz
    have M0 := Lib.hid m0
    have M1 := Lib.hid m1
    have M2 := Lib.hid m2
    have M3 := Lib.hid m3
    have HB1' := Lib.hid hb1
    clear hr1 hz m0 m1 m2 m3 hb1
    go_wp2_with fail
    refine (size_any d _ _ _ hd HR1.out).mono ?_
    rintro e w2 ⟨he2, hg2⟩
    have m0 := M0.out.gb hg2 (by simp)
    have m1 := M1.out.gb hg2 (by simp)
    have m2 := M2.out.gb hg2 (by simp)
    have m3 := M3.out.gb hg2 (by simp)
    have hb2 : Below w.heap.size w w2 := below_gb HB1'.out hg2 HB1'.out.size (by omega)
    clear hg2
    cases hz2 : sz l1 0 0 with
    | error x =>
      rw [hz2] at he2
      have he : e = .panicked (wrong x) := he2
      subst he
      obtain ⟨W, hW, k0, k1, k2, k3, hWb⟩ := sizes_door w w2 x hb2 _ _ _ _ m0 m1 m2 m3
      go_wp2
      refine leaves_cons (f := 18) (args := #[.pointer (some ⟨w.heap.size, 0, none⟩), .pointer (some ⟨w.heap.size + 1, 0, none⟩), .pointer (some ⟨w.heap.size + 2, 0, none⟩), .pointer (some ⟨w.heap.size + 3, 0, none⟩)]) (by simp) (by simp [go_sem]) ?_
      refine (sizes_catch w.heap.size _ _ _ _ _ _ _ m0.cell.1 m1.cell.1 m2.cell.1 m3.cell.1 m0.cell.2 m1.cell.2 m2.cell.2 m3.cell.2).mono ?_
      rintro e u' w'' ⟨rfl, rfl, rfl⟩
      rw [← hW]
      clear hW
      simp [Leaves, settle, results, Try.results11, go_sem, k0, k1, k2, k3]
      have hS : sizesS d.data.toList = (0, 0, 0, x) := by unfold sizesS; rw [HZ.out]; simp only []; rw [hz2]
      exact ⟨by rw [hS]; rfl, hWb⟩
    | ok nr2 =>
      obtain ⟨n2, l2⟩ := nr2
      rw [hz2] at he2
      obtain ⟨rfl, a, ha, hra, hla⟩ : e = .returned (.int .i64 (n2 : Int)) ∧ rdrL w2 (w.heap.size + 4) d l2 := he2
      have hlen := drop_len d a
      rw [hla] at hlen
      have hS : sizesS d.data.toList = (n, n2, a, 0) := by
        unfold sizesS
        rw [HZ.out]
        simp only []
        rw [hz2]
        simp only [Prod.mk.injEq, true_and, and_true]
        rw [Array.length_toList]
        have : d.data.size = d.size := rfl
        omega
      obtain ⟨q0, q1, q2⟩ := rdr_cells hra
      obtain ⟨p0, f0⟩ := m0.cell
      obtain ⟨p1, f1⟩ := m1.cell
      obtain ⟨p2, f2⟩ := m2.cell
      obtain ⟨p3, f3⟩ := m3.cell
      have HS := Lib.hid hS
      have HB2 := Lib.hid hb2
      have N0 := Lib.hid m0
      have N1 := Lib.hid m1
      have N2 := Lib.hid m2
      have N3 := Lib.hid m3
      clear hS hb2 hz2 hra hla m0 m1 m2 m3 ha hlen q2
      go_wp2
      go_region
      go_wp2
      refine leaves_cons (f := 18) (args := #[.pointer (some ⟨w.heap.size, 0, none⟩), .pointer (some ⟨w.heap.size + 1, 0, none⟩), .pointer (some ⟨w.heap.size + 2, 0, none⟩), .pointer (some ⟨w.heap.size + 3, 0, none⟩)]) (by simp) (by simp [go_sem]) ?_
      refine (sizes_idle _ _ _ _ _).mono ?_
      rintro e u' w'' ⟨rfl, rfl, rfl⟩
      obtain ⟨W, hW, k0, k1, k2, k3, hWb⟩ := sizes_end w w2 w.heap.size n n2 a HB2.out _ _ _ _ N0.out N1.out N2.out N3.out
      rw [← hW]
      clear hW p0 p1 p2 p3 q0 q1 f0 f1 f2 f3
      simp [Leaves, settle, results, Try.results11, go_sem, k0, k1, k2, k3]
      exact ⟨by rw [HS.out]; rfl, hWb⟩
end Go.Proofs.Ytilfdeboeohnbaa
