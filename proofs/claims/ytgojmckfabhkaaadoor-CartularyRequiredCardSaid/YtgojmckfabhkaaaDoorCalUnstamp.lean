/- THE WALK of Unstamp. Conditions: none. -/
import Derived.Test.YtgojmckfabhkaaaDoorCalUnix
namespace Go.Proofs.YtgojmckfabhkaaaDoor
open Go.RowKit
set_option linter.unusedVariables false

/-- What Unix answers. -/
def unixR (a b c d h f : Int) (r : Int × Int) : Prop := (okD a b c d h f → r = (secF a b c d h f, 0)) ∧ (¬ okD a b c d h f → r = (0, 1))
theorem unix_any (a b c d h f k : Int) (r : Int × Int) (hr : unixR a b c d h f r) (w : World) :
    Calls Tryd.prog 42 #[.agg #[.int .i64 a, .int .i64 b, .int .i64 c, .int .i64 d, .int .i64 h, .int .i64 f, .int .i64 k]] w fun e w' => e = .returned (.tuple #[.int .i64 r.1, .int .i64 r.2]) ∧ Below w.heap.size w w' := by
  by_cases ho : okD a b c d h f
  · rw [hr.1 ho]; exact unix_ok a b c d h f k w ho
  · rw [hr.2 ho]; exact unix_bad a b c d h f k w ho

set_option maxRecDepth 100000 in
set_option maxHeartbeats 2000000 in
theorem unstamp_len (s : ByteArray) (w : World) (hs : (s.size : Int) ≤ 9223372036854775807) (h : s.size ≠ 14) :
    Calls Tryd.prog 23 #[.string s] w fun e w' => e = .returned (.tuple #[.int .i64 0, .int .i64 3]) ∧ Below w.heap.size w w' := by
  have e1 : ((s.size : Int) != 14) = true := by rw [bne_iff_ne]; omega
  go_enter Tryd.func23, Tryd.ntmps23
  go_wp2
  go_returns
  exact ⟨rfl, Below.refl _ _⟩

/-- The j-th digit. -/
def dv (s : ByteArray) (j : Nat) : Int := ((s.data.toList.getD j 0).toNat : Int) - 48
def arr (s : ByteArray) (i : Nat) : Array Value := ((List.range 14).map (fun j => Value.int .i64 (if j < i then dv s j else 0))).toArray
def digs (s : ByteArray) : Prop := ∀ j, j < 14 → 48 ≤ (s.data.toList.getD j 0).toNat ∧ (s.data.toList.getD j 0).toNat ≤ 57
/-- What Unstamp answers of fourteen bytes. -/
def unstampR (s : ByteArray) (r : Int × Int) : Prop := (¬ digs s → r = (0, 3)) ∧ (digs s → unixR (100 * (10 * dv s 0 + dv s 1) + (10 * dv s 2 + dv s 3)) (10 * dv s 4 + dv s 5) (10 * dv s 6 + dv s 7) (10 * dv s 8 + dv s 9) (10 * dv s 10 + dv s 11) (10 * dv s 12 + dv s 13) r)

theorem arr_at (s : ByteArray) (i j : Nat) (hj : j < 14) : (arr s i)[j]? = some (.int .i64 (if j < i then dv s j else 0)) := by unfold arr; simp [hj]
theorem arr_size (s : ByteArray) (i : Nat) : (arr s i).size = 14 := by unfold arr; simp
theorem arr_set (s : ByteArray) (i : Nat) (hi : i < 14) : (arr s i).setIfInBounds i (.int .i64 (dv s i)) = arr s (i + 1) := by
  apply Array.ext_getElem?
  intro k
  by_cases hk : k = i
  · subst hk
    rw [Array.getElem?_setIfInBounds_self_of_lt (by rw [arr_size]; exact hi), arr_at s (k + 1) k hi, if_pos (by omega)]
  · rw [Array.getElem?_setIfInBounds_ne (by omega)]
    by_cases h14 : k < 14
    · rw [arr_at s i k h14, arr_at s (i + 1) k h14]
      by_cases h : k < i
      · rw [if_pos h, if_pos (by omega)]
      · rw [if_neg h, if_neg (by omega)]
    · rw [Array.getElem?_eq_none (by rw [arr_size]; omega), Array.getElem?_eq_none (by rw [arr_size]; omega)]
theorem getD_at (s : ByteArray) (i : Nat) (h : i < s.size) : s.data.toList.getD i 0 = s[i] := by
  rw [List.getD, List.getElem?_eq_getElem (by rw [Array.length_toList]; exact h)]
  rfl

theorem pair_any (N i : Nat) (x y : Int) (w : World) (hx : 0 ≤ x ∧ x ≤ 9) (hy : 0 ≤ y ∧ y ≤ 9) (hi : i ≤ 12) (h0 : w.cell? ⟨N, i, none⟩ = some (.int .i64 x)) (h1 : w.cell? ⟨N, i + 1, none⟩ = some (.int .i64 y)) :
    Calls Tryd.prog 41 #[.int .i64 (i : Int), .pointer (some ⟨N, 0, none⟩)] w fun e w' => e = .returned (.int .i64 (10 * x + y)) ∧ w'.heap = w.heap ∧ Below w.heap.size w w' := by
  have w1 : IntKind.i64.wrap (10 * x) = 10 * x := IntWalk.i64_in _ (by omega)
  have w2 : IntKind.i64.wrap ((i : Int) + 1) = (i : Int) + 1 := IntWalk.i64_in _ (by omega)
  have w3 : IntKind.i64.wrap (10 * x + y) = 10 * x + y := IntWalk.i64_in _ (by omega)
  have t1 : ((i : Int) + 1).toNat = i + 1 := by omega
  have z1 : (0 : Int) ≤ (i : Int) + 1 := by omega
  have z2 : (i : Int) + 1 < 14 := by omega
  have z3 : (i : Int) < 14 := by omega
  go_enter Tryd.func41, Tryd.ntmps41
  go_wp2_with fail
  go_quiet (fail)
  go_wp2
  go_ret
  exact ⟨rfl, rfl, below_drewN (Below.refl _ _) _⟩
theorem pair_at (s : ByteArray) (N i : Nat) (w : World) (hi : i ≤ 12) (hd : digs s) (hc : w.heap[N]? = some (.cells (arr s 14) 79 (0, 0))) :
    Calls Tryd.prog 41 #[.int .i64 (i : Int), .pointer (some ⟨N, 0, none⟩)] w fun e w' => e = .returned (.int .i64 (10 * dv s i + dv s (i + 1))) ∧ w'.heap[N]? = some (.cells (arr s 14) 79 (0, 0)) ∧ Below w.heap.size w w' := by
  have h0 := (cell_at hc i).trans (arr_at s 14 i (by omega))
  have h1 := (cell_at hc (i + 1)).trans (arr_at s 14 (i + 1) (by omega))
  rw [if_pos (by omega)] at h0 h1
  have a := hd i (by omega)
  have b := hd (i + 1) (by omega)
  exact (pair_any N i (dv s i) (dv s (i + 1)) w (by unfold dv; omega) (by unfold dv; omega) hi h0 h1).mono fun e w' ⟨he, hh, hb⟩ => ⟨he, by rw [hh]; exact hc, hb⟩

set_option maxRecDepth 100000 in
set_option maxHeartbeats 4000000 in
theorem unstamp_14 (s : ByteArray) (w : World) (h : s.size = 14) (r : Int × Int) (hr : unstampR s r) :
    Calls Tryd.prog 23 #[.string s] w fun e w' => e = .returned (.tuple #[.int .i64 r.1, .int .i64 r.2]) ∧ Below w.heap.size w w' := by
  have e1 : ((s.size : Int) != 14) = false := by rw [h]; rfl
  have hmf : ∀ (fn : Fn) (first cap : Array Value) (w : World), (Instr.makeFunc fn first cap).run Tryd.prog w = .ok (.func fn first cap) w := fun _ _ _ _ => rfl
  have H := Lib.hid h
  have HR := Lib.hid hr
  have h0 : (w.alloc (.cells #[.int .i64 0, .int .i64 0, .int .i64 0, .int .i64 0, .int .i64 0, .int .i64 0, .int .i64 0, .int .i64 0, .int .i64 0, .int .i64 0, .int .i64 0, .int .i64 0, .int .i64 0, .int .i64 0] 79)).heap[w.heap.size]? = some (.cells (arr s 0) 79 (0, 0)) := heap_alloc_same w _
  have H0 := Lib.hid h0
  clear h hr h0
  go_enter Tryd.func23, Tryd.ntmps23
  go_wp2
  go_loopw [10] (fun iv_ wr => ∃ i : Nat, i ≤ 14 ∧ iv_ = .int .i64 (i : Int) ∧ (∀ j, j < i → 48 ≤ (s.data.toList.getD j 0).toNat ∧ (s.data.toList.getD j 0).toNat ≤ 57) ∧ wr.heap[w.heap.size]? = some (.cells (arr s i) 79 (0, 0)) ∧ Below w.heap.size w wr) (fun iv_ _ => 14 - (intOf iv_).toNat)
  case atStart => exact ⟨0, by omega, rfl, fun j hj => by omega, H0.out, (Below.refl _ _).alloc (Nat.le_refl _) _⟩
  case round =>
    obtain ⟨i, hi, rfl, hds, hc, hb⟩ := hrel
    have HDS := Lib.hid hds
    have HC := Lib.hid hc
    have HB := Lib.hid hb
    clear hds hc hb
    by_cases hi14 : i < 14
    · have his : i < s.size := by rw [H.out]; exact hi14
      have hg := getD_at s i his
      obtain ⟨c, hcc⟩ : ∃ c, s[i] = c := ⟨_, rfl⟩
      rw [hcc] at hg
      have HG := Lib.hid hg
      have hcb := c.toNat_lt
      clear hg
      by_cases hbad : c.toNat < 48 ∨ 57 < c.toNat
      · have hnd : ¬ digs s := fun hd => by have := hd i hi14; rw [HG.out] at this; omega
        have hr2 := HR.out.1 hnd
        have HR2 := Lib.hid hr2
        clear hr2 hnd
        rcases hbad with hb1 | hb1
        · go_wp2
          go_returns
          exact ⟨by rw [HR2.out]; rfl, HB.out⟩
        · have hb2 : ¬ c.toNat < 48 := by omega
          go_wp2
          go_returns
          exact ⟨by rw [HR2.out]; rfl, HB.out⟩
      · have hb1 : 48 ≤ c.toNat ∧ c.toNat ≤ 57 := by omega
        have hce := (cell_at HC.out i).trans (arr_at s i i hi14)
        rw [if_neg (by omega)] at hce
        have hfr := free_at HC.out i
        have hdv : dv s i = (c.toNat : Int) - 48 := by unfold dv; rw [HG.out]
        have hset := heap_set HC.out i (.int .i64 (dv s i))
        rw [arr_set s i hi14, hdv] at hset
        have HSET := Lib.hid hset
        have hbb : Below w.heap.size w (wr.setCell ⟨w.heap.size, i, none⟩ (.int .i64 ((c.toNat : Int) - 48))) := HB.out.setCell (Nat.le_refl _) _
        have HBB := Lib.hid hbb
        have HHB := Lib.hid hb1
        clear hset hbb hbad hdv
        go_wp2
        refine ⟨⟨i + 1, by omega, by go_num, fun j hj => ?_, HSET.out, HBB.out⟩, by simp [intOf]; omega⟩
        by_cases hji : j < i
        · exact HDS.out j hji
        · obtain rfl : j = i := by omega
          rw [HG.out]
          exact HHB.out
    · obtain rfl : i = 14 := by omega
      have hd : digs s := HDS.out
      have HD := Lib.hid hd
      have hb0 := hd 0 (by omega)
      have hu := HR.out.2 hd
      have HU := Lib.hid hu
      have hdv : ∀ j, j < 14 → 0 ≤ dv s j ∧ dv s j ≤ 9 := fun j hj => by have := hd j hj; unfold dv; omega
      have v0 := hdv 0 (by omega)
      have v1 := hdv 1 (by omega)
      have v2 := hdv 2 (by omega)
      have v3 := hdv 3 (by omega)
      clear hd hb0 hu hdv HDS HR
      go_wp2_with fail
      refine (pair_at s w.heap.size 0 _ (by omega) HD.out HC.out).mono ?_
      rintro e w1 ⟨rfl, hc1, hb1⟩
      go_wp2_with fail
      refine (pair_at s w.heap.size 2 _ (by omega) HD.out hc1).mono ?_
      rintro e w2 ⟨rfl, hc2, hb2⟩
      go_wp2_with fail
      refine (pair_at s w.heap.size 4 _ (by omega) HD.out hc2).mono ?_
      rintro e w3 ⟨rfl, hc3, hb3⟩
      go_wp2_with fail
      refine (pair_at s w.heap.size 6 _ (by omega) HD.out hc3).mono ?_
      rintro e w4 ⟨rfl, hc4, hb4⟩
      go_wp2_with fail
      refine (pair_at s w.heap.size 8 _ (by omega) HD.out hc4).mono ?_
      rintro e w5 ⟨rfl, hc5, hb5⟩
      go_wp2_with fail
      refine (pair_at s w.heap.size 10 _ (by omega) HD.out hc5).mono ?_
      rintro e w6 ⟨rfl, hc6, hb6⟩
      go_wp2_with fail
      refine (pair_at s w.heap.size 12 _ (by omega) HD.out hc6).mono ?_
      rintro e w7 ⟨rfl, hc7, hb7⟩
      go_wp2_with fail
      refine (unix_any _ _ _ _ _ _ 0 r HU.out _).mono ?_
      rintro e w8 ⟨rfl, hb8⟩
      have s0 := HB.out.size
      have s1 := hb1.size
      have s2 := hb2.size
      have s3 := hb3.size
      have s4 := hb4.size
      have s5 := hb5.size
      have s6 := hb6.size
      have s7 := hb7.size
      have hball : Below w.heap.size w w8 := (((((((HB.out.trans (hb1.mono s0)).trans (hb2.mono (by omega))).trans (hb3.mono (by omega))).trans (hb4.mono (by omega))).trans (hb5.mono (by omega))).trans (hb6.mono (by omega))).trans (hb7.mono (by omega))).trans (hb8.mono (by omega))
      clear hc1 hc2 hc3 hc4 hc5 hc6 hc7
      go_wp2
      go_returns
      exact ⟨rfl, hball⟩
end Go.Proofs.YtgojmckfabhkaaaDoor
