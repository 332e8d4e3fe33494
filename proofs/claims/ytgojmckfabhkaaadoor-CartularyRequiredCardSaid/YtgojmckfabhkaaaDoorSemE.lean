/- THE WALK of semver.Parse. Conditions: a bound on the length. -/
import Derived.Test.YtgojmckfabhkaaaDoorSemD
import Derived.Scope
import Derived.ScopeJumps
import Derived.WalkMore
namespace Go.Proofs.YtgojmckfabhkaaaDoor.Sem
open Go Go.RowKit
set_option linter.unusedVariables false

def verA (v : Ver) : Array Value := #[.string (tx v.maj), .string (tx v.mnr), .string (tx v.pat), .string (tx v.pre), .string (tx v.bld), .int .i64 (v.short : Int)]
def zerA : Array Value := #[.string ⟨#[]⟩, .string ⟨#[]⟩, .string ⟨#[]⟩, .string ⟨#[]⟩, .string ⟨#[]⟩, .int .i64 0]
/-- What 'Parse' answers. -/
def ParseV (l : List UInt8) : Value := match pparse l with | some v => .tuple #[.agg (verA v), .bool true] | none => .tuple #[.agg zerA, .bool false]

theorem rows6 {W : World} {b : Nat} {v0 v1 v2 v3 v4 v5 : Value} {t : TypeId} (h : W.heap[b]? = some (.cells #[v0, v1, v2, v3, v4, v5] t (0, 0))) :
    W.cell? ⟨b, 0, none⟩ = some v0 ∧ W.cell? ⟨b, 1, none⟩ = some v1 ∧ W.cell? ⟨b, 2, none⟩ = some v2 ∧ W.cell? ⟨b, 3, none⟩ = some v3 ∧ W.cell? ⟨b, 4, none⟩ = some v4 ∧ W.cell? ⟨b, 5, none⟩ = some v5 ∧
    W.frozen? ⟨b, 0, none⟩ = false ∧ W.frozen? ⟨b, 1, none⟩ = false ∧ W.frozen? ⟨b, 2, none⟩ = false ∧ W.frozen? ⟨b, 3, none⟩ = false ∧ W.frozen? ⟨b, 4, none⟩ = false ∧ W.frozen? ⟨b, 5, none⟩ = false :=
  ⟨cell_at h 0, cell_at h 1, cell_at h 2, cell_at h 3, cell_at h 4, cell_at h 5, free_at h 0, free_at h 1, free_at h 2, free_at h 3, free_at h 4, free_at h 5⟩

/-- Six stores into a struct of six. -/
def put6 (W : World) (b : Nat) (v0 v1 v2 v3 v4 v5 : Value) : World :=
  (((((W.setCell ⟨b, 0, none⟩ v0).setCell ⟨b, 1, none⟩ v1).setCell ⟨b, 2, none⟩ v2).setCell ⟨b, 3, none⟩ v3).setCell ⟨b, 4, none⟩ v4).setCell ⟨b, 5, none⟩ v5
theorem put6_row {W : World} {b : Nat} {a0 a1 a2 a3 a4 a5 : Value} {t : TypeId} (h : W.heap[b]? = some (.cells #[a0, a1, a2, a3, a4, a5] t (0, 0))) (v0 v1 v2 v3 v4 v5 : Value) :
    (put6 W b v0 v1 v2 v3 v4 v5).heap[b]? = some (.cells #[v0, v1, v2, v3, v4, v5] t (0, 0)) := by
  unfold put6
  exact heap_set (heap_set (heap_set (heap_set (heap_set (heap_set h 0 v0) 1 v1) 2 v2) 3 v3) 4 v4) 5 v5
theorem put6_below {W w : World} {b N : Nat} (h : Below N w W) (hb : N ≤ b) (v0 v1 v2 v3 v4 v5 : Value) : Below N w (put6 W b v0 v1 v2 v3 v4 v5) := by
  unfold put6
  exact (((((h.setCell (p := ⟨b, 0, none⟩) hb _).setCell (p := ⟨b, 1, none⟩) hb _).setCell (p := ⟨b, 2, none⟩) hb _).setCell (p := ⟨b, 3, none⟩) hb _).setCell (p := ⟨b, 4, none⟩) hb _).setCell (p := ⟨b, 5, none⟩) hb _

theorem range_map (l : List Value) (n : Nat) (h : l.length = n) : l = (List.range n).map (fun i => l.getD i undef) := by
  apply List.ext_getElem
  · simp [h]
  · intro i h1 h2
    simp [List.getD_eq_getElem?_getD, List.getElem?_eq_getElem h1]
theorem frame97 (a : Act) (h : a.tmps.size = 97) (hd : a.defers = []) : ∃ f : Nat → Value, (∀ i, f i = a.tmps.getD i undef) ∧ a = { tmps := #[f 0, f 1, f 2, f 3, f 4, f 5, f 6, f 7, f 8, f 9, f 10, f 11, f 12, f 13, f 14, f 15, f 16, f 17, f 18, f 19, f 20, f 21, f 22, f 23, f 24, f 25, f 26, f 27, f 28, f 29, f 30, f 31, f 32, f 33, f 34, f 35, f 36, f 37, f 38, f 39, f 40, f 41, f 42, f 43, f 44, f 45, f 46, f 47, f 48, f 49, f 50, f 51, f 52, f 53, f 54, f 55, f 56, f 57, f 58, f 59, f 60, f 61, f 62, f 63, f 64, f 65, f 66, f 67, f 68, f 69, f 70, f 71, f 72, f 73, f 74, f 75, f 76, f 77, f 78, f 79, f 80, f 81, f 82, f 83, f 84, f 85, f 86, f 87, f 88, f 89, f 90, f 91, f 92, f 93, f 94, f 95, f 96], defers := [] } := by
  refine ⟨fun i => a.tmps.toList.getD i undef, fun i => by simp [Array.getD_eq_getD_getElem?, List.getD_eq_getElem?_getD], ?_⟩
  have h1 := range_map a.tmps.toList 97 (by simpa using h)
  have h2 : a.tmps = ((List.range 97).map (fun i => a.tmps.toList.getD i undef)).toArray := by
    apply Array.ext'
    exact h1
  cases a with
  | mk t d =>
    have hd' : d = [] := hd
    subst hd'
    exact congrArg (fun x => Act.mk x []) h2

/-- What holds where the program has found that it is no version. -/
def PN (l : List UInt8) (N : Nat) (w W : World) : Prop := pparse l = none ∧ Below N w W ∧ N < W.heap.size ∧ W.heap[N]? = some (.cells zerA 44 (0, 0))

/-- Block N (the result) as it was made, block N + 1 holding the parts so far. -/
def St (N : Nat) (w W : World) (a : Array Value) : Prop := Below N w W ∧ W.heap[N]? = some (.cells #[.string ⟨#[]⟩, .string ⟨#[]⟩, .string ⟨#[]⟩, .string ⟨#[]⟩, .string ⟨#[]⟩, .int .i64 0] 44 (0, 0)) ∧ W.heap[N + 1]? = some (.cells a 44 (0, 0))
theorem St.below {N : Nat} {w W W' : World} {a : Array Value} (h : St N w W a) (hb : Below W.heap.size W W') : St N w W' a := by
  have h1 := lt_of_block h.2.2
  exact ⟨h.1.trans (hb.mono (by omega)), below_heap hb h.2.1 (by omega), below_heap hb h.2.2 h1⟩
theorem St.set {N : Nat} {w W : World} {a : Array Value} (h : St N w W a) (i : Nat) (v : Value) : St N w (W.setCell ⟨N + 1, i, none⟩ v) (a.setIfInBounds i v) :=
  ⟨h.1.setCell (p := ⟨N + 1, i, none⟩) (by show N ≤ N + 1; omega) _, (Below.heap_setCell _ _ _ _ (by show N ≠ N + 1; omega)).trans h.2.1, heap_set h.2.2 i v⟩
theorem St.pn {l : List UInt8} {N : Nat} {w W : World} {a : Array Value} (hp : pparse l = none) (h : St N w W a) : PN l N w W :=
  ⟨hp, h.1, lt_of_block h.2.1, h.2.1⟩
theorem ret_leaf {l : List UInt8} {v : Ver} {w W : World} {a : Array Value} (hv : pparse l = some v) (h : St w.heap.size w W a) (t : Array Value) (h2 : t.getD 2 undef = .pointer (some ⟨w.heap.size, 0, none⟩)) (h3 : t.getD 3 undef = .bool true) :
    bodyPost Tryd.prog Tryd.f14 (fun e w' => e = .returned (ParseV l) ∧ Below w.heap.size w w') Exit.ret { tmps := t, defers := [] }
      (put6 W w.heap.size (.string (tx v.maj)) (.string (tx v.mnr)) (.string (tx v.pat)) (.string (tx v.pre)) (.string (tx v.bld)) (.int .i64 (v.short : Int))) := by
  have hr := put6_row h.2.1 (.string (tx v.maj)) (.string (tx v.mnr)) (.string (tx v.pat)) (.string (tx v.pre)) (.string (tx v.bld)) (.int .i64 (v.short : Int))
  have hb := put6_below (b := w.heap.size) h.1 (Nat.le_refl _) (.string (tx v.maj)) (.string (tx v.mnr)) (.string (tx v.pat)) (.string (tx v.pre)) (.string (tx v.bld)) (.int .i64 (v.short : Int))
  generalize put6 W w.heap.size (.string (tx v.maj)) (.string (tx v.mnr)) (.string (tx v.pat)) (.string (tx v.pre)) (.string (tx v.bld)) (.int .i64 (v.short : Int)) = W6 at hr hb ⊢
  obtain ⟨c0, c1, c2, c3, c4, c5, -⟩ := rows6 hr
  have h2' : t[2]?.getD undef = .pointer (some ⟨w.heap.size, 0, none⟩) := by rw [← Array.getD_eq_getD_getElem?]; exact h2
  have h3' : t[3]?.getD undef = .bool true := by rw [← Array.getD_eq_getD_getElem?]; exact h3
  exact bodyPost_ret (v := .tuple #[.agg (verA v), .bool true]) (by simp [results, Tryd.results14, go_sem, c0, c1, c2, c3, c4, c5, verA, h2', h3']) rfl ⟨by unfold ParseV; rw [hv], hb⟩

theorem no_leaf {l : List UInt8} {w W : World} {a : Array Value} (hv : pparse l = none) (h : St w.heap.size w W a) (t : Array Value) (h2 : t.getD 2 undef = .pointer (some ⟨w.heap.size, 0, none⟩)) (h3 : t.getD 3 undef = .bool false) :
    bodyPost Tryd.prog Tryd.f14 (fun e w' => e = .returned (ParseV l) ∧ Below w.heap.size w w') Exit.ret { tmps := t, defers := [] }
      (put6 W w.heap.size (.string ⟨#[]⟩) (.string ⟨#[]⟩) (.string ⟨#[]⟩) (.string ⟨#[]⟩) (.string ⟨#[]⟩) (.int .i64 0)) := by
  have hr := put6_row h.2.1 (.string ⟨#[]⟩) (.string ⟨#[]⟩) (.string ⟨#[]⟩) (.string ⟨#[]⟩) (.string ⟨#[]⟩) (.int .i64 0)
  have hb := put6_below (b := w.heap.size) h.1 (Nat.le_refl _) (.string ⟨#[]⟩) (.string ⟨#[]⟩) (.string ⟨#[]⟩) (.string ⟨#[]⟩) (.string ⟨#[]⟩) (.int .i64 0)
  generalize put6 W w.heap.size (.string ⟨#[]⟩) (.string ⟨#[]⟩) (.string ⟨#[]⟩) (.string ⟨#[]⟩) (.string ⟨#[]⟩) (.int .i64 0) = W6 at hr hb ⊢
  obtain ⟨c0, c1, c2, c3, c4, c5, -⟩ := rows6 hr
  have h2' : t[2]?.getD undef = .pointer (some ⟨w.heap.size, 0, none⟩) := by rw [← Array.getD_eq_getD_getElem?]; exact h2
  have h3' : t[3]?.getD undef = .bool false := by rw [← Array.getD_eq_getD_getElem?]; exact h3
  exact bodyPost_ret (v := .tuple #[.agg zerA, .bool false]) (by simp [results, Tryd.results14, go_sem, c0, c1, c2, c3, c4, c5, zerA, h2', h3']) rfl ⟨by unfold ParseV; rw [hv], hb⟩

theorem num_none (l : List UInt8) (w : World) (hz : l.length ≤ 1000000) (h : takeNum l = none) :
    Calls Tryd.prog 32 #[.string (tx l)] w fun e w' => e = .returned (.tuple #[.string ⟨#[]⟩, .string ⟨#[]⟩, .bool false]) ∧ Below w.heap.size w w' := by
  have h1 := number_raw (tx l) l w rfl hz
  unfold NumV at h1
  unfold takeNum at h
  split at h
  · cases h
  · rename_i hg
    rw [if_neg hg] at h1
    exact h1
theorem num_some (l : List UInt8) (w : World) {M r : List UInt8} (hz : l.length ≤ 1000000) (h : takeNum l = some (M, r)) :
    Calls Tryd.prog 32 #[.string (tx l)] w fun e w' => e = .returned (.tuple #[.string (tx M), .string (tx r), .bool true]) ∧ Below w.heap.size w w' := by
  have h1 := number_raw (tx l) l w rfl hz
  unfold NumV at h1
  unfold takeNum at h
  split at h
  · rename_i hg
    rw [if_pos hg] at h1
    simp only [Option.some.injEq, Prod.mk.injEq] at h
    obtain ⟨rfl, rfl⟩ := h
    exact h1
  · cases h

theorem pp_head {v : UInt8} {r : List UInt8} (h : ¬ v = 118) : pparse (v :: r) = none := by unfold pparse; simp [h]
theorem pp_long {r : List UInt8} (h : ¬ (118 :: r).length ≤ 100) : pparse (118 :: r) = none := by unfold pparse; simp at h ⊢; omega
theorem pp_1 {r : List UInt8} (hl : (118 :: r).length ≤ 100) (h : takeNum r = none) : pparse (118 :: r) = none := by
  unfold pparse; simp only; rw [if_pos ⟨trivial, hl⟩, h]
theorem pp_one {r m0 r1 : List UInt8} (hl : (118 :: r).length ≤ 100) (h : takeNum r = some (m0, r1)) : pparse (118 :: r) = pparse2 m0 r1 := by
  unfold pparse; simp only; rw [if_pos ⟨trivial, hl⟩, h]
theorem pp2_c (m0 : List UInt8) {c : UInt8} {q : List UInt8} (hc : ¬ c = 46) : pparse2 m0 (c :: q) = none := by unfold pparse2; simp [hc]
theorem pp2_n (m0 : List UInt8) {q : List UInt8} (h : takeNum q = none) : pparse2 m0 (46 :: q) = none := by unfold pparse2; simp [h]
theorem pp_two {r m0 q0 m1 r2 : List UInt8} (hl : (118 :: r).length ≤ 100) (h0 : takeNum r = some (m0, 46 :: q0)) (h1 : takeNum q0 = some (m1, r2)) : pparse (118 :: r) = pparse3 m0 m1 r2 := by
  rw [pp_one hl h0]; unfold pparse2; simp [h1]
theorem pp3_c (m0 m1 : List UInt8) {c : UInt8} {q : List UInt8} (hc : ¬ c = 46) : pparse3 m0 m1 (c :: q) = none := by unfold pparse3; simp [hc]
theorem pp3_n (m0 m1 : List UInt8) {q : List UInt8} (h : takeNum q = none) : pparse3 m0 m1 (46 :: q) = none := by unfold pparse3; simp [h]
theorem pp_all {r m0 q0 m1 q1 m2 r3 : List UInt8} (hl : (118 :: r).length ≤ 100) (h0 : takeNum r = some (m0, 46 :: q0)) (h1 : takeNum q0 = some (m1, 46 :: q1)) (h2 : takeNum q1 = some (m2, r3)) : pparse (118 :: r) = tailP m0 m1 m2 r3 := by
  rw [pp_two hl h0 h1]; unfold pparse3; simp [h2]
theorem tp_b (m0 m1 m2 : List UInt8) {r : List UInt8} (hm : 43 ∈ r) (hw : wordsB false (cutZ 43 r) = false) : tailP m0 m1 m2 r = none := by
  unfold tailP; rw [if_pos ⟨hm, hw⟩]
theorem tp_e (m0 m1 m2 : List UInt8) {r : List UInt8} (hn : ¬ (43 ∈ r ∧ wordsB false (cutZ 43 r) = false)) (hA : cutA 43 r = []) : tailP m0 m1 m2 r = some ⟨m0, m1, m2, [], cutZ 43 r, 0⟩ := by
  unfold tailP; rw [if_neg hn, hA]
theorem tp_c (m0 m1 m2 : List UInt8) {r : List UInt8} {c : UInt8} {q : List UInt8} (hA : cutA 43 r = c :: q) (hc : ¬ c = 45) : tailP m0 m1 m2 r = none := by
  unfold tailP; rw [hA]; simp [hc]
theorem tp_w (m0 m1 m2 : List UInt8) {r q : List UInt8} (hA : cutA 43 r = 45 :: q) (hw : wordsB true q = false) : tailP m0 m1 m2 r = none := by
  unfold tailP; rw [hA]; simp [hw]
theorem tp_g (m0 m1 m2 : List UInt8) {r q : List UInt8} (hn : ¬ (43 ∈ r ∧ wordsB false (cutZ 43 r) = false)) (hA : cutA 43 r = 45 :: q) (hw : wordsB true q = true) : tailP m0 m1 m2 r = some ⟨m0, m1, m2, q, cutZ 43 r, 0⟩ := by
  unfold tailP; rw [if_neg hn, hA]; simp [hw]
theorem cutA_len (c : UInt8) (l : List UInt8) : (cutA c l).length ≤ l.length := by
  by_cases h : c ∈ l
  · obtain ⟨a, b, rfl, hn⟩ := mem_cut c l h
    rw [(cutA_at c a b hn).1]; simp
  · rw [(cutA_no c l h).1]; exact Nat.le_refl _
theorem cutZ_len (c : UInt8) (l : List UInt8) : (cutZ c l).length ≤ l.length := by
  by_cases h : c ∈ l
  · obtain ⟨a, b, rfl, hn⟩ := mem_cut c l h
    rw [(cutA_at c a b hn).2]; simp; omega
  · rw [(cutA_no c l h).2]; exact Nat.zero_le _

set_option maxRecDepth 100000 in
set_option maxHeartbeats 40000000 in
theorem parse_any (l : List UInt8) (w : World) (hz : l.length ≤ 140737488355328) :
    Calls Tryd.prog 14 #[.string (tx l)] w fun e w' => e = .returned (ParseV l) ∧ Below w.heap.size w w' := by
  go_enter Tryd.func14, Tryd.ntmps14
  go_wp2
  refine wp_scope_jumps 0 (fun a' W => (a'.tmps.size = 97 ∧ a'.defers = [] ∧ a'.tmps.getD 2 undef = .pointer (some ⟨w.heap.size, 0, none⟩)) ∧ PN l w.heap.size w W) (fun _ _ => 0) rfl ?_ ?_
  rotate_left
  · intro a1 W ⟨⟨g1, g2, g3⟩, h1, h2, h3, h4⟩
    obtain ⟨u, hu, rfl⟩ := frame97 a1 g1 g2
    rw [← hu] at g3
    simp only [g3]
    clear g1 g2 hu g3
    obtain ⟨c0, c1, c2, c3, c4, c5, f0, f1, f2, f3, f4, f5⟩ := rows6 h4
    have HP : Hid (ParseV l = .tuple #[.agg zerA, .bool false]) := Lib.hid (by unfold ParseV; rw [h1])
    have HB := Lib.hid h2
    have HR := Lib.hid (put6_row h4 (.string ⟨#[]⟩) (.string ⟨#[]⟩) (.string ⟨#[]⟩) (.string ⟨#[]⟩) (.string ⟨#[]⟩) (.int .i64 0))
    have HB6 := Lib.hid (put6_below (b := w.heap.size) h2 (Nat.le_refl _) (.string ⟨#[]⟩) (.string ⟨#[]⟩) (.string ⟨#[]⟩) (.string ⟨#[]⟩) (.string ⟨#[]⟩) (.int .i64 0))
    clear h1 h2 h3 h4
    go_hide hQ
    have HQ := Lib.hid hQ
    clear hQ
    go_wp2
    rw [← HQ.out]
    simp only [Exit.jump]
    change bodyPost Tryd.prog Tryd.f14 (fun e w' => e = .returned (ParseV l) ∧ Below w.heap.size w w') Exit.ret _ _
    rw [show ((((((W.setCell ⟨w.heap.size, 0, none⟩ (.string ⟨#[]⟩)).setCell ⟨w.heap.size, 1, none⟩ (.string ⟨#[]⟩)).setCell ⟨w.heap.size, 2, none⟩ (.string ⟨#[]⟩)).setCell ⟨w.heap.size, 3, none⟩ (.string ⟨#[]⟩)).setCell ⟨w.heap.size, 4, none⟩ (.string ⟨#[]⟩)).setCell ⟨w.heap.size, 5, none⟩ (.int .i64 0)) = put6 W w.heap.size (.string ⟨#[]⟩) (.string ⟨#[]⟩) (.string ⟨#[]⟩) (.string ⟨#[]⟩) (.string ⟨#[]⟩) (.int .i64 0) from rfl]
    generalize put6 W w.heap.size (.string ⟨#[]⟩) (.string ⟨#[]⟩) (.string ⟨#[]⟩) (.string ⟨#[]⟩) (.string ⟨#[]⟩) (.int .i64 0) = W6 at HR HB6 ⊢
    clear c0 c1 c2 c3 c4 c5 f0 f1 f2 f3 f4 f5
    obtain ⟨c0, c1, c2, c3, c4, c5, -⟩ := rows6 HR.out
    exact bodyPost_ret (v := .tuple #[.agg zerA, .bool false]) (by simp [results, Tryd.results14, go_sem, c0, c1, c2, c3, c4, c5, zerA]) rfl ⟨by rw [HP.out], HB6.out⟩
  · go_hide hQ
    have HQ := Lib.hid hQ
    clear hQ
    obtain ⟨Wi, hWi⟩ : ∃ Wi, Wi = (w.alloc (.cells zerA 44)).alloc (.cells zerA 44) := ⟨_, rfl⟩
    have X0 : Hid (St w.heap.size w Wi #[.string ⟨#[]⟩, .string ⟨#[]⟩, .string ⟨#[]⟩, .string ⟨#[]⟩, .string ⟨#[]⟩, .int .i64 0]) := Lib.hid (by
      rw [hWi]
      refine ⟨((Below.refl _ w).alloc (Nat.le_refl _) _).alloc (by simp) _, ?_, heap_alloc_two w _ _⟩
      rw [Below.heap_alloc _ _ _ (by simp)]; exact World.alloc_heap_new w _)
    unfold zerA at hWi
    go_wp2_with fail
    rw [← hWi]
    clear hWi
    cases l with
    | nil =>
      refine (cutp_no 118 [] (by simp) _).mono ?_
      rintro e W ⟨rfl, rfl⟩
      have PP : Hid (pparse [] = none) := Lib.hid rfl
      go_wp2
      go_step3
      rw [← HQ.out]
      exact ⟨rfl, ⟨rfl, rfl, rfl⟩, St.pn PP.out (X0.out)⟩
    | cons v r =>
      by_cases hv : v = 118
      · subst hv
        refine (cutp_yes 118 r _).mono ?_
        rintro e W ⟨rfl, rfl⟩
        have hsz : (tx (118 :: r)).size = r.length + 1 := by rw [tx_size]; simp
        by_cases hl : (118 :: r).length ≤ 100
        · have hr : r.length + 1 ≤ 100 := by simpa using hl
          go_wp2_with fail
          have hbq0 : r.length ≤ 1000000 := by omega
          cases hn0 : takeNum r with
          | none =>
            refine (num_none r _ hbq0 hn0).mono ?_
            rintro e W0 ⟨rfl, hb⟩
            have Y : St w.heap.size w W0 #[.string ⟨#[]⟩, .string ⟨#[]⟩, .string ⟨#[]⟩, .string ⟨#[]⟩, .string ⟨#[]⟩, .int .i64 0] := (X0.out).below hb
            have Y2 : Hid (St w.heap.size w (W0.setCell ⟨w.heap.size + 1, 0, none⟩ (.string ⟨#[]⟩)) #[.string ⟨#[]⟩, .string ⟨#[]⟩, .string ⟨#[]⟩, .string ⟨#[]⟩, .string ⟨#[]⟩, .int .i64 0]) := Lib.hid (Y.set 0 (.string ⟨#[]⟩))
            have PP := Lib.hid (pp_1 hl hn0)
            obtain ⟨c0, c1, c2, c3, c4, c5, f0, f1, f2, f3, f4, f5⟩ := rows6 Y.2.2
            obtain ⟨d0, d1, d2, d3, d4, d5, e0, e1, e2, e3, e4, e5⟩ := rows6 Y.2.1
            clear hb Y hn0
            go_wp2
            go_step3
            rw [← HQ.out]
            exact ⟨rfl, ⟨rfl, rfl, rfl⟩, St.pn PP.out (Y2.out)⟩
          | some Mr =>
            obtain ⟨m0, r1⟩ := Mr
            refine (num_some r _ hbq0 hn0).mono ?_
            rintro e W0 ⟨rfl, hb⟩
            have Y : St w.heap.size w W0 #[.string ⟨#[]⟩, .string ⟨#[]⟩, .string ⟨#[]⟩, .string ⟨#[]⟩, .string ⟨#[]⟩, .int .i64 0] := (X0.out).below hb
            have Y0 : Hid (St w.heap.size w (W0.setCell ⟨w.heap.size + 1, 0, none⟩ (.string (tx m0))) #[.string (tx m0), .string ⟨#[]⟩, .string ⟨#[]⟩, .string ⟨#[]⟩, .string ⟨#[]⟩, .int .i64 0]) := Lib.hid (Y.set 0 (.string (tx m0)))
            have HN0 := Lib.hid hn0
            have hlr0 : r1.length ≤ 1000000 := by have h9 := congrArg List.length (takeNum_some hn0).1; simp at h9; omega
            obtain ⟨c0, c1, c2, c3, c4, c5, f0, f1, f2, f3, f4, f5⟩ := rows6 Y.2.2
            obtain ⟨d0, d1, d2, d3, d4, d5, e0, e1, e2, e3, e4, e5⟩ := rows6 Y.2.1
            clear hb Y hn0
            have ht := tx_toList r1
            cases r1 with
            | nil =>
              have PP := Lib.hid (pp_one hl HN0.out)
              have YS : Hid (St w.heap.size w ((((W0.setCell ⟨w.heap.size + 1, 0, none⟩ (.string (tx m0))).setCell ⟨w.heap.size + 1, 1, none⟩ (.string ⟨#[48]⟩)).setCell ⟨w.heap.size + 1, 2, none⟩ (.string ⟨#[48]⟩)).setCell ⟨w.heap.size + 1, 5, none⟩ (.int .i64 2)) #[.string (tx m0), .string ⟨#[48]⟩, .string ⟨#[48]⟩, .string ⟨#[]⟩, .string ⟨#[]⟩, .int .i64 2]) := Lib.hid ((((Y0.out).set 1 (.string ⟨#[48]⟩)).set 2 (.string ⟨#[48]⟩)).set 5 (.int .i64 2))
              go_wp2
              rw [← HQ.out]
              simp only [Exit.jump]
              exact ret_leaf (PP.out) (YS.out) _ rfl rfl
            | cons c0x q0 =>
              have hs : 0 < (tx (c0x :: q0)).size := by rw [tx_size]; simp
              have h0 : (tx (c0x :: q0))[0] = c0x := tx_at _ 0 hs
              have hex : (tx (c0x :: q0)).extract 1 (tx (c0x :: q0)).size = tx q0 := by rw [tx_extract, tx_size, List.take_of_length_le (Nat.le_refl _)]; rfl
              have hsb : (tx (c0x :: q0)).size ≤ 1000000 := by rw [tx_size]; exact hlr0
              obtain ⟨S0, hS⟩ : ∃ S, S = tx (c0x :: q0) := ⟨_, rfl⟩
              rw [← hS] at ht hex hs hsb ⊢
              have h0' : S0[0] = c0x := by subst hS; exact h0
              clear h0 hS
              by_cases hc : c0x = 46
              · subst hc
                have qb : ((S0[0].toNat : Int) == 46) = true := by rw [h0']; rfl
                clear h0'
                go_wp2_with fail
                have hbq1 : q0.length ≤ 1000000 := by simp at hlr0; omega
                cases hn1 : takeNum q0 with
                | none =>
                  refine (num_none q0 _ hbq1 hn1).mono ?_
                  rintro e W1 ⟨rfl, hb⟩
                  have Y : St w.heap.size w W1 #[.string (tx m0), .string ⟨#[]⟩, .string ⟨#[]⟩, .string ⟨#[]⟩, .string ⟨#[]⟩, .int .i64 0] := (Y0.out).below hb
                  have Y2 : Hid (St w.heap.size w (W1.setCell ⟨w.heap.size + 1, 1, none⟩ (.string ⟨#[]⟩)) #[.string (tx m0), .string ⟨#[]⟩, .string ⟨#[]⟩, .string ⟨#[]⟩, .string ⟨#[]⟩, .int .i64 0]) := Lib.hid (Y.set 1 (.string ⟨#[]⟩))
                  have PP := Lib.hid ((pp_one hl HN0.out).trans (pp2_n m0 hn1))
                  clear c0 c1 c2 c3 c4 c5 f0 f1 f2 f3 f4 f5 d0 d1 d2 d3 d4 d5 e0 e1 e2 e3 e4 e5
                  obtain ⟨c0, c1, c2, c3, c4, c5, f0, f1, f2, f3, f4, f5⟩ := rows6 Y.2.2
                  obtain ⟨d0, d1, d2, d3, d4, d5, e0, e1, e2, e3, e4, e5⟩ := rows6 Y.2.1
                  clear hb Y hn1
                  go_wp2
                  go_step3
                  rw [← HQ.out]
                  exact ⟨rfl, ⟨rfl, rfl, rfl⟩, St.pn PP.out (Y2.out)⟩
                | some Mr =>
                  obtain ⟨m1, r2⟩ := Mr
                  refine (num_some q0 _ hbq1 hn1).mono ?_
                  rintro e W1 ⟨rfl, hb⟩
                  have Y : St w.heap.size w W1 #[.string (tx m0), .string ⟨#[]⟩, .string ⟨#[]⟩, .string ⟨#[]⟩, .string ⟨#[]⟩, .int .i64 0] := (Y0.out).below hb
                  have Y1 : Hid (St w.heap.size w (W1.setCell ⟨w.heap.size + 1, 1, none⟩ (.string (tx m1))) #[.string (tx m0), .string (tx m1), .string ⟨#[]⟩, .string ⟨#[]⟩, .string ⟨#[]⟩, .int .i64 0]) := Lib.hid (Y.set 1 (.string (tx m1)))
                  have HN1 := Lib.hid hn1
                  have hlr1 : r2.length ≤ 1000000 := by have h9 := congrArg List.length (takeNum_some hn1).1; simp at h9; omega
                  clear c0 c1 c2 c3 c4 c5 f0 f1 f2 f3 f4 f5 d0 d1 d2 d3 d4 d5 e0 e1 e2 e3 e4 e5
                  obtain ⟨c0, c1, c2, c3, c4, c5, f0, f1, f2, f3, f4, f5⟩ := rows6 Y.2.2
                  obtain ⟨d0, d1, d2, d3, d4, d5, e0, e1, e2, e3, e4, e5⟩ := rows6 Y.2.1
                  clear hb Y hn1
                  have ht := tx_toList r2
                  cases r2 with
                  | nil =>
                    have PP := Lib.hid (pp_two hl HN0.out HN1.out)
                    have YS : Hid (St w.heap.size w (((W1.setCell ⟨w.heap.size + 1, 1, none⟩ (.string (tx m1))).setCell ⟨w.heap.size + 1, 2, none⟩ (.string ⟨#[48]⟩)).setCell ⟨w.heap.size + 1, 5, none⟩ (.int .i64 1)) #[.string (tx m0), .string (tx m1), .string ⟨#[48]⟩, .string ⟨#[]⟩, .string ⟨#[]⟩, .int .i64 1]) := Lib.hid (((Y1.out).set 2 (.string ⟨#[48]⟩)).set 5 (.int .i64 1))
                    go_wp2
                    rw [← HQ.out]
                    simp only [Exit.jump]
                    exact ret_leaf (PP.out) (YS.out) _ rfl rfl
                  | cons c1x q1 =>
                    have hs : 0 < (tx (c1x :: q1)).size := by rw [tx_size]; simp
                    have h0 : (tx (c1x :: q1))[0] = c1x := tx_at _ 0 hs
                    have hex : (tx (c1x :: q1)).extract 1 (tx (c1x :: q1)).size = tx q1 := by rw [tx_extract, tx_size, List.take_of_length_le (Nat.le_refl _)]; rfl
                    have hsb : (tx (c1x :: q1)).size ≤ 1000000 := by rw [tx_size]; exact hlr1
                    obtain ⟨S1, hS⟩ : ∃ S, S = tx (c1x :: q1) := ⟨_, rfl⟩
                    rw [← hS] at ht hex hs hsb ⊢
                    have h0' : S1[0] = c1x := by subst hS; exact h0
                    clear h0 hS
                    by_cases hc : c1x = 46
                    · subst hc
                      have qb : ((S1[0].toNat : Int) == 46) = true := by rw [h0']; rfl
                      clear h0'
                      go_wp2_with fail
                      have hbq2 : q1.length ≤ 1000000 := by simp at hlr1; omega
                      cases hn2 : takeNum q1 with
                      | none =>
                        refine (num_none q1 _ hbq2 hn2).mono ?_
                        rintro e W2 ⟨rfl, hb⟩
                        have Y : St w.heap.size w W2 #[.string (tx m0), .string (tx m1), .string ⟨#[]⟩, .string ⟨#[]⟩, .string ⟨#[]⟩, .int .i64 0] := (Y1.out).below hb
                        have Y2 : Hid (St w.heap.size w (W2.setCell ⟨w.heap.size + 1, 2, none⟩ (.string ⟨#[]⟩)) #[.string (tx m0), .string (tx m1), .string ⟨#[]⟩, .string ⟨#[]⟩, .string ⟨#[]⟩, .int .i64 0]) := Lib.hid (Y.set 2 (.string ⟨#[]⟩))
                        have PP := Lib.hid ((pp_two hl HN0.out HN1.out).trans (pp3_n m0 m1 hn2))
                        clear c0 c1 c2 c3 c4 c5 f0 f1 f2 f3 f4 f5 d0 d1 d2 d3 d4 d5 e0 e1 e2 e3 e4 e5
                        obtain ⟨c0, c1, c2, c3, c4, c5, f0, f1, f2, f3, f4, f5⟩ := rows6 Y.2.2
                        obtain ⟨d0, d1, d2, d3, d4, d5, e0, e1, e2, e3, e4, e5⟩ := rows6 Y.2.1
                        clear hb Y hn2
                        go_wp2
                        go_step3
                        rw [← HQ.out]
                        exact ⟨rfl, ⟨rfl, rfl, rfl⟩, St.pn PP.out (Y2.out)⟩
                      | some Mr =>
                        obtain ⟨m2, r3⟩ := Mr
                        refine (num_some q1 _ hbq2 hn2).mono ?_
                        rintro e W2 ⟨rfl, hb⟩
                        have Y : St w.heap.size w W2 #[.string (tx m0), .string (tx m1), .string ⟨#[]⟩, .string ⟨#[]⟩, .string ⟨#[]⟩, .int .i64 0] := (Y1.out).below hb
                        have Y2 : Hid (St w.heap.size w (W2.setCell ⟨w.heap.size + 1, 2, none⟩ (.string (tx m2))) #[.string (tx m0), .string (tx m1), .string (tx m2), .string ⟨#[]⟩, .string ⟨#[]⟩, .int .i64 0]) := Lib.hid (Y.set 2 (.string (tx m2)))
                        have HN2 := Lib.hid hn2
                        have hlr2 : r3.length ≤ 1000000 := by have h9 := congrArg List.length (takeNum_some hn2).1; simp at h9; omega
                        clear c0 c1 c2 c3 c4 c5 f0 f1 f2 f3 f4 f5 d0 d1 d2 d3 d4 d5 e0 e1 e2 e3 e4 e5
                        obtain ⟨c0, c1, c2, c3, c4, c5, f0, f1, f2, f3, f4, f5⟩ := rows6 Y.2.2
                        obtain ⟨d0, d1, d2, d3, d4, d5, e0, e1, e2, e3, e4, e5⟩ := rows6 Y.2.1
                        clear hb Y hn2
                        go_wp2_with fail

                        have hlz : (cutZ 43 r3).length ≤ 1000000 := Nat.le_trans (cutZ_len 43 r3) hlr2
                        have hla : (cutA 43 r3).length ≤ 1000000 := Nat.le_trans (cutA_len 43 r3) hlr2
                        by_cases hm : (43 : UInt8) ∈ r3
                        · have HC : Hid (∀ W, Calls Tryd.prog 33 #[.string (tx r3), .string ⟨#[43]⟩] W fun e w' => e = .returned (.tuple #[.string (tx (cutA 43 r3)), .string (tx (cutZ 43 r3)), .bool true]) ∧ Below W.heap.size W w') := Lib.hid (fun W => by have h9 := cut_any r3 43 W hlr2; rw [decide_eq_true hm] at h9; exact h9)
                          refine (HC.out _).mono ?_
                          rintro e W4 ⟨rfl, hb⟩
                          have Y4b : Hid (St w.heap.size w W4 #[.string (tx m0), .string (tx m1), .string (tx m2), .string ⟨#[]⟩, .string ⟨#[]⟩, .int .i64 0]) := Lib.hid ((Y2.out).below hb)
                          have Y4 : Hid (St w.heap.size w (W4.setCell ⟨w.heap.size + 1, 4, none⟩ (.string (tx (cutZ 43 r3)))) #[.string (tx m0), .string (tx m1), .string (tx m2), .string ⟨#[]⟩, .string (tx (cutZ 43 r3)), .int .i64 0]) := Lib.hid ((Y4b.out).set 4 (.string (tx (cutZ 43 r3))))
                          clear c0 c1 c2 c3 c4 c5 f0 f1 f2 f3 f4 f5 d0 d1 d2 d3 d4 d5 e0 e1 e2 e3 e4 e5
                          obtain ⟨c0, c1, c2, c3, c4, c5, f0, f1, f2, f3, f4, f5⟩ := rows6 Y4b.out.2.2
                          obtain ⟨d0, d1, d2, d3, d4, d5, e0, e1, e2, e3, e4, e5⟩ := rows6 Y4b.out.2.1
                          clear hb
                          cases hw : wordsB false (cutZ 43 r3) with
                          | false =>
                            have PP := Lib.hid ((pp_all hl HN0.out HN1.out HN2.out).trans (tp_b m0 m1 m2 hm hw))
                            have HW : Hid (∀ W, Calls Tryd.prog 34 #[.string (tx (cutZ 43 r3)), .bool false] W fun e w' => e = .returned (.bool false) ∧ Below W.heap.size W w') := Lib.hid (fun W => by have h9 := words_any (cutZ 43 r3) false W hlz; rw [hw] at h9; exact h9)
                            clear hw hm
                            go_wp2_with fail
                            refine (HW.out _).mono ?_
                            rintro e W5 ⟨rfl, hb⟩
                            have Y5 : Hid (St w.heap.size w W5 #[.string (tx m0), .string (tx m1), .string (tx m2), .string ⟨#[]⟩, .string (tx (cutZ 43 r3)), .int .i64 0]) := Lib.hid ((Y4.out).below hb)
                            clear hb
                            go_wp2
                            go_step3
                            rw [← HQ.out]
                            exact ⟨rfl, ⟨rfl, rfl, rfl⟩, St.pn PP.out (Y5.out)⟩
                          | true =>
                            have HNB : Hid (¬ (43 ∈ r3 ∧ wordsB false (cutZ 43 r3) = false)) := Lib.hid (fun h => by rw [hw] at h; cases h.2)
                            have HW : Hid (∀ W, Calls Tryd.prog 34 #[.string (tx (cutZ 43 r3)), .bool false] W fun e w' => e = .returned (.bool true) ∧ Below W.heap.size W w') := Lib.hid (fun W => by have h9 := words_any (cutZ 43 r3) false W hlz; rw [hw] at h9; exact h9)
                            clear hw hm
                            go_wp2_with fail
                            refine (HW.out _).mono ?_
                            rintro e W5 ⟨rfl, hb⟩
                            have Y5 : Hid (St w.heap.size w W5 #[.string (tx m0), .string (tx m1), .string (tx m2), .string ⟨#[]⟩, .string (tx (cutZ 43 r3)), .int .i64 0]) := Lib.hid ((Y4.out).below hb)
                            clear hb
                            clear c0 c1 c2 c3 c4 c5 f0 f1 f2 f3 f4 f5 d0 d1 d2 d3 d4 d5 e0 e1 e2 e3 e4 e5
                            obtain ⟨c0, c1, c2, c3, c4, c5, f0, f1, f2, f3, f4, f5⟩ := rows6 Y5.out.2.2
                            obtain ⟨d0, d1, d2, d3, d4, d5, e0, e1, e2, e3, e4, e5⟩ := rows6 Y5.out.2.1
                            have ht := tx_toList (cutA 43 r3)
                            cases hA : cutA 43 r3 with
                            | nil =>
                              rw [hA] at ht
                              have PP := Lib.hid ((pp_all hl HN0.out HN1.out HN2.out).trans (tp_e m0 m1 m2 HNB.out hA))
                              clear hA
                              go_wp2
                              rw [← HQ.out]
                              simp only [Exit.jump]
                              exact ret_leaf (PP.out) (Y5.out) _ rfl rfl
                            | cons cx q3 =>
                              have hq3 : q3.length ≤ 1000000 := by rw [hA] at hla; simp at hla; omega
                              rw [hA] at ht
                              by_cases hc : cx = 45
                              · subst hc
                                have HA := Lib.hid hA
                                clear hA
                                go_wp2_with fail
                                refine (cutp_yes 45 q3 _).mono ?_
                                rintro e W6 ⟨rfl, rfl⟩
                                have Y6 : Hid (St w.heap.size w (W5.setCell ⟨w.heap.size + 1, 3, none⟩ (.string (tx q3))) #[.string (tx m0), .string (tx m1), .string (tx m2), .string (tx q3), .string (tx (cutZ 43 r3)), .int .i64 0]) := Lib.hid ((Y5.out).set 3 (.string (tx q3)))
                                cases hw : wordsB true q3 with
                                | false =>
                                  have PP := Lib.hid ((pp_all hl HN0.out HN1.out HN2.out).trans (tp_w m0 m1 m2 HA.out hw))
                                  have HW : Hid (∀ W, Calls Tryd.prog 34 #[.string (tx q3), .bool true] W fun e w' => e = .returned (.bool false) ∧ Below W.heap.size W w') := Lib.hid (fun W => by have h9 := words_any q3 true W hq3; rw [hw] at h9; exact h9)
                                  clear hw
                                  go_wp2_with fail
                                  refine (HW.out _).mono ?_
                                  rintro e W7 ⟨rfl, hb⟩
                                  have Y7 : Hid (St w.heap.size w W7 #[.string (tx m0), .string (tx m1), .string (tx m2), .string (tx q3), .string (tx (cutZ 43 r3)), .int .i64 0]) := Lib.hid ((Y6.out).below hb)
                                  clear hb
                                  clear c0 c1 c2 c3 c4 c5 f0 f1 f2 f3 f4 f5 d0 d1 d2 d3 d4 d5 e0 e1 e2 e3 e4 e5
                                  obtain ⟨c0, c1, c2, c3, c4, c5, f0, f1, f2, f3, f4, f5⟩ := rows6 Y7.out.2.2
                                  obtain ⟨d0, d1, d2, d3, d4, d5, e0, e1, e2, e3, e4, e5⟩ := rows6 Y7.out.2.1
                                  go_wp2
                                  go_step3
                                  go_wp2
                                  rw [← HQ.out]
                                  simp only [Exit.jump]
                                  exact no_leaf (PP.out) (Y7.out) _ rfl rfl
                                | true =>
                                  have PP := Lib.hid ((pp_all hl HN0.out HN1.out HN2.out).trans (tp_g m0 m1 m2 HNB.out HA.out hw))
                                  have HW : Hid (∀ W, Calls Tryd.prog 34 #[.string (tx q3), .bool true] W fun e w' => e = .returned (.bool true) ∧ Below W.heap.size W w') := Lib.hid (fun W => by have h9 := words_any q3 true W hq3; rw [hw] at h9; exact h9)
                                  clear hw
                                  go_wp2_with fail
                                  refine (HW.out _).mono ?_
                                  rintro e W7 ⟨rfl, hb⟩
                                  have Y7 : Hid (St w.heap.size w W7 #[.string (tx m0), .string (tx m1), .string (tx m2), .string (tx q3), .string (tx (cutZ 43 r3)), .int .i64 0]) := Lib.hid ((Y6.out).below hb)
                                  clear hb
                                  clear c0 c1 c2 c3 c4 c5 f0 f1 f2 f3 f4 f5 d0 d1 d2 d3 d4 d5 e0 e1 e2 e3 e4 e5
                                  obtain ⟨c0, c1, c2, c3, c4, c5, f0, f1, f2, f3, f4, f5⟩ := rows6 Y7.out.2.2
                                  obtain ⟨d0, d1, d2, d3, d4, d5, e0, e1, e2, e3, e4, e5⟩ := rows6 Y7.out.2.1
                                  go_wp2
                                  rw [← HQ.out]
                                  simp only [Exit.jump]
                                  exact ret_leaf (PP.out) (Y7.out) _ rfl rfl
                              · have PP := Lib.hid ((pp_all hl HN0.out HN1.out HN2.out).trans (tp_c m0 m1 m2 hA hc))
                                have Y6 : Hid (St w.heap.size w (W5.setCell ⟨w.heap.size + 1, 3, none⟩ (.string (tx (cx :: q3)))) #[.string (tx m0), .string (tx m1), .string (tx m2), .string (tx (cx :: q3)), .string (tx (cutZ 43 r3)), .int .i64 0]) := Lib.hid ((Y5.out).set 3 (.string (tx (cx :: q3))))
                                clear hA
                                go_wp2_with fail
                                refine (cutp_no 45 (cx :: q3) (by simpa using hc) _).mono ?_
                                rintro e W6 ⟨rfl, rfl⟩
                                clear hc
                                go_wp2
                                go_step3
                                go_wp2
                                rw [← HQ.out]
                                simp only [Exit.jump]
                                exact no_leaf (PP.out) (Y6.out) _ rfl rfl
                        · have HC : Hid (∀ W, Calls Tryd.prog 33 #[.string (tx r3), .string ⟨#[43]⟩] W fun e w' => e = .returned (.tuple #[.string (tx (cutA 43 r3)), .string (tx (cutZ 43 r3)), .bool false]) ∧ Below W.heap.size W w') := Lib.hid (fun W => by have h9 := cut_any r3 43 W hlr2; rw [decide_eq_false hm] at h9; exact h9)
                          refine (HC.out _).mono ?_
                          rintro e W4 ⟨rfl, hb⟩
                          have Y4b : Hid (St w.heap.size w W4 #[.string (tx m0), .string (tx m1), .string (tx m2), .string ⟨#[]⟩, .string ⟨#[]⟩, .int .i64 0]) := Lib.hid ((Y2.out).below hb)
                          have Y4 : Hid (St w.heap.size w (W4.setCell ⟨w.heap.size + 1, 4, none⟩ (.string (tx (cutZ 43 r3)))) #[.string (tx m0), .string (tx m1), .string (tx m2), .string ⟨#[]⟩, .string (tx (cutZ 43 r3)), .int .i64 0]) := Lib.hid ((Y4b.out).set 4 (.string (tx (cutZ 43 r3))))
                          clear c0 c1 c2 c3 c4 c5 f0 f1 f2 f3 f4 f5 d0 d1 d2 d3 d4 d5 e0 e1 e2 e3 e4 e5
                          obtain ⟨c0, c1, c2, c3, c4, c5, f0, f1, f2, f3, f4, f5⟩ := rows6 Y4b.out.2.2
                          obtain ⟨d0, d1, d2, d3, d4, d5, e0, e1, e2, e3, e4, e5⟩ := rows6 Y4b.out.2.1
                          clear hb
                          have HNB : Hid (¬ (43 ∈ r3 ∧ wordsB false (cutZ 43 r3) = false)) := Lib.hid (fun h => hm h.1)
                          clear hm
                          have ht := tx_toList (cutA 43 r3)
                          cases hA : cutA 43 r3 with
                          | nil =>
                            rw [hA] at ht
                            have PP := Lib.hid ((pp_all hl HN0.out HN1.out HN2.out).trans (tp_e m0 m1 m2 HNB.out hA))
                            clear hA
                            go_wp2
                            rw [← HQ.out]
                            simp only [Exit.jump]
                            exact ret_leaf (PP.out) (Y4.out) _ rfl rfl
                          | cons cx q3 =>
                            have hq3 : q3.length ≤ 1000000 := by rw [hA] at hla; simp at hla; omega
                            rw [hA] at ht
                            by_cases hc : cx = 45
                            · subst hc
                              have HA := Lib.hid hA
                              clear hA
                              go_wp2_with fail
                              refine (cutp_yes 45 q3 _).mono ?_
                              rintro e W6 ⟨rfl, rfl⟩
                              have Y6 : Hid (St w.heap.size w ((W4.setCell ⟨w.heap.size + 1, 4, none⟩ (.string (tx (cutZ 43 r3)))).setCell ⟨w.heap.size + 1, 3, none⟩ (.string (tx q3))) #[.string (tx m0), .string (tx m1), .string (tx m2), .string (tx q3), .string (tx (cutZ 43 r3)), .int .i64 0]) := Lib.hid ((Y4.out).set 3 (.string (tx q3)))
                              cases hw : wordsB true q3 with
                              | false =>
                                have PP := Lib.hid ((pp_all hl HN0.out HN1.out HN2.out).trans (tp_w m0 m1 m2 HA.out hw))
                                have HW : Hid (∀ W, Calls Tryd.prog 34 #[.string (tx q3), .bool true] W fun e w' => e = .returned (.bool false) ∧ Below W.heap.size W w') := Lib.hid (fun W => by have h9 := words_any q3 true W hq3; rw [hw] at h9; exact h9)
                                clear hw
                                go_wp2_with fail
                                refine (HW.out _).mono ?_
                                rintro e W7 ⟨rfl, hb⟩
                                have Y7 : Hid (St w.heap.size w W7 #[.string (tx m0), .string (tx m1), .string (tx m2), .string (tx q3), .string (tx (cutZ 43 r3)), .int .i64 0]) := Lib.hid ((Y6.out).below hb)
                                clear hb
                                clear c0 c1 c2 c3 c4 c5 f0 f1 f2 f3 f4 f5 d0 d1 d2 d3 d4 d5 e0 e1 e2 e3 e4 e5
                                obtain ⟨c0, c1, c2, c3, c4, c5, f0, f1, f2, f3, f4, f5⟩ := rows6 Y7.out.2.2
                                obtain ⟨d0, d1, d2, d3, d4, d5, e0, e1, e2, e3, e4, e5⟩ := rows6 Y7.out.2.1
                                go_wp2
                                go_step3
                                go_wp2
                                rw [← HQ.out]
                                simp only [Exit.jump]
                                exact no_leaf (PP.out) (Y7.out) _ rfl rfl
                              | true =>
                                have PP := Lib.hid ((pp_all hl HN0.out HN1.out HN2.out).trans (tp_g m0 m1 m2 HNB.out HA.out hw))
                                have HW : Hid (∀ W, Calls Tryd.prog 34 #[.string (tx q3), .bool true] W fun e w' => e = .returned (.bool true) ∧ Below W.heap.size W w') := Lib.hid (fun W => by have h9 := words_any q3 true W hq3; rw [hw] at h9; exact h9)
                                clear hw
                                go_wp2_with fail
                                refine (HW.out _).mono ?_
                                rintro e W7 ⟨rfl, hb⟩
                                have Y7 : Hid (St w.heap.size w W7 #[.string (tx m0), .string (tx m1), .string (tx m2), .string (tx q3), .string (tx (cutZ 43 r3)), .int .i64 0]) := Lib.hid ((Y6.out).below hb)
                                clear hb
                                clear c0 c1 c2 c3 c4 c5 f0 f1 f2 f3 f4 f5 d0 d1 d2 d3 d4 d5 e0 e1 e2 e3 e4 e5
                                obtain ⟨c0, c1, c2, c3, c4, c5, f0, f1, f2, f3, f4, f5⟩ := rows6 Y7.out.2.2
                                obtain ⟨d0, d1, d2, d3, d4, d5, e0, e1, e2, e3, e4, e5⟩ := rows6 Y7.out.2.1
                                go_wp2
                                rw [← HQ.out]
                                simp only [Exit.jump]
                                exact ret_leaf (PP.out) (Y7.out) _ rfl rfl
                            · have PP := Lib.hid ((pp_all hl HN0.out HN1.out HN2.out).trans (tp_c m0 m1 m2 hA hc))
                              have Y6 : Hid (St w.heap.size w ((W4.setCell ⟨w.heap.size + 1, 4, none⟩ (.string (tx (cutZ 43 r3)))).setCell ⟨w.heap.size + 1, 3, none⟩ (.string (tx (cx :: q3)))) #[.string (tx m0), .string (tx m1), .string (tx m2), .string (tx (cx :: q3)), .string (tx (cutZ 43 r3)), .int .i64 0]) := Lib.hid ((Y4.out).set 3 (.string (tx (cx :: q3))))
                              clear hA
                              go_wp2_with fail
                              refine (cutp_no 45 (cx :: q3) (by simpa using hc) _).mono ?_
                              rintro e W6 ⟨rfl, rfl⟩
                              clear hc
                              go_wp2
                              go_step3
                              go_wp2
                              rw [← HQ.out]
                              simp only [Exit.jump]
                              exact no_leaf (PP.out) (Y6.out) _ rfl rfl
                    · have qb : ((S1[0].toNat : Int) == 46) = false := by
                        rw [beq_eq_false_iff_ne, h0']
                        intro e
                        exact hc (UInt8.toNat_inj.1 (by show c1x.toNat = 46; omega))
                      have PP := Lib.hid ((pp_two hl HN0.out HN1.out).trans (pp3_c m0 m1 hc))
                      clear h0' hc
                      go_wp2
                      go_step3
                      rw [← HQ.out]
                      exact ⟨rfl, ⟨rfl, rfl, rfl⟩, St.pn PP.out (Y1.out)⟩
              · have qb : ((S0[0].toNat : Int) == 46) = false := by
                  rw [beq_eq_false_iff_ne, h0']
                  intro e
                  exact hc (UInt8.toNat_inj.1 (by show c0x.toNat = 46; omega))
                have PP := Lib.hid ((pp_one hl HN0.out).trans (pp2_c m0 hc))
                clear h0' hc
                go_wp2
                go_step3
                rw [← HQ.out]
                exact ⟨rfl, ⟨rfl, rfl, rfl⟩, St.pn PP.out (Y0.out)⟩
        · have hr : 100 < r.length + 1 := by simp at hl; omega
          have PP := Lib.hid (pp_long hl)
          clear hl
          go_wp2
          go_step3
          rw [← HQ.out]
          exact ⟨rfl, ⟨rfl, rfl, rfl⟩, St.pn PP.out (X0.out)⟩
      · refine (cutp_no 118 (v :: r) (by simpa using hv) _).mono ?_
        rintro e W ⟨rfl, rfl⟩
        have PP := Lib.hid (pp_head (r := r) hv)
        clear hv
        go_wp2
        go_step3
        rw [← HQ.out]
        exact ⟨rfl, ⟨rfl, rfl, rfl⟩, St.pn PP.out (X0.out)⟩
end Go.Proofs.YtgojmckfabhkaaaDoor.Sem
