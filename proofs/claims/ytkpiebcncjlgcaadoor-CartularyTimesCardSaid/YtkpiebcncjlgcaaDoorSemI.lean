/- THE WALK of the document's Parse. Conditions: a bound on the length. -/
import Derived.Test.YtkpiebcncjlgcaaDoorSemH
import Derived.Test.YtkpiebcncjlgcaaDoorSemE
namespace Go.Proofs.YtkpiebcncjlgcaaDoor.Sem
open Go Go.RowKit
set_option linter.unusedVariables false

/-- What the document's 'Parse' answers. -/
def RP (l : List UInt8) (e : Ending) : Prop := (rparse l = none ∧ e = .returned (.tuple #[.agg zerA, .bool false])) ∨ ∃ (v : Ver) (a0 a1 a2 : ByteArray) (a5 : Int), rparse l = some v ∧ e = .returned (.tuple #[.agg #[.string a0, .string a1, .string a2, .string (tx v.pre), .string (tx v.bld), .int .i64 a5], .bool true])

theorem rp_len {l : List UInt8} (h : l.length < 2 ∨ 100 < l.length ∨ l.head? ≠ some 118) : rparse l = none := by unfold rparse; rw [if_pos h]
section
variable {s s1 s2 : List UInt8} {ws : List (List UInt8)}
theorem rp_l (hl : 0 < s.length ∧ s.length ≤ 99) : ¬ ((118 :: s).length < 2 ∨ 100 < (118 :: s).length ∨ (118 :: s).head? ≠ some 118) := by simp; omega
theorem rp_b (hl : 0 < s.length ∧ s.length ≤ 99) (hm : 43 ∈ s) (hw : wordsB false (cutZ 43 s) = false) : rparse (118 :: s) = none := by
  unfold rparse; rw [if_neg (rp_l hl), List.tail_cons, if_pos ⟨hm, hw⟩]
theorem rp_p (hl : 0 < s.length ∧ s.length ≤ 99) (h1 : ¬ (43 ∈ s ∧ wordsB false (cutZ 43 s) = false)) (hs1 : cutA 43 s = s1) (hm : 45 ∈ s1) (hw : wordsB true (cutZ 45 s1) = false) : rparse (118 :: s) = none := by
  unfold rparse; rw [if_neg (rp_l hl), List.tail_cons, if_neg h1, hs1, if_pos ⟨hm, hw⟩]
theorem rp_n (hl : 0 < s.length ∧ s.length ≤ 99) (h1 : ¬ (43 ∈ s ∧ wordsB false (cutZ 43 s) = false)) (hs1 : cutA 43 s = s1) (h2 : ¬ (45 ∈ s1 ∧ wordsB true (cutZ 45 s1) = false)) (hs2 : cutA 45 s1 = s2) (hws : ws = splitD 46 s2)
    (h3 : 3 < ws.length ∨ ((43 ∈ s ∨ 45 ∈ s1) ∧ ws.length < 3)) : rparse (118 :: s) = none := by
  unfold rparse; rw [if_neg (rp_l hl), List.tail_cons, if_neg h1, hs1, if_neg h2, hs2, ← hws, if_pos h3]
theorem rp_d (hl : 0 < s.length ∧ s.length ≤ 99) (h1 : ¬ (43 ∈ s ∧ wordsB false (cutZ 43 s) = false)) (hs1 : cutA 43 s = s1) (h2 : ¬ (45 ∈ s1 ∧ wordsB true (cutZ 45 s1) = false)) (hs2 : cutA 45 s1 = s2) (hws : ws = splitD 46 s2)
    (h3 : ¬ (3 < ws.length ∨ ((43 ∈ s ∨ 45 ∈ s1) ∧ ws.length < 3))) (h4 : ws.all numberB = false) : rparse (118 :: s) = none := by
  unfold rparse; rw [if_neg (rp_l hl), List.tail_cons, if_neg h1, hs1, if_neg h2, hs2, ← hws, if_neg h3, if_pos h4]
theorem rp_ok (hl : 0 < s.length ∧ s.length ≤ 99) (h1 : ¬ (43 ∈ s ∧ wordsB false (cutZ 43 s) = false)) (hs1 : cutA 43 s = s1) (h2 : ¬ (45 ∈ s1 ∧ wordsB true (cutZ 45 s1) = false)) (hs2 : cutA 45 s1 = s2) (hws : ws = splitD 46 s2)
    (h3 : ¬ (3 < ws.length ∨ ((43 ∈ s ∨ 45 ∈ s1) ∧ ws.length < 3))) (h4 : ws.all numberB = true) : ∃ v, rparse (118 :: s) = some v ∧ v.pre = cutZ 45 s1 ∧ v.bld = cutZ 43 s := by
  refine ⟨⟨(ws ++ [[48], [48]]).getD 0 [], (ws ++ [[48], [48]]).getD 1 [], (ws ++ [[48], [48]]).getD 2 [], cutZ 45 s1, cutZ 43 s, 3 - ws.length⟩, ?_, rfl, rfl⟩
  unfold rparse; rw [if_neg (rp_l hl), List.tail_cons, if_neg h1, hs1, if_neg h2, hs2, ← hws, if_neg h3, if_neg (by rw [h4]; simp)]
theorem all_nn {i : Nat} (h : i < ws.length) (hn : numberB ws[i] = false) : ws.all numberB = false := by
  cases ha : ws.all numberB with
  | false => rfl
  | true => rw [List.all_eq_true] at ha; rw [ha _ (List.getElem_mem h)] at hn; cases hn
theorem all_ny (h : ∀ k (hk : k < ws.length), k < ws.length → numberB ws[k] = true) : ws.all numberB = true := by
  rw [List.all_eq_true]
  intro x hx
  obtain ⟨k, hk, rfl⟩ := List.getElem_of_mem hx
  exact h k hk hk
end

/-- Block N (the result) as it was made, block N + 1 holding the parts so far. -/
def StR (N : Nat) (w W : World) (a : Array Value) : Prop := Below N w W ∧ W.heap[N]? = some (.cells #[.string ⟨#[]⟩, .string ⟨#[]⟩, .string ⟨#[]⟩, .string ⟨#[]⟩, .string ⟨#[]⟩, .int .i64 0] 45 (0, 0)) ∧ W.heap[N + 1]? = some (.cells a 45 (0, 0))
theorem StR.below {N : Nat} {w W W' : World} {a : Array Value} (h : StR N w W a) (hb : Below W.heap.size W W') : StR N w W' a := by
  have h1 := lt_of_block h.2.2
  exact ⟨h.1.trans (hb.mono (by omega)), below_heap hb h.2.1 (by omega), below_heap hb h.2.2 h1⟩
theorem StR.gb {N g : Nat} {w W W' : World} {a : Array Value} (h : StR N w W a) (hg : W.grownBy W' (some g)) (hgN : N + 2 ≤ g) : StR N w W' a := by
  have h1 := lt_of_block h.2.2
  exact ⟨h.1.trans (gb_below hg (by omega) (fun k e => by cases e; omega)), gb_heap hg h.2.1 (fun e => by cases e; omega), gb_heap hg h.2.2 (fun e => by cases e; omega)⟩
theorem StR.set {N : Nat} {w W : World} {a : Array Value} (h : StR N w W a) (i : Nat) (v : Value) : StR N w (W.setCell ⟨N + 1, i, none⟩ v) (a.setIfInBounds i v) :=
  ⟨h.1.setCell (p := ⟨N + 1, i, none⟩) (by show N ≤ N + 1; omega) _, (Below.heap_setCell _ _ _ _ (by show N ≠ N + 1; omega)).trans h.2.1, heap_set h.2.2 i v⟩
theorem ownsS_mono {W : World} {B B' : Nat} {v : Value} {l : List ByteArray} (hB : B ≤ B') (h : ownsS W B' v l) : ownsS W B v l := by
  refine ⟨h.1, ?_⟩
  rcases h.2 with h2 | ⟨g, cap, cur, hv, hg, rest⟩
  · exact Or.inl h2
  · exact Or.inr ⟨g, cap, cur, hv, Nat.le_trans hB hg, rest⟩
theorem leafR {l : List UInt8} {w W : World} {v0 v1 v2 v3 v4 v5 : Value} {b : Bool} (hp : RP l (.returned (.tuple #[.agg #[v0, v1, v2, v3, v4, v5], .bool b]))) (hB : Below w.heap.size w W)
    (hN : W.heap[w.heap.size]? = some (.cells #[.string ⟨#[]⟩, .string ⟨#[]⟩, .string ⟨#[]⟩, .string ⟨#[]⟩, .string ⟨#[]⟩, .int .i64 0] 45 (0, 0))) (t : Array Value) (h2 : t.getD 2 undef = .pointer (some ⟨w.heap.size, 0, none⟩)) (h3 : t.getD 3 undef = .bool b) :
    bodyPost Tryd.prog Tryd.f21 (fun e w' => RP l e ∧ Below w.heap.size w w') Exit.ret { tmps := t, defers := [] } (put6 W w.heap.size v0 v1 v2 v3 v4 v5) := by
  have hr := put6_row hN v0 v1 v2 v3 v4 v5
  have hb := put6_below (b := w.heap.size) hB (Nat.le_refl _) v0 v1 v2 v3 v4 v5
  generalize put6 W w.heap.size v0 v1 v2 v3 v4 v5 = W6 at hr hb ⊢
  obtain ⟨c0, c1, c2, c3, c4, c5, -⟩ := rows6 hr
  have h2' : t[2]?.getD undef = .pointer (some ⟨w.heap.size, 0, none⟩) := by rw [← Array.getD_eq_getD_getElem?]; exact h2
  have h3' : t[3]?.getD undef = .bool b := by rw [← Array.getD_eq_getD_getElem?]; exact h3
  exact bodyPost_ret (v := .tuple #[.agg #[v0, v1, v2, v3, v4, v5], .bool b]) (by simp [results, Tryd.results21, go_sem, c0, c1, c2, c3, c4, c5, h2', h3']) rfl ⟨hp, hb⟩

theorem leafR0 {l : List UInt8} {w W : World} {v0 v1 v2 v3 v4 v5 : Value} {b : Bool} (hp : RP l (.returned (.tuple #[.agg #[v0, v1, v2, v3, v4, v5], .bool b]))) (hb : Below w.heap.size w W)
    (hr : W.heap[w.heap.size]? = some (.cells #[v0, v1, v2, v3, v4, v5] 45 (0, 0))) (t : Array Value) (h2 : t.getD 2 undef = .pointer (some ⟨w.heap.size, 0, none⟩)) (h3 : t.getD 3 undef = .bool b) :
    bodyPost Tryd.prog Tryd.f21 (fun e w' => RP l e ∧ Below w.heap.size w w') Exit.ret { tmps := t, defers := [] } W := by
  obtain ⟨c0, c1, c2, c3, c4, c5, -⟩ := rows6 hr
  have h2' : t[2]?.getD undef = .pointer (some ⟨w.heap.size, 0, none⟩) := by rw [← Array.getD_eq_getD_getElem?]; exact h2
  have h3' : t[3]?.getD undef = .bool b := by rw [← Array.getD_eq_getD_getElem?]; exact h3
  exact bodyPost_ret (v := .tuple #[.agg #[v0, v1, v2, v3, v4, v5], .bool b]) (by simp [results, Tryd.results21, go_sem, c0, c1, c2, c3, c4, c5, h2', h3']) rfl ⟨hp, hb⟩

set_option maxRecDepth 100000 in
set_option maxHeartbeats 40000000 in
theorem rparse_front_none (l : List UInt8) (w : World) (hz : l.length ≤ 1000) (hl : ¬ (2 ≤ l.length ∧ l.length ≤ 100 ∧ l.head? = some 118)) :
    Calls Tryd.prog 21 #[.string (tx l)] w fun e w' => RP l e ∧ Below w.heap.size w w' := by
  have PP : Hid (rparse l = none) := Lib.hid (rp_len (by
    by_cases h1 : l.length < 2
    · exact Or.inl h1
    · by_cases h2 : 100 < l.length
      · exact Or.inr (Or.inl h2)
      · exact Or.inr (Or.inr (fun h => hl ⟨by omega, by omega, h⟩))))
  have hsz := tx_size l
  have HB0 : Hid (Below w.heap.size w (w.alloc (.cells #[.string ⟨#[]⟩, .string ⟨#[]⟩, .string ⟨#[]⟩, .string ⟨#[]⟩, .string ⟨#[]⟩, .int .i64 0] 45))) := Lib.hid ((Below.refl _ w).alloc (Nat.le_refl _) _)
  have HR0 := Lib.hid (heap_alloc_same w (.cells #[.string ⟨#[]⟩, .string ⟨#[]⟩, .string ⟨#[]⟩, .string ⟨#[]⟩, .string ⟨#[]⟩, .int .i64 0] 45))
  by_cases h1 : l.length < 2
  · have h1' : (tx l).size < 2 := by omega
    clear hl
    go_enter Tryd.func21, Tryd.ntmps21
    go_wp2
    exact leafR0 (Or.inl ⟨PP.out, rfl⟩) HB0.out HR0.out _ rfl rfl
  · by_cases h2 : 100 < l.length
    · have h2' : 100 < (tx l).size := by omega
      clear hl
      go_enter Tryd.func21, Tryd.ntmps21
      go_wp2
      exact leafR0 (Or.inl ⟨PP.out, rfl⟩) HB0.out HR0.out _ rfl rfl
    · have hp : 0 < (tx l).size := by omega
      have hh : l.head? = some (l[0]'(by omega)) := by rw [List.head?_eq_getElem?, List.getElem?_eq_getElem]
      have h0 : (tx l)[0] = l[0]'(by omega) := tx_at l 0 hp
      have hne : ¬ (l[0]'(by omega)).toNat = 118 := fun e => hl ⟨by omega, by omega, by rw [hh]; exact congrArg some (UInt8.toNat_inj.1 e)⟩
      obtain ⟨S, hS⟩ : ∃ S, S = tx l := ⟨_, rfl⟩
      rw [← hS] at hsz hp ⊢
      have h0' : S[0] = l[0]'(by omega) := by subst hS; exact h0
      have h1' : ¬ S.size < 2 := by omega
      have h2' : ¬ 100 < S.size := by omega
      have q : ((S[0].toNat : Int) == 118) = false := by rw [beq_eq_false_iff_ne, h0']; omega
      have q2 : ((S[0].toNat : Int) != 118) = true := by unfold bne; rw [q]; rfl
      clear hl hh h0 h0' hne hS hsz h1 h2
      go_enter Tryd.func21, Tryd.ntmps21
      go_wp2
      exact leafR0 (Or.inl ⟨PP.out, rfl⟩) HB0.out HR0.out _ rfl rfl
end Go.Proofs.YtkpiebcncjlgcaaDoor.Sem
