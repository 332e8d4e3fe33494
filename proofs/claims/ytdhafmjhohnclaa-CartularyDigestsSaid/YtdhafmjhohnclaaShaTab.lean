/- SMALL LAWS for rows of cells; the walk of SHA-256's table. Conditions: none. -/
import Derived.Test.YtdhafmjhohnclaaShaMath2
import Derived.Test.YtdhafmjhohnclaaShaBlock1
namespace Go.Proofs.Ytdhafmjhohnclaa
open Go.RowKit Sums
set_option linter.unusedVariables false

theorem wrap_of {x : Int} {y : Int} (h : x % 4294967296 = y) : IntKind.u32.wrap x = y := h
theorem wp_value_of {P : Program} {o : Oper} {a : Act} {w : World} {K : Act → World → Prop} {Q : Exit → Act → World → Prop} {v : Value} (h : (execOp a.eval o).run P w = .ok (.value v) w) (hk : K (a.put o.dst v) w) : o.wp P a w K Q := by
  unfold Oper.wp
  rw [h]
  exact hk

def setMany (c : Array Value) : Nat → List Value → Array Value
  | _, [] => c
  | o, v :: r => setMany (c.setIfInBounds o v) (o + 1) r
theorem heap_setCells {b : Nat} {t : TypeId} {f : Nat × Nat} : ∀ (vs : List Value) (o : Nat) (w : World) (c : Array Value), w.heap[b]? = some (.cells c t f) → (w.setCells b o vs).heap[b]? = some (.cells (setMany c o vs) t f)
  | [], _, _, _, h => h
  | v :: r, o, w, c, h => heap_setCells r (o + 1) _ _ (heap_set h o v)
theorem below_setCells {B b : Nat} {a : World} (hb : B ≤ b) : ∀ (vs : List Value) (o : Nat) (w : World), Below B a w → Below B a (w.setCells b o vs)
  | [], _, _, h => h
  | v :: r, o, w, h => below_setCells hb r (o + 1) _ (h.setCell (p := ⟨b, o, none⟩) hb v)
theorem setMany_size : ∀ (vs : List Value) (o : Nat) (c : Array Value), (setMany c o vs).size = c.size
  | [], _, _ => rfl
  | v :: r, o, c => by rw [setMany, setMany_size r (o + 1)]; simp
theorem setMany_at : ∀ (vs : List Value) (o : Nat) (c : Array Value) (k : Nat), k < c.size → (setMany c o vs)[k]? = if o ≤ k ∧ k < o + vs.length then vs[k - o]? else c[k]?
  | [], o, c, k, h => by rw [if_neg (by simp)]; rfl
  | v :: r, o, c, k, h => by
    rw [setMany, setMany_at r (o + 1) _ k (by simpa using h)]
    by_cases h1 : k = o
    · subst h1
      rw [if_neg (by omega), if_pos (by simp), Array.getElem?_setIfInBounds_self_of_lt h]
      simp
    · rw [Array.getElem?_setIfInBounds_ne (by omega)]
      by_cases h2 : o + 1 ≤ k ∧ k < o + 1 + r.length
      · rw [if_pos h2, if_pos (by simp; omega), show k - o = (k - (o + 1)) + 1 by omega, List.getElem?_cons_succ]
      · rw [if_neg h2, if_neg (by simp; omega)]
theorem setMany_all (c d : Array Value) (h : c.size = d.size) : setMany c 0 d.toList = d := by
  apply Array.ext_getElem?
  intro k
  by_cases hk : k < c.size
  · rw [setMany_at _ _ _ _ hk, if_pos (by simp; omega), Array.getElem?_toList, Nat.sub_zero]
  · rw [Array.getElem?_eq_none (by rw [setMany_size]; omega), Array.getElem?_eq_none (by omega)]
/-- A whole row, stored: it lies there. -/
theorem heap_stored {b : Nat} {t : TypeId} {f : Nat × Nat} {w : World} {c d : Array Value} (h : w.heap[b]? = some (.cells c t f)) (hs : c.size = d.size) : (w.setCells b 0 d.toList).heap[b]? = some (.cells d t f) := by
  have := heap_setCells d.toList 0 w c h
  rwa [setMany_all c d hs] at this
theorem there_of {b n : Nat} {t : TypeId} {w : World} {c : Array Value} (h : w.heap[b]? = some (.cells c t (0, 0))) (hn : n ≤ c.size) : w.there b 0 n := fun j hj => by
  rw [Nat.zero_add]
  refine ⟨?_, free_at h j⟩
  rw [cell_at h j, Array.getElem?_eq_getElem (by omega)]
  rfl
theorem range_of {b : Nat} {t : TypeId} {f : Nat × Nat} {w : World} {c : Array Value} (h : w.heap[b]? = some (.cells c t f)) : w.rangeAt b 0 c.toList := fun j v hv => by
  rw [Nat.zero_add]
  rw [Array.getElem?_toList] at hv
  exact (cell_at h j).trans hv
theorem arrW_one (l : List (BitVec 32)) (n : Nat) : (arrW l n).all (·.oneCell') = true := by
  rw [Array.all_eq_true_iff_forall_mem]
  intro v hv
  unfold arrW at hv
  rw [List.mem_toArray, List.mem_map] at hv
  obtain ⟨j, _, rfl⟩ := hv
  rfl

theorem putW_heap {b g : Nat} (hne : b ≠ g) (w : World) (x : List (BitVec 32)) : ∀ i, (putW w g x i).heap[b]? = w.heap[b]?
  | 0 => rfl
  | i + 1 => (Below.heap_setCell _ _ _ _ hne).trans (putW_heap hne w x i)
theorem putW_drew (g : Nat) (w : World) (x : List (BitVec 32)) : ∀ i, (putW w g x i).drew = putW w.drew g x i
  | 0 => rfl
  | i + 1 => by rw [putW, putW, ← putW_drew g w x i]; rfl
theorem putW_cell_ge (g : Nat) (w : World) (x : List (BitVec 32)) (j : Nat) : ∀ i, i ≤ j → (putW w g x i).cell? ⟨g, j, none⟩ = w.cell? ⟨g, j, none⟩
  | 0, _ => rfl
  | i + 1, h => by
    rw [putW, ← putW_cell_ge g w x j i (by omega)]
    exact World.cell?_setCell_other (h := fun e => by injection e with _ e1 _; omega) ..  
theorem putW_frozen (g : Nat) (w : World) (x : List (BitVec 32)) : ∀ (i : Nat) (p : Addr), (putW w g x i).frozen? p = w.frozen? p
  | 0, _ => rfl
  | i + 1, p => by
    rw [putW, ← putW_frozen g w x i p]
    exact World.frozen?_setCell _ _ _ _

set_option maxRecDepth 100000 in
set_option maxHeartbeats 1000000 in
theorem table_any (TK : Array Value) (hTK : RowKit.Hid (TK = arrW tabK 64)) (w : World) : Calls Try.prog 51 #[] w fun e w' => e = .returned (.agg TK) ∧ Below w.heap.size w w' := by
  have hz : ∀ w : World, (zeroValue 68).run Try.prog w = .ok (.agg (arrW [] 64)) w := fun w => by kernel_rfl
  have hsz : TK.size = 64 := by rw [hTK.out]; exact arrW_size _ _
  have hone : TK.all (·.oneCell') = true := by rw [hTK.out]; exact arrW_one _ _
  have HSZ := Lib.hid hsz
  have HONE := Lib.hid hone
  clear hsz hone
  go_enter Try.func51, Try.ntmps51
  go_upto_region 1 with fail
  go_step
  refine wpList_plain rfl (fun _ hK => wp_value_of (v := .agg TK) (by rw [hTK.out]; kernel_rfl) (hK _ _ ?_))
  have h0 := heap_alloc_same w (.cells (arrW [] 64) 68)
  have hb := (Below.refl w.heap.size w).alloc (Nat.le_refl _) (.cells (arrW [] 64) 68)
  generalize w.alloc (.cells (arrW [] 64) 68) = W0 at h0 hb ⊢
  refine wpList_store_mid rfl _ _ _ rfl w.heap.size 0 TK rfl rfl (there_of h0 (by rw [arrW_size, HSZ.out]; exact Nat.le_refl _)) (by rw [HSZ.out]; kernel_rfl) HONE.out ?_
  have h1 := heap_stored h0 (d := TK) (by rw [arrW_size, HSZ.out])
  have hb1 := below_setCells (Nat.le_refl w.heap.size) TK.toList 0 W0 hb
  generalize W0.setCells w.heap.size 0 TK.toList = W1 at h1 hb1 ⊢
  have HB1 := Lib.hid hb1
  clear hz h0 hb hb1 hK
  go_wp2
  exact bodyPost_ret (results_cell_row rfl _ W1 w.heap.size 68 TK (0, 0) _ rfl h1 Try.underlying68 rfl (by rw [HSZ.out]; kernel_rfl)) rfl ⟨rfl, HB1.out⟩
end Go.Proofs.Ytdhafmjhohnclaa
