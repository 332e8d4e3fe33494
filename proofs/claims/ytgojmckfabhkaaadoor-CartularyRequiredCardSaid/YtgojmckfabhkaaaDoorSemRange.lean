/- A LOOP OVER strings.SplitSeq(s, "."), ITS BODY WALKED ONCE: a word that is right lets it go on, one that is wrong leaves by a return. Conditions: a bound on the length. -/
import Derived.Test.YtgojmckfabhkaaaDoorSemSplit
import Derived.Test.YtgojmckfabhkaaaDoorSemLib
namespace Go.Proofs.YtgojmckfabhkaaaDoor.Sem
open Go Go.RowKit Go.Shelf
set_option linter.unusedVariables false

/-- The iterator of s's pieces between full stops, and its world. -/
def itV (n : Nat) : Value := .func (.func 80) #[] #[.pointer (some ⟨n + 1, 0, none⟩), .pointer (some ⟨n, 0, none⟩), .pointer (some ⟨n + 2, 0, none⟩)]
def itW (s p : ByteArray) (w : World) : World := ((w.alloc (.cells #[.string s] 9)).alloc (.cells #[.string p] 9)).alloc (.cells #[.int .i64 0] 3)

theorem itW_size (s p : ByteArray) (w : World) : (itW s p w).heap.size = w.heap.size + 3 := by unfold itW; simp
theorem itW_below (s p : ByteArray) (w : World) : Below w.heap.size w (itW s p w) := by
  unfold itW
  exact (((Below.refl _ w).alloc (Nat.le_refl _) _).alloc (by simp) _).alloc (by simp; omega) _
theorem itW_0 (s p : ByteArray) (w : World) : (itW s p w).heap[w.heap.size]? = some (.cells #[.string s] 9 (0, 0)) := by
  unfold itW
  rw [Below.heap_alloc _ _ _ (by simp; omega), Below.heap_alloc _ _ _ (by simp)]
  exact World.alloc_heap_new w _
theorem itW_1 (s p : ByteArray) (w : World) : (itW s p w).heap[w.heap.size + 1]? = some (.cells #[.string p] 9 (0, 0)) := by
  unfold itW
  rw [Below.heap_alloc _ _ _ (by simp)]
  have := World.alloc_heap_new (w.alloc (.cells #[.string s] 9)) (.cells #[.string p] 9)
  rwa [World.size_alloc] at this
theorem itW_2 (s p : ByteArray) (w : World) : (itW s p w).heap[w.heap.size + 2]? = some (.cells #[.int .i64 0] 3 (0, 0)) := by
  unfold itW
  have := World.alloc_heap_new ((w.alloc (.cells #[.string s] 9)).alloc (.cells #[.string p] 9)) (.cells #[.int .i64 0] 3)
  rwa [World.size_alloc, World.size_alloc] at this

/-- What stands between two rounds: the iterator has r still to say; its own row, the loop's record, the block for deferred calls. -/
def Rnd (B : Nat) (w : World) (L : Loop) (r : List UInt8) (W : World) : Prop :=
  Below B w W ∧ W.cell? ⟨B, 0, none⟩ = some (.string (tx r)) ∧ W.frozen? ⟨B, 0, none⟩ = false ∧ W.heap[B + 1]? = some (.cells #[.string ⟨#[46]⟩] 9 (0, 0)) ∧ W.heap[B + 2]? = some (.cells #[.int .i64 0] 3 (0, 0)) ∧
    W.heap[B + 3]? = some (.deferred (some [])) ∧ W.heap[B + 4]? = some (.loop L)
theorem cell_row {W : World} {b : Nat} {v : Value} {t : TypeId} (h : W.heap[b]? = some (.cells #[v] t (0, 0))) : W.cell? ⟨b, 0, none⟩ = some v := (show Boxed W b t v from h).cell
theorem Rnd.drew {B : Nat} {w : World} {L : Loop} {r : List UInt8} {W : World} (h : Rnd B w L r W) : Rnd B w L r W.drew :=
  ⟨h.1.drew, h.2.1, h.2.2.1, h.2.2.2.1, h.2.2.2.2.1, h.2.2.2.2.2.1, h.2.2.2.2.2.2⟩
theorem Rnd.say {B : Nat} {w : World} {L : Loop} {r : List UInt8} {W : World} (h : Rnd B w L r W) (r' : List UInt8) : Rnd B w L r' (W.setCell ⟨B, 0, none⟩ (.string (tx r'))) := by
  obtain ⟨h1, h2, h3, h4, h5, h6, h7⟩ := h
  refine ⟨h1.setCell (p := ⟨B, 0, none⟩) (Nat.le_refl _) _, World.cell?_setCell_same' _ _ _ (by rw [h2]; rfl), by rw [World.frozen?_setCell]; exact h3, ?_, ?_, ?_, ?_⟩
  · rw [Below.heap_setCell _ _ _ _ (by simp)]; exact h4
  · rw [Below.heap_setCell _ _ _ _ (by simp)]; exact h5
  · rw [Below.heap_setCell _ _ _ _ (by simp)]; exact h6
  · rw [Below.heap_setCell _ _ _ _ (by simp)]; exact h7
theorem Rnd.below {B : Nat} {w : World} {L : Loop} {r : List UInt8} {W W' : World} (h : Rnd B w L r W) (hw : w.heap.size = B + 3) (hb : Below W.heap.size W W') : Rnd B w L r W' := by
  obtain ⟨h1, h2, h3, h4, h5, h6, h7⟩ := h
  have hs : B + 4 < W.heap.size := (Array.getElem?_eq_some_iff.1 h7).1
  exact ⟨h1.trans (hb.mono (by omega)), by rw [hb.cell (p := ⟨B, 0, none⟩) (by show B < _; omega)]; exact h2, by rw [hb.frozen (p := ⟨B, 0, none⟩) (by show B < _; omega)]; exact h3,
    by rw [hb.block _ (by omega)]; exact h4, by rw [hb.block _ (by omega)]; exact h5, by rw [hb.block _ (by omega)]; exact h6, by rw [hb.block _ (by omega)]; exact h7⟩
theorem Rnd.put {B : Nat} {w : World} {L : Loop} {r : List UInt8} {W : World} (h : Rnd B w L r W) (hw : w.heap.size = B + 3) (L' : Loop) : Rnd B w L' r (W.putObj (B + 4) (.loop L')) := by
  obtain ⟨h1, h2, h3, h4, h5, h6, h7⟩ := h
  have hs : B + 4 < W.heap.size := (Array.getElem?_eq_some_iff.1 h7).1
  have hk : ∀ k, k ≠ B + 4 → (W.putObj (B + 4) (.loop L')).heap[k]? = W.heap[k]? := fun k hk => World.putObj_heap_other hk
  refine ⟨h1.trans (belowK_b (w := w) (by omega) W (B + 4) _ _ (by omega) h7 rfl rfl), ?_, ?_, ?_, ?_, ?_, World.putObj_heap_same hs⟩
  · rw [World.cell?_of_block (w := W) (hk B (by omega))]; exact h2
  · rw [World.frozen?_of_block (w := W) (hk B (by omega))]; exact h3
  · rw [hk _ (by omega)]; exact h4
  · rw [hk _ (by omega)]; exact h5
  · rw [hk _ (by omega)]; exact h6

/-- How a round's body is left. -/
def BodyEnd (rb : Nat) (W : World) (ok : Bool) : Exit → Act → World → Prop
  | .normal, _, W' => ok = true ∧ Below W.heap.size W W'
  | .ret, _, W' => ok = false ∧ ∃ W1, Below W.heap.size W W1 ∧ W' = W1.setCell ⟨rb, 0, none⟩ (.bool false)
  | _, _, _ => False

set_option maxRecDepth 100000 in
/-- The loop. -/
theorem range_split {g : Operand} {assign body : Code} {t : Tmp} {Qp : Exit → Act → World → Prop} {a : Act} {w : World} (n : Nat) (hn : 3 ≤ n) (N B rb : Nat)
    (hg : a.eval g = itV B) (l0 : List UInt8) (hz : l0.length ≤ 1000000) (hw : w.heap.size = B + 3) (hN : N ≤ rb) (hrb : rb < B) (hrc : (w.cell? ⟨rb, 0, none⟩).isSome = true)
    (h0 : w.heap[B]? = some (.cells #[.string (tx l0)] 9 (0, 0))) (h1 : w.heap[B + 1]? = some (.cells #[.string ⟨#[46]⟩] 9 (0, 0))) (h2 : w.heap[B + 2]? = some (.cells #[.int .i64 0] 3 (0, 0)))
    (ok : List UInt8 → Bool) (a₁ : List UInt8 → Act)
    (hassign : ∀ (l : Nat) (x : List UInt8) (W : World) (K : Act → World → Prop), K (a₁ x) W →
      assign.wpIn (Fence.wide.inRound l) (n - 1 - 1) Tryd.prog (Exit.then K (fun _ _ _ => False)) { tmps := (#[t].zip #[Value.string (tx x)]).foldl (fun u (p, v) => u.setIfInBounds p v) a.tmps, defers := [] } W)
    (hbody : ∀ (l : Nat) (x : List UInt8) (W : World), x.length ≤ 1000000 → Below B w W → B < W.heap.size → body.wpIn (Fence.wide.inRound l) (n - 1 - 1) Tryd.prog (BodyEnd rb W (ok x)) (a₁ x) W)
    (hdone : ∀ (D : Nat) (W : World), w.heap.size ≤ D → (splitD 46 l0).all ok = true → Below B w W → W.heap[D]? = some (.deferred (some [])) → Qp .normal { a with defers := { target := .collected D, args := #[] } :: a.defers } W)
    (hstop : ∀ (D : Nat) (W : World), w.heap.size ≤ D → (splitD 46 l0).all ok = false → Below N w W → W.cell? ⟨rb, 0, none⟩ = some (.bool false) → W.heap[D]? = some (.deferred (some [])) → Code.ret.wpIn Fence.wide n Tryd.prog Qp { a with defers := { target := .collected D, args := #[] } :: a.defers } W) :
    (Code.rangeFunc g #[t] assign body).wpIn Fence.wide n Tryd.prog Qp a w := by
  refine wpIn_rangeFunc ?_
  intro fn hfn
  obtain ⟨L, hL⟩ : ∃ L : LoopState → Option Code → Loop, L = fun st pe => { state := st, pending := pe, fn, tmps := a.tmps, params := #[t], assign, body, defers := w.heap.size } := ⟨_, rfl⟩
  obtain ⟨W1, hW1⟩ : ∃ W1, (w.alloc (.deferred (some []))).alloc (.loop (L .ready none)) = W1 := ⟨_, rfl⟩
  have hb1 : Below w.heap.size w W1 := by rw [← hW1]; exact ((Below.refl _ w).alloc (Nat.le_refl _) _).alloc (by simp) _
  have hL1 : W1.heap[B + 4]? = some (.loop (L .ready none)) := by
    rw [← hW1]; have := World.alloc_heap_new (w.alloc (.deferred (some []))) (.loop (L .ready none)); rwa [World.size_alloc, hw] at this
  have hK1 : W1.heap[B + 3]? = some (.deferred (some [])) := by
    rw [← hW1, ← hw]; exact (Below.heap_alloc _ _ _ (by simp)).trans (World.alloc_heap_new w _)
  refine ⟨w.heap.size + 1, [{ target := .collected w.heap.size, args := #[] }], W1, { target := .fn (.func 80) #[.pointer (some ⟨B + 1, 0, none⟩), .pointer (some ⟨B, 0, none⟩), .pointer (some ⟨B + 2, 0, none⟩)], args := #[.func (.yield (w.heap.size + 1)) #[] #[]] }, W1, 80,
    #[.func (.yield (w.heap.size + 1)) #[] #[]] ++ #[.pointer (some ⟨B + 1, 0, none⟩), .pointer (some ⟨B, 0, none⟩), .pointer (some ⟨B + 2, 0, none⟩)], W1, ?_, ?_, fun _ _ => trivial, ?_, fun h => by simp [Fence.wide] at h, ?_⟩
  · rw [← hW1, hL]; exact run_enterLoop_outer _ _ _ _ _
  · simp only [resolve, hg, itV]
    simp [go_sem]
  · have eg := enters_of Tryd.func80 (by kernel_rfl) rfl
    simp [invoke, go_sem, eg]
  · have e4 : w.heap.size + 1 = B + 4 := by omega
    rw [e4]
    have hc0 : Rnd B w (L .ready none) l0 W1 := by
      refine ⟨hb1.mono (by omega), ?_, ?_, ?_, ?_, hK1, hL1⟩
      · rw [hb1.cell (p := ⟨B, 0, none⟩) (by show B < _; omega)]; exact (show Boxed w B _ _ from h0).cell
      · rw [hb1.frozen (p := ⟨B, 0, none⟩) (by show B < _; omega)]; exact (show Boxed w B _ _ from h0).frozen
      · rw [hb1.block _ (by omega)]; exact h1
      · rw [hb1.block _ (by omega)]; exact h2
    refine (split_run Tryd.strings_Index_one (n - 1) (B + 4) (B + 1) B (B + 2) (by omega)
      (fun d r W => Rnd B w (L .ready none) r W ∧ r.length ≤ 1000000 ∧ (splitD 46 l0).all ok = (splitD 46 r).all ok ∧ (d = true → ok (cutA 46 r) = true))
      (fun W => (splitD 46 l0).all ok = true ∧ ∃ r, Rnd B w (L .ready none) r W)
      (fun W => (splitD 46 l0).all ok = false ∧ W.cell? ⟨rb, 0, none⟩ = some (.bool false) ∧ Below N w W ∧ W.heap[B + 3]? = some (.deferred (some [])) ∧ W.heap[B + 4]? = some (.loop (L .done (some .ret))))
      (fun d r W h => ⟨h.2.1, h.1.2.1, h.1.2.2.1, cell_row h.1.2.2.2.1, cell_row h.1.2.2.2.2.1⟩)
      (fun d r W h => ⟨h.1.drew, h.2⟩) ?_
      ?_ l0 W1 ⟨hc0, hz, rfl, fun e => by cases e⟩).mono ?_
    · -- one round
      rintro r W ⟨hr, hlen, hall, -⟩
      have hl := hr.2.2.2.2.2.2
      have hy := run_yield (P := Tryd.prog) (args := #[.string (tx (cutA 46 r))]) hl (by rw [hL]; rfl)
      rw [hL] at hy
      refine ⟨fn, _, assign, body, hy, roundIn_of_wpIn hfn ?_⟩
      refine hassign _ (cutA 46 r) W _ ?_
      refine ⟨_, run_beginRound hl (by rw [hL]), ?_⟩
      have hr2 : Rnd B w { L .ready none with state := .busy } r (W.putObj (B + 4) (.loop { L .ready none with state := .busy })) := hr.put hw _
      have hxl : (cutA 46 r).length ≤ 1000000 := by
        by_cases hm : (46 : UInt8) ∈ r
        · obtain ⟨x, y, rfl, hx⟩ := mem_cut 46 r hm
          rw [(cutA_at 46 x y hx).1]; simp at hlen; omega
        · rw [(cutA_no 46 r hm).1]; exact hlen
      refine wpIn_mono (hbody _ (cutA 46 r) _ hxl hr2.1 (Nat.lt_of_le_of_lt (Nat.le_add_right B 4) (Array.getElem?_eq_some_iff.1 hr2.2.2.2.2.2.2).1)) ?_
      generalize hV : W.putObj (B + 4) (.loop { L .ready none with state := .busy }) = V at hr2
      rintro e a3 W3 hp
      cases e with
      | normal =>
        obtain ⟨hok, hb⟩ := hp
        have hr3 := hr2.below hw hb
        refine ⟨_, _, run_endRound none hr3.2.2.2.2.2.2, .inl ⟨rfl, fun hm => ?_, fun hm => ?_⟩⟩
        · have := hr3.put hw (L .ready none)
          refine ⟨?_, hlen, hall, fun _ => hok⟩
          rw [hL] at this ⊢
          exact this
        · have := hr3.put hw (L .ready none)
          refine ⟨?_, r, ?_⟩
          · rw [hall, splitD_one 46 r hm]
            rw [(cutA_no 46 r hm).1] at hok
            simp [hok]
          · rw [hL] at this ⊢
            exact this
      | ret =>
        obtain ⟨hok, W4, hb, rfl⟩ := hp
        have hr4 := hr2.below hw hb
        have hl4 : (W4.setCell ⟨rb, 0, none⟩ (.bool false)).heap[B + 4]? = some (.loop { L .ready none with state := .busy }) := by
          rw [Below.heap_setCell _ _ _ _ (by show B + 4 ≠ rb; omega)]; exact hr4.2.2.2.2.2.2
        have hs4 : B + 4 < (W4.setCell ⟨rb, 0, none⟩ (.bool false)).heap.size := (Array.getElem?_eq_some_iff.1 hl4).1
        refine ⟨_, _, run_endRound (some .ret) hl4, .inr ⟨rfl, ?_, ?_, ?_, ?_, ?_⟩⟩
        · rw [hall]
          by_cases hm : (46 : UInt8) ∈ r
          · obtain ⟨x, y, rfl, hx⟩ := mem_cut 46 r hm
            rw [(cutA_at 46 x y hx).1] at hok
            rw [splitD_cut 46 x y hx]
            simp [hok]
          · rw [(cutA_no 46 r hm).1] at hok
            rw [splitD_one 46 r hm]
            simp [hok]
        · rw [World.cell?_of_block (w := W4.setCell ⟨rb, 0, none⟩ (.bool false)) (World.putObj_heap_other (by show rb ≠ B + 4; omega))]
          refine World.cell?_setCell_same' _ _ _ ?_
          rw [hr4.1.cell (p := ⟨rb, 0, none⟩) hrb]
          exact hrc
        · refine ((hr4.1.mono (B' := N) (by omega)).setCell (p := ⟨rb, 0, none⟩) hN _).trans (belowK_b (w := w) (by omega) _ (B + 4) _ _ (by omega) hl4 rfl rfl)
        · rw [World.putObj_heap_other (by omega), Below.heap_setCell _ _ _ _ (by show B + 3 ≠ rb; omega)]
          exact hr4.2.2.2.2.2.1
        · rw [World.putObj_heap_same hs4, hL]
          rfl
      | exit id => exact hp.elim
      | goto t => exact hp.elim
      | panic ch => exact hp.elim
      | outgrown => exact hp.elim
    · rintro x y W hx ⟨h1', h2', h3', h4'⟩
      refine ⟨h1'.say y, by simp at h2'; omega, ?_, fun e => by cases e⟩
      have h5 := h4' rfl
      rw [(cutA_at 46 x y hx).1] at h5
      rw [h3', splitD_cut 46 x y hx]
      simp [h5]
    · -- behind the iterator
      rintro e W2 ⟨⟨v, rfl⟩, ⟨hall, r, hr⟩ | ⟨hall, hc, hb, hk, hl⟩⟩
      · have hE := run_endLoop (P := Tryd.prog) hr.2.2.2.2.2.2 (by rw [hL]; simp)
        have hr5 := hr.put hw { L .ready none with state := .exhausted }
        rw [hL] at hE hr5
        exact ⟨none, _, hE, hdone w.heap.size _ (Nat.le_refl _) hall (hr5.1.mono (Nat.le_refl _)) (by have h9 := hr5.2.2.2.2.2.1; rw [← hw] at h9; exact h9)⟩
      · have hE := run_endLoop (P := Tryd.prog) hl (by rw [hL]; simp)
        rw [hL] at hE
        refine ⟨some .ret, _, hE, hstop w.heap.size _ (Nat.le_refl _) hall (hb.trans (belowK_b (w := w) (by omega) _ (B + 4) _ _ (by omega) hl rfl rfl)) ?_ ?_⟩
        · rw [World.cell?_of_block (w := W2) (World.putObj_heap_other (by show rb ≠ B + 4; omega))]
          exact hc
        · refine (World.putObj_heap_other (by omega)).trans ?_
          have h9 := hk
          rw [← hw] at h9
          exact h9
end Go.Proofs.YtgojmckfabhkaaaDoor.Sem
