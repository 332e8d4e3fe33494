/- A SLICE OF BYTES OF THE CALL's OWN THAT BEGINS ANYWHERE IN ITS ROW ('p = p[n:]'): what it holds; an append; a cut. And an append to a slice from a row's first cell on, with the place where the new one lies. Conditions: the new length is at most 2^47. -/
import Derived.Test.YtilfdeboeohnbaaBytes
import Derived.Test.YtilfdeboeohnbaaBytesStr
import Derived.Maps.AppendAt
namespace Go.Proofs.Ytilfdeboeohnbaa
open Go.RowKit

def ownsQ (w : World) (B : Nat) (v : Value) (l : List UInt8) : Prop :=
  (v = .slice none 0 0 ∧ l = []) ∨
  ∃ g off cap cur, v = .slice (some ⟨g, off, none⟩) l.length cap ∧ B ≤ g ∧ w.heap[g]? = some (.cells cur 5 (0, 0)) ∧ l.length ≤ cap ∧ cap ≤ maxLen ∧ off + cap ≤ cur.size ∧ (cur.toList.drop off).take l.length = l.map bv

section
variable {w w' : World} {B : Nat} {v : Value} {l : List UInt8}
theorem ownsQ_nil (w : World) (B : Nat) : ownsQ w B (.slice none 0 0) [] := .inl ⟨rfl, rfl⟩
theorem ownsQ.lt (h : ownsQ w B v l) : ∀ k, v.ownBlock = some k → B ≤ k ∧ k < w.heap.size := by
  intro k hk
  rcases h with ⟨rfl, _⟩ | ⟨g, off, cap, cur, rfl, hb, hg, _⟩
  · simp [Value.ownBlock] at hk
  · simp [Value.ownBlock] at hk
    subst hk
    exact ⟨hb, lt_of_block hg⟩
theorem ownsQ.kept {row : Option Nat} (h : ownsQ w B v l) (hg : w.grownBy w' row) (hne : v.ownBlock = none ∨ v.ownBlock ≠ row) : ownsQ w' B v l := by
  rcases h with h | ⟨g, off, cap, cur, rfl, hb, hgg, rest⟩
  · exact .inl h
  · refine .inr ⟨g, off, cap, cur, rfl, hb, ?_, rest⟩
    rw [hg.block g (lt_of_block hgg) (by simpa [Value.ownBlock] using hne)]
    exact hgg
/-- The block holds bytes. -/
theorem ownsQ.heap (h : ownsQ w B v l) {g : Nat} (hg : v.ownBlock = some g) : ∃ cur, w.heap[g]? = some (.cells cur 5 (0, 0)) := by
  rcases h with ⟨rfl, _⟩ | ⟨g', off, cap, cur, rfl, hb, hgg, rest⟩
  · simp [Value.ownBlock] at hg
  · simp [Value.ownBlock] at hg
    subst hg
    exact ⟨cur, hgg⟩
theorem ownsB.heap (h : ownsB w B v l) {g : Nat} (hg : v.ownBlock = some g) : ∃ cur, w.heap[g]? = some (.cells cur 5 (0, 0)) := by
  rcases h.2 with ⟨rfl, _⟩ | ⟨g', cap, cur, rfl, hb, hgg, rest⟩
  · simp [Value.ownBlock] at hg
  · simp [Value.ownBlock] at hg
    subst hg
    exact ⟨cur, hgg⟩
theorem ownsQ.shape (h : ownsQ w B v l) : ∃ A cap, v = .slice A l.length cap ∧ l.length ≤ cap ∧ cap ≤ maxLen := by
  rcases h with ⟨rfl, rfl⟩ | ⟨g, off, cap, cur, rfl, hb, hgg, h1, h2, _⟩
  · exact ⟨none, 0, rfl, Nat.le_refl _, Nat.zero_le _⟩
  · exact ⟨_, cap, rfl, h1, h2⟩
theorem addr_off (g off j : Nat) : (⟨g, off, none⟩ : Addr).add j = ⟨g, off + j, none⟩ := by unfold Addr.add; split <;> simp_all
theorem ownsQ_cells {g off n cap : Nat} (h : ownsQ w B (.slice (some ⟨g, off, none⟩) n cap) l) : ∀ j u, (l.map bv)[j]? = some u → w.cell? ((⟨g, off, none⟩ : Addr).add j) = some u := by
  intro j u hu
  rcases h with ⟨h, _⟩ | ⟨g', off', cap', cur, h, hb, hgg, h1, h2, h3, h4⟩
  · cases h
  · simp only [Value.slice.injEq, Option.some.injEq, Addr.mk.injEq, and_true] at h
    obtain ⟨⟨rfl, rfl⟩, rfl, rfl⟩ := h
    rw [addr_off, cell_of_row w g (off + j) cur _ (0, 0) hgg]
    rw [← h4, List.getElem?_take] at hu
    split at hu
    · rw [List.getElem?_drop] at hu
      simpa using hu
    · cases hu
theorem ownsQ_len {A : Option Addr} {n cap : Nat} (h : ownsQ w B (.slice A n cap) l) : n = l.length := by
  rcases h with ⟨h, rfl⟩ | ⟨g', off', cap', cur, h, hb, hgg, h1, h2, h3, h4⟩
  · cases h; rfl
  · simp only [Value.slice.injEq] at h
    exact h.2.1
/-- The slice without its first n bytes: as the model cuts it. -/
theorem ownsQ.cut {g off len cap : Nat} (h : ownsQ w B (.slice (some ⟨g, off, none⟩) len cap) l) (n : Nat) (hn : n ≤ l.length) :
    ownsQ w B (.slice (if cap = n then some ⟨g, off, none⟩ else (some (⟨g, off, none⟩ : Addr)).map (fun a => a.add n)) (len - n) (cap - n)) (l.drop n) := by
  have hlen := ownsQ_len h
  rcases h with ⟨h, _⟩ | ⟨g', off', cap', cur, h, hb, hgg, h1, h2, h3, h4⟩
  · cases h
  · simp only [Value.slice.injEq, Option.some.injEq, Addr.mk.injEq, and_true] at h
    obtain ⟨⟨rfl, rfl⟩, rfl, rfl⟩ := h
    by_cases hc : cap = n
    · rw [if_pos hc]
      have hl : l.length = n := by omega
      have : l.drop n = [] := List.drop_eq_nil_of_le (by omega)
      rw [this]
      refine .inr ⟨g, off, cap - n, cur, by rw [hl]; simp, hb, hgg, by simp, by omega, by omega, by simp⟩
    · rw [if_neg hc]
      refine .inr ⟨g, off + n, cap - n, cur, ?_, hb, hgg, ?_, by omega, by omega, ?_⟩
      · rw [List.length_drop]; simp [addr_off]
      · rw [List.length_drop]; omega
      · rw [List.length_drop, ← List.drop_drop, List.map_drop, ← h4, List.drop_take]
end

/-- 'append(out, x..)' from a row's first cell on: with the place. -/
theorem run_append_bytes (w : World) (ty : TypeId) (B : Nat) (v : Value) (l news : List UInt8) (hown : ownsB w B v l) (ad : Addr) (c : Nat) (hnews : ∀ j u, (news.map bv)[j]? = some u → w.cell? (ad.add j) = some u)
    (hlen : l.length + news.length ≤ 140737488355328) (hB : B ≤ w.heap.size) :
    ∃ v' w', (Builtin.append_ #[44, 44] ty #[v, .slice (some ad) news.length c]).run Try.prog w = .ok v' w' ∧ ownsB w' B v' (l ++ news) ∧ w.grownBy w' v.ownBlock ∧ (v'.ownBlock = v.ownBlock ∨ v'.ownBlock = some w.heap.size) := by
  obtain ⟨i0, hi, hz0, hz1, hz2⟩ := info_parts infoU8
  obtain ⟨v', w', h1, h2, h3, _, h5⟩ := run_append_own_at (P := Try.prog) w B 44 ty 5 i0 (.int .u8 0) 1 1 Try.underlying44 hi hz0 hz1 hz2 rfl (by decide) v l.length (l.map bv) hown ad news.length c (news.map bv)
    (by simp) hnews (map_bv_one news) (by unfold maxLen; omega) (by omega) hB
  refine ⟨v', w', h1, ?_, h3, h5⟩
  unfold ownsB
  rw [List.length_append, List.map_append]
  exact h2

theorem run_append_q (w : World) (ty : TypeId) (B : Nat) (v : Value) (l news : List UInt8) (hown : ownsQ w B v l) (ad : Addr) (c : Nat) (hnews : ∀ j u, (news.map bv)[j]? = some u → w.cell? (ad.add j) = some u)
    (h0 : 0 < news.length) (hlen : l.length + news.length ≤ 140737488355328) (hB : B ≤ w.heap.size) :
    ∃ v' w', (Builtin.append_ #[44, 44] ty #[v, .slice (some ad) news.length c]).run Try.prog w = .ok v' w' ∧ ownsQ w' B v' (l ++ news) ∧ w.grownBy w' v.ownBlock ∧ (v'.ownBlock = v.ownBlock ∨ v'.ownBlock = some w.heap.size) := by
  obtain ⟨i0, hi, hz0, hz1, hz2⟩ := info_parts infoU8
  have hnl : (news.map bv).length = news.length * i0.size := by rw [hz1]; simp
  have grown : ∀ (old : Nat), old < l.length + news.length → ∀ (row : Option Nat),
      ownsQ (w.drew.alloc (.cells ((l.map bv).toArray ++ (news.map bv).toArray ++ Builtin.zeroCells (Value.int .u8 0).cells (grownCap w (l.length + news.length) old 5 - (l.length + news.length))) 5)) B
        (.slice (some ⟨w.heap.size, 0, none⟩) (l.length + news.length) (grownCap w (l.length + news.length) old 5)) (l ++ news) ∧
      w.grownBy (w.drew.alloc (.cells ((l.map bv).toArray ++ (news.map bv).toArray ++ Builtin.zeroCells (Value.int .u8 0).cells (grownCap w (l.length + news.length) old 5 - (l.length + news.length))) 5)) row := by
    intro old ho row
    have hge := grownCap_ge w (l.length + news.length) old 5
    have hcm : grownCap w (l.length + news.length) old 5 ≤ maxLen := grownCap_le_maxLen w (l.length + news.length) old 5 (by unfold maxLen; omega)
    refine ⟨.inr ⟨w.heap.size, 0, _, _, by rw [List.length_append], hB, heap_alloc_new w.drew _, by rw [List.length_append]; exact hge, hcm, ?_, ?_⟩, ⟨rfl, rfl, rfl, by simp, fun k hk _ => Below.heap_alloc w.drew _ k hk⟩⟩
    · simp only [Array.size_append, List.size_toArray, size_zeroCells, List.length_map]
      have : (Value.int .u8 0).cells.size = 1 := rfl
      rw [this]
      omega
    · simp only [Array.toList_append, List.append_assoc, List.drop_zero]
      rw [List.map_append, ← List.append_assoc]
      exact List.take_left' (by simp)
  rcases hown with ⟨rfl, rfl⟩ | ⟨g, off, cap, cur, rfl, hb, hgg, h1, h2, h3, h4⟩
  · have hr := run_append_nil (P := Try.prog) w 44 ty 5 i0 (.int .u8 0) Try.underlying44 hi hz0 ad news.length c (news.map bv) hnl hnews h0 (by omega) (by rw [hz2]; omega)
    obtain ⟨g1, g2⟩ := grown 0 (by omega) none
    simp only [List.length_nil, Nat.zero_add, List.map_nil, List.nil_append] at g1 g2 ⊢
    rw [Array.empty_append] at g1 g2
    exact ⟨_, _, hr, g1, g2, .inr rfl⟩
  · by_cases hroom : l.length + news.length ≤ cap
    · have hf := run_firstCells_some (P := Try.prog) w i0.size news.length ad news.length c (news.map bv) hnl hnews
      have hst := run_storeCells_at Try.prog g (off + l.length) 5 (news.map bv) 0 cur w hgg (by rw [List.length_map]; omega) (map_bv_one news)
      simp only [Nat.add_zero] at hst
      have hu := Try.underlying44
      have ha : (⟨g, off, none⟩ : Addr).add (l.length * i0.size) = ⟨g, off + l.length, none⟩ := by rw [hz1, Nat.mul_one, addr_off]
      have hrun : (Builtin.append_ #[44, 44] ty #[.slice (some ⟨g, off, none⟩) l.length cap, .slice (some ad) news.length c]).run Try.prog w =
          .ok (.slice (some ⟨g, off, none⟩) (l.length + news.length) cap) (w.setRow g (cur.toList.take (off + l.length) ++ news.map bv ++ cur.toList.drop (off + l.length + (news.map bv).length)).toArray) := by
        simp [Builtin.append_, run_underlying hu, sizeOf, typeInfo, hi, Builtin.lenOf, hroom, hf, ha, hst]
      refine ⟨_, _, hrun, .inr ⟨g, off, cap, _, by rw [List.length_append], hb, setRow_heap w g cur _ _ _ hgg, by rw [List.length_append]; exact hroom, h2, ?_, ?_⟩, ⟨rfl, rfl, rfl, by simp, fun k _ hk => setRow_other w g k _ (fun e => hk (by simp [Value.ownBlock, e]))⟩, .inl rfl⟩
      · simp only [List.size_toArray, List.length_append, List.length_take, List.length_drop, Array.length_toList, List.length_map]
        omega
      · have ht : (cur.toList.take (off + l.length)).drop off = l.map bv := by rw [List.drop_take, show off + l.length - off = l.length by omega, h4]
        have hlt : (cur.toList.take (off + l.length)).length = off + l.length := List.length_take_of_le (by rw [Array.length_toList]; exact Nat.le_trans (Nat.add_le_add_left h1 off) h3)
        rw [List.append_assoc, List.drop_append_of_le_length (by rw [hlt]; omega), ht, ← List.append_assoc, List.map_append]
        exact List.take_left' (by simp)
    · have holds : ∀ j u, (l.map bv)[j]? = some u → w.cell? ((⟨g, off, none⟩ : Addr).add j) = some u :=
        ownsQ_cells (.inr ⟨g, off, cap, cur, rfl, hb, hgg, h1, h2, h3, h4⟩)
      have hr := run_append_grow (P := Try.prog) w 44 ty 5 i0 (.int .u8 0) Try.underlying44 hi hz0 ⟨g, off, none⟩ l.length cap (l.map bv) (by rw [hz1]; simp) holds ad news.length c (news.map bv) hnl hnews (by omega) (by omega) (by
        rw [hz2]
        exact growslice_fits (by omega) (by omega))
      obtain ⟨g1, g2⟩ := grown cap (by omega) (Value.ownBlock (.slice (some ⟨g, off, none⟩) l.length cap))
      exact ⟨_, _, hr, g1, g2, .inr rfl⟩

theorem wp_append_run {ops : Array Oper} {rest : List Oper} {o : Oper} {a : Act} {Q : Exit → Act → World → Prop} (w : World) (hgd : o.guard = none) (s x : Operand)
    (ho : o.op = .call { callee := .builtin .append, args := #[s, x], argTypes := #[44, 44] }) {vs vx v' : Value} {w' : World} (hs : a.eval s = vs) (hx : a.eval x = vx)
    (hr : (Builtin.append_ #[44, 44] o.type #[vs, vx]).run Try.prog w = .ok v' w') (h : wpList Try.prog ops Q rest (a.put o.dst v') w') : wpList Try.prog ops Q (o :: rest) a w := by
  refine wpList_plain hgd fun K hK => ?_
  unfold Oper.wp execOp
  simp only [ho, resolve, invoke, builtin, Sem.run_bind, Sem.run_pure, Result.andThen_ok, List.map_toArray, List.map_cons, List.map_nil, hs, hx, hr]
  exact hK _ _ h

/-- 'append(out, x..)', with the place of the new slice. -/
theorem append_bytes_at {ops : Array Oper} {rest : List Oper} {o : Oper} {a : Act} {Q : Exit → Act → World → Prop} (w : World) (hgd : o.guard = none) (s x : Operand)
    (ho : o.op = .call { callee := .builtin .append, args := #[s, x], argTypes := #[44, 44] }) (B : Nat) (v : Value) (l news : List UInt8) (hs : a.eval s = v) (hown : ownsB w B v l)
    (ad : Addr) (c : Nat) (hx : a.eval x = .slice (some ad) news.length c) (hnews : ∀ j u, (news.map bv)[j]? = some u → w.cell? (ad.add j) = some u)
    (hlen : l.length + news.length ≤ 140737488355328) (hB : B ≤ w.heap.size)
    (h : ∀ v' w', ownsB w' B v' (l ++ news) → w.grownBy w' v.ownBlock → (v'.ownBlock = v.ownBlock ∨ v'.ownBlock = some w.heap.size) → wpList Try.prog ops Q rest (a.put o.dst v') w') : wpList Try.prog ops Q (o :: rest) a w := by
  obtain ⟨v', w', hr, h2, h3, h4⟩ := run_append_bytes w o.type B v l news hown ad c hnews hlen hB
  exact wp_append_run w hgd s x ho hs hx hr (h v' w' h2 h3 h4)
theorem append_q {ops : Array Oper} {rest : List Oper} {o : Oper} {a : Act} {Q : Exit → Act → World → Prop} (w : World) (hgd : o.guard = none) (s x : Operand)
    (ho : o.op = .call { callee := .builtin .append, args := #[s, x], argTypes := #[44, 44] }) (B : Nat) (v : Value) (l news : List UInt8) (hs : a.eval s = v) (hown : ownsQ w B v l)
    (ad : Addr) (c : Nat) (hx : a.eval x = .slice (some ad) news.length c) (hnews : ∀ j u, (news.map bv)[j]? = some u → w.cell? (ad.add j) = some u)
    (h0 : 0 < news.length) (hlen : l.length + news.length ≤ 140737488355328) (hB : B ≤ w.heap.size)
    (h : ∀ v' w', ownsQ w' B v' (l ++ news) → w.grownBy w' v.ownBlock → (v'.ownBlock = v.ownBlock ∨ v'.ownBlock = some w.heap.size) → wpList Try.prog ops Q rest (a.put o.dst v') w') : wpList Try.prog ops Q (o :: rest) a w := by
  obtain ⟨v', w', hr, h2, h3, h4⟩ := run_append_q w o.type B v l news hown ad c hnews h0 hlen hB
  exact wp_append_run w hgd s x ho hs hx hr (h v' w' h2 h3 h4)
end Go.Proofs.Ytilfdeboeohnbaa
