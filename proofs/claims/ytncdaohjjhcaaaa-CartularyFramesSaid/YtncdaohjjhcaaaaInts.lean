/- SLICES OF INTEGERS OF THE CALL's OWN: what they hold as a list; an append of one; a store. No conditions. -/
import Derived.Test.YtncdaohjjhcaaaaRows
import Derived.WalkKit
import Derived.WalkSpells
import Derived.WalkLawsBesides
import Derived.Handy
import Derived.Lib.Hide
import Derived.Deep.RegionLaw
import Derived.Test.YtncdaohjjhcaaaaWorld
import Derived.Laws.OwnMore
namespace Go.Proofs.Ytncdaohjjhcaaaa
open Go.RowKit

def iv (b : Int) : Value := .int .i64 b
/-- The slice v is the call's own (from block B on) and holds the integers l. -/
def ownsI (w : World) (B : Nat) (v : Value) (l : List Int) : Prop := w.ownsRow B 3 1 v l.length (l.map iv)

theorem infoI64 : (Try.prog.info? 3).map (fun i => (i.zero, i.size, i.bytes)) = some (some (.int .i64 0), 1, 8) := by kernel_rfl

section
variable {w w' : World} {B : Nat} {v : Value} {l : List Int}
theorem ownsI_nil (w : World) (B : Nat) : ownsI w B (.slice none 0 0) [] := World.ownsRow_nil _ _ _ _
theorem ownsI_made (w : World) (hB : B ≤ w.heap.size) : ownsI (w.alloc (.cells #[] 3)) B (.slice (some ⟨w.heap.size, 0, none⟩) 0 0) [] := World.ownsRow_made w #[] 0 hB (Nat.zero_le _) rfl
theorem ownsI.alloc (h : ownsI w B v l) (o : Obj) : ownsI (w.alloc o) B v l := World.ownsRow.alloc h o
theorem ownsI.drew (h : ownsI w B v l) : ownsI w.drew B v l := h
theorem ownsI.kept {row : Option Nat} (h : ownsI w B v l) (hg : w.grownBy w' row) (hne : v.ownBlock = none ∨ v.ownBlock ≠ row) : ownsI w' B v l := World.ownsRow.kept h hg hne
theorem ownsI.below (h : ownsI w B v l) (hb : Below w.heap.size w w') : ownsI w' B v l := World.ownsRow.kept h (gb_of_below hb none) (by cases hv : v.ownBlock <;> simp)
theorem ownsI.lt (h : ownsI w B v l) : ∀ k, v.ownBlock = some k → B ≤ k ∧ k < w.heap.size := World.ownsRow.lt h
theorem ownsI.grown {a : World} (h : ownsI w B v l) (hb : Below B a w) (hg : w.grownBy w' v.ownBlock) (hB : B ≤ w.heap.size) : Below B a w' :=
  hb.grown hg hB fun k hk => (h.lt k hk).1
/-- One that holds something is a slice from a block's first cell on. -/
theorem ownsI.form (h : ownsI w B v l) (hl : 0 < l.length) : ∃ g cap, v = .slice (some ⟨g, 0, none⟩) l.length cap ∧ B ≤ g ∧ g < w.heap.size := by
  rcases h.2 with ⟨_, h0⟩ | ⟨g, cap, cur, rfl, hB, hh, _⟩
  · omega
  · exact ⟨g, cap, rfl, hB, lt_of_block hh⟩
theorem ownsI.cell {g cap n : Nat} (h : ownsI w B (.slice (some ⟨g, 0, none⟩) n cap) l) (hn : l.length = n) (j : Nat) (hj : j < n) : w.cell? ⟨g, j, none⟩ = some (iv (l[j]'(by omega))) := by
  subst hn
  have := World.ownsRow.cellAt h j (by omega)
  rw [this, List.getElem?_map, List.getElem?_eq_getElem hj]
  rfl
theorem ownsI.free {g cap n : Nat} (h : ownsI w B (.slice (some ⟨g, 0, none⟩) n cap) l) (hn : l.length = n) (j : Nat) : w.frozen? ⟨g, j, none⟩ = false := by
  subst hn
  exact World.ownsRow.frozenAt h j
theorem ownsI.stored {g cap n : Nat} (h : ownsI w B (.slice (some ⟨g, 0, none⟩) n cap) l) (hn : l.length = n) (j : Nat) (x : Int) :
    ownsI (w.setCell ⟨g, j, none⟩ (.int .i64 x)) B (.slice (some ⟨g, 0, none⟩) n cap) (l.set j x) ∧ w.grownBy (w.setCell ⟨g, j, none⟩ (.int .i64 x)) (some g) := by
  subst hn
  have := World.ownsRow.stored h j (iv x)
  refine ⟨?_, this.2⟩
  unfold ownsI
  rw [List.length_set, List.map_set]
  exact this.1
end

theorem map_iv_one (l : List Int) : ∀ u ∈ l.map iv, u.oneCell' = true := by
  intro u hu
  obtain ⟨b, _, rfl⟩ := List.mem_map.1 hu
  rfl

/-- 'append(out, x..)': out is the call's own; the new integers lie at an address. -/
theorem append_ints {ops : Array Oper} {rest : List Oper} {o : Oper} {a : Act} {Q : Exit → Act → World → Prop} (w : World) (hgd : o.guard = none) (s x : Operand)
    (ho : o.op = .call { callee := .builtin .append, args := #[s, x], argTypes := #[22, 22] }) (B : Nat) (v : Value) (l news : List Int) (hs : a.eval s = v) (hown : ownsI w B v l)
    (ad : Addr) (c : Nat) (hx : a.eval x = .slice (some ad) news.length c) (hnews : ∀ j u, (news.map iv)[j]? = some u → w.cell? (ad.add j) = some u)
    (hlen : l.length + news.length ≤ 17592186044416) (hB : B ≤ w.heap.size)
    (h : ∀ v' w', ownsI w' B v' (l ++ news) → w.grownBy w' v.ownBlock → wpList Try.prog ops Q rest (a.put o.dst v') w') : wpList Try.prog ops Q (o :: rest) a w := by
  obtain ⟨i0, hi, hz0, hz1, hz2⟩ := info_parts infoI64
  refine wpList_append_own w hgd s x 22 ho B 3 i0 (.int .i64 0) 1 8 Try.underlying22 hi hz0 hz1 hz2 rfl (by decide) v l.length (l.map iv) hs hown ad news.length c (news.map iv) hx
    (by simp) hnews (map_iv_one news) (by unfold maxLen; omega) (by omega) hB ?_
  intro v' w' hown' hg _
  refine h v' w' ?_ hg
  unfold ownsI
  rw [List.length_append, List.map_append]
  exact hown'

theorem new_ints (w : World) (l : List Int) (t : TypeId) : ∀ j u, (l.map iv)[j]? = some u → (w.alloc (.cells (l.map iv).toArray t)).cell? ((⟨w.heap.size, 0, none⟩ : Addr).add j) = some u := by
  intro j u hu
  have hadd : (⟨w.heap.size, 0, none⟩ : Addr).add j = ⟨w.heap.size, j, none⟩ := by unfold Addr.add; split <;> simp_all
  rw [hadd, cell_at (heap_alloc_same _ _)]
  simpa using hu
end Go.Proofs.Ytncdaohjjhcaaaa
