/- SLICES OF TEXTS OF THE CALL's OWN: what they hold as a list; an append of one; a store. No conditions. -/
import Derived.Test.YtgojmckfabhkaaaDoorRows
import Derived.WalkKit
import Derived.WalkSpells
import Derived.WalkLawsBesides
import Derived.Handy
import Derived.Lib.Hide
import Derived.Deep.RegionLaw
import Derived.Test.YtgojmckfabhkaaaDoorWorld
import Derived.Laws.OwnMore
namespace Go.Proofs.YtgojmckfabhkaaaDoor
open Go.RowKit

def sv (b : ByteArray) : Value := .string b
/-- The slice v is the call's own (from block B on) and holds the texts l. -/
def ownsS (w : World) (B : Nat) (v : Value) (l : List ByteArray) : Prop := w.ownsRow B 9 1 v l.length (l.map sv)

theorem infoStr : (Tryd.prog.info? 9).map (fun i => (i.zero, i.size, i.bytes)) = some (some (.string ⟨#[]⟩), 1, 16) := by kernel_rfl

section
variable {w w' : World} {B : Nat} {v : Value} {l : List ByteArray}
theorem ownsS_nil (w : World) (B : Nat) : ownsS w B (.slice none 0 0) [] := World.ownsRow_nil _ _ _ _
theorem ownsS_made (w : World) (hB : B ≤ w.heap.size) : ownsS (w.alloc (.cells #[] 9)) B (.slice (some ⟨w.heap.size, 0, none⟩) 0 0) [] := World.ownsRow_made w #[] 0 hB (Nat.zero_le _) rfl
theorem ownsS.alloc (h : ownsS w B v l) (o : Obj) : ownsS (w.alloc o) B v l := World.ownsRow.alloc h o
theorem ownsS.drew (h : ownsS w B v l) : ownsS w.drew B v l := h
theorem ownsS.kept {row : Option Nat} (h : ownsS w B v l) (hg : w.grownBy w' row) (hne : v.ownBlock = none ∨ v.ownBlock ≠ row) : ownsS w' B v l := World.ownsRow.kept h hg hne
theorem ownsS.below (h : ownsS w B v l) (hb : Below w.heap.size w w') : ownsS w' B v l := World.ownsRow.kept h (gb_of_below hb none) (by cases hv : v.ownBlock <;> simp)
theorem ownsS.lt (h : ownsS w B v l) : ∀ k, v.ownBlock = some k → B ≤ k ∧ k < w.heap.size := World.ownsRow.lt h
theorem ownsS.grown {a : World} (h : ownsS w B v l) (hb : Below B a w) (hg : w.grownBy w' v.ownBlock) (hB : B ≤ w.heap.size) : Below B a w' :=
  hb.grown hg hB fun k hk => (h.lt k hk).1
/-- One that holds something is a slice from a block's first cell on. -/
theorem ownsS.form (h : ownsS w B v l) (hl : 0 < l.length) : ∃ g cap, v = .slice (some ⟨g, 0, none⟩) l.length cap ∧ B ≤ g ∧ g < w.heap.size := by
  rcases h.2 with ⟨_, h0⟩ | ⟨g, cap, cur, rfl, hB, hh, _⟩
  · omega
  · exact ⟨g, cap, rfl, hB, lt_of_block hh⟩
theorem ownsS.cell {g cap n : Nat} (h : ownsS w B (.slice (some ⟨g, 0, none⟩) n cap) l) (hn : l.length = n) (j : Nat) (hj : j < n) : w.cell? ⟨g, j, none⟩ = some (sv (l[j]'(by omega))) := by
  subst hn
  have := World.ownsRow.cellAt h j (by omega)
  rw [this, List.getElem?_map, List.getElem?_eq_getElem hj]
  rfl
theorem ownsS.free {g cap n : Nat} (h : ownsS w B (.slice (some ⟨g, 0, none⟩) n cap) l) (hn : l.length = n) (j : Nat) : w.frozen? ⟨g, j, none⟩ = false := by
  subst hn
  exact World.ownsRow.frozenAt h j
theorem ownsS.stored {g cap n : Nat} (h : ownsS w B (.slice (some ⟨g, 0, none⟩) n cap) l) (hn : l.length = n) (j : Nat) (x : ByteArray) :
    ownsS (w.setCell ⟨g, j, none⟩ (.string x)) B (.slice (some ⟨g, 0, none⟩) n cap) (l.set j x) ∧ w.grownBy (w.setCell ⟨g, j, none⟩ (.string x)) (some g) := by
  subst hn
  have := World.ownsRow.stored h j (sv x)
  refine ⟨?_, this.2⟩
  unfold ownsS
  rw [List.length_set, List.map_set]
  exact this.1
end

theorem map_sv_one (l : List ByteArray) : ∀ u ∈ l.map sv, u.oneCell' = true := by
  intro u hu
  obtain ⟨b, _, rfl⟩ := List.mem_map.1 hu
  rfl

/-- 'append(out, x..)': out is the call's own; the new texts lie at an address. -/
theorem append_strs {ops : Array Oper} {rest : List Oper} {o : Oper} {a : Act} {Q : Exit → Act → World → Prop} (w : World) (hgd : o.guard = none) (s x : Operand)
    (ho : o.op = .call { callee := .builtin .append, args := #[s, x], argTypes := #[28, 28] }) (B : Nat) (v : Value) (l news : List ByteArray) (hs : a.eval s = v) (hown : ownsS w B v l)
    (ad : Addr) (c : Nat) (hx : a.eval x = .slice (some ad) news.length c) (hnews : ∀ j u, (news.map sv)[j]? = some u → w.cell? (ad.add j) = some u)
    (hlen : l.length + news.length ≤ 8796093022208) (hB : B ≤ w.heap.size)
    (h : ∀ v' w', ownsS w' B v' (l ++ news) → w.grownBy w' v.ownBlock → wpList Tryd.prog ops Q rest (a.put o.dst v') w') : wpList Tryd.prog ops Q (o :: rest) a w := by
  obtain ⟨i0, hi, hz0, hz1, hz2⟩ := info_parts infoStr
  refine wpList_append_own w hgd s x 28 ho B 9 i0 (.string ⟨#[]⟩) 1 16 Tryd.underlying28 hi hz0 hz1 hz2 rfl (by decide) v l.length (l.map sv) hs hown ad news.length c (news.map sv) hx
    (by simp) hnews (map_sv_one news) (by unfold maxLen; omega) (by omega) hB ?_
  intro v' w' hown' hg _
  refine h v' w' ?_ hg
  unfold ownsS
  rw [List.length_append, List.map_append]
  exact hown'

theorem new_strs (w : World) (l : List ByteArray) (t : TypeId) : ∀ j u, (l.map sv)[j]? = some u → (w.alloc (.cells (l.map sv).toArray t)).cell? ((⟨w.heap.size, 0, none⟩ : Addr).add j) = some u := by
  intro j u hu
  have hadd : (⟨w.heap.size, 0, none⟩ : Addr).add j = ⟨w.heap.size, j, none⟩ := by unfold Addr.add; split <;> simp_all
  rw [hadd, cell_at (heap_alloc_same _ _)]
  simpa using hu
end Go.Proofs.YtgojmckfabhkaaaDoor
