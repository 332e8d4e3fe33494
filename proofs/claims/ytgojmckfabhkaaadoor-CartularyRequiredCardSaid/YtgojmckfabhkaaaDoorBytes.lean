/- SLICES OF BYTES OF THE CALL's OWN: what they hold as a list; an append to them; the text made of them. No conditions. -/
import Derived.Test.YtgojmckfabhkaaaDoorRows
import Derived.WalkKit
import Derived.WalkSpells
import Derived.WalkLawsBesides
import Derived.Handy
import Derived.Lib.Hide
import Derived.Deep.RegionLaw
import Derived.Laws.IdiomStrings
import Derived.Test.YtgojmckfabhkaaaDoorWorld
namespace Go.Proofs.YtgojmckfabhkaaaDoor
open Go.RowKit

def bv (b : UInt8) : Value := .int .u8 (b.toNat : Int)
/-- The slice v is the call's own (from block B on) and holds the bytes l. -/
def ownsB (w : World) (B : Nat) (v : Value) (l : List UInt8) : Prop := w.ownsRow B 5 1 v l.length (l.map bv)

theorem infoU8 : (Tryd.prog.info? 5).map (fun i => (i.zero, i.size, i.bytes)) = some (some (.int .u8 0), 1, 1) := by kernel_rfl

section
variable {w w' : World} {B : Nat} {v : Value} {l : List UInt8}
theorem ownsB_nil (w : World) (B : Nat) : ownsB w B (.slice none 0 0) [] := World.ownsRow_nil _ _ _ _
theorem ownsB_empty (w : World) : ownsB (w.alloc (.cells #[] 5)) w.heap.size (.slice (some ⟨w.heap.size, 0, none⟩) 0 0) [] := World.ownsRow_made w #[] 0 (Nat.le_refl _) (Nat.zero_le _) rfl
theorem ownsB_made (w : World) (hB : B ≤ w.heap.size) : ownsB (w.alloc (.cells #[] 5)) B (.slice (some ⟨w.heap.size, 0, none⟩) 0 0) [] := World.ownsRow_made w #[] 0 hB (Nat.zero_le _) rfl
theorem ownsB.alloc (h : ownsB w B v l) (o : Obj) : ownsB (w.alloc o) B v l := World.ownsRow.alloc h o
theorem ownsB.drew (h : ownsB w B v l) : ownsB w.drew B v l := h
theorem ownsB.kept {row : Option Nat} (h : ownsB w B v l) (hg : w.grownBy w' row) (hne : v.ownBlock = none ∨ v.ownBlock ≠ row) : ownsB w' B v l := World.ownsRow.kept h hg hne
theorem ownsB.below (h : ownsB w B v l) (hb : Below w.heap.size w w') : ownsB w' B v l := World.ownsRow.kept h (gb_of_below hb none) (by cases hv : v.ownBlock <;> simp)
theorem ownsB.lt (h : ownsB w B v l) : ∀ k, v.ownBlock = some k → B ≤ k ∧ k < w.heap.size := World.ownsRow.lt h
/-- Behind an append: below B nothing has turned. -/
theorem ownsB.grown {a : World} (h : ownsB w B v l) (hb : Below B a w) (hg : w.grownBy w' v.ownBlock) (hB : B ≤ w.heap.size) : Below B a w' :=
  hb.grown hg hB fun k hk => (h.lt k hk).1
end

theorem map_bv_one (l : List UInt8) : ∀ u ∈ l.map bv, u.oneCell' = true := by
  intro u hu
  obtain ⟨b, _, rfl⟩ := List.mem_map.1 hu
  rfl

/-- 'append(out, x..)': out is the call's own; the new bytes lie at an address. -/
theorem append_bytes {ops : Array Oper} {rest : List Oper} {o : Oper} {a : Act} {Q : Exit → Act → World → Prop} (w : World) (hgd : o.guard = none) (s x : Operand)
    (ho : o.op = .call { callee := .builtin .append, args := #[s, x], argTypes := #[50, 50] }) (B : Nat) (v : Value) (l news : List UInt8) (hs : a.eval s = v) (hown : ownsB w B v l)
    (ad : Addr) (c : Nat) (hx : a.eval x = .slice (some ad) news.length c) (hnews : ∀ j u, (news.map bv)[j]? = some u → w.cell? (ad.add j) = some u)
    (hlen : l.length + news.length ≤ 140737488355328) (hB : B ≤ w.heap.size)
    (h : ∀ v' w', ownsB w' B v' (l ++ news) → w.grownBy w' v.ownBlock → wpList Tryd.prog ops Q rest (a.put o.dst v') w') : wpList Tryd.prog ops Q (o :: rest) a w := by
  obtain ⟨i0, hi, hz0, hz1, hz2⟩ := info_parts infoU8
  refine wpList_append_own w hgd s x 50 ho B 5 i0 (.int .u8 0) 1 1 Tryd.underlying50 hi hz0 hz1 hz2 rfl (by decide) v l.length (l.map bv) hs hown ad news.length c (news.map bv) hx
    (by simp) hnews (map_bv_one news) (by unfold maxLen; omega) (by omega) hB ?_
  intro v' w' hown' hg _
  refine h v' w' ?_ hg
  unfold ownsB
  rw [List.length_append, List.map_append]
  exact hown'

/-- The same as one step of a region that draws its order. -/
theorem step_append_bytes {ops : Array Oper} {o : Oper} {a : Act} {w : World} {K : Act → World → Prop} {Q : Exit → Act → World → Prop} {E : Prop}
    (hgd : o.guard = none) (s x : Operand) (ho : o.op = Op.call { callee := Callee.builtin Builtin.append, args := #[s, x], argTypes := #[50, 50] })
    (B : Nat) (v : Value) (l news : List UInt8) (hs : a.eval s = v) (hown : ownsB w B v l)
    (ad : Addr) (c : Nat) (hx : a.eval x = .slice (some ad) news.length c) (hnews : ∀ j u, (news.map bv)[j]? = some u → w.cell? (ad.add j) = some u)
    (hlen : l.length + news.length ≤ 140737488355328) (hB : B ≤ w.heap.size)
    (hK : ∀ v' w', ownsB w' B v' (l ++ news) → w.grownBy w' v.ownBlock → K (a.put o.dst v') w') :
    if Region.wanted o (yielded ops a.tmps) = true then Oper.wp Tryd.prog o a w K Q else E := by
  have hw : Region.wanted o (yielded ops a.tmps) = true := by simp [Region.wanted, hgd]
  rw [if_pos hw]
  obtain ⟨i0, hi, hz0, hz1, hz2⟩ := info_parts infoU8
  obtain ⟨v', w', hrun, hown', hg, _⟩ := run_append_own (P := Tryd.prog) w B 50 o.type 5 i0 (.int .u8 0) 1 1 Tryd.underlying50 hi hz0 hz1 hz2 rfl (by decide) v l.length (l.map bv) hown ad news.length c (news.map bv)
    (by simp) hnews (map_bv_one news) (by unfold maxLen; omega) (by omega) hB
  have h := hK v' w' (by unfold ownsB; rw [List.length_append, List.map_append]; exact hown') hg
  unfold Oper.wp
  simp [execOp, ho, resolve, invoke, builtin, hs, hx, hrun, Result.andThen]
  exact h

theorem new_cells (w : World) (l : List UInt8) (t : TypeId) : ∀ j u, (l.map bv)[j]? = some u → (w.alloc (.cells (l.map bv).toArray t)).cell? ((⟨w.heap.size, 0, none⟩ : Addr).add j) = some u := by
  intro j u hu
  have hadd : (⟨w.heap.size, 0, none⟩ : Addr).add j = ⟨w.heap.size, j, none⟩ := by unfold Addr.add; split <;> simp_all
  rw [hadd, cell_at (heap_alloc_same _ _)]
  simpa using hu

/-- 'string(out)'. -/
theorem run_own_string (w : World) (B : Nat) (v : Value) (l : List UInt8) (h : ownsB w B v l) : (convert 50 9 v).run Tryd.prog w = .ok (.string ⟨l.toArray⟩) w := by
  rcases h.2 with ⟨rfl, hl⟩ | ⟨g, cap, cur, rfl, _, hh, hn, _, _, htake⟩
  · have : l = [] := List.length_eq_zero_iff.1 hl
    subst this
    rw [run_convert_bytes_string w _ _ 5 none 0 0 Tryd.underlying50 Tryd.underlying5 Tryd.underlying9]
    simp [Conv.bytesToString, loadCells]
    rfl
  · refine run_convert_bytes_back w _ _ 5 ⟨g, 0, none⟩ cap l Tryd.underlying50 Tryd.underlying5 Tryd.underlying9 ?_
    intro j hj
    exact h.cells (g := g) rfl j _ (by simp [hj, bv])

end Go.Proofs.YtgojmckfabhkaaaDoor
