/- FRAMES ONE BEHIND THE OTHER: plain law. No conditions. -/
import Derived.Test.YtncdaohjjhcaaaaFrZlib
import Derived.Test.YtncdaohjjhcaaaaFew
namespace Go.Proofs.Ytncdaohjjhcaaaa
open Go.RowKit Sums

/-- What the frame of the text t says: t itself, or a frame that says t. -/
def Fr (p : Bool) (t g : List UInt8) : Prop := ∃ x, Frm g x ∧ (p = true → x = t) ∧ (p = false → Frm x t) ∧ x.length ≤ 411 ∧ g.length ≤ 430
def Frs (P : Nat → Bool) (T : Nat → ByteArray) (fs : List (List UInt8)) : Prop := ∀ j (h : j < fs.length), Fr (P j) (T j).data.toList fs[j]
theorem Frs.nil (P : Nat → Bool) (T : Nat → ByteArray) : Frs P T [] := fun j h => absurd h (by simp)
theorem Frs.snoc {P : Nat → Bool} {T : Nat → ByteArray} {fs : List (List UInt8)} (h : Frs P T fs) {g : List UInt8} (hg : Fr (P fs.length) (T fs.length).data.toList g) : Frs P T (fs ++ [g]) := by
  intro j hj
  by_cases hj' : j < fs.length
  · rw [List.getElem_append_left hj']; exact h j hj'
  · have e : j = fs.length := by simp at hj; omega
    subst e
    rw [List.getElem_append_right (Nat.le_refl _)]
    simpa using hg
theorem flat_take_succ (fs : List (List UInt8)) (i : Nat) (h : i < fs.length) : (fs.take (i + 1)).flatten.length = (fs.take i).flatten.length + fs[i].length := by
  rw [← List.take_append_getElem h, List.flatten_append, List.length_append]
  simp
theorem flat_at (fs : List (List UInt8)) (i : Nat) (h : i < fs.length) : fs.flatten = (fs.take i).flatten ++ (fs[i] ++ (fs.drop (i + 1)).flatten) := by
  conv => lhs; rw [← List.take_append_drop i fs, List.flatten_append, List.drop_eq_getElem_cons h, List.flatten_cons]
theorem flat_take_le (fs : List (List UInt8)) (i : Nat) : (fs.take i).flatten.length ≤ fs.flatten.length := by
  conv => rhs; rw [← List.take_append_drop i fs, List.flatten_append, List.length_append]
  omega
theorem frm_strm {f s : List UInt8} (h : Frm f s) : ∃ m, Strm m s ∧ f = [120, 1] ++ (m ++ bigs (adN s) 4) ∧ f.length = m.length + 6 := by
  obtain ⟨m, hm, hf⟩ := h
  exact ⟨m, hm, hf, by rw [hf, List.length_append, List.length_append, bigs_len]; show 2 + _ = _; omega⟩
theorem plain_a : [120, 1] ++ (textOf (stoS [97]) ++ bigs (adN [97]) 4) = [120, 1, 1, 1, 0, 254, 255, 97, 0, 98, 0, 98] := by decide +kernel
end Go.Proofs.Ytncdaohjjhcaaaa
