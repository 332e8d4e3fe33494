/- A TEXT APPENDED to a slice of bytes of the call's own. Conditions: the new length is at most 2^47. -/
import Derived.Test.YtncdaohjjhcaaaaBytes
import Derived.Lib.AppendStr
namespace Go.Proofs.Ytncdaohjjhcaaaa
open Go.RowKit

theorem append_text {ops : Array Oper} {rest : List Oper} {o : Oper} {a : Act} {Q : Exit → Act → World → Prop} (w : World) (hgd : o.guard = none) (s x : Operand)
    (ho : o.op = .call { callee := .builtin .append, args := #[s, x], argTypes := #[31, 9] }) (B : Nat) (v : Value) (l : List UInt8) (hs : a.eval s = v) (hown : ownsB w B v l)
    (t : ByteArray) (hx : a.eval x = .string t) (hlen : l.length + t.size ≤ 140737488355328) (hB : B ≤ w.heap.size)
    (h : ∀ v' w', ownsB w' B v' (l ++ t.data.toList) → w.grownBy w' v.ownBlock → wpList Try.prog ops Q rest (a.put o.dst v') w') : wpList Try.prog ops Q (o :: rest) a w := by
  obtain ⟨i0, hi, hz0, hz1, hz2⟩ := info_parts infoU8
  refine Lib.wpList_append_own_string w hgd s x 31 9 ho B 5 i0 Try.underlying31 Try.underlying9 hi hz0 hz1 hz2 v l.length (l.map bv) hs hown t hx
    (by unfold maxLen; omega) (by omega) hB ?_
  intro v' w' hown' hg _
  refine h v' w' ?_ hg
  unfold ownsB
  have hl : (l ++ t.data.toList).length = l.length + t.size := by rw [List.length_append, Array.length_toList]; rfl
  rw [hl, List.map_append]
  exact hown'

/-- An owned slice of bytes as the walk wants to see it. -/
theorem ownsB.shape {w : World} {B : Nat} {v : Value} {l : List UInt8} (h : ownsB w B v l) : ∃ A cap, v = .slice A l.length cap ∧ l.length ≤ cap ∧ cap ≤ maxLen := by
  rcases h.2 with ⟨rfl, hl⟩ | ⟨g, cap, cur, rfl, hB, hh, hn, hm, hc, htake⟩
  · exact ⟨none, 0, by rw [hl], by omega, Nat.zero_le _⟩
  · exact ⟨some ⟨g, 0, none⟩, cap, rfl, hn, hm⟩
end Go.Proofs.Ytncdaohjjhcaaaa
