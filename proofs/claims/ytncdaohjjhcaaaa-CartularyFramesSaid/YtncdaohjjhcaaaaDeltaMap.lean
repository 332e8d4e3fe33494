/- A MAP FROM TEXTS TO PLACES below a bound, of the call's own: the look-up, the store. Conditions: none. -/
import Derived.Test.YtncdaohjjhcaaaaBytes
import Derived.MapKept
namespace Go.Proofs.Ytncdaohjjhcaaaa
open Go.RowKit

/-- Block b is a map from texts to numbers below N. -/
def placesIn (N : Nat) (es : List MapEntry) : Prop := ∀ e ∈ es, (∃ s, e.key = .string s) ∧ ∃ k : Nat, k < N ∧ e.val = .int .i64 (k : Int)
def places (w : World) (b N : Nat) : Prop := ∃ es clock, w.heap[b]? = some (.map es clock) ∧ placesIn N es.toList

theorem places_made (w : World) (N : Nat) : places (w.alloc (.map #[] 0)) w.heap.size N := ⟨#[], 0, heap_alloc_same w _, by intro e he; simp at he⟩
theorem places.gb {w w' : World} {b N : Nat} {r : Option Nat} (h : places w b N) (hg : w.grownBy w' r) (hr : some b ≠ r) : places w' b N := by
  obtain ⟨es, clock, h1, h2⟩ := h
  exact ⟨es, clock, gb_heap hg h1 hr, h2⟩
theorem places.alloc {w : World} {b N : Nat} (h : places w b N) (o : Obj) : places (w.alloc o) b N := by
  obtain ⟨es, clock, h1, h2⟩ := h
  exact ⟨es, clock, heap_alloc_keep h1 o, h2⟩

theorem findNow_places (s : ByteArray) (N : Nat) : ∀ (es : List MapEntry) (i : Nat), placesIn N es →
    (Instr.findNow .string (.string s) es i = some none) ∨ ∃ (j k : Nat) (e : MapEntry), Instr.findNow .string (.string s) es i = some (some (i + j, .int .i64 (k : Int))) ∧ k < N ∧ es[j]? = some e ∧ e.key = .string s
  | [], i, _ => .inl rfl
  | e :: es, i, h => by
    obtain ⟨⟨t, ht⟩, k, hk, hv⟩ := h e (by simp)
    have hs : Instr.sameNow .string (.string s) e.key = some (s == t) := by rw [ht]; rfl
    by_cases hst : s = t
    · subst hst
      refine .inr ⟨0, k, e, ?_, hk, rfl, ht⟩
      unfold Instr.findNow
      have hb : (s == s) = true := (Go.MapKept.bytes_beq s s).2 rfl
      rw [hs, hb, hv]
      rfl
    · have hb : (s == t) = false := by rw [← Bool.not_eq_true]; exact fun h => hst ((Go.MapKept.bytes_beq s t).1 h)
      have he : Instr.findNow .string (.string s) (e :: es) i = Instr.findNow .string (.string s) es (i + 1) := by
        conv => lhs; unfold Instr.findNow
        rw [hs, hb]
      rw [he]
      rcases findNow_places s N es (i + 1) (fun x hx => h x (by simp [hx])) with h1 | ⟨j, k', e', h1, h2, h3, h4⟩
      · exact .inl h1
      · exact .inr ⟨j + 1, k', e', by rw [h1, show i + 1 + j = i + (j + 1) by omega], h2, h3, h4⟩

theorem infoI : (Try.prog.info? 3).map (fun i => (i.zero, i.size, i.bytes)) = some (some (.int .i64 0), 1, 8) := by kernel_rfl

theorem lookup_places {w : World} {b N : Nat} (h : places w b N) (s : ByteArray) :
    ∃ (k : Nat) (ok : Bool), (Instr.lookup 73 (.map (some b)) (.string s) true).run Try.prog w = .ok (.tuple #[.int .i64 (k : Int), .bool ok]) w ∧ (ok = true → k < N) := by
  obtain ⟨es, clock, h1, h2⟩ := h
  have hu := Try.underlying73
  have hs := Try.underlying9
  obtain ⟨i0, hi, hz0, hz1, hz2⟩ := info_parts infoI
  have hck : ∀ (e : Bool) (n : Nat), (Instr.checkKey e (n + 1) 9 (.string s)).run Try.prog w = .ok () w := by
    intro e n
    simp [Instr.checkKey, run_underlying hs]
  have hck := hck es.isEmpty 9999
  have hg : (getObj b).run Try.prog w = .ok (.map es clock) w := Go.MapKept.run_getObj_map h1
  rcases findNow_places s N es.toList 0 h2 with hf | ⟨j, k, e, hf, hk, _, _⟩
  · refine ⟨0, false, ?_, fun h => by cases h⟩
    simp [Instr.lookup, run_underlying hu, run_underlying hs, hg, hck, Instr.findKey, hf, zeroValue, typeInfo, hi, hz0]
  · refine ⟨k, true, ?_, fun _ => hk⟩
    simp [Instr.lookup, run_underlying hu, run_underlying hs, hg, hck, Instr.findKey, hf]

theorem update_places {w : World} {b N : Nat} (h : places w b N) (s : ByteArray) (k : Nat) (hk : k < N) :
    ∃ w', (Instr.mapUpdate 73 (.map (some b)) (.string s) (.int .i64 (k : Int))).run Try.prog w = .ok () w' ∧ places w' b N ∧ w.grownBy w' (some b) := by
  obtain ⟨es, clock, h1, h2⟩ := h
  have hu := Try.underlying73
  have hs := Try.underlying9
  have hck : ∀ (e : Bool) (n : Nat), (Instr.checkKey e (n + 1) 9 (.string s)).run Try.prog w = .ok () w := by
    intro e n
    simp [Instr.checkKey, run_underlying hs]
  have hck := hck false 9999
  have hg : (getObj b).run Try.prog w = .ok (.map es clock) w := Go.MapKept.run_getObj_map h1
  have hlt := lt_of_block h1
  have hset : ∀ o : Obj, ∃ w', (setObj b o).run Try.prog w = .ok () w' ∧ w'.heap[b]? = some o ∧ w.grownBy w' (some b) := by
    intro o
    refine ⟨{ w with heap := w.heap.setIfInBounds b o }, Go.MapKept.run_setObj_map o h1, ?_, ⟨rfl, rfl, rfl, by simp, ?_⟩⟩
    · show (w.heap.setIfInBounds b o)[b]? = some o
      rw [Array.getElem?_setIfInBounds_self_of_lt hlt]
    · intro i hi hne
      show (w.heap.setIfInBounds b o)[i]? = w.heap[i]?
      rw [Array.getElem?_setIfInBounds_ne (fun e => hne (by rw [e]))]
  rcases findNow_places s N es.toList 0 h2 with hf | ⟨j, k', e, hf, hk', he, hkey⟩
  · obtain ⟨w', e1, e2, e3⟩ := hset (.map (es.push { key := .string s, val := .int .i64 (k : Int), born := clock }) (clock + 1))
    refine ⟨w', ?_, ⟨_, _, e2, ?_⟩, e3⟩
    · simp [Instr.mapUpdate, run_underlying hu, run_underlying hs, hg, hck, Instr.findKey, hf, e1]
    · intro x hx
      rw [Array.toList_push] at hx
      rcases List.mem_append.1 hx with hx | hx
      · exact h2 x hx
      · simp at hx
        subst hx
        exact ⟨⟨s, rfl⟩, k, hk, rfl⟩
  · have hkt : (Instr.keyThatStays (((es[j]?).map (·.key)).getD (.string s)) (.string s)).run Try.prog w = .ok (.string s) w := by
      have he' : es[j]? = some e := by rw [← he]; simp
      rw [he']
      have hb : (s == s) = true := (Go.MapKept.bytes_beq s s).2 rfl
      simp [hkey, Instr.keyThatStays, Instr.sameBits, hb]
    obtain ⟨w', e1, e2, e3⟩ := hset (.map (es.modify j fun e => { e with key := .string s, val := .int .i64 (k : Int) }) clock)
    refine ⟨w', ?_, ⟨_, _, e2, ?_⟩, e3⟩
    · rw [Nat.zero_add] at hf
      simp [Instr.mapUpdate, run_underlying hu, run_underlying hs, hg, hck, Instr.findKey, hf, hkt, e1]
    · intro x hx
      rw [Array.toList_modify] at hx
      obtain ⟨i, hi, rfl⟩ := List.mem_iff_getElem.1 hx
      rw [List.getElem_modify]
      rw [List.length_modify] at hi
      split
      · exact ⟨⟨s, rfl⟩, k, hk, rfl⟩
      · exact h2 _ (List.getElem_mem hi)

theorem wp_lookup_places {ops : Array Oper} {rest : List Oper} {o : Oper} {a : Act} {Q : Exit → Act → World → Prop} (w : World) (hgd : o.guard = none) (m x : Operand)
    (ho : o.op = Op.lookup 73 m x true) (b N : Nat) (s : ByteArray) (hm : a.eval m = .map (some b)) (hx : a.eval x = .string s) (h : places w b N)
    (hK : ∀ (k : Nat) (ok : Bool), (ok = true → k < N) → wpList Try.prog ops Q rest (a.put o.dst (.tuple #[.int .i64 (k : Int), .bool ok])) w) : wpList Try.prog ops Q (o :: rest) a w := by
  refine wpList_plain hgd fun K hK' => ?_
  obtain ⟨k, ok, hr, hlt⟩ := lookup_places h s
  unfold Oper.wp
  simp [execOp, ho, hm, hx, hr, Result.andThen]
  exact hK' _ _ (hK k ok hlt)
theorem wp_update_places {ops : Array Oper} {rest : List Oper} {o : Oper} {a : Act} {Q : Exit → Act → World → Prop} (w : World) (hgd : o.guard = none) (m x v : Operand)
    (ho : o.op = Op.mapUpdate 73 m x v) (b N k : Nat) (s : ByteArray) (hm : a.eval m = .map (some b)) (hx : a.eval x = .string s) (hv : a.eval v = .int .i64 (k : Int)) (h : places w b N) (hk : k < N)
    (hK : ∀ w', places w' b N → w.grownBy w' (some b) → wpList Try.prog ops Q rest (a.put o.dst undef) w') : wpList Try.prog ops Q (o :: rest) a w := by
  refine wpList_plain hgd fun K hK' => ?_
  obtain ⟨w', hr, h1, h2⟩ := update_places h s k hk
  unfold Oper.wp
  simp [execOp, ho, hm, hx, hv, hr, Result.andThen]
  exact hK' _ _ (hK w' h1 h2)
end Go.Proofs.Ytncdaohjjhcaaaa
