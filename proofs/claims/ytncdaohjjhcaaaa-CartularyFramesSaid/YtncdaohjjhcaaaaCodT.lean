/- A SET OF CODES, AS WHAT LIES IN MEMORY; a slice of integers that came in is copied. No program walked. No conditions. -/
import Derived.Test.YtncdaohjjhcaaaaKt
import Derived.Test.YtncdaohjjhcaaaaInts
import Derived.Test.YtncdaohjjhcaaaaCodMath
namespace Go.Proofs.Ytncdaohjjhcaaaa
open Go.RowKit Sums
set_option linter.unusedVariables false

def tabArr (LV : Value) (f : Nat → Nat) (SV : Value) : Array Value := (LV :: ((List.range 16).map (fun n => Value.int .i64 ((f n : Nat) : Int)) ++ [SV])).toArray
theorem tab_len (LV : Value) (f : Nat → Nat) (SV : Value) : (tabArr LV f SV).size = 18 := by simp [tabArr]
theorem tab_at0 (LV : Value) (f : Nat → Nat) (SV : Value) : (tabArr LV f SV)[0]? = some LV := rfl
theorem tab_cnt (LV : Value) (f : Nat → Nat) (SV : Value) (n : Nat) (h : n < 16) : (tabArr LV f SV)[1 + n]? = some (.int .i64 ((f n : Nat) : Int)) := by
  unfold tabArr
  rw [List.getElem?_toArray, Nat.add_comm, List.getElem?_cons_succ, List.getElem?_append_left (by simp; omega), List.getElem?_map, List.getElem?_range h]
  rfl
theorem tab_srt (LV : Value) (f : Nat → Nat) (SV : Value) : (tabArr LV f SV)[17]? = some SV := by
  unfold tabArr
  rw [List.getElem?_toArray, List.getElem?_cons_succ, List.getElem?_append_right (by simp)]
  simp
def bump (f : Nat → Nat) (n : Nat) : Nat → Nat := fun k => if k = n then f n + 1 else f k
theorem tab_bump (LV : Value) (f : Nat → Nat) (SV : Value) (n : Nat) (h : n < 16) : (tabArr LV f SV).setIfInBounds (1 + n) (.int .i64 ((f n : Int) + 1)) = tabArr LV (bump f n) SV := by
  apply Array.ext_getElem?
  intro k
  by_cases hk : k = 1 + n
  · subst hk
    rw [Array.getElem?_setIfInBounds_self_of_lt (by rw [tab_len]; omega), tab_cnt _ _ _ _ h]
    simp [bump]
  · rw [Array.getElem?_setIfInBounds_ne (by omega)]
    by_cases h0 : k = 0
    · subst h0; rfl
    · by_cases h1 : k < 17
      · obtain ⟨m, rfl⟩ : ∃ m, k = 1 + m := ⟨k - 1, by omega⟩
        rw [tab_cnt _ _ _ _ (by omega), tab_cnt _ _ _ _ (by omega)]
        unfold bump
        rw [if_neg (by omega)]
      · by_cases h2 : k = 17
        · subst h2; rw [tab_srt, tab_srt]
        · rw [Array.getElem?_eq_none (by rw [tab_len]; omega), Array.getElem?_eq_none (by rw [tab_len]; omega)]
theorem tab_setS (LV : Value) (f : Nat → Nat) (SV SW : Value) : (tabArr LV f SV).setIfInBounds 17 SW = tabArr LV f SW := by
  apply Array.ext_getElem?
  intro k
  by_cases hk : k = 17
  · subst hk
    rw [Array.getElem?_setIfInBounds_self_of_lt (by rw [tab_len]; omega), tab_srt]
  · rw [Array.getElem?_setIfInBounds_ne (by omega)]
    by_cases h0 : k = 0
    · subst h0; rfl
    · by_cases h1 : k < 17
      · obtain ⟨m, rfl⟩ : ∃ m, k = 1 + m := ⟨k - 1, by omega⟩
        rw [tab_cnt _ _ _ _ (by omega), tab_cnt _ _ _ _ (by omega)]
      · rw [Array.getElem?_eq_none (by rw [tab_len]; omega), Array.getElem?_eq_none (by rw [tab_len]; omega)]
def cntTo (L : List Int) (i n : Nat) : Nat := (idxTo L n i).length
theorem cntTo_bump (L : List Int) (i m : Nat) (h : L.getD i 0 = (m : Int)) : bump (cntTo L i) m = cntTo L (i + 1) := by
  funext n
  unfold bump cntTo
  rw [idxTo_succ, List.length_append]
  by_cases e : n = m
  · subst e
    rw [if_pos rfl, if_pos h]
    rfl
  · rw [if_neg e, if_neg (by omega)]
    rfl
def ints (l : List Nat) : List Int := l.map Int.ofNat
theorem ownsI_mono {w : World} {B B' : Nat} {v : Value} {l : List Int} (h : ownsI w B v l) (hB : B' ≤ B) : ownsI w B' v l := by
  refine ⟨h.1, ?_⟩
  rcases h.2 with h0 | ⟨g, cap, cur, h1, h2, h3⟩
  · exact .inl h0
  · exact .inr ⟨g, cap, cur, h1, Nat.le_trans hB h2, h3⟩
theorem ints_snoc (l : List Nat) (x : Nat) : ints (l ++ [x]) = ints l ++ [(x : Int)] := by unfold ints; rw [List.map_append]; rfl
theorem ints_len (l : List Nat) : (ints l).length = l.length := by simp [ints]
/-- A set of codes. -/
structure TAt (w : World) (b B : Nat) (L : List Int) (LV SV : Value) : Prop where
  cell : w.heap[b]? = some (.cells (tabArr LV (cntTo L L.length) SV) 54 (0, 0))
  len : ownsI w B LV L
  srt : ownsI w B SV (ints (srt L 15))
/-- A slice of integers that came in, nil or not. -/
structure IntsIn (w : World) (A : Option Addr) (n cap : Nat) (L : List Int) : Prop where
  len : L.length = n
  le : n ≤ cap
  small : cap ≤ maxLen
  nil : A = none → n = 0 ∧ cap = 0
  at_ : ∀ i, i < n → ∃ ad, A = some ad ∧ ad.block < w.heap.size ∧ w.cell? (ad.add i) = some (.int .i64 (L.getD i 0))
theorem IntsIn.below {w w' : World} {A : Option Addr} {n cap : Nat} {L : List Int} (h : IntsIn w A n cap L) (hb : Below w.heap.size w w') : IntsIn w' A n cap L :=
  ⟨h.len, h.le, h.small, h.nil, fun i hi => by
    obtain ⟨ad, h1, h2, h3⟩ := h.at_ i hi
    exact ⟨ad, h1, Nat.lt_of_lt_of_le h2 hb.size, (hb.cell (p := ad.add i) (by rw [block_of_add]; exact h2)).trans h3⟩⟩
theorem IntsIn.belowB {w w' : World} {A : Option Addr} {n cap B : Nat} {L : List Int} (h : IntsIn w A n cap L) (hb : Below w.heap.size w w') : IntsIn w' A n cap L := h.below hb
/-- 'append(nil, x...)' of a slice that came in. -/
theorem append_src {ops : Array Oper} {rest : List Oper} {o : Oper} {a : Act} {Q : Exit → Act → World → Prop} (w : World) (hgd : o.guard = none) (s x : Operand)
    (ho : o.op = .call { callee := .builtin .append, args := #[s, x], argTypes := #[22, 22] }) (B : Nat) (hs : a.eval s = .slice none 0 0)
    (A : Option Addr) (n c : Nat) (L : List Int) (hx : a.eval x = .slice A n c) (hL : IntsIn w A n c L) (hlen : n ≤ 1000000) (hB : B ≤ w.heap.size)
    (h : ∀ v' w', ownsI w' B v' L → Below w.heap.size w w' → wpList Try.prog ops Q rest (a.put o.dst v') w') : wpList Try.prog ops Q (o :: rest) a w := by
  cases A with
  | none =>
    obtain ⟨rfl, rfl⟩ := hL.nil rfl
    have hl : L = [] := List.length_eq_zero_iff.1 hL.len
    subst hl
    obtain ⟨i0, hi, hz0, hz1, hz2⟩ := info_parts infoI64
    have hrun := run_append_owned_none (P := Try.prog) w 0 22 o.type 3 i0 1 Try.underlying22 hi (.slice none 0 0) 0 [] (World.ownsRow_nil _ _ _ _)
    refine wpList_plain hgd fun _ hK => ?_
    unfold Oper.wp execOp
    simp only [ho, resolve, invoke, builtin, Sem.run_bind, Sem.run_pure, Result.andThen_ok, List.map_toArray, List.map_cons, List.map_nil, hs, hx, hrun]
    exact hK _ _ (h _ _ (ownsI_nil _ _) (Below.refl _ _))
  | some ad =>
    have hn := hL.len
    refine append_ints w hgd s x ho B (.slice none 0 0) [] L hs (ownsI_nil _ _) ad c (by rw [hx, hn]) ?_ (by simp; omega) hB ?_
    · intro j u hu
      have hj : j < L.length := by
        have := (List.getElem?_eq_some_iff.1 hu).1
        simpa using this
      obtain ⟨ad', h1, _, h3⟩ := hL.at_ j (by omega)
      cases h1
      rw [h3]
      rw [List.getElem?_map, List.getElem?_eq_getElem hj] at hu
      have e := Option.some.inj hu
      rw [← e, List.getD_eq_getElem?_getD, List.getElem?_eq_getElem hj]
      rfl
    · intro v' w' h1 h2
      exact h v' w' h1 (gb_below h2 (Nat.le_refl _) (fun k e => by cases e))
end Go.Proofs.Ytncdaohjjhcaaaa
