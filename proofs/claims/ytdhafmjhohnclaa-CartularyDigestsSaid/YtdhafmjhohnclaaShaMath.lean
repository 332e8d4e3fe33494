/- THE PLAIN LAW OF SHA's blocks: what a block makes of the words; no program in sight. No conditions. -/
import Derived.Test.YtdhafmjhohnclaaShaSmall
namespace Go.Proofs.Ytdhafmjhohnclaa
open Go Sums

def at32 (l : List (BitVec 32)) (i : Nat) : BitVec 32 := l.getD i 0
def wordAt (s : ByteArray) (k : Nat) : BitVec 32 := word4 (s.data.toList.getD k 0) (s.data.toList.getD (k + 1) 0) (s.data.toList.getD (k + 2) 0) (s.data.toList.getD (k + 3) 0)
/-- The first i words of a block's row. -/
def sched1 (s : ByteArray) : Nat → List (BitVec 32)
  | 0 => []
  | i + 1 => sched1 s i ++ [if i < 16 then wordAt s (4 * i) else rotl (((at32 (sched1 s i) (i - 3) ^^^ at32 (sched1 s i) (i - 8)) ^^^ at32 (sched1 s i) (i - 14)) ^^^ at32 (sched1 s i) (i - 16)) 1]
theorem sched1_len (s : ByteArray) : ∀ i, (sched1 s i).length = i
  | 0 => rfl
  | i + 1 => by unfold sched1; rw [List.length_append, sched1_len s i]; rfl
/-- n cells: the words, then zeros. -/
def arrW (l : List (BitVec 32)) (n : Nat) : Array Value := ((List.range n).map (fun j => Value.int .u32 ((at32 l j).toNat : Int))).toArray
theorem arrW_size (l : List (BitVec 32)) (n : Nat) : (arrW l n).size = n := by unfold arrW; simp
theorem arrW_at (l : List (BitVec 32)) (n j : Nat) (h : j < n) : (arrW l n)[j]? = some (.int .u32 ((at32 l j).toNat : Int)) := by unfold arrW; simp [h]
theorem at32_snoc (l : List (BitVec 32)) (x : BitVec 32) (j : Nat) : at32 (l ++ [x]) j = if j = l.length then x else at32 l j := by
  unfold at32
  rw [List.getD_eq_getElem?_getD, List.getD_eq_getElem?_getD]
  by_cases h : j < l.length
  · rw [List.getElem?_append_left h, if_neg (by omega)]
  · by_cases h2 : j = l.length
    · subst h2
      rw [if_pos rfl, List.getElem?_append_right (Nat.le_refl _)]
      simp
    · rw [if_neg h2, List.getElem?_eq_none (by simp; omega), List.getElem?_eq_none (by omega)]
theorem arrW_set (l : List (BitVec 32)) (n : Nat) (x : BitVec 32) (h : l.length < n) : (arrW l n).setIfInBounds l.length (.int .u32 (x.toNat : Int)) = arrW (l ++ [x]) n := by
  apply Array.ext_getElem?
  intro k
  by_cases hk : k = l.length
  · subst hk
    rw [Array.getElem?_setIfInBounds_self_of_lt (by rw [arrW_size]; exact h), arrW_at _ _ _ h, at32_snoc, if_pos rfl]
  · rw [Array.getElem?_setIfInBounds_ne (by omega)]
    by_cases hn : k < n
    · rw [arrW_at _ _ _ hn, arrW_at _ _ _ hn, at32_snoc, if_neg hk]
    · rw [Array.getElem?_eq_none (by rw [arrW_size]; omega), Array.getElem?_eq_none (by rw [arrW_size]; omega)]

/-- SHA-1's five words. -/
structure W5 where
  a : BitVec 32
  b : BitVec 32
  c : BitVec 32
  d : BitVec 32
  e : BitVec 32
def f1 (i : Nat) (b c d : BitVec 32) : BitVec 32 := if i < 20 then (b &&& c) ||| (~~~b &&& d) else if i < 40 then (b ^^^ c) ^^^ d else if i < 60 then ((b &&& c) ||| (b &&& d)) ||| (c &&& d) else (b ^^^ c) ^^^ d
def k1 (i : Nat) : BitVec 32 := if i < 20 then 1518500249#32 else if i < 40 then 1859775393#32 else if i < 60 then 2400959708#32 else 3395469782#32
def step1 (x : BitVec 32) (i : Nat) (v : W5) : W5 := ⟨(((rotl v.a 5 + f1 i v.b v.c v.d) + v.e) + k1 i) + x, v.a, rotl v.b 30, v.c, v.d⟩
def steps1 (l : List (BitVec 32)) (v : W5) : Nat → W5
  | 0 => v
  | i + 1 => step1 (at32 l i) i (steps1 l v i)
/-- What a block makes of the words. -/
def blk1 (s : ByteArray) (h : List (BitVec 32)) : List (BitVec 32) :=
  let v := steps1 (sched1 s 80) ⟨at32 h 0, at32 h 1, at32 h 2, at32 h 3, at32 h 4⟩ 80
  [at32 h 0 + v.a, at32 h 1 + v.b, at32 h 2 + v.c, at32 h 3 + v.d, at32 h 4 + v.e]

theorem getE (s : ByteArray) (k j : Nat) (h : k + j < s.size) (h2 : j < (s.extract k s.size).size) : (s.extract k s.size)[j] = s.data.toList.getD (k + j) 0 := by
  rw [List.getD_eq_getElem?_getD, List.getElem?_eq_getElem (by rw [Array.length_toList]; exact h)]
  simp [ByteArray.getElem_eq_getElem_data, ByteArray.data_extract]
theorem word_at (s : ByteArray) (k : Nat) (h : k + 4 ≤ s.size) (h0 : 4 ≤ (s.extract k s.size).size) : word4 (s.extract k s.size)[0] (s.extract k s.size)[1] (s.extract k s.size)[2] (s.extract k s.size)[3] = wordAt s k := by
  unfold wordAt
  rw [getE s k 0 (by omega), getE s k 1 (by omega), getE s k 2 (by omega), getE s k 3 (by omega)]
  rfl
end Go.Proofs.Ytdhafmjhohnclaa
