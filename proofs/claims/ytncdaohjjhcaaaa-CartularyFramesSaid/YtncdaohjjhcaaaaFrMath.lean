/- THE PLAIN LAW OF DEFLATED STREAMS of fixed and of stored blocks; no program in sight. No conditions. -/
import Derived.Test.YtncdaohjjhcaaaaCodMath
namespace Go.Proofs.Ytncdaohjjhcaaaa
open Go Sums
set_option linter.unusedVariables false

def litL : List Int := List.replicate 144 8 ++ (List.replicate 112 9 ++ (List.replicate 24 7 ++ List.replicate 8 8))
def distL : List Int := List.replicate 32 5
set_option maxRecDepth 100000 in
theorem good_lit : Good litL := by
  refine ⟨by decide +kernel, fun s hs => ?_, fun n hn => ?_, by decide +kernel⟩
  · have h : ∀ s : Fin 288, 0 ≤ litL.getD s.val 0 ∧ litL.getD s.val 0 ≤ 15 := by decide +kernel
    exact h ⟨s, hs⟩
  · have h : ∀ n : Fin 16, 0 ≤ lft litL n.val := by decide +kernel
    exact h ⟨n, by omega⟩
set_option maxRecDepth 100000 in
theorem good_dist : Good distL := by
  refine ⟨by decide +kernel, fun s hs => ?_, fun n hn => ?_, by decide +kernel⟩
  · have h : ∀ s : Fin 32, 0 ≤ distL.getD s.val 0 ∧ distL.getD s.val 0 ≤ 15 := by decide +kernel
    exact h ⟨s, hs⟩
  · have h : ∀ n : Fin 16, 0 ≤ lft distL n.val := by decide +kernel
    exact h ⟨n, by omega⟩
set_option maxRecDepth 100000 in
theorem has_lit (s : Nat) (h : s < 288) : Has litL s := by
  have h0 : ∀ s : Fin 288, litL.getD s.val 0 ≠ 0 := by decide +kernel
  exact has_of good_lit.range h (h0 ⟨s, h⟩)
set_option maxRecDepth 100000 in
theorem has_dist (s : Nat) (h : s < 32) : Has distL s := by
  have h0 : ∀ s : Fin 32, distL.getD s.val 0 ≠ 0 := by decide +kernel
  exact has_of good_dist.range h (h0 ⟨s, h⟩)

def lbase (i : Nat) : Nat × Nat := if i = 28 then (258, 0) else if i < 8 then (3 + i, 0) else (3 + (4 + i % 4) * 2 ^ (i / 4 - 1), i / 4 - 1)
def dbase (i : Nat) : Nat × Nat := if i < 4 then (1 + i, 0) else (1 + (2 + i % 2) * 2 ^ (i / 2 - 1), i / 2 - 1)
/-- The last symbol whose base isn't above n, from i down. -/
def symOf (B : Nat → Nat × Nat) (n : Nat) : Nat → Nat
  | 0 => 0
  | i + 1 => if (B (i + 1)).1 ≤ n then i + 1 else symOf B n i
theorem symOf_le (B : Nat → Nat × Nat) (n : Nat) : ∀ i, symOf B n i ≤ i
  | 0 => Nat.le_refl _
  | i + 1 => by
    unfold symOf
    split
    · exact Nat.le_refl _
    · exact Nat.le_succ_of_le (symOf_le B n i)
theorem symOf_base (B : Nat → Nat × Nat) (n : Nat) (h : (B 0).1 ≤ n) : ∀ i, (B (symOf B n i)).1 ≤ n
  | 0 => h
  | i + 1 => by
    unfold symOf
    split
    · assumption
    · exact symOf_base B n h i
def lsym (n : Nat) : Nat := symOf lbase n 28
def dsym (n : Nat) : Nat := symOf dbase n 29
def lmore (n : Nat) : Nat := n - (lbase (lsym n)).1
def dmore (n : Nat) : Nat := n - (dbase (dsym n)).1
def lbits (n : Nat) : Nat := (lbase (lsym n)).2
def dbits (n : Nat) : Nat := (dbase (dsym n)).2
theorem lsym_lt (n : Nat) : lsym n ≤ 28 := symOf_le _ _ _
theorem dsym_lt (n : Nat) : dsym n ≤ 29 := symOf_le _ _ _
theorem lsym_base (n : Nat) (h : 3 ≤ n) : (lbase (lsym n)).1 + lmore n = n := by
  have := symOf_base lbase n (show (lbase 0).1 ≤ n from h) 28
  unfold lmore lsym
  omega
theorem dsym_base (n : Nat) (h : 1 ≤ n) : (dbase (dsym n)).1 + dmore n = n := by
  have := symOf_base dbase n (show (dbase 0).1 ≤ n from h) 29
  unfold dmore dsym
  omega
set_option maxRecDepth 100000 in
theorem lmore_lt (n : Nat) (h : n ≤ 258) : lmore n < 2 ^ lbits n ∧ lbits n ≤ 5 := by
  have h0 : ∀ n : Fin 259, lmore n.val < 2 ^ lbits n.val ∧ lbits n.val ≤ 5 := by decide +kernel
  exact h0 ⟨n, by omega⟩
set_option maxRecDepth 100000 in
theorem dmore_lt (n : Nat) (h : n ≤ 600) : dmore n < 2 ^ dbits n ∧ dbits n ≤ 13 := by
  have h0 : ∀ n : Fin 601, dmore n.val < 2 ^ dbits n.val ∧ dbits n.val ≤ 13 := by decide +kernel
  exact h0 ⟨n, by omega⟩
set_option maxRecDepth 100000 in
theorem bases_small : (∀ i, i ≤ 28 → (lbase i).1 ≤ 258 ∧ (lbase i).2 ≤ 5) ∧ (∀ i, i ≤ 29 → (dbase i).1 ≤ 24577 ∧ (dbase i).2 ≤ 13) := by
  constructor
  · intro i hi
    have h0 : ∀ i : Fin 29, (lbase i.val).1 ≤ 258 ∧ (lbase i.val).2 ≤ 5 := by decide +kernel
    exact h0 ⟨i, by omega⟩
  · intro i hi
    have h0 : ∀ i : Fin 30, (dbase i.val).1 ≤ 24577 ∧ (dbase i.val).2 ≤ 13 := by decide +kernel
    exact h0 ⟨i, by omega⟩

/-- What a stream says, bit by bit: a byte, or bytes that were there before. -/
inductive Tok where
  | byte (c : UInt8)
  | copy (n b : Nat)
def cp (o : List UInt8) (b : Nat) : Nat → List UInt8
  | 0 => o
  | n + 1 => cp o b n ++ [(cp o b n).getD ((cp o b n).length - b) 0]
theorem cp_len (o : List UInt8) (b : Nat) : ∀ n, (cp o b n).length = o.length + n
  | 0 => rfl
  | n + 1 => by rw [cp, List.length_append, cp_len o b n]; rfl
def encT (a : St) : Tok → St
  | .byte c => encC litL c.toNat a
  | .copy n b => (encC distL (dsym b) ((encC litL (257 + lsym n) a).put (lbits n) (lmore n))).put (dbits b) (dmore b)
def outT (o : List UInt8) : Tok → List UInt8
  | .byte c => o ++ [c]
  | .copy n b => cp o b n
def okT (o : List UInt8) : Tok → Prop
  | .byte _ => True
  | .copy n b => 3 ≤ n ∧ n ≤ 258 ∧ 1 ≤ b ∧ b ≤ 600 ∧ b ≤ o.length
/-- What is copied is what stands there. -/
theorem cp_take (s : List UInt8) (i b : Nat) (hb : 1 ≤ b) (hbi : b ≤ i) : ∀ n, i + n ≤ s.length → (∀ k, k < n → s[i - b + k]? = s[i + k]?) → cp (s.take i) b n = s.take (i + n)
  | 0, _, _ => rfl
  | n + 1, h, hk => by
    have ih := cp_take s i b hb hbi n (by omega) (fun k hkn => hk k (by omega))
    rw [cp, ih]
    have hl : (s.take (i + n)).length = i + n := by rw [List.length_take]; omega
    rw [hl]
    have h1 : (s.take (i + n)).getD (i + n - b) 0 = s[i + n]'(by omega) := by
      rw [List.getD_eq_getElem?_getD, List.getElem?_take, if_pos (by omega), show i + n - b = i - b + n by omega, hk n (by omega), List.getElem?_eq_getElem (by omega)]
      rfl
    rw [h1, ← Nat.add_assoc, List.take_succ_eq_append_getElem (by omega)]
theorem encT_ok {a : St} (h : a.ok) {o : List UInt8} {t : Tok} (ht : okT o t) : (encT a t).ok ∧ Pre a (encT a t) := by
  cases t with
  | byte c => exact encC_ok h
  | copy n b =>
    obtain ⟨h1, h2, h3, h4, h5⟩ := ht
    obtain ⟨k1, k2⟩ := encC_ok (L := litL) (s := 257 + lsym n) h
    have k3 := St.put_ok k1 (lmore_lt n h2).1
    obtain ⟨k4, k5⟩ := encC_ok (L := distL) (s := dsym b) k3
    exact ⟨St.put_ok k4 (dmore_lt b h4).1, ((k2.trans (Pre.put k1 _ _)).trans k5).trans (Pre.put k4 _ _)⟩
/-- How a token's bits lie: its parts, one behind the other. -/
structure Toks (l : List Tok) (a : St) (o : List UInt8) : Prop where
  st : l.foldl encT ⟨3, 3⟩ = a
  out : l.foldl outT [] = o
  ok : ∀ j t, l[j]? = some t → okT ((l.take j).foldl outT []) t
theorem toks_nil : Toks [] ⟨3, 3⟩ [] := ⟨rfl, rfl, fun j t h => by simp at h⟩
theorem toks_snoc {l : List Tok} {a : St} {o : List UInt8} (h : Toks l a o) {t : Tok} (ht : okT o t) : Toks (l ++ [t]) (encT a t) (outT o t) := by
  refine ⟨by rw [List.foldl_append, h.st]; rfl, by rw [List.foldl_append, h.out]; rfl, fun j t' hj => ?_⟩
  by_cases hl : j < l.length
  · rw [List.getElem?_append_left hl] at hj
    rw [List.take_append_of_le_length (by omega)]
    exact h.ok j t' hj
  · have h1 : j < (l ++ [t]).length := (List.getElem?_eq_some_iff.1 hj).1
    have h2 : j = l.length := by simp at h1; omega
    subst h2
    rw [List.getElem?_append_right (Nat.le_refl _), Nat.sub_self] at hj
    have h3 : t' = t := (Option.some.inj hj).symm
    rw [h3, List.take_left' rfl, h.out]
    exact ht
theorem toks_okfold : ∀ (l : List Tok) (a : St) (o : List UInt8), a.ok → (∀ j t, l[j]? = some t → okT ((l.take j).foldl outT o) t) → (l.foldl encT a).ok ∧ Pre a (l.foldl encT a)
  | [], a, o, h, _ => ⟨h, Pre.refl h⟩
  | t :: r, a, o, h, hk => by
    have h0 := hk 0 t rfl
    obtain ⟨h1, h2⟩ := encT_ok h (o := o) (t := t) h0
    obtain ⟨h3, h4⟩ := toks_okfold r (encT a t) (outT o t) h1 (fun j t' hj => hk (j + 1) t' hj)
    exact ⟨h3, h2.trans h4⟩
theorem toks_take {l : List Tok} {a : St} {o : List UInt8} (h : Toks l a o) (j : Nat) : Toks (l.take j) ((l.take j).foldl encT ⟨3, 3⟩) ((l.take j).foldl outT []) := by
  refine ⟨rfl, rfl, fun i t hi => ?_⟩
  have hlt : i < j := by
    have := (List.getElem?_eq_some_iff.1 hi).1
    rw [List.length_take] at this
    omega
  rw [List.getElem?_take, if_pos hlt] at hi
  rw [List.take_take, Nat.min_eq_left (by omega)]
  exact h.ok i t hi
theorem st33_ok : (⟨3, 3⟩ : St).ok := by show 3 < 2 ^ 3; decide
theorem toks_ok {l : List Tok} {a : St} {o : List UInt8} (h : Toks l a o) : a.ok := by
  have := (toks_okfold l ⟨3, 3⟩ [] st33_ok h.ok).1
  rw [h.st] at this
  exact this
theorem toks_pre {l : List Tok} {a : St} {o : List UInt8} (h : Toks l a o) (j : Nat) : Pre ((l.take j).foldl encT ⟨3, 3⟩) a := by
  have h1 := toks_ok (toks_take h j)
  have h2 := (toks_okfold (l.drop j) ((l.take j).foldl encT ⟨3, 3⟩) ((l.take j).foldl outT []) h1 (fun i t hi => by
    rw [List.getElem?_drop] at hi
    have h3 := h.ok (j + i) t hi
    have e : l.take (j + i) = l.take j ++ (l.drop j).take i := by rw [List.take_add]
    rw [e, List.foldl_append] at h3
    exact h3)).2
  rw [← List.foldl_append, List.take_append_drop, h.st] at h2
  exact h2
theorem toks_next {l : List Tok} {a : St} {o : List UInt8} (h : Toks l a o) (j : Nat) (t : Tok) (ht : l[j]? = some t) :
    (l.take (j + 1)).foldl encT ⟨3, 3⟩ = encT ((l.take j).foldl encT ⟨3, 3⟩) t ∧ (l.take (j + 1)).foldl outT [] = outT ((l.take j).foldl outT []) t := by
  rw [List.take_add_one, ht]
  simp [List.foldl_append]

/-- Where a stream lies in a longer text's bits. -/
def Src (S P : Nat) (b : St) : Prop := S / 2 ^ P % 2 ^ b.n = b.v
theorem Src.pre {S P : Nat} {a b : St} (h : Src S P b) (hp : Pre a b) : Src S P a := by
  unfold Src at *
  rw [← hp.2, ← h, Nat.mod_mod_of_dvd _ (Nat.pow_dvd_pow 2 hp.1)]
theorem Src.take {S P : Nat} {a b : St} {k x : Nat} (h : Src S P b) (ha : a.ok) (hx : x < 2 ^ k) (hp : Pre (a.put k x) b) : S / 2 ^ (P + a.n) % 2 ^ k = x := by
  have h1 := h.pre hp
  have h2 : S / 2 ^ P % 2 ^ (a.n + k) = a.v + x * 2 ^ a.n := h1
  rw [Nat.pow_add] at h2
  rw [Nat.pow_add, ← Nat.div_div_eq_div_mul, ← Nat.mod_mul_right_div_self, h2, Nat.add_mul_div_right _ _ (Nat.two_pow_pos _), Nat.div_eq_of_lt ha, Nat.zero_add]
theorem bit_of {y k x t : Nat} (h : y % 2 ^ k = x) (ht : t < k) : y / 2 ^ t % 2 = x / 2 ^ t % 2 := by
  obtain ⟨d, hd⟩ : ∃ d, k = t + (d + 1) := ⟨k - t - 1, by omega⟩
  rw [← h, hd, Nat.pow_add, Nat.mod_mul_right_div_self, Nat.pow_succ, Nat.mul_comm (2 ^ d) 2, Nat.mod_mul_right_mod]
theorem Src.code {S P : Nat} {a b : St} {L : List Int} {s : Nat} (h : Src S P b) (ha : a.ok) (hp : Pre (encC L s a) b) : ∀ t, t < lenOf L s → S / 2 ^ (P + a.n + t) % 2 = codeOf L s / 2 ^ (lenOf L s - 1 - t) % 2 := by
  intro t ht
  have h1 := h.take ha (revTo_lt (codeOf L s) (lenOf L s) (lenOf L s)) hp
  have h2 := bit_of h1 ht
  rw [Nat.div_div_eq_div_mul, ← Nat.pow_add] at h2
  rw [h2, revTo_bit _ _ _ _ ht]
theorem Src.len {S P : Nat} {a b : St} {n : Nat} (hp : Pre a b) (hn : P + b.n ≤ n) : P + a.n ≤ n := by
  have := hp.1
  omega
/-- A stream's text, within another text. -/
theorem src_of (l m r : List UInt8) (b : St) (hb : b.ok) (hm : m = textOf b) : Src (litN (l ++ (m ++ r))) (8 * l.length) b := by
  have happ : ∀ x y : List UInt8, litN (x ++ y) = litN x + litN y * 256 ^ x.length := by
    intro x
    induction x with
    | nil => intro y; simp [litN]
    | cons c x ih =>
      intro y
      rw [List.cons_append, litN_cons, litN_cons, ih, List.length_cons, Nat.pow_succ, Nat.mul_add, Nat.add_assoc, Nat.mul_comm (256 ^ x.length) 256, Nat.mul_left_comm 256]
  unfold Src
  rw [happ, happ, Nat.pow_mul, show (2 : Nat) ^ 8 = 256 by decide, Nat.add_mul_div_right _ _ (Nat.pow_pos (by decide)), Nat.div_eq_of_lt (litN_lt l), Nat.zero_add]
  rw [hm, text_num hb, text_len]
  obtain ⟨d, hd⟩ : ∃ d, 8 * ((b.n + 7) / 8) = b.n + d := ⟨8 * ((b.n + 7) / 8) - b.n, by omega⟩
  have e : 256 ^ ((b.n + 7) / 8) = 2 ^ b.n * 2 ^ d := by rw [show (256 : Nat) = 2 ^ 8 by decide, ← Nat.pow_mul, hd, Nat.pow_add]
  rw [e, Nat.mul_left_comm, Nat.add_mul_mod_self_left, Nat.mod_eq_of_lt hb]
end Go.Proofs.Ytncdaohjjhcaaaa
