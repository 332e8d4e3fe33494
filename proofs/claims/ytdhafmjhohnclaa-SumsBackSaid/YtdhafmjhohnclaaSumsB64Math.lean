/- THE PLAIN LAW OF BASE 64: by bits, six at a time. No program in sight. No conditions. -/
import Derived.Test.YtdhafmjhohnclaaSumsMath
namespace Go.Proofs.Ytdhafmjhohnclaa.Sums
open Go

def bit (b : UInt8) (k : Nat) : UInt8 := UInt8.ofNat (b.toNat / 2 ^ k % 2)
def bitsOf (b : UInt8) : List UInt8 := [bit b 7, bit b 6, bit b 5, bit b 4, bit b 3, bit b 2, bit b 1, bit b 0]
def gbits (g : List UInt8) : List UInt8 := g.flatMap bitsOf
def padN (c : Nat) : Nat := if c = 1 then 4 else if c = 2 then 2 else 0
def padded (g : List UInt8) : List UInt8 := gbits g ++ List.replicate (padN g.length) 0
def bitN (l : List UInt8) : Nat := l.foldl (fun n x => 2 * n + x.toNat) 0
def outC (g : List UInt8) (q : Nat) : UInt8 := if 6 * q < (padded g).length then letter (bitN (((padded g).drop (6 * q)).take 6)) else 61
def outG (g : List UInt8) : List UInt8 := [outC g 0, outC g 1, outC g 2, outC g 3]

theorem bit_toNat (b : UInt8) (k : Nat) : (bit b k).toNat = b.toNat / 2 ^ k % 2 := by
  unfold bit
  rw [UInt8.toNat_ofNat']
  omega
theorem bitsOf_take (b : UInt8) (t : Nat) (h : t < 8) : (bitsOf b).take (t + 1) = (bitsOf b).take t ++ [bit b (7 - t)] := by
  match t, h with
  | 0, _ => rfl
  | 1, _ => rfl
  | 2, _ => rfl
  | 3, _ => rfl
  | 4, _ => rfl
  | 5, _ => rfl
  | 6, _ => rfl
  | 7, _ => rfl
theorem gbits_snoc (g : List UInt8) (b : UInt8) : gbits (g ++ [b]) = gbits g ++ bitsOf b := by simp [gbits]
theorem gbits_length (g : List UInt8) : (gbits g).length = 8 * g.length := by
  induction g with
  | nil => rfl
  | cons b g ih => simp only [gbits, List.flatMap_cons, List.length_append, List.length_cons] at ih ⊢; rw [ih]; simp [bitsOf]; omega
theorem gbits_le (g : List UInt8) : ∀ x ∈ gbits g, x.toNat ≤ 1 := by
  intro x hx
  simp only [gbits, List.mem_flatMap] at hx
  obtain ⟨b, _, hx⟩ := hx
  have key : ∀ k, (bit b k).toNat ≤ 1 := fun k => by rw [bit_toNat]; omega
  simp only [bitsOf, List.mem_cons, List.not_mem_nil, or_false] at hx
  rcases hx with rfl | rfl | rfl | rfl | rfl | rfl | rfl | rfl <;> exact key _
theorem padded_le (g : List UInt8) : ∀ x ∈ padded g, x.toNat ≤ 1 := by
  intro x hx
  simp only [padded, List.mem_append, List.mem_replicate] at hx
  rcases hx with hx | ⟨_, rfl⟩
  · exact gbits_le g x hx
  · decide
theorem bitN_snoc (l : List UInt8) (x : UInt8) : bitN (l ++ [x]) = 2 * bitN l + x.toNat := by simp [bitN]
theorem bitN_go : ∀ (l : List UInt8) (n : Nat), (∀ x ∈ l, x.toNat ≤ 1) → l.foldl (fun n x => 2 * n + x.toNat) n < (n + 1) * 2 ^ l.length
  | [], n, _ => by simp
  | x :: l, n, h => by
    have h1 := bitN_go l (2 * n + x.toNat) fun y hy => h y (by simp [hy])
    have h2 := h x (by simp)
    have h3 : (2 * n + x.toNat + 1) * 2 ^ l.length ≤ (2 * n + 2) * 2 ^ l.length := Nat.mul_le_mul_right _ (by omega)
    show l.foldl _ (2 * n + x.toNat) < _
    have h4 : (n + 1) * 2 ^ (x :: l).length = (2 * n + 2) * 2 ^ l.length := by
      rw [List.length_cons, Nat.pow_succ, Nat.mul_comm (2 ^ l.length) 2, ← Nat.mul_assoc]
      congr 1
      omega
    omega
theorem bitN_lt (l : List UInt8) (h : ∀ x ∈ l, x.toNat ≤ 1) : bitN l < 2 ^ l.length := by
  have := bitN_go l 0 h
  simpa [bitN] using this
theorem outG_take (g : List UInt8) (q : Nat) (h : q < 4) : (outG g).take (q + 1) = (outG g).take q ++ [outC g q] := by
  match q, h with
  | 0, _ => rfl
  | 1, _ => rfl
  | 2, _ => rfl
  | 3, _ => rfl

theorem letter_congr {x y : Nat} (h : x % 64 = y % 64) : letter x = letter y := by unfold letter; rw [h]
theorem outC_yes (g : List UInt8) (q : Nat) (l : List UInt8) (h : 6 * q < (padded g).length) (hl : ((padded g).drop (6 * q)).take 6 = l) : outC g q = letter (bitN l) := by
  rw [outC, if_pos h, hl]
theorem outC_no (g : List UInt8) (q : Nat) (h : ¬ 6 * q < (padded g).length) : outC g q = 61 := if_neg h
theorem chr_yes (W n i x : Nat) (h : i ≤ n) (hx : x = W / 2 ^ (18 - 6 * i) % 64) : letter x = chr64 W n i := by
  rw [chr64, if_pos h]; exact letter_congr (by rw [hx, Nat.mod_mod])
theorem chr_no (W n i : Nat) (h : ¬ i ≤ n) : (61 : UInt8) = chr64 W n i := by rw [chr64, if_neg h]

theorem w0 (a b c : Nat) (hb : b < 256) (hc : c < 256) : word3 a b c / 2 ^ (18 - 6 * 0) % 64 = a / 4 % 64 := by simp only [word3]; omega
theorem w1 (a b c : Nat) (hb : b < 256) (hc : c < 256) : word3 a b c / 2 ^ (18 - 6 * 1) % 64 = a % 4 * 16 + b / 16 := by simp only [word3]; omega
theorem w2 (a b c : Nat) (hb : b < 256) (hc : c < 256) : word3 a b c / 2 ^ (18 - 6 * 2) % 64 = b % 16 * 4 + c / 64 := by simp only [word3]; omega
theorem w3 (a b c : Nat) (hb : b < 256) (hc : c < 256) : word3 a b c / 2 ^ (18 - 6 * 3) % 64 = c % 64 := by simp only [word3]; omega
theorem hi6 (a : Nat) : 32 * (a / 128 % 2) + 16 * (a / 64 % 2) + 8 * (a / 32 % 2) + 4 * (a / 16 % 2) + 2 * (a / 8 % 2) + a / 4 % 2 = a / 4 % 64 := by omega
theorem lo6 (a : Nat) : 32 * (a / 32 % 2) + 16 * (a / 16 % 2) + 8 * (a / 8 % 2) + 4 * (a / 4 % 2) + 2 * (a / 2 % 2) + a / 1 % 2 = a % 64 := by omega
theorem hi4 (a : Nat) (ha : a < 256) : 8 * (a / 128 % 2) + 4 * (a / 64 % 2) + 2 * (a / 32 % 2) + a / 16 % 2 = a / 16 := by omega
theorem lo4 (a : Nat) : 8 * (a / 8 % 2) + 4 * (a / 4 % 2) + 2 * (a / 2 % 2) + a / 1 % 2 = a % 16 := by omega
theorem hi2 (a : Nat) (ha : a < 256) : 2 * (a / 128 % 2) + a / 64 % 2 = a / 64 := by omega
theorem lo2 (a : Nat) : 2 * (a / 2 % 2) + a / 1 % 2 = a % 4 := by omega
theorem bitN6 (x0 x1 x2 x3 x4 x5 : UInt8) : bitN [x0, x1, x2, x3, x4, x5] = 32 * x0.toNat + 16 * x1.toNat + 8 * x2.toNat + 4 * x3.toNat + 2 * x4.toNat + x5.toNat := by
  simp only [bitN, List.foldl]; omega
theorem bitV (b : UInt8) (k d : Nat) (h : 2 ^ k = d) : (bit b k).toNat = b.toNat / d % 2 := by rw [bit_toNat, h]
theorem six0 (a b c : UInt8) : bitN [bit a 7, bit a 6, bit a 5, bit a 4, bit a 3, bit a 2] = word3 a.toNat b.toNat c.toNat / 2 ^ (18 - 6 * 0) % 64 := by
  rw [w0 _ _ _ b.toNat_lt c.toNat_lt, ← hi6, bitN6, bitV a 7 128 rfl, bitV a 6 64 rfl, bitV a 5 32 rfl, bitV a 4 16 rfl, bitV a 3 8 rfl, bitV a 2 4 rfl]
theorem six1 (a b c : UInt8) : bitN [bit a 1, bit a 0, bit b 7, bit b 6, bit b 5, bit b 4] = word3 a.toNat b.toNat c.toNat / 2 ^ (18 - 6 * 1) % 64 := by
  rw [w1 _ _ _ b.toNat_lt c.toNat_lt, ← hi4 _ b.toNat_lt, ← lo2, bitN6, bitV a 1 2 rfl, bitV a 0 1 rfl, bitV b 7 128 rfl, bitV b 6 64 rfl, bitV b 5 32 rfl, bitV b 4 16 rfl]
  generalize a.toNat / 2 % 2 = x0
  generalize a.toNat / 1 % 2 = x1
  generalize b.toNat / 128 % 2 = x2
  generalize b.toNat / 64 % 2 = x3
  generalize b.toNat / 32 % 2 = x4
  generalize b.toNat / 16 % 2 = x5
  omega
theorem six2 (a b c : UInt8) : bitN [bit b 3, bit b 2, bit b 1, bit b 0, bit c 7, bit c 6] = word3 a.toNat b.toNat c.toNat / 2 ^ (18 - 6 * 2) % 64 := by
  rw [w2 _ _ _ b.toNat_lt c.toNat_lt, ← hi2 _ c.toNat_lt, ← lo4, bitN6, bitV b 3 8 rfl, bitV b 2 4 rfl, bitV b 1 2 rfl, bitV b 0 1 rfl, bitV c 7 128 rfl, bitV c 6 64 rfl]
  generalize b.toNat / 8 % 2 = x0
  generalize b.toNat / 4 % 2 = x1
  generalize b.toNat / 2 % 2 = x2
  generalize b.toNat / 1 % 2 = x3
  generalize c.toNat / 128 % 2 = x4
  generalize c.toNat / 64 % 2 = x5
  omega
theorem six3 (a b c : UInt8) : bitN [bit c 5, bit c 4, bit c 3, bit c 2, bit c 1, bit c 0] = word3 a.toNat b.toNat c.toNat / 2 ^ (18 - 6 * 3) % 64 := by
  rw [w3 _ _ _ b.toNat_lt c.toNat_lt, ← lo6, bitN6, bitV c 5 32 rfl, bitV c 4 16 rfl, bitV c 3 8 rfl, bitV c 2 4 rfl, bitV c 1 2 rfl, bitV c 0 1 rfl]
theorem out_1 (a : UInt8) : outG [a] = grp (word3 a.toNat 0 0) 1 := by
  have hl : (padded [a]).length = 12 := rfl
  have e0 : outC [a] 0 = chr64 (word3 a.toNat (0 : UInt8).toNat (0 : UInt8).toNat) 1 0 := by
    rw [outC_yes [a] 0 [bit a 7, bit a 6, bit a 5, bit a 4, bit a 3, bit a 2] (by rw [hl]; omega) rfl]
    exact chr_yes _ _ _ _ (by omega) (six0 a 0 0)
  have e1 : outC [a] 1 = chr64 (word3 a.toNat (0 : UInt8).toNat (0 : UInt8).toNat) 1 1 := by
    rw [outC_yes [a] 1 [bit a 1, bit a 0, bit 0 7, bit 0 6, bit 0 5, bit 0 4] (by rw [hl]; omega) rfl]
    exact chr_yes _ _ _ _ (by omega) (six1 a 0 0)
  have e2 : outC [a] 2 = chr64 (word3 a.toNat (0 : UInt8).toNat (0 : UInt8).toNat) 1 2 := by
    rw [outC_no [a] 2 (by rw [hl]; omega)]
    exact chr_no _ _ _ (by omega)
  have e3 : outC [a] 3 = chr64 (word3 a.toNat (0 : UInt8).toNat (0 : UInt8).toNat) 1 3 := by
    rw [outC_no [a] 3 (by rw [hl]; omega)]
    exact chr_no _ _ _ (by omega)
  rw [outG, e0, e1, e2, e3]
  rfl
theorem out_2 (a b : UInt8) : outG [a, b] = grp (word3 a.toNat b.toNat 0) 2 := by
  have hl : (padded [a, b]).length = 18 := rfl
  have e0 : outC [a, b] 0 = chr64 (word3 a.toNat b.toNat (0 : UInt8).toNat) 2 0 := by
    rw [outC_yes [a, b] 0 [bit a 7, bit a 6, bit a 5, bit a 4, bit a 3, bit a 2] (by rw [hl]; omega) rfl]
    exact chr_yes _ _ _ _ (by omega) (six0 a b 0)
  have e1 : outC [a, b] 1 = chr64 (word3 a.toNat b.toNat (0 : UInt8).toNat) 2 1 := by
    rw [outC_yes [a, b] 1 [bit a 1, bit a 0, bit b 7, bit b 6, bit b 5, bit b 4] (by rw [hl]; omega) rfl]
    exact chr_yes _ _ _ _ (by omega) (six1 a b 0)
  have e2 : outC [a, b] 2 = chr64 (word3 a.toNat b.toNat (0 : UInt8).toNat) 2 2 := by
    rw [outC_yes [a, b] 2 [bit b 3, bit b 2, bit b 1, bit b 0, bit 0 7, bit 0 6] (by rw [hl]; omega) rfl]
    exact chr_yes _ _ _ _ (by omega) (six2 a b 0)
  have e3 : outC [a, b] 3 = chr64 (word3 a.toNat b.toNat (0 : UInt8).toNat) 2 3 := by
    rw [outC_no [a, b] 3 (by rw [hl]; omega)]
    exact chr_no _ _ _ (by omega)
  rw [outG, e0, e1, e2, e3]
  rfl
theorem out_3 (a b c : UInt8) : outG [a, b, c] = grp (word3 a.toNat b.toNat c.toNat) 3 := by
  have hl : (padded [a, b, c]).length = 24 := rfl
  have e0 : outC [a, b, c] 0 = chr64 (word3 a.toNat b.toNat c.toNat) 3 0 := by
    rw [outC_yes [a, b, c] 0 [bit a 7, bit a 6, bit a 5, bit a 4, bit a 3, bit a 2] (by rw [hl]; omega) rfl]
    exact chr_yes _ _ _ _ (by omega) (six0 a b c)
  have e1 : outC [a, b, c] 1 = chr64 (word3 a.toNat b.toNat c.toNat) 3 1 := by
    rw [outC_yes [a, b, c] 1 [bit a 1, bit a 0, bit b 7, bit b 6, bit b 5, bit b 4] (by rw [hl]; omega) rfl]
    exact chr_yes _ _ _ _ (by omega) (six1 a b c)
  have e2 : outC [a, b, c] 2 = chr64 (word3 a.toNat b.toNat c.toNat) 3 2 := by
    rw [outC_yes [a, b, c] 2 [bit b 3, bit b 2, bit b 1, bit b 0, bit c 7, bit c 6] (by rw [hl]; omega) rfl]
    exact chr_yes _ _ _ _ (by omega) (six2 a b c)
  have e3 : outC [a, b, c] 3 = chr64 (word3 a.toNat b.toNat c.toNat) 3 3 := by
    rw [outC_yes [a, b, c] 3 [bit c 5, bit c 4, bit c 3, bit c 2, bit c 1, bit c 0] (by rw [hl]; omega) rfl]
    exact chr_yes _ _ _ _ (by omega) (six3 a b c)
  rw [outG, e0, e1, e2, e3]
  rfl
/-- One group of the text, whatever is left of it. -/
theorem b64_group (l : List UInt8) (h : l ≠ []) : b64 l = outG (l.take 3) ++ b64 (l.drop 3) := by
  match l, h with
  | [a], _ => rw [show ([a] : List UInt8).take 3 = [a] from rfl, out_1]; rfl
  | [a, b], _ => rw [show ([a, b] : List UInt8).take 3 = [a, b] from rfl, out_2]; rfl
  | a :: b :: c :: r, _ => rw [show (a :: b :: c :: r).take 3 = [a, b, c] from rfl, out_3]; rfl
end Go.Proofs.Ytdhafmjhohnclaa.Sums
