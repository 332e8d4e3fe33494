/- THE PLAIN LAW OF THE SUMS: the cyclic sum on 32 bits, step by step, added up text by text; a byte's change is told. Adler's sum. No program in sight. No conditions. -/
import Derived.Laws.BitsAllLaws
namespace Go.Proofs.YtgojmckfabhkaaaDoor.Sums

def rnd (c : BitVec 32) : BitVec 32 := (c >>> 1) ^^^ (3988292384#32 &&& -(c &&& 1#32))
def rnds : Nat → BitVec 32 → BitVec 32
  | 0, c => c
  | n + 1, c => rnd (rnds n c)
def byte32 (b : UInt8) : BitVec 32 := BitVec.ofNat 32 b.toNat
def crcB (c : BitVec 32) (b : UInt8) : BitVec 32 := rnds 8 (c ^^^ byte32 b)
def crcL (c : BitVec 32) (l : List UInt8) : BitVec 32 := l.foldl crcB c
def crcW (s : BitVec 32) (l : List UInt8) : BitVec 32 := ~~~ (crcL (~~~ s) l)

theorem crcL_append (c : BitVec 32) (l m : List UInt8) : crcL (crcL c l) m = crcL c (l ++ m) := by simp [crcL]
theorem crcL_snoc (c : BitVec 32) (l : List UInt8) (b : UInt8) : crcL c (l ++ [b]) = crcB (crcL c l) b := by simp [crcL]
theorem crcW_append (s : BitVec 32) (l m : List UInt8) : crcW (crcW s l) m = crcW s (l ++ m) := by simp [crcW, ← crcL_append]

theorem and_one (c : BitVec 32) : c &&& 1#32 = if c.getLsbD 0 then 1#32 else 0#32 := by
  apply BitVec.eq_of_toNat_eq
  rw [BitVec.toNat_and, BitVec.toNat_ofNat, show 1 % 2 ^ 32 = 1 by decide, Nat.and_one_is_mod]
  have h : c.getLsbD 0 = decide (c.toNat % 2 = 1) := by rw [BitVec.getLsbD, Nat.testBit_zero]
  rw [h]
  by_cases e : c.toNat % 2 = 1
  · rw [if_pos (by simpa using e), e]; decide
  · rw [if_neg (by simpa using e)]; simp; omega

theorem rnd_eq (c : BitVec 32) : rnd c = (c >>> 1) ^^^ (if c.getLsbD 0 then 3988292384#32 else 0#32) := by
  rw [rnd, and_one]
  by_cases h : c.getLsbD 0
  · rw [if_pos h, if_pos h]; rfl
  · rw [if_neg h, if_neg h]; rfl

theorem rnd_inj {c d : BitVec 32} (h : rnd c = rnd d) : c = d := by
  have h0 : c.getLsbD 0 = d.getLsbD 0 := by
    have h31 := congrArg (fun x => x.getLsbD 31) h
    simp only [rnd_eq, BitVec.getLsbD_xor, BitVec.getLsbD_ushiftRight] at h31
    have hc : c.getLsbD (1 + 31) = false := BitVec.getLsbD_of_ge _ _ (by omega)
    have hd : d.getLsbD (1 + 31) = false := BitVec.getLsbD_of_ge _ _ (by omega)
    rw [hc, hd] at h31
    revert h31
    cases c.getLsbD 0 <;> cases d.getLsbD 0 <;> decide
  have hs : c >>> 1 = d >>> 1 := by
    rw [rnd_eq, rnd_eq, h0] at h
    exact (BitVec.xor_left_inj _).1 h
  apply BitVec.eq_of_getLsbD_eq
  intro i hi
  cases i with
  | zero => exact h0
  | succ i =>
    have := congrArg (fun x => x.getLsbD i) hs
    simp only [BitVec.getLsbD_ushiftRight] at this
    rw [Nat.add_comm i 1]
    exact this

theorem rnds_inj (n : Nat) {c d : BitVec 32} (h : rnds n c = rnds n d) : c = d := by
  induction n with
  | zero => exact h
  | succ n ih => exact ih (rnd_inj h)

theorem byte32_inj {a b : UInt8} (h : byte32 a = byte32 b) : a = b := by
  have := congrArg BitVec.toNat h
  simp only [byte32, BitVec.toNat_ofNat] at this
  have ha := a.toNat_lt
  have hb := b.toNat_lt
  apply UInt8.toNat_inj.1
  omega

theorem crcB_inj {c d : BitVec 32} {b : UInt8} (h : crcB c b = crcB d b) : c = d := (BitVec.xor_left_inj _).1 (rnds_inj 8 h)
theorem crcB_byte {c : BitVec 32} {a b : UInt8} (h : crcB c a = crcB c b) : a = b := byte32_inj ((BitVec.xor_right_inj _).1 (rnds_inj 8 h))
theorem crcL_inj (l : List UInt8) : ∀ {c d : BitVec 32}, crcL c l = crcL d l → c = d := by
  induction l with
  | nil => intro c d h; exact h
  | cons b l ih => intro c d h; exact crcB_inj (ih h)

theorem crcW_apart (s : BitVec 32) (l m : List UInt8) (a b : UInt8) (h : crcW s (l ++ [a] ++ m) = crcW s (l ++ [b] ++ m)) : a = b := by
  have h' := BitVec.not_inj.1 h
  rw [← crcL_append, ← crcL_append, ← crcL_append, ← crcL_append] at h'
  exact crcB_byte (crcL_inj m h')

/-- The round as the reference has it: the text's byte is looked at bit by bit beside the sum. -/
theorem rnd_ref (y x : BitVec 32) : rnd y ^^^ (x >>> 1) = ((y ^^^ x) >>> 1) ^^^ (if ((y ^^^ x) ^^^ x).getLsbD 0 then 3988292384#32 else 0#32) := by
  have e : (y ^^^ x) ^^^ x = y := by rw [BitVec.xor_assoc, BitVec.xor_self, BitVec.xor_zero]
  rw [e, rnd_eq]
  apply BitVec.eq_of_getLsbD_eq
  intro i hi
  simp only [BitVec.getLsbD_xor, BitVec.getLsbD_ushiftRight]
  cases y.getLsbD (1 + i) <;> cases x.getLsbD (1 + i) <;> simp

theorem byte_out (b : UInt8) : byte32 b >>> 8 = 0#32 := by
  apply BitVec.eq_of_toNat_eq
  have hb := b.toNat_lt
  rw [BitVec.toNat_ushiftRight, byte32, BitVec.toNat_ofNat, Nat.mod_eq_of_lt (by omega), Nat.shiftRight_eq_div_pow]
  simp; omega

/-- Adler's two sums; 'a' is one less than it is told. -/
def adB (p : Nat × Nat) (b : UInt8) : Nat × Nat := ((p.1 + b.toNat) % 65521, (p.2 + (p.1 + b.toNat) % 65521 + 1) % 65521)
def adL (p : Nat × Nat) (l : List UInt8) : Nat × Nat := l.foldl adB p
def adSum (p : Nat × Nat) : Nat := p.2 * 65536 + (p.1 + 1) % 65521
def refB (p : Nat × Nat) (b : UInt8) : Nat × Nat := ((p.1 + b.toNat) % 65521, (p.2 + (p.1 + b.toNat) % 65521) % 65521)
def refL (p : Nat × Nat) (l : List UInt8) : Nat × Nat := l.foldl refB p

theorem adL_append (p : Nat × Nat) (l m : List UInt8) : adL (adL p l) m = adL p (l ++ m) := by simp [adL]
theorem adL_snoc (p : Nat × Nat) (l : List UInt8) (b : UInt8) : adL p (l ++ [b]) = adB (adL p l) b := by simp [adL]
theorem refL_snoc (p : Nat × Nat) (l : List UInt8) (b : UInt8) : refL p (l ++ [b]) = refB (refL p l) b := by simp [refL]
theorem adB_lt (p : Nat × Nat) (b : UInt8) : (adB p b).1 < 65521 ∧ (adB p b).2 < 65521 := ⟨Nat.mod_lt _ (by omega), Nat.mod_lt _ (by omega)⟩
theorem adL_lt (l : List UInt8) : ∀ (p : Nat × Nat), p.1 < 65521 → p.2 < 65521 → (adL p l).1 < 65521 ∧ (adL p l).2 < 65521 := by
  induction l with
  | nil => intro p h k; exact ⟨h, k⟩
  | cons b l ih => intro p _ _; exact ih _ (adB_lt p b).1 (adB_lt p b).2
theorem refL_lt (l : List UInt8) : ∀ (p : Nat × Nat), p.1 < 65521 → p.2 < 65521 → (refL p l).1 < 65521 ∧ (refL p l).2 < 65521 := by
  induction l with
  | nil => intro p h k; exact ⟨h, k⟩
  | cons b l ih => intro p _ _; exact ih _ (Nat.mod_lt _ (by omega)) (Nat.mod_lt _ (by omega))
theorem ref_ad (l : List UInt8) : ∀ (a b : Nat), refL ((a + 1) % 65521, b) l = (((adL (a, b) l).1 + 1) % 65521, (adL (a, b) l).2) := by
  induction l with
  | nil => intro a b; rfl
  | cons c l ih =>
    intro a b
    show refL (refB ((a + 1) % 65521, b) c) l = _
    have e : refB ((a + 1) % 65521, b) c = (((a + c.toNat) % 65521 + 1) % 65521, (b + (a + c.toNat) % 65521 + 1) % 65521) := by
      simp only [refB, Prod.mk.injEq]
      omega
    rw [e, ih]
    rfl

theorem adL_fst (l : List UInt8) : ∀ (p q : Nat × Nat) (d : Nat), q.1 % 65521 = (p.1 + d) % 65521 → (adL q l).1 % 65521 = ((adL p l).1 + d) % 65521 := by
  induction l with
  | nil => intro p q d h; exact h
  | cons c l ih =>
    intro p q d h
    refine ih _ _ d ?_
    simp only [adB]
    omega

theorem adSum_apart (l m : List UInt8) (a b : UInt8) (h : adSum (adL (0, 0) (l ++ [a] ++ m)) = adSum (adL (0, 0) (l ++ [b] ++ m))) : a = b := by
  rw [← adL_append, ← adL_append, ← adL_append, ← adL_append] at h
  obtain ⟨p, hp⟩ : ∃ p, p = adL (0, 0) l := ⟨_, rfl⟩
  rw [← hp] at h
  have ha := a.toNat_lt
  have hb := b.toNat_lt
  have key : ∀ (x : UInt8), (adL (adL p [x]) m).1 % 65521 = ((adL (p.1 % 65521, p.2) m).1 + x.toNat) % 65521 := by
    intro x
    refine adL_fst m _ _ _ ?_
    show ((p.1 + x.toNat) % 65521) % 65521 = _
    omega
  have ka := key a
  have kb := key b
  have la := (adL_lt m (adL p [a]) (adB_lt p a).1 (adB_lt p a).2)
  have lb := (adL_lt m (adL p [b]) (adB_lt p b).1 (adB_lt p b).2)
  simp only [adSum] at h
  apply UInt8.toNat_inj.1
  omega

end Go.Proofs.YtgojmckfabhkaaaDoor.Sums
namespace Go.Proofs.YtgojmckfabhkaaaDoor.Sums
open Go
/-! The walk's own spelling of the steps. -/
theorem not_w (X : BitVec 32) : bits .xor .u32 IntKind.u32.max (X.toNat : Int) = ((~~~X).toNat : Int) := by
  have h := X.isLt
  rw [show IntKind.u32.max = ((4294967295 : Nat) : Int) by decide, u32_xor_nat _ _ (by omega) (by omega)]
  have e : ~~~X = 4294967295#32 ^^^ X := by
    rw [show (4294967295#32 : BitVec 32) = BitVec.allOnes 32 by decide, BitVec.allOnes_xor]
  rw [e, BitVec.toNat_xor]
  rfl
theorem byte32_nat (b : UInt8) : (byte32 b).toNat = b.toNat := by
  have := b.toNat_lt
  rw [byte32, BitVec.toNat_ofNat]; exact Nat.mod_eq_of_lt (by omega)
theorem xor_w (X : BitVec 32) (b : UInt8) : bits .xor .u32 (X.toNat : Int) (b.toNat : Int) = ((X ^^^ byte32 b).toNat : Int) := by
  have h := b.toNat_lt
  have h2 := X.isLt
  rw [u32_xor_nat _ _ (by omega) (by omega), BitVec.toNat_xor, byte32_nat]
theorem byte_mod (b : UInt8) : (b.toNat : Int) % 4294967296 = (b.toNat : Int) := by have := b.toNat_lt; omega
theorem rnd_w (X : BitVec 32) : bits .xor .u32 ((X.toNat : Int) / 2) (bits .and .u32 3988292384 ((-(bits .and .u32 (X.toNat : Int) 1)) % 4294967296)) = ((rnd X).toNat : Int) := by
  have h := X.isLt
  have e1 : bits .and .u32 (X.toNat : Int) 1 = ((X &&& 1#32).toNat : Int) := by
    have := u32_and_nat X.toNat 1 (by omega) (by omega)
    rw [BitVec.toNat_and]; exact this
  have e2 : ∀ Y : BitVec 32, (-(Y.toNat : Int)) % 4294967296 = ((-Y).toNat : Int) := by
    intro Y
    have := Y.isLt
    rw [BitVec.toNat_neg]; omega
  have e3 : ∀ Y : BitVec 32, bits .and .u32 3988292384 (Y.toNat : Int) = ((3988292384#32 &&& Y).toNat : Int) := by
    intro Y
    have hY := Y.isLt
    have := u32_and_nat 3988292384 Y.toNat (by omega) (by omega)
    rw [BitVec.toNat_and]; exact this
  have e4 : (X.toNat : Int) / (2 : Int) = (((X >>> 1).toNat : Nat) : Int) := by
    rw [BitVec.toNat_ushiftRight, Nat.shiftRight_eq_div_pow]; omega
  rw [e1, e2, e3, e4, u32_xor_nat _ _ (BitVec.isLt _) (BitVec.isLt _), rnd, BitVec.toNat_xor]
theorem adB_fst_w (q : Nat × Nat) (b : UInt8) : ((q.1 : Int) + (b.toNat : Int)) % 65521 = ((adB q b).1 : Int) := by simp only [adB]; omega
theorem adB_snd_w (q : Nat × Nat) (b : UInt8) : ((q.2 : Int) + ((q.1 : Int) + (b.toNat : Int)) % 65521 + 1) % 65521 = ((adB q b).2 : Int) := by simp only [adB]; omega
theorem adSum_w (q : Nat × Nat) (h1 : q.1 < 65521) (h2 : q.2 < 65521) : bits .or .u32 ((q.2 : Int) * 65536) (((q.1 : Int) + 1) % 65521) = ((adSum q : Nat) : Int) := by
  have e1 : (q.2 : Int) * 65536 = ((2 ^ 16 * q.2 : Nat) : Int) := by omega
  have e2 : ((q.1 : Int) + 1) % 65521 = (((q.1 + 1) % 65521 : Nat) : Int) := by omega
  rw [e1, e2, u32_or_nat _ _ (by omega) (by omega), ← Nat.two_pow_add_eq_or_of_lt (show (q.1 + 1) % 65521 < 2 ^ 16 by omega)]
  simp only [adSum]; omega
theorem adSum_lt (q : Nat × Nat) (h2 : q.2 < 65521) : adSum q < 4294967296 := by simp only [adSum]; omega
theorem ref_fst_w (q : Nat × Nat) (b : UInt8) : ((q.1 : Int) + (b.toNat : Int)) % 65521 = ((refB q b).1 : Int) := by simp only [refB]; omega
theorem ref_snd_w (q : Nat × Nat) (b : UInt8) : ((q.2 : Int) + ((q.1 : Int) + (b.toNat : Int)) % 65521) % 65521 = ((refB q b).2 : Int) := by simp only [refB]; omega
theorem refSum_w (l : List UInt8) : (65536 * ((refL (1, 0) l).2 : Int) + ((refL (1, 0) l).1 : Int)) = ((adSum (adL (0, 0) l) : Nat) : Int) := by
  have h := ref_ad l 0 0
  rw [show (0 + 1) % 65521 = 1 by decide] at h
  rw [h]
  simp only [adSum]
  omega
theorem odd_w (Z : BitVec 32) (b : UInt8) (j : Nat) : (bits .and .u32 (bits .xor .u32 (Z.toNat : Int) ((b.toNat : Int) / 2 ^ j % 4294967296)) 1 == 1) = (Z ^^^ (byte32 b >>> j)).getLsbD 0 := by
  have hb := b.toNat_lt
  have hd : b.toNat / 2 ^ j ≤ b.toNat := Nat.div_le_self _ _
  have e1 : ((b.toNat : Int) / 2 ^ j % 4294967296) = (((byte32 b >>> j).toNat : Nat) : Int) := by
    rw [BitVec.toNat_ushiftRight, byte32_nat, Nat.shiftRight_eq_div_pow]
    have : ((b.toNat : Int) / 2 ^ j) = ((b.toNat / 2 ^ j : Nat) : Int) := by simp
    rw [this]
    have hlt : b.toNat / 2 ^ j < 256 := by omega
    generalize b.toNat / 2 ^ j = d at hlt
    omega
  obtain ⟨V, hV⟩ : ∃ V, V = byte32 b >>> j := ⟨_, rfl⟩
  rw [e1, ← hV, u32_xor_nat _ _ Z.isLt V.isLt, ← BitVec.toNat_xor]
  obtain ⟨U, hU⟩ : ∃ U, U = Z ^^^ V := ⟨_, rfl⟩
  rw [← hU]
  have e2 : bits .and .u32 (U.toNat : Int) 1 = ((U.toNat % 2 : Nat) : Int) := by
    have hu := U.isLt
    have := u32_and_nat U.toNat 1 (by omega) (by omega)
    rw [Nat.and_one_is_mod] at this; exact this
  rw [e2, BitVec.getLsbD, Nat.testBit_zero, Bool.eq_iff_iff]
  simp only [beq_iff_eq, decide_eq_true_eq]
  omega
theorem half_w (Z : BitVec 32) : (Z.toNat : Int) / (2 : Int) = (((Z >>> 1).toNat : Nat) : Int) := by
  rw [BitVec.toNat_ushiftRight, Nat.shiftRight_eq_div_pow]; omega
theorem poly_w (Z : BitVec 32) : bits .xor .u32 ((Z.toNat : Int) / 2) 3988292384 = ((((Z >>> 1) ^^^ 3988292384#32).toNat : Nat) : Int) := by
  have := u32_xor_nat (Z >>> 1).toNat 3988292384 (BitVec.isLt _) (by omega)
  rw [half_w, BitVec.toNat_xor]; exact this
theorem ref_step (Z y : BitVec 32) (b : UInt8) (j : Nat) (hZ : Z = y ^^^ (byte32 b >>> j)) :
    rnd y ^^^ (byte32 b >>> (j + 1)) = (Z >>> 1) ^^^ (if (Z ^^^ (byte32 b >>> j)).getLsbD 0 then 3988292384#32 else 0#32) := by
  subst hZ
  rw [BitVec.shiftRight_add]
  exact rnd_ref y _
theorem ref_odd (Z : BitVec 32) (b : UInt8) (j : Nat) (y : BitVec 32) (hZ : Z = rnds j y ^^^ (byte32 b >>> j))
    (h : (bits .and .u32 (bits .xor .u32 (Z.toNat : Int) ((b.toNat : Int) / 2 ^ j % 4294967296)) 1 == 1) = true) :
    bits .xor .u32 ((Z.toNat : Int) / 2) 3988292384 = (((rnds (j + 1) y ^^^ (byte32 b >>> (j + 1))).toNat : Nat) : Int) := by
  rw [odd_w] at h
  rw [poly_w]
  show _ = (((rnd (rnds j y) ^^^ (byte32 b >>> (j + 1))).toNat : Nat) : Int)
  rw [ref_step Z _ b j hZ, if_pos h]
theorem ref_even (Z : BitVec 32) (b : UInt8) (j : Nat) (y : BitVec 32) (hZ : Z = rnds j y ^^^ (byte32 b >>> j))
    (h : (bits .and .u32 (bits .xor .u32 (Z.toNat : Int) ((b.toNat : Int) / 2 ^ j % 4294967296)) 1 == 1) = false) :
    (Z.toNat : Int) / (2 : Int) = (((rnds (j + 1) y ^^^ (byte32 b >>> (j + 1))).toNat : Nat) : Int) := by
  rw [odd_w] at h
  rw [half_w]
  show _ = (((rnd (rnds j y) ^^^ (byte32 b >>> (j + 1))).toNat : Nat) : Int)
  rw [ref_step Z _ b j hZ, if_neg (by rw [h]; decide), BitVec.xor_zero]
theorem not_w' (X : BitVec 32) : bits .xor .u32 (X.toNat : Int) 4294967295 = ((~~~X).toNat : Int) := by
  have h := X.isLt
  have := u32_xor_nat X.toNat 4294967295 (by omega) (by omega)
  have e : ~~~X = X ^^^ 4294967295#32 := by
    rw [show (4294967295#32 : BitVec 32) = BitVec.allOnes 32 by decide, BitVec.xor_allOnes]
  rw [e, BitVec.toNat_xor]
  exact this
theorem ref_end (Y : BitVec 32) (b : UInt8) : rnds 8 (Y ^^^ byte32 b) ^^^ (byte32 b >>> 8) = crcB Y b := by rw [byte_out, BitVec.xor_zero]; rfl
theorem take_snoc (s : ByteArray) (k : Nat) (h : k < s.size) : s.data.toList.take (k + 1) = s.data.toList.take k ++ [s[k]] := by
  rw [List.take_succ_eq_append_getElem (by simpa using h)]; rfl
theorem take_all (s : ByteArray) : s.data.toList.take s.size = s.data.toList := List.take_of_length_le (by simp)
end Go.Proofs.YtgojmckfabhkaaaDoor.Sums
namespace Go.Proofs.YtgojmckfabhkaaaDoor.Sums
def hexD (n : Nat) : UInt8 := UInt8.ofNat (if n < 10 then 48 + n else 87 + n)
def hexL (l : List UInt8) : List UInt8 := l.flatMap fun b => [hexD (b.toNat / 16), hexD (b.toNat % 16)]
def hexDigits : ByteArray := ⟨#[48, 49, 50, 51, 52, 53, 54, 55, 56, 57, 97, 98, 99, 100, 101, 102]⟩
theorem hexDigits_at (n : Nat) (h : n < 16) : hexDigits[n]'h = hexD n := by
  have : ∀ n : Fin 16, hexDigits[n.val]'n.isLt = hexD n.val := by decide
  exact this ⟨n, h⟩
theorem hexDigits_int (x : Int) (h0 : 0 ≤ x) (h1 : x < 16) : hexDigits[x.toNat]'(show x.toNat < 16 by omega) = hexD x.toNat := hexDigits_at _ _
theorem low_w (b : UInt8) : bits .and .u8 (b.toNat : Int) 15 = (b.toNat : Int) % 16 := by
  have h := b.toNat_lt
  have := u8_and_nat b.toNat 15 (by omega) (by omega)
  rw [show (15 : Nat) = 2 ^ 4 - 1 by decide, Nat.and_two_pow_sub_one_eq_mod] at this
  rw [show (15 : Int) = ((2 ^ 4 - 1 : Nat) : Int) by decide, this]
  omega
theorem hexL_snoc (l : List UInt8) (b : UInt8) : hexL (l ++ [b]) = hexL l ++ [hexD (b.toNat / 16), hexD (b.toNat % 16)] := by simp [hexL]
theorem hexL_length (l : List UInt8) : (hexL l).length = 2 * l.length := by
  induction l with
  | nil => rfl
  | cons b l ih => simp only [hexL, List.flatMap_cons, List.length_append, List.length_cons, List.length_nil] at ih ⊢; omega
/-- Base 64: four letters a group. -/
def b64Letters : ByteArray := ⟨#[65, 66, 67, 68, 69, 70, 71, 72, 73, 74, 75, 76, 77, 78, 79, 80, 81, 82, 83, 84, 85, 86, 87, 88, 89, 90, 97, 98, 99, 100, 101, 102, 103, 104, 105, 106, 107, 108, 109, 110, 111, 112, 113, 114, 115, 116, 117, 118, 119, 120, 121, 122, 48, 49, 50, 51, 52, 53, 54, 55, 56, 57, 43, 47]⟩
def letter (n : Nat) : UInt8 := b64Letters.data.getD (n % 64) 0
def word3 (a b c : Nat) : Nat := a * 65536 + b * 256 + c
def chr64 (w n i : Nat) : UInt8 := if i ≤ n then letter (w / 2 ^ (18 - 6 * i)) else 61
def grp (w n : Nat) : List UInt8 := [chr64 w n 0, chr64 w n 1, chr64 w n 2, chr64 w n 3]
def b64 : List UInt8 → List UInt8
  | [] => []
  | [a] => grp (word3 a.toNat 0 0) 1
  | [a, b] => grp (word3 a.toNat b.toNat 0) 2
  | a :: b :: c :: r => grp (word3 a.toNat b.toNat c.toNat) 3 ++ b64 r
theorem letter_at (n : Nat) (h : n < 64) : b64Letters[n]'h = letter n := by
  have : ∀ n : Fin 64, b64Letters[n.val]'n.isLt = letter n.val := by decide
  exact this ⟨n, h⟩
theorem b64_length (l : List UInt8) : (b64 l).length = 4 * ((l.length + 2) / 3) := by
  induction l using b64.induct with
  | case1 => rfl
  | case2 a => simp [b64, grp]
  | case3 a b => simp [b64, grp]
  | case4 a b c r ih => simp only [b64, List.length_append, ih, List.length_cons, grp, List.length_nil]; omega
theorem six_w (W e : Nat) (hW : W < 16777216) : bits .and .u32 ((W : Int) / 2 ^ e) 63 = ((W / 2 ^ e % 64 : Nat) : Int) := by
  have hd : W / 2 ^ e ≤ W := Nat.div_le_self _ _
  have e1 : ((W : Int) / 2 ^ e) = ((W / 2 ^ e : Nat) : Int) := by simp
  rw [e1]
  generalize W / 2 ^ e = d at hd
  have := u32_and_nat d 63 (by omega) (by omega)
  rw [show (63 : Nat) = 2 ^ 6 - 1 by decide, Nat.and_two_pow_sub_one_eq_mod] at this
  exact this
theorem grp_take (W n j : Nat) (hj : j < 4) : (grp W n).take (j + 1) = (grp W n).take j ++ [chr64 W n j] := by
  match j, hj with
  | 0, _ => rfl
  | 1, _ => rfl
  | 2, _ => rfl
  | 3, _ => rfl
end Go.Proofs.YtgojmckfabhkaaaDoor.Sums
