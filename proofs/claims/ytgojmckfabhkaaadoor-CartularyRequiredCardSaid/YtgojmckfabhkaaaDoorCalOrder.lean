/- PLAIN LAWS OF THE CALENDAR: the next second of a date; stamps stand in the order of the seconds. No program in sight. No conditions. -/
import Derived.Test.YtgojmckfabhkaaaDoorCalUniq
import Derived.Test.YtgojmckfabhkaaaDoorCalStamp
namespace Go.Proofs.YtgojmckfabhkaaaDoor
open Go

theorem dim_nn (y m : Int) : 0 ≤ dim y m := by
  have hl := lp_le y
  unfold dim
  split
  · omega
  · split
    · omega
    · split <;> omega
theorem mo_lt (y : Int) (p q : Int) (hp : 1 ≤ p) (hq : q ≤ 12) (hpq : p < q) : mo y p + dim y p ≤ mo y q := by
  obtain ⟨n, hn⟩ : ∃ n : Nat, q = p + 1 + n := ⟨(q - p - 1).toNat, by omega⟩
  subst hn
  clear hpq
  induction n with
  | zero =>
    rw [show p + 1 + ((0 : Nat) : Int) = p + 1 by simp, mo_succ y p hp (by omega)]
    omega
  | succ n ih =>
    have h := ih (by omega)
    rw [show p + 1 + ((n + 1 : Nat) : Int) = p + 1 + n + 1 by omega, mo_succ y (p + 1 + n) (by omega) (by omega)]
    have := dim_nn y (p + 1 + n)
    omega
/-- A later day has a later date. -/
theorem ord_lt (y m d y' m' d' : Int) (h1 : 1 ≤ m) (h2 : m ≤ 12) (h3 : 1 ≤ d) (h4 : d ≤ dim y m) (k1 : 1 ≤ m') (k2 : m' ≤ 12) (k3 : 1 ≤ d') (k4 : d' ≤ dim y' m') (e : ordF y m d < ordF y' m' d') : y < y' ∨ y = y' ∧ (m < m' ∨ m = m' ∧ d < d') := by
  have a := ord_in_year y m d h1 h2 h3 h4
  have b := ord_in_year y' m' d' k1 k2 k3 k4
  rcases Int.lt_trichotomy y y' with h | h | h
  · exact Or.inl h
  · subst h
    right
    refine ⟨rfl, ?_⟩
    rw [ordF_day, ordF_day] at e
    rcases Int.lt_trichotomy m m' with h | h | h
    · exact Or.inl h
    · subst h
      exact Or.inr ⟨rfl, by omega⟩
    · have := mo_lt y m' m k1 h2 h
      omega
  · have := ja_mono (y' + 1) y (by omega)
    omega

/-- The date of the next day. -/
theorem next_day (D : Int) (h0 : 0 ≤ D) (h1 : D < 3652058) : (dD D < dim (dY D) (dM D) ∧ dY (D + 1) = dY D ∧ dM (D + 1) = dM D ∧ dD (D + 1) = dD D + 1) ∨
    (dD D = dim (dY D) (dM D) ∧ dM D < 12 ∧ dY (D + 1) = dY D ∧ dM (D + 1) = dM D + 1 ∧ dD (D + 1) = 1) ∨
    (dD D = dim (dY D) (dM D) ∧ dM D = 12 ∧ dY (D + 1) = dY D + 1 ∧ dM (D + 1) = 1 ∧ dD (D + 1) = 1) := by
  obtain ⟨ok0, o0⟩ := date_ok D h0 (by omega)
  obtain ⟨ok1, o1⟩ := date_ok (D + 1) (by omega) (by omega)
  obtain ⟨hm1, hm2⟩ := okD_month ok0
  obtain ⟨km1, km2⟩ := okD_month ok1
  obtain ⟨y1, y2, q1, q2, -⟩ := ok0
  obtain ⟨z1, z2, r1, r2, -⟩ := ok1
  generalize dY D = Y at *
  generalize dM D = M at *
  generalize dD D = d at *
  generalize dY (D + 1) = Y' at *
  generalize dM (D + 1) = M' at *
  generalize dD (D + 1) = d' at *
  by_cases c1 : d < dim Y M
  · left
    obtain ⟨e1, e2, e3⟩ := ord_inj Y' M' d' Y M (d + 1) km1 km2 r1 r2 hm1 hm2 (by omega) (by omega) (by rw [o1]; rw [ordF_day] at o0 ⊢; omega)
    exact ⟨c1, e1, e2, e3⟩
  · right
    have hd : d = dim Y M := by omega
    by_cases c2 : M < 12
    · left
      have hp : 1 ≤ dim Y (M + 1) := by
        have := (dim_val Y (M + 1))
        have hl := lp_le Y
        have hm : M = 1 ∨ M = 2 ∨ M = 3 ∨ M = 4 ∨ M = 5 ∨ M = 6 ∨ M = 7 ∨ M = 8 ∨ M = 9 ∨ M = 10 ∨ M = 11 := by omega
        rcases hm with rfl | rfl | rfl | rfl | rfl | rfl | rfl | rfl | rfl | rfl | rfl
        all_goals
          simp [dim]
          try omega
      have hs := mo_succ Y M hm1 (by omega)
      obtain ⟨e1, e2, e3⟩ := ord_inj Y' M' d' Y (M + 1) 1 km1 km2 r1 r2 (by omega) (by omega) (by omega) hp (by rw [o1]; rw [ordF_day] at o0 ⊢; omega)
      exact ⟨hd, c2, e1, e2, e3⟩
    · right
      have hM : M = 12 := by omega
      subst hM
      have d12 : dim Y 12 = 31 := (dim_val Y 12).2.2 (by omega)
      have d1 : dim (Y + 1) 1 = 31 := (dim_val (Y + 1) 1).2.2 (by omega)
      have hs := mo_last Y
      have hf := mo_first (Y + 1)
      obtain ⟨e1, e2, e3⟩ := ord_inj Y' M' d' (Y + 1) 1 1 km1 km2 r1 r2 (by omega) (by omega) (by omega) (by omega) (by rw [o1]; rw [ordF_day] at o0 ⊢; omega)
      exact ⟨hd, rfl, e1, e2, e3⟩

/-! ## Numbers of fixed width -/
def isD (l : List UInt8) : Prop := ∀ b ∈ l, 48 ≤ b.toNat ∧ b.toNat ≤ 57
def numv : List UInt8 → Nat
  | [] => 0
  | b :: l => (b.toNat - 48) * 10 ^ l.length + numv l
theorem numv_lt : ∀ l, isD l → numv l < 10 ^ l.length
  | [], _ => by simp [numv]
  | b :: l, h => by
    have h1 := numv_lt l (fun c hc => h c (List.mem_cons_of_mem _ hc))
    have h2 := h b List.mem_cons_self
    show (b.toNat - 48) * 10 ^ l.length + numv l < 10 ^ (l.length + 1)
    rw [Nat.pow_succ]
    have h3 : (b.toNat - 48) * 10 ^ l.length ≤ 9 * 10 ^ l.length := Nat.mul_le_mul_right _ (by omega)
    omega
theorem numv_append : ∀ a b, numv (a ++ b) = numv a * 10 ^ b.length + numv b
  | [], b => by simp [numv]
  | c :: a, b => by
    show (c.toNat - 48) * 10 ^ (a ++ b).length + numv (a ++ b) = ((c.toNat - 48) * 10 ^ a.length + numv a) * 10 ^ b.length + numv b
    rw [numv_append a b, List.length_append, Nat.pow_add, Nat.add_mul, Nat.mul_assoc]
    omega
theorem isD_append {a b : List UInt8} (ha : isD a) (hb : isD b) : isD (a ++ b) := fun c hc => by
  rcases List.mem_append.1 hc with h | h
  · exact ha c h
  · exact hb c h
/-- Numbers of one width are ordered as their digits. -/
theorem less_num : ∀ (x y : List UInt8), x.length = y.length → isD x → isD y → Op.bytesLess x y = decide (numv x < numv y)
  | [], [], _, _, _ => by simp [Op.bytesLess, numv]
  | [], _ :: _, h, _, _ => by simp at h
  | _ :: _, [], h, _, _ => by simp at h
  | a :: x, b :: y, h, hx, hy => by
    have hl : x.length = y.length := by simpa using h
    have hx' : isD x := fun c hc => hx c (List.mem_cons_of_mem _ hc)
    have hy' : isD y := fun c hc => hy c (List.mem_cons_of_mem _ hc)
    have ha := hx a List.mem_cons_self
    have hb := hy b List.mem_cons_self
    have vx := numv_lt x hx'
    have vy := numv_lt y hy'
    have ih := less_num x y hl hx' hy'
    show (decide (a < b) || (a == b && Op.bytesLess x y)) = decide ((a.toNat - 48) * 10 ^ x.length + numv x < (b.toNat - 48) * 10 ^ y.length + numv y)
    rw [ih, hl]
    rw [hl] at vx
    generalize 10 ^ y.length = P at *
    rcases Nat.lt_trichotomy a.toNat b.toNat with hab | hab | hab
    · have h1 : decide (a < b) = true := decide_eq_true (UInt8.lt_iff_toNat_lt.2 hab)
      rw [h1, Bool.true_or]
      symm
      apply decide_eq_true
      obtain ⟨k, hk⟩ : ∃ k, b.toNat - 48 = (a.toNat - 48) + 1 + k := ⟨b.toNat - a.toNat - 1, by omega⟩
      rw [hk, Nat.add_mul, Nat.add_mul]
      have : 0 ≤ k * P := Nat.zero_le _
      omega
    · have hab' : a = b := UInt8.toNat_inj.1 hab
      subst hab'
      have h1 : decide (a < a) = false := decide_eq_false (fun h => by have := UInt8.lt_iff_toNat_lt.1 h; omega)
      rw [h1, Bool.false_or, beq_self_eq_true, Bool.true_and]
      by_cases hn : numv x < numv y
      · rw [decide_eq_true hn, decide_eq_true (by omega)]
      · rw [decide_eq_false hn, decide_eq_false (by omega)]
    · have h1 : decide (a < b) = false := decide_eq_false (fun h => by have := UInt8.lt_iff_toNat_lt.1 h; omega)
      have h2 : (a == b) = false := beq_eq_false_iff_ne.2 (fun h => by subst h; omega)
      rw [h1, h2, Bool.false_or, Bool.false_and]
      symm
      apply decide_eq_false
      obtain ⟨k, hk⟩ : ∃ k, a.toNat - 48 = (b.toNat - 48) + 1 + k := ⟨a.toNat - b.toNat - 1, by omega⟩
      rw [hk, Nat.add_mul, Nat.add_mul]
      have : 0 ≤ k * P := Nat.zero_le _
      omega

theorem dec_is (n : Nat) : isD (Lib.decDigits n) ∧ numv (Lib.decDigits n) = n := by
  induction n using Nat.strongRecOn with
  | ind n ih =>
    by_cases h : n < 10
    · rw [Lib.decDigits_one h]
      have e : (UInt8.ofNat (48 + n)).toNat = 48 + n := by rw [UInt8.toNat_ofNat']; omega
      refine ⟨fun b hb => ?_, ?_⟩
      · rw [List.mem_singleton] at hb; subst hb; rw [e]; omega
      · simp only [numv, List.length_nil]; rw [e]; omega
    · rw [dig_big h]
      obtain ⟨i1, i2⟩ := ih (n / 10) (by omega)
      have e : (UInt8.ofNat (48 + n % 10)).toNat = 48 + n % 10 := by rw [UInt8.toNat_ofNat']; omega
      refine ⟨isD_append i1 (fun b hb => ?_), ?_⟩
      · rw [List.mem_singleton] at hb; subst hb; rw [e]; omega
      · rw [numv_append, i2]
        simp only [numv, List.length_cons, List.length_nil]
        rw [e]
        omega
theorem zeros_is : ∀ k, isD (List.replicate k (48 : UInt8)) ∧ numv (List.replicate k (48 : UInt8)) = 0
  | 0 => ⟨fun b hb => (by cases hb), rfl⟩
  | k + 1 => by
    obtain ⟨h1, h2⟩ := zeros_is k
    rw [List.replicate_succ]
    refine ⟨fun b hb => ?_, ?_⟩
    · rcases List.mem_cons.1 hb with h | h
      · subst h; decide
      · exact h1 b h
    · simp only [numv]; rw [h2]; simp
theorem pad_is (k n : Nat) (hn : n < 10 ^ (k + 1)) : isD (padL (k + 1) (Lib.decDigits n)) ∧ numv (padL (k + 1) (Lib.decDigits n)) = n ∧ (padL (k + 1) (Lib.decDigits n)).length = k + 1 := by
  obtain ⟨h1, h2⟩ := dec_is n
  have hl := dig_len k n hn
  unfold padL
  obtain ⟨z1, z2⟩ := zeros_is (k + 1 - (Lib.decDigits n).length)
  refine ⟨isD_append z1 h1, ?_, ?_⟩
  · rw [numv_append, z2, h2]; simp
  · rw [List.length_append, List.length_replicate]; omega
theorem d2_is (n : Int) (h0 : 0 ≤ n) (h1 : n ≤ 99) : isD (d2 n) ∧ numv (d2 n) = n.toNat ∧ (d2 n).length = 2 := pad_is 1 n.toNat (by omega)
theorem d4_is (n : Int) (h0 : 0 ≤ n) (h1 : n ≤ 9999) : isD (d4 n) ∧ numv (d4 n) = n.toNat ∧ (d4 n).length = 4 := pad_is 3 n.toNat (by omega)

/-- A stamp's number. -/
theorem stampL_is (y m d h n s : Int) (y0 : 0 ≤ y) (y1 : y ≤ 9999) (m0 : 0 ≤ m) (m1 : m ≤ 99) (d0 : 0 ≤ d) (d1 : d ≤ 99) (h0 : 0 ≤ h) (h1 : h ≤ 99) (n0 : 0 ≤ n) (n1 : n ≤ 99) (s0 : 0 ≤ s) (s1 : s ≤ 99) :
    isD (stampL y m d h n s) ∧ (stampL y m d h n s).length = 14 ∧ numv (stampL y m d h n s) = ((((y.toNat * 100 + m.toNat) * 100 + d.toNat) * 100 + h.toNat) * 100 + n.toNat) * 100 + s.toNat := by
  obtain ⟨a1, a2, a3⟩ := d4_is y y0 y1
  obtain ⟨b1, b2, b3⟩ := d2_is m m0 m1
  obtain ⟨c1, c2, c3⟩ := d2_is d d0 d1
  obtain ⟨e1, e2, e3⟩ := d2_is h h0 h1
  obtain ⟨f1, f2, f3⟩ := d2_is n n0 n1
  obtain ⟨g1, g2, g3⟩ := d2_is s s0 s1
  unfold stampL
  refine ⟨isD_append (isD_append (isD_append (isD_append (isD_append a1 b1) c1) e1) f1) g1, ?_, ?_⟩
  · simp only [List.length_append]; omega
  · simp only [numv_append, a2, b2, c2, e2, f2, g2, b3, c3, e3, f3, g3]

/-- The fields of a second. -/
theorem fields (t : Int) (h1 : -62135596800 ≤ t) (h2 : t ≤ 253402300799) : 1 ≤ dY (dayOf t) ∧ dY (dayOf t) ≤ 9999 ∧ 1 ≤ dM (dayOf t) ∧ dM (dayOf t) ≤ 12 ∧ 1 ≤ dD (dayOf t) ∧ dD (dayOf t) ≤ dim (dY (dayOf t)) (dM (dayOf t)) ∧ dD (dayOf t) ≤ 31 ∧ 0 ≤ secIn t ∧ secIn t < 86400 := by
  have hD : 0 ≤ dayOf t ∧ dayOf t ≤ 3652058 := by unfold dayOf; omega
  have hS : 0 ≤ secIn t ∧ secIn t < 86400 := by unfold secIn; omega
  obtain ⟨hok, _⟩ := date_ok (dayOf t) hD.1 hD.2
  obtain ⟨hm1, hm2⟩ := okD_month hok
  have hdl := dim_le (dY (dayOf t)) (dM (dayOf t))
  obtain ⟨y1, y2, q1, q2, -⟩ := hok
  exact ⟨y1, y2, hm1, hm2, q1, q2, by omega, hS.1, hS.2⟩
theorem stampOf_is (t : Int) (h1 : -62135596800 ≤ t) (h2 : t ≤ 253402300799) : isD (stampOf t) ∧ (stampOf t).length = 14 ∧ numv (stampOf t) = (((((dY (dayOf t)).toNat * 100 + (dM (dayOf t)).toNat) * 100 + (dD (dayOf t)).toNat) * 100 + (secIn t / 3600).toNat) * 100 + (secIn t / 60 % 60).toNat) * 100 + (secIn t % 60).toNat := by
  obtain ⟨y1, y2, m1, m2, d1, _, d2, s1, s2⟩ := fields t h1 h2
  exact stampL_is _ _ _ _ _ _ (by omega) (by omega) (by omega) (by omega) (by omega) (by omega) (by omega) (by omega) (by omega) (by omega) (by omega) (by omega)
theorem ms_lt (A B : Nat) (h : A < B) : A / 60 * 100 + A % 60 < B / 60 * 100 + B % 60 := by omega
theorem hms_lt (a b : Nat) (h : a < b) : (a / 3600 * 100 + a / 60 % 60) * 100 + a % 60 < (b / 3600 * 100 + b / 60 % 60) * 100 + b % 60 := by
  have ea : a / 3600 = a / 60 / 60 := by omega
  have eb : b / 3600 = b / 60 / 60 := by omega
  rw [ea, eb]
  have sa : a = a / 60 * 60 + a % 60 := by omega
  have sb : b = b / 60 * 60 + b % 60 := by omega
  have ra : a % 60 < 60 := by omega
  have rb : b % 60 < 60 := by omega
  rcases Nat.lt_trichotomy (a / 60) (b / 60) with h1 | h1 | h1
  · have := ms_lt (a / 60) (b / 60) h1
    generalize a / 60 / 60 * 100 + a / 60 % 60 = P at *
    generalize b / 60 / 60 * 100 + b / 60 % 60 = Q at *
    omega
  · rw [h1] at sa ⊢
    omega
  · omega
theorem six_lt (Q R x1 x2 x3 z1 z2 z3 : Nat) (h : Q < R) (h1 : x1 ≤ 23) (h2 : x2 ≤ 59) (h3 : x3 ≤ 59) : ((Q * 100 + x1) * 100 + x2) * 100 + x3 < ((R * 100 + z1) * 100 + z2) * 100 + z3 := by omega
theorem tail_lt (Q x1 x2 x3 z1 z2 z3 : Nat) (h : (x1 * 100 + x2) * 100 + x3 < (z1 * 100 + z2) * 100 + z3) : ((Q * 100 + x1) * 100 + x2) * 100 + x3 < ((Q * 100 + z1) * 100 + z2) * 100 + z3 := by omega
theorem date_lt (y m d y' m' d' : Int) (y0 : 1 ≤ y) (m1 : 1 ≤ m) (m2 : m ≤ 12) (d1 : 1 ≤ d) (d2 : d ≤ 31) (m1' : 1 ≤ m') (d1' : 1 ≤ d') (h : y < y' ∨ y = y' ∧ (m < m' ∨ m = m' ∧ d < d')) :
    (y.toNat * 100 + m.toNat) * 100 + d.toNat < (y'.toNat * 100 + m'.toNat) * 100 + d'.toNat := by
  rcases h with h | ⟨rfl, h | ⟨rfl, h⟩⟩
  · omega
  · omega
  · omega
theorem stamp_mono (t u : Int) (h1 : -62135596800 ≤ t) (h2 : t ≤ 253402300799) (k1 : -62135596800 ≤ u) (k2 : u ≤ 253402300799) (h : t < u) : numv (stampOf t) < numv (stampOf u) := by
  rw [(stampOf_is t h1 h2).2.2, (stampOf_is u k1 k2).2.2]
  obtain ⟨y1, y2, m1, m2, a1, a2, a3, s1, s2⟩ := fields t h1 h2
  obtain ⟨y1', y2', m1', m2', a1', a2', a3', s1', s2'⟩ := fields u k1 k2
  have et : dayOf t * 86400 + secIn t = t + 62135596800 := by unfold dayOf secIn; omega
  have eu : dayOf u * 86400 + secIn u = u + 62135596800 := by unfold dayOf secIn; omega
  have o1 := (date_ok (dayOf t) (by unfold dayOf; omega) (by unfold dayOf; omega)).2
  have o2 := (date_ok (dayOf u) (by unfold dayOf; omega) (by unfold dayOf; omega)).2
  by_cases hd : dayOf t = dayOf u
  · rw [hd] at et ⊢
    have hs : secIn t < secIn u := by omega
    have hh := hms_lt (secIn t).toNat (secIn u).toNat (by omega)
    have e1 : (secIn t / 3600).toNat = (secIn t).toNat / 3600 := by omega
    have e2 : (secIn t / 60 % 60).toNat = (secIn t).toNat / 60 % 60 := by omega
    have e3 : (secIn t % 60).toNat = (secIn t).toNat % 60 := by omega
    have f1 : (secIn u / 3600).toNat = (secIn u).toNat / 3600 := by omega
    have f2 : (secIn u / 60 % 60).toNat = (secIn u).toNat / 60 % 60 := by omega
    have f3 : (secIn u % 60).toNat = (secIn u).toNat % 60 := by omega
    rw [e1, e2, e3, f1, f2, f3]
    exact tail_lt _ _ _ _ _ _ _ hh
  · have hl : dayOf t < dayOf u := by omega
    have ho := ord_lt _ _ _ _ _ _ m1 m2 a1 a2 m1' m2' a1' a2' (by rw [o1, o2]; exact hl)
    exact six_lt _ _ _ _ _ _ _ _ (date_lt _ _ _ _ _ _ y1 m1 m2 a1 a3 m1' a1' ho) (by omega) (by omega) (by omega)
/-- Stamps stand in the order of the seconds. -/
theorem stamp_less (t u : Int) (h1 : -62135596800 ≤ t) (h2 : t ≤ 253402300799) (k1 : -62135596800 ≤ u) (k2 : u ≤ 253402300799) : Op.bytesLess (stampOf t) (stampOf u) = decide (t < u) := by
  have a := stampOf_is t h1 h2
  have b := stampOf_is u k1 k2
  rw [less_num _ _ (by rw [a.2.1, b.2.1]) a.1 b.1]
  rcases Int.lt_trichotomy t u with h | h | h
  · rw [decide_eq_true h, decide_eq_true (stamp_mono t u h1 h2 k1 k2 h)]
  · subst h; rw [decide_eq_false (Nat.lt_irrefl _), decide_eq_false (by omega)]
  · have := stamp_mono u t k1 k2 h1 h2 h
    rw [decide_eq_false (by omega), decide_eq_false (by omega)]
theorem stamp_eq (t u : Int) (h1 : -62135596800 ≤ t) (h2 : t ≤ 253402300799) (k1 : -62135596800 ≤ u) (k2 : u ≤ 253402300799) : stampOf t = stampOf u ↔ t = u := by
  refine ⟨fun e => ?_, fun e => by rw [e]⟩
  rcases Int.lt_trichotomy t u with h | h | h
  · have := stamp_mono t u h1 h2 k1 k2 h; rw [e] at this; omega
  · exact h
  · have := stamp_mono u t k1 k2 h1 h2 h; rw [e] at this; omega

/-- What the next second's fields are. -/
theorem next_sec (t : Int) (h1 : -62135596800 ≤ t) (h2 : t < 253402300799) :
    (secIn t < 86399 ∧ dayOf (t + 1) = dayOf t ∧ secIn (t + 1) = secIn t + 1) ∨ (secIn t = 86399 ∧ dayOf (t + 1) = dayOf t + 1 ∧ secIn (t + 1) = 0) := by
  unfold secIn dayOf
  omega
end Go.Proofs.YtgojmckfabhkaaaDoor
