/- PLAIN LAW of pseudo-versions: what stands ahead of a second's stamp and a commit's name hangs on the base alone; the text is a version; the last word holds both. No program in sight. No conditions. -/
import Derived.Test.YtgojmckfabhkaaaDoorSemT
import Derived.Test.YtgojmckfabhkaaaDoorReqLess
import Derived.Test.YtgojmckfabhkaaaDoorReqBuild
namespace Go.Proofs.YtgojmckfabhkaaaDoor.Sem
open Go Sums
set_option linter.unusedVariables false

theorem cutA_free (c : UInt8) (l : List UInt8) : c ∉ cutA c l := by
  by_cases h : c ∈ l
  · obtain ⟨a, b, rfl, hn⟩ := mem_cut c l h
    rw [(cutA_at c a b hn).1]; exact hn
  · rw [(cutA_no c l h).1]; exact h

/-- What is known of the parts of a version. -/
def GoodV (v : Ver) : Prop := numberB v.maj = true ∧ numberB v.mnr = true ∧ numberB v.pat = true ∧ (v.pre = [] ∨ wordsB true v.pre = true) ∧ 43 ∉ v.pre ∧ (v.bld = [] ∨ wordsB false v.bld = true)

theorem tailP_good {M m p r : List UInt8} {v : Ver} (hM : numberB M = true) (hm : numberB m = true) (hp : numberB p = true) (h : tailP M m p r = some v) : GoodV v := by
  unfold tailP at h
  split at h
  · cases h
  · rename_i hn
    have hb : cutZ 43 r = [] ∨ wordsB false (cutZ 43 r) = true := by
      by_cases h43 : 43 ∈ r
      · right
        cases hw : wordsB false (cutZ 43 r) with
        | true => rfl
        | false => exact absurd ⟨h43, hw⟩ hn
      · left; exact (cutA_no 43 r h43).2
    have hf := cutA_free 43 r
    split at h
    · obtain rfl := Option.some.inj h
      exact ⟨hM, hm, hp, Or.inl rfl, by simp, hb⟩
    · rename_i c q hq
      rw [hq] at hf
      split at h
      · rename_i hc
        obtain rfl := Option.some.inj h
        exact ⟨hM, hm, hp, Or.inr hc.2, fun hx => hf (List.mem_cons_of_mem _ hx), hb⟩
      · cases h

theorem num48 : numberB [48] = true := by decide
theorem pparse_good {l : List UInt8} {v : Ver} (h : pparse l = some v) : GoodV v := by
  unfold pparse at h
  split at h
  · cases h
  · split at h
    · split at h
      · cases h
      · rename_i M r1 e1
        have hM := (takeNum_some e1).2
        unfold pparse2 at h
        split at h
        · obtain rfl := Option.some.inj h
          exact ⟨hM, num48, num48, Or.inl rfl, by simp, Or.inl rfl⟩
        · split at h
          · split at h
            · cases h
            · rename_i m r2 e2
              have hm := (takeNum_some e2).2
              unfold pparse3 at h
              split at h
              · obtain rfl := Option.some.inj h
                exact ⟨hM, hm, num48, Or.inl rfl, by simp, Or.inl rfl⟩
              · split at h
                · split at h
                  · cases h
                  · rename_i p r3 e3
                    exact tailP_good hM hm (takeNum_some e3).2 h
                · cases h
          · cases h
    · cases h

theorem plusD_len (b : List UInt8) : (plusD b).length ≤ b.length + 1 := by unfold plusD; split <;> simp
theorem tailP_full {M m p P b : List UInt8} (h : wordsB true P = true) (h43 : 43 ∉ P) (hb : b = [] ∨ wordsB false b = true) : tailP M m p (45 :: (P ++ plusD b)) = some ⟨M, m, p, P, b, 0⟩ := by
  unfold plusD
  by_cases e : b = []
  · subst e
    rw [if_pos rfl, List.append_nil]
    exact tailP_pre h h43
  · rw [if_neg e]
    have hw : wordsB false b = true := by rcases hb with h1 | h1; exact absurd h1 e; exact h1
    have hn : (43 : UInt8) ∉ 45 :: P := by simp [h43]
    have hc := cutA_at 43 (45 :: P) b hn
    rw [List.cons_append] at hc
    unfold tailP
    rw [hc.1, hc.2, if_neg (by rw [hw]; simp)]
    simp [h]
theorem pparse_full {M m p P b : List UInt8} (hM : numberB M = true) (hm : numberB m = true) (hp : numberB p = true) (hP : wordsB true P = true) (h43 : 43 ∉ P) (hb : b = [] ∨ wordsB false b = true)
    (hl : (118 :: (M ++ 46 :: (m ++ 46 :: (p ++ 45 :: (P ++ plusD b))))).length ≤ 100) : pparse (118 :: (M ++ 46 :: (m ++ 46 :: (p ++ 45 :: (P ++ plusD b))))) = some ⟨M, m, p, P, b, 0⟩ := by
  unfold pparse
  simp only
  rw [if_pos ⟨trivial, hl⟩, takeNum_app hM (nhead dig46 _)]
  simp only [pparse2, if_true]
  rw [takeNum_app hm (nhead dig46 _)]
  simp only [pparse3, if_true]
  rw [takeNum_app hp (nhead dig45 _)]
  exact tailP_full hP h43 hb

/- A number one greater. -/
theorem incR_num : ∀ (r : List UInt8), (∀ c ∈ r, isDig c = true) → (r.length ≤ 1 ∨ r.getLast? ≠ some 48) → (∀ c ∈ incR r, isDig c = true) ∧ incR r ≠ [] ∧ (incR r).getLast? ≠ some 48
  | [], _, _ => by unfold incR; decide
  | c :: r, hd, hl => by
    have hc := hd c (by simp)
    unfold isDig at hc
    simp only [Bool.and_eq_true, decide_eq_true_eq] at hc
    unfold incR
    by_cases h : c.toNat < 57
    · rw [if_pos h]
      have hn : (c + 1).toNat = c.toNat + 1 := by rw [UInt8.toNat_add]; show (c.toNat + 1) % 256 = _; omega
      refine ⟨fun x hx => ?_, by simp, ?_⟩
      · rcases List.mem_cons.1 hx with rfl | hx
        · unfold isDig; rw [hn]; simp; omega
        · exact hd x (List.mem_cons_of_mem _ hx)
      · cases r with
        | nil =>
          intro e
          have e2 : c + 1 = 48 := Option.some.inj e
          have := congrArg UInt8.toNat e2
          rw [hn] at this
          have h48 : (48 : UInt8).toNat = 48 := rfl
          omega
        | cons d r =>
          rw [List.getLast?_cons_cons]
          rcases hl with h1 | h1
          · simp at h1
          · rw [List.getLast?_cons_cons] at h1; exact h1
    · rw [if_neg h]
      have hr : r.length ≤ 1 ∨ r.getLast? ≠ some 48 := by
        cases r with
        | nil => left; simp
        | cons d r =>
          right
          rcases hl with h1 | h1
          · simp at h1
          · rw [List.getLast?_cons_cons] at h1; exact h1
      obtain ⟨a1, a2, a3⟩ := incR_num r (fun x hx => hd x (List.mem_cons_of_mem _ hx)) hr
      refine ⟨fun x hx => ?_, by simp, ?_⟩
      · rcases List.mem_cons.1 hx with rfl | hx
        · decide
        · exact a1 x hx
      · cases e : incR r with
        | nil => exact absurd e a2
        | cons d q => rw [List.getLast?_cons_cons]; rw [e] at a3; exact a3
theorem moreD_num {l : List UInt8} (h : numberB l = true) : numberB (moreD l) = true ∧ (moreD l).head? ≠ some 48 := by
  have hd := (digitsB_iff l).1 (numberB_dig h)
  have hl : l.reverse.length ≤ 1 ∨ l.reverse.getLast? ≠ some 48 := by
    unfold numberB at h
    simp only [Bool.and_eq_true, Bool.or_eq_true, decide_eq_true_eq] at h
    rcases h.2 with h1 | h1
    · left; rw [List.length_reverse, h1]; exact Nat.le_refl _
    · right; rw [List.getLast?_reverse]; exact h1
  obtain ⟨a1, a2, a3⟩ := incR_num l.reverse (fun c hc => hd.2 c (List.mem_reverse.1 hc)) hl
  have hh : (moreD l).head? ≠ some 48 := by unfold moreD; rw [List.head?_reverse]; exact a3
  refine ⟨?_, hh⟩
  have hdg : digitsB (moreD l) = true := (digitsB_iff _).2 ⟨fun e => a2 (by unfold moreD at e; exact List.reverse_eq_nil_iff.1 e), fun c hc => a1 c (by unfold moreD at hc; exact List.mem_reverse.1 hc)⟩
  unfold numberB
  rw [hdg]
  simp [hh]

theorem takeNum_len {l M r : List UInt8} (h : takeNum l = some (M, r)) : M.length + r.length = l.length := by
  rw [(takeNum_some h).1, List.length_append]
theorem cutA_len2 (c : UInt8) (l : List UInt8) : (cutA c l).length + (cutZ c l).length ≤ l.length := by
  by_cases h : c ∈ l
  · obtain ⟨a, b, rfl, hn⟩ := mem_cut c l h
    rw [(cutA_at c a b hn).1, (cutA_at c a b hn).2]; simp
  · rw [(cutA_no c l h).1, (cutA_no c l h).2]; simp
theorem tailP_len {M m p r : List UInt8} {v : Ver} (h : tailP M m p r = some v) : v.maj = M ∧ v.mnr = m ∧ v.pat = p ∧ v.pre.length ≤ r.length ∧ v.bld.length ≤ r.length ∧ v.short = 0 := by
  have hc := cutA_len2 43 r
  unfold tailP at h
  split at h
  · cases h
  · split at h
    · obtain rfl := Option.some.inj h
      exact ⟨rfl, rfl, rfl, by simp, by show (cutZ 43 r).length ≤ _; omega, rfl⟩
    · rename_i c q hq
      rw [hq] at hc
      simp at hc
      split at h
      · obtain rfl := Option.some.inj h
        exact ⟨rfl, rfl, rfl, by show q.length ≤ _; omega, by show (cutZ 43 r).length ≤ _; omega, rfl⟩
      · cases h
theorem pparse_len {l : List UInt8} {v : Ver} (h : pparse l = some v) : v.maj.length ≤ 100 ∧ v.mnr.length ≤ 100 ∧ v.pat.length ≤ 100 ∧ v.pre.length ≤ 100 ∧ v.bld.length ≤ 100 := by
  unfold pparse at h
  split at h
  · cases h
  · rename_i x r
    split at h
    · rename_i hl
      have hl2 := hl.2
      simp at hl2
      split at h
      · cases h
      · rename_i M r1 e1
        have k1 := takeNum_len e1
        unfold pparse2 at h
        split at h
        · obtain rfl := Option.some.inj h
          simp at k1 ⊢
          omega
        · split at h
          · split at h
            · cases h
            · rename_i m r2 e2
              have k2 := takeNum_len e2
              simp at k1
              unfold pparse3 at h
              split at h
              · obtain rfl := Option.some.inj h
                simp at k2 ⊢
                omega
              · split at h
                · split at h
                  · cases h
                  · rename_i p r3 e3
                    have k3 := takeNum_len e3
                    simp at k2
                    obtain ⟨q1, q2, q3, q4, q5, -⟩ := tailP_len h
                    rw [q1, q2, q3]
                    omega
                · cases h
          · cases h
    · cases h
theorem incR_len : ∀ l : List UInt8, (incR l).length ≤ l.length + 1
  | [] => by unfold incR; simp
  | c :: r => by
    have := incR_len r
    unfold incR
    split <;> simp <;> omega
theorem moreD_len (l : List UInt8) : (moreD l).length ≤ l.length + 1 := by
  have := incR_len l.reverse
  unfold moreD
  simpa using this

/- The last word. -/
def segD (t : Int) (id : List UInt8) : List UInt8 := stampOf t ++ 45 :: id
theorem hex_okc {c : UInt8} (h : isHex c = true) : okc c = true ∧ c ≠ 43 ∧ c ≠ 45 ∧ c ≠ 46 := by
  revert h
  have : ∀ n : Nat, n < 256 → isHex (UInt8.ofNat n) = true → okc (UInt8.ofNat n) = true ∧ UInt8.ofNat n ≠ 43 ∧ UInt8.ofNat n ≠ 45 ∧ UInt8.ofNat n ≠ 46 := by decide +kernel
  have h2 := this c.toNat (by have := UInt8.toNat_lt c; omega)
  rw [UInt8.ofNat_toNat] at h2
  exact h2
theorem rev_is {id : List UInt8} (h : revB id = true) : id.length = 12 ∧ ∀ c ∈ id, okc c = true ∧ c ≠ 43 ∧ c ≠ 45 ∧ c ≠ 46 := by
  unfold revB at h
  simp only [Bool.and_eq_true, decide_eq_true_eq] at h
  exact ⟨h.2, fun c hc => hex_okc (((hexed_iff id).1 h.1).1 c hc)⟩
theorem seg_is {t : Int} {id : List UInt8} (h1 : -62135596800 ≤ t) (h2 : t ≤ 253402300799) (h : revB id = true) :
    (segD t id).length = 27 ∧ 46 ∉ segD t id ∧ 43 ∉ segD t id ∧ wordOk true (segD t id) = true ∧ digitsB (segD t id) = false ∧ segD t id ≠ [] := by
  obtain ⟨a1, a2, -⟩ := stampOf_is t h1 h2
  have ad := isD_dig a1
  obtain ⟨b1, b2⟩ := rev_is h
  have an : ∀ c, isDig c = false → c ∉ stampOf t := fun c hc hm => by rw [ad c hm] at hc; cases hc
  have nd : digitsB (segD t id) = false := by
    cases hd : digitsB (segD t id) with
    | false => rfl
    | true => exact absurd (by unfold segD; simp) (digitsB_no hd 45 dig45)
  have ne : segD t id ≠ [] := by unfold segD; simp
  refine ⟨by unfold segD; simp [a2, b1], ?_, ?_, ?_, nd, ne⟩
  · unfold segD
    intro hm
    rcases List.mem_append.1 hm with hm | hm
    · exact an 46 dig46 hm
    · rcases List.mem_cons.1 hm with hm | hm
      · cases hm
      · exact (b2 46 hm).2.2.2 rfl
  · unfold segD
    intro hm
    rcases List.mem_append.1 hm with hm | hm
    · exact an 43 dig43 hm
    · rcases List.mem_cons.1 hm with hm | hm
      · cases hm
      · exact (b2 43 hm).2.1 rfl
  · refine (wordOk_t _ ne (fun hd => by rw [nd] at hd; cases hd)).1 ?_
    rw [List.all_eq_true]
    intro x hx
    unfold segD at hx
    rcases List.mem_append.1 hx with h | h
    · exact dig_okc (ad x h)
    · rcases List.mem_cons.1 h with h | h
      · rw [h]; decide
      · exact (b2 x h).1

/-- What stands ahead of the stamp, and behind the name; none: the base is no version. -/
def frontD (base : List UInt8) : Option (List UInt8 × List UInt8) :=
  if base = [] then some ([118, 48, 46, 48, 46, 48, 45], []) else
  match pparse base with
  | none => none
  | some v => if v.pre = [] then some (118 :: (v.maj ++ 46 :: (v.mnr ++ 46 :: (moreD v.pat ++ 45 :: [48, 46]))), plusD v.bld)
    else some (118 :: (v.maj ++ 46 :: (v.mnr ++ 46 :: (v.pat ++ 45 :: (v.pre ++ [46, 48, 46])))), plusD v.bld)
def madeL (fb : List UInt8 × List UInt8) (t : Int) (id : List UInt8) : List UInt8 := fb.1 ++ segD t id ++ fb.2

/-- What the front says of the version. -/
structure FrontOk (fb : List UInt8 × List UInt8) (M m p C b : List UInt8) : Prop where
  eq1 : fb.1 = 118 :: (M ++ 46 :: (m ++ 46 :: (p ++ 45 :: C)))
  eq2 : fb.2 = plusD b
  ends : Ends C
  maj : numberB M = true
  mnr : numberB m = true
  pat : numberB p = true
  bld : b = [] ∨ wordsB false b = true
  free : 43 ∉ C
  words : ∀ s, 46 ∉ s → wordOk true s = true → wordsB true (C ++ s) = true
  kind : (C = [] ∧ m = [48] ∧ p = [48] ∧ b = []) ∨ (C = [48, 46] ∧ p.head? ≠ some 48) ∨ (∃ P0, P0 ≠ [] ∧ C = P0 ++ [46, 48, 46])

theorem wordOk0 : wordOk true [48] = true := by decide
theorem front_ok {base : List UInt8} {fb : List UInt8 × List UInt8} (h : frontD base = some fb) : ∃ M m p C b, FrontOk fb M m p C b := by
  unfold frontD at h
  split at h
  · obtain rfl := Option.some.inj h
    exact ⟨[48], [48], [48], [], [], rfl, rfl, Or.inl rfl, num48, num48, num48, Or.inl rfl, by simp, fun s hs hk => by
      unfold wordsB; rw [List.nil_append, splitD_one 46 s hs]; simp [hk], Or.inl ⟨rfl, rfl, rfl, rfl⟩⟩
  · split at h
    · cases h
    · rename_i v hv
      obtain ⟨g1, g2, g3, g4, g5, g6⟩ := pparse_good hv
      split at h
      · obtain rfl := Option.some.inj h
        obtain ⟨k1, k2⟩ := moreD_num g3
        exact ⟨v.maj, v.mnr, moreD v.pat, [48, 46], v.bld, rfl, rfl, Or.inr ⟨[48], rfl⟩, g1, g2, k1, g6, by decide, fun s hs hk => by
          unfold wordsB
          rw [show ([48, 46] : List UInt8) ++ s = [48] ++ 46 :: s from rfl, splitD_mid, splitD_one 46 s hs, splitD_one 46 [48] (by decide)]
          simp [hk, wordOk0], Or.inr (Or.inl ⟨rfl, k2⟩)⟩
      · rename_i hp
        obtain rfl := Option.some.inj h
        have hw : wordsB true v.pre = true := by rcases g4 with h1 | h1; exact absurd h1 hp; exact h1
        exact ⟨v.maj, v.mnr, v.pat, v.pre ++ [46, 48, 46], v.bld, rfl, rfl, Or.inr ⟨v.pre ++ [46, 48], by simp⟩, g1, g2, g3, g6, by simp [g5], fun s hs hk => by
          unfold wordsB at hw ⊢
          rw [show v.pre ++ [46, 48, 46] ++ s = v.pre ++ 46 :: ([48] ++ 46 :: s) by simp, splitD_mid, splitD_mid, splitD_one 46 s hs, splitD_one 46 [48] (by decide)]
          simp [hk, wordOk0, hw], Or.inr (Or.inr ⟨v.pre, hp, rfl⟩)⟩

theorem made_eq {fb : List UInt8 × List UInt8} {M m p C b : List UInt8} (h : FrontOk fb M m p C b) (t : Int) (id : List UInt8) :
    madeL fb t id = 118 :: (M ++ 46 :: (m ++ 46 :: (p ++ 45 :: (C ++ segD t id ++ plusD b)))) := by
  unfold madeL; rw [h.eq1, h.eq2]; simp
theorem made_len {fb : List UInt8 × List UInt8} {M m p C b : List UInt8} (h : FrontOk fb M m p C b) {t : Int} {id : List UInt8} (hl : (madeL fb t id).length ≤ 100) :
    M.length ≤ 100 ∧ m.length ≤ 100 ∧ p.length ≤ 100 ∧ (C ++ segD t id).length ≤ 100 ∧ b.length ≤ 100 := by
  rw [made_eq h] at hl
  have : b.length ≤ (plusD b).length := by unfold plusD; split <;> simp_all
  simp at hl ⊢
  omega
theorem made_parse {fb : List UInt8 × List UInt8} {M m p C b id : List UInt8} {t : Int} (h : FrontOk fb M m p C b) (h1 : -62135596800 ≤ t) (h2 : t ≤ 253402300799) (hid : revB id = true) (hl : (madeL fb t id).length ≤ 100) :
    pparse (madeL fb t id) = some ⟨M, m, p, C ++ segD t id, b, 0⟩ := by
  obtain ⟨s1, s2, s3, s4, s5, s6⟩ := seg_is h1 h2 hid
  rw [made_eq h] at hl ⊢
  exact pparse_full h.maj h.mnr h.pat (h.words _ s2 s4) (by intro hm; rcases List.mem_append.1 hm with e | e; exact h.free e; exact s3 e) h.bld hl

theorem cmp_tail : ∀ (a b s : List UInt8), a.length = b.length → Op.bytesLess a b = true → Lib.compareBytes (a ++ s) (b ++ s) = -1
  | [], [], s, _, h => by cases h
  | [], _ :: _, s, h, _ => by simp at h
  | _ :: _, [], s, h, _ => by simp at h
  | x :: a, y :: b, s, hl, h => by
    rw [Op.bytesLess] at h
    rw [List.cons_append, List.cons_append, Lib.compareBytes]
    by_cases h1 : x < y
    · simp [h1]
    · by_cases h2 : y < x
      · simp [h1, h2] at h
        have e : x = y := h.1
        subst e
        exact absurd h2 h1
      · simp [h1, h2] at h ⊢
        exact cmp_tail a b s (by simpa using hl) h.2

/- The bytes of such a text. -/
def verC (c : UInt8) : Bool := okc c || decide (c.toNat = 43) || decide (c.toNat = 46)
theorem okc_verC {c : UInt8} (h : okc c = true) : verC c = true := by unfold verC; rw [h]; rfl
theorem words_verC {pre : Bool} : ∀ {l : List UInt8}, wordsB pre l = true → ∀ c ∈ l, verC c = true := by
  intro l h c hc
  have key : ∀ (l : List UInt8), c ∈ l → c = 46 ∨ ∃ w ∈ splitD 46 l, c ∈ w := by
    intro l
    induction l with
    | nil => intro h; simp at h
    | cons x r ih =>
      intro hm
      by_cases hx : x = 46
      · subst hx
        rw [splitD_cons_eq]
        rcases List.mem_cons.1 hm with e | e
        · exact Or.inl e
        · rcases ih e with e | ⟨w, hw, hcw⟩
          · exact Or.inl e
          · exact Or.inr ⟨w, List.mem_cons_of_mem _ hw, hcw⟩
      · obtain ⟨w, ws, e1, e2⟩ := splitD_cons_ne 46 x r hx
        rw [e2]
        rcases List.mem_cons.1 hm with e | e
        · exact Or.inr ⟨x :: w, by simp, by simp [e]⟩
        · rcases ih e with e | ⟨u, hu, hcu⟩
          · exact Or.inl e
          · rw [e1] at hu
            rcases List.mem_cons.1 hu with rfl | hu
            · exact Or.inr ⟨x :: u, by simp, List.mem_cons_of_mem _ hcu⟩
            · exact Or.inr ⟨u, List.mem_cons_of_mem _ hu, hcu⟩
  rcases key l hc with rfl | ⟨w, hw, hcw⟩
  · decide
  · unfold wordsB at h
    rw [List.all_eq_true] at h
    have h9 := h w hw
    unfold wordOk at h9
    simp only [Bool.and_eq_true] at h9
    have h8 := h9.2
    rw [List.all_eq_true] at h8
    exact okc_verC (h8 c hcw)
theorem num_verC {l : List UInt8} (h : numberB l = true) : ∀ c ∈ l, verC c = true := fun c hc => okc_verC (dig_okc (((digitsB_iff l).1 (numberB_dig h)).2 c hc))
theorem made_verC {fb : List UInt8 × List UInt8} {M m p C b id : List UInt8} {t : Int} (h : FrontOk fb M m p C b) (h1 : -62135596800 ≤ t) (h2 : t ≤ 253402300799) (hid : revB id = true) : ∀ c ∈ madeL fb t id, verC c = true := by
  obtain ⟨s1, s2, s3, s4, s5, s6⟩ := seg_is h1 h2 hid
  rw [made_eq h]
  have hb : ∀ c ∈ plusD b, verC c = true := by
    intro c hc
    unfold plusD at hc
    split at hc
    · simp at hc
    · rename_i hne
      rcases List.mem_cons.1 hc with rfl | hc
      · decide
      · rcases h.bld with e | e
        · exact absurd e hne
        · exact words_verC e c hc
  intro c hc
  simp only [List.mem_cons, List.mem_append] at hc
  rcases hc with rfl | hc | rfl | hc | rfl | hc | rfl | (hc | hc) | hc
  · decide
  · exact num_verC h.maj c hc
  · decide
  · exact num_verC h.mnr c hc
  · decide
  · exact num_verC h.pat c hc
  · decide
  · exact words_verC (h.words _ s2 s4) c (List.mem_append_left _ hc)
  · exact words_verC (h.words _ s2 s4) c (List.mem_append_right _ hc)
  · exact hb c hc
end Go.Proofs.YtgojmckfabhkaaaDoor.Sem
