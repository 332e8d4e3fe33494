/- PLAIN LAWS: a version that ends in the stamp of a second; how two such versions stand. No program in sight. No conditions. -/
import Derived.Test.YtgojmckfabhkaaaDoorSemPlain
import Derived.Test.YtgojmckfabhkaaaDoorSemJ
import Derived.Test.YtgojmckfabhkaaaDoorCalBack
import Derived.Test.YtgojmckfabhkaaaDoorCalOrder
namespace Go.Proofs.YtgojmckfabhkaaaDoor.Sem
open Go
set_option linter.unusedVariables false

theorem cmp_pre : ∀ (T a b : List UInt8), Lib.compareBytes (T ++ a) (T ++ b) = Lib.compareBytes a b
  | [], a, b => rfl
  | x :: T, a, b => by
    rw [List.cons_append, List.cons_append, Lib.compareBytes, if_neg (by simp), if_neg (by simp)]
    exact cmp_pre T a b
theorem cmp_less : ∀ (a b : List UInt8), a.length = b.length → Lib.compareBytes a b = if Op.bytesLess a b = true then -1 else if a = b then 0 else 1
  | [], [], _ => rfl
  | [], _ :: _, h => by simp at h
  | _ :: _, [], h => by simp at h
  | x :: a, y :: b, h => by
    have ih := cmp_less a b (by simpa using h)
    rw [Lib.compareBytes, Op.bytesLess]
    by_cases h1 : x < y
    · simp [h1]
    · by_cases h2 : y < x
      · have h3 : ¬ x = y := fun e => by subst e; exact h1 h2
        simp [h1, h2, h3]
      · have h3 : x = y := UInt8.toNat_inj.1 (by
          have e1 : ¬ x.toNat < y.toNat := fun h => h1 (UInt8.lt_iff_toNat_lt.2 h)
          have e2 : ¬ y.toNat < x.toNat := fun h => h2 (UInt8.lt_iff_toNat_lt.2 h)
          omega)
        subst h3
        rw [if_neg h1, if_neg h1, ih]
        simp [h1]

/-- How two seconds stand. -/
def wantI (t u : Int) : Int := if t < u then -1 else if t = u then 0 else 1
theorem cmp_stamp (t u : Int) (h1 : 0 ≤ t) (h2 : t ≤ 253402300799) (k1 : 0 ≤ u) (k2 : u ≤ 253402300799) : Lib.compareBytes (stampOf t) (stampOf u) = wantI t u := by
  have a := stampOf_is t (by omega) h2
  have b := stampOf_is u (by omega) k2
  rw [cmp_less _ _ (by rw [a.2.1, b.2.1]), stamp_less t u (by omega) h2 (by omega) k2]
  unfold wantI
  by_cases c1 : t < u
  · simp [c1]
  · by_cases c2 : t = u
    · subst c2; simp
    · have : ¬ stampOf t = stampOf u := fun e => c2 ((stamp_eq t u (by omega) h2 (by omega) k2).1 e)
      simp [c1, c2, this]

theorem isD_dig {l : List UInt8} (h : isD l) : ∀ x ∈ l, isDig x = true := fun x hx => (dig_iff x).2 (h x hx)
theorem dig_okc {x : UInt8} (h : isDig x = true) : okc x = true := by unfold okc; rw [h]; rfl
/-- A stamp of a second from 1970 on begins with no nought. -/
theorem stamp_head (t : Int) (h1 : 0 ≤ t) (h2 : t ≤ 253402300799) : (stampOf t).head? ≠ some 48 := by
  have hx := stampOf_is t (by omega) h2
  have hm : numv (stampOf 0) ≤ numv (stampOf t) := by
    by_cases h : t = 0
    · rw [h]; exact Nat.le_refl _
    · exact Nat.le_of_lt (stamp_mono 0 t (by omega) (by omega) (by omega) h2 (by omega))
  have h0 : numv (stampOf 0) ≥ 10000000000000 := by
    rw [(stampOf_is 0 (by omega) (by omega)).2.2]
    have hd : dayOf 0 = 719162 := by decide
    rw [hd]
    have hy : dY 719162 = 1970 := by decide +kernel
    rw [hy]
    have e : (1970 : Int).toNat = 1970 := rfl
    rw [e]
    omega
  intro hc
  obtain ⟨q, hq⟩ : ∃ q, stampOf t = 48 :: q := by
    cases hs : stampOf t with
    | nil => rw [hs] at hc; cases hc
    | cons x q => rw [hs] at hc; exact ⟨q, by rw [show x = 48 from Option.some.inj hc]⟩
  rw [hq] at hx hm
  have hl : q.length = 13 := by have := hx.2.1; simp at this; exact this
  have hlt := numv_lt q (fun c hc => hx.1 c (List.mem_cons_of_mem _ hc))
  rw [hl] at hlt
  have : numv (48 :: q) = numv q := by show (48 - 48) * 10 ^ q.length + numv q = numv q; simp
  omega

/-- What two versions that end in stamps say. -/
theorem times_law (front : List UInt8) (t u : Int) (v : Ver) (h1 : 0 ≤ t) (h2 : t ≤ 253402300799) (k1 : 0 ≤ u) (k2 : u ≤ 253402300799) (hf : front.length ≤ 40)
    (h : rparse (front ++ 45 :: stampOf t) = some v) (hb : v.bld = []) :
    ∃ M m p C x y, pparse (front ++ 45 :: stampOf t) = some ⟨M, m, p, C ++ x, [], 0⟩ ∧ pparse (front ++ 45 :: stampOf u) = some ⟨M, m, p, C ++ y, [], 0⟩ ∧ M.length ≤ 100 ∧ m.length ≤ 100 ∧ p.length ≤ 100 ∧ (C ++ x).length ≤ 100 ∧ (C ++ y).length ≤ 100 ∧
      Ends C ∧ 46 ∉ x ∧ 46 ∉ y ∧ x ≠ [] ∧ y ≠ [] ∧ x.length = y.length ∧ digitsB x = digitsB y ∧ (x = y ↔ t = u) ∧ Lib.compareBytes x y = wantI t u ∧ Lib.compareBytes y x = wantI u t ∧ ∃ A, C ++ x = A ++ stampOf t := by
  obtain ⟨a1, a2, -⟩ := stampOf_is t (by omega) h2
  obtain ⟨b1, b2, -⟩ := stampOf_is u (by omega) k2
  have ad := isD_dig a1
  have bd := isD_dig b1
  have ane : stampOf t ≠ [] := fun e => by rw [e] at a2; cases a2
  have bne : stampOf u ≠ [] := fun e => by rw [e] at b2; cases b2
  have an : ∀ c, isDig c = false → c ∉ stampOf t := fun c hc hm => by rw [ad c hm] at hc; cases hc
  have bn : ∀ c, isDig c = false → c ∉ stampOf u := fun c hc hm => by rw [bd c hm] at hc; cases hc
  obtain ⟨M, m, p, P, e, hM, hm, hp, hP, h43, -, hcase⟩ := rparse_front ad h hb
  have hlen : (verT M m p P).length = front.length + 15 := by rw [← e]; simp [a2]
  have hsz : M.length ≤ 100 ∧ m.length ≤ 100 ∧ p.length ≤ 100 ∧ P.length ≤ 100 := by
    unfold verT at hlen
    simp at hlen
    omega
  have hpx : pparse (front ++ 45 :: stampOf t) = some ⟨M, m, p, P, [], 0⟩ := by rw [e]; exact pparse_verT hM hm hp hP h43 (by omega)
  have cx := cmp_stamp t u h1 h2 k1 k2
  have cy := cmp_stamp u t k1 k2 h1 h2
  have eq := stamp_eq t u (by omega) h2 (by omega) k2
  have oka : wordOk true (stampOf u) = true := (wordOk_t (stampOf u) bne (fun _ _ => stamp_head u k1 k2)).1 (by rw [List.all_eq_true]; exact fun x hx => dig_okc (bd x hx))
  have dga : digitsB (stampOf t) = true := (digitsB_iff _).2 ⟨ane, ad⟩
  have dgb : digitsB (stampOf u) = true := (digitsB_iff _).2 ⟨bne, bd⟩
  rcases hcase with ⟨rfl, hfr⟩ | ⟨R, rfl, hfr⟩
  · have hy : front ++ 45 :: stampOf u = verT M m p (stampOf u) := by rw [hfr]; unfold verT; simp
    have hP' : wordsB true (stampOf u) = true := (wordsB_last (C := []) (Or.inl rfl) (an 46 dig46) (bn 46 dig46) hP oka).1
    refine ⟨M, m, p, [], stampOf t, stampOf u, hpx, ?_, hsz.1, hsz.2.1, hsz.2.2.1, hsz.2.2.2, by simp [b2], Or.inl rfl, an 46 dig46, bn 46 dig46, ane, bne, by rw [a2, b2], by rw [dga, dgb], eq, cx, cy, [], rfl⟩
    rw [hy]
    refine pparse_verT hM hm hp hP' (bn 43 dig43) ?_
    rw [← hy]; simp [b2]; omega
  · obtain ⟨C, T, rfl, hT, hC⟩ := last_word R
    have hx46 : 46 ∉ T ++ 45 :: stampOf t := by simp [hT, an 46 dig46]
    have hy46 : 46 ∉ T ++ 45 :: stampOf u := by simp [hT, bn 46 dig46]
    have e1 : C ++ T ++ 45 :: stampOf t = C ++ (T ++ 45 :: stampOf t) := by simp
    have e2 : C ++ T ++ 45 :: stampOf u = C ++ (T ++ 45 :: stampOf u) := by simp
    rw [e1] at hP hpx hlen h43 hsz
    -- the old last word is right: so is the new one
    have hux : wordOk true (T ++ 45 :: stampOf t) = true := by
      obtain ⟨ws, hw⟩ := splitD_last hC hx46
      unfold wordsB at hP
      rw [hw _ hx46, List.all_append] at hP
      simp only [List.all_cons, List.all_nil, Bool.and_true, Bool.and_eq_true] at hP
      exact hP.2
    have hokT : ∀ x ∈ T, okc x = true := by
      unfold wordOk at hux
      simp only [Bool.and_eq_true] at hux
      have h9 := hux.2
      rw [List.all_eq_true] at h9
      exact fun x hx => h9 x (by simp [hx])
    have nd : ∀ s : List UInt8, digitsB (T ++ 45 :: s) = false := fun s => by
      cases hd : digitsB (T ++ 45 :: s) with
      | false => rfl
      | true => exact absurd (by simp) (digitsB_no hd 45 dig45)
    have huy : wordOk true (T ++ 45 :: stampOf u) = true := (wordOk_t _ (by simp) (fun hd => by rw [nd] at hd; cases hd)).1 (by
      rw [List.all_eq_true]
      intro x hx
      rcases List.mem_append.1 hx with h | h
      · exact hokT x h
      · rcases List.mem_cons.1 h with h | h
        · rw [h]; decide
        · exact dig_okc (bd x h))
    have hP' : wordsB true (C ++ (T ++ 45 :: stampOf u)) = true := (wordsB_last hC hx46 hy46 hP huy).1
    have hy : front ++ 45 :: stampOf u = verT M m p (C ++ (T ++ 45 :: stampOf u)) := by rw [hfr]; unfold verT; simp
    have h43' : 43 ∉ C ++ (T ++ 45 :: stampOf u) := by
      simp at h43 ⊢
      exact ⟨h43.1, h43.2.1, bn 43 dig43⟩
    have hcl : (C ++ (T ++ 45 :: stampOf u)).length ≤ 100 := by have := hsz.2.2.2; simp [a2] at this; simp [b2]; omega
    refine ⟨M, m, p, C, T ++ 45 :: stampOf t, T ++ 45 :: stampOf u, hpx, ?_, hsz.1, hsz.2.1, hsz.2.2.1, hsz.2.2.2, hcl, hC, hx46, hy46, by simp, by simp, by simp [a2, b2], by rw [nd, nd], ?_, ?_, ?_, C ++ (T ++ [45]), by simp⟩
    · rw [hy]
      refine pparse_verT hM hm hp hP' h43' ?_
      rw [← hy]; simp [b2]; omega
    · constructor
      · intro e3
        exact eq.1 (List.cons.inj (List.append_cancel_left e3)).2
      · intro e3; rw [e3]
    · rw [cmp_pre]; show Lib.compareBytes ([45] ++ stampOf t) ([45] ++ stampOf u) = _; rw [cmp_pre]; exact cx
    · rw [cmp_pre]; show Lib.compareBytes ([45] ++ stampOf u) ([45] ++ stampOf t) = _; rw [cmp_pre]; exact cy
end Go.Proofs.YtgojmckfabhkaaaDoor.Sem
