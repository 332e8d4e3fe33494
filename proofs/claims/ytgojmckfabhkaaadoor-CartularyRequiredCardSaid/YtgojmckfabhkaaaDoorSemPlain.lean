/- THE PLAIN LAW OF VERSIONS, on: what a version says, taken as the program takes it (pparse) and as the document does (rparse); a version whose last word ends in fourteen digits. No program in sight. No conditions. -/
import Derived.Test.YtgojmckfabhkaaaDoorSemMath
namespace Go.Proofs.YtgojmckfabhkaaaDoor.Sem
open Go
set_option linter.unusedVariables false

/-- What a version says. -/
structure Ver where
  maj : List UInt8
  mnr : List UInt8
  pat : List UInt8
  pre : List UInt8
  bld : List UInt8
  short : Nat

def takeNum (l : List UInt8) : Option (List UInt8 × List UInt8) := if numGood l = true then some (l.take (numN l), l.drop (numN l)) else none
/-- Behind the third number. -/
def tailP (M m p r : List UInt8) : Option Ver :=
  if 43 ∈ r ∧ wordsB false (cutZ 43 r) = false then none else
  match cutA 43 r with
  | [] => some ⟨M, m, p, [], cutZ 43 r, 0⟩
  | c :: q => if c = 45 ∧ wordsB true q = true then some ⟨M, m, p, q, cutZ 43 r, 0⟩ else none
def pparse3 (M m r2 : List UInt8) : Option Ver :=
  match r2 with
  | [] => some ⟨M, m, [48], [], [], 1⟩
  | c2 :: q2 => if c2 = 46 then
      match takeNum q2 with
      | none => none
      | some (p, r3) => tailP M m p r3
    else none
def pparse2 (M r1 : List UInt8) : Option Ver :=
  match r1 with
  | [] => some ⟨M, [48], [48], [], [], 2⟩
  | c1 :: q1 => if c1 = 46 then
      match takeNum q1 with
      | none => none
      | some (m, r2) => pparse3 M m r2
    else none
/-- The parts of a version, as the program takes them. -/
def pparse (l : List UInt8) : Option Ver :=
  match l with
  | [] => none
  | v :: r => if v = 118 ∧ l.length ≤ 100 then
      match takeNum r with
      | none => none
      | some (M, r1) => pparse2 M r1
    else none
/-- The parts of a version, as the document does. -/
def rparse (l : List UInt8) : Option Ver :=
  if l.length < 2 ∨ 100 < l.length ∨ l.head? ≠ some 118 then none else
  if 43 ∈ l.tail ∧ wordsB false (cutZ 43 l.tail) = false then none else
  if 45 ∈ cutA 43 l.tail ∧ wordsB true (cutZ 45 (cutA 43 l.tail)) = false then none else
  if 3 < (splitD 46 (cutA 45 (cutA 43 l.tail))).length ∨ ((43 ∈ l.tail ∨ 45 ∈ cutA 43 l.tail) ∧ (splitD 46 (cutA 45 (cutA 43 l.tail))).length < 3) then none else
  if (splitD 46 (cutA 45 (cutA 43 l.tail))).all numberB = false then none else
  some ⟨((splitD 46 (cutA 45 (cutA 43 l.tail))) ++ [[48], [48]]).getD 0 [], ((splitD 46 (cutA 45 (cutA 43 l.tail))) ++ [[48], [48]]).getD 1 [], ((splitD 46 (cutA 45 (cutA 43 l.tail))) ++ [[48], [48]]).getD 2 [],
    cutZ 45 (cutA 43 l.tail), cutZ 43 l.tail, 3 - (splitD 46 (cutA 45 (cutA 43 l.tail))).length⟩

theorem digitsB_iff (l : List UInt8) : digitsB l = true ↔ l ≠ [] ∧ ∀ x ∈ l, isDig x = true := by
  unfold digitsB; cases l <;> simp
theorem digitsB_no {l : List UInt8} (h : digitsB l = true) (c : UInt8) (hc : isDig c = false) : c ∉ l := fun hm => by
  rw [((digitsB_iff l).1 h).2 c hm] at hc; cases hc
theorem numberB_dig {l : List UInt8} (h : numberB l = true) : digitsB l = true := by unfold numberB at h; simp at h; exact h.1
theorem dig43 : isDig 43 = false := by decide
theorem dig45 : isDig 45 = false := by decide
theorem dig46 : isDig 46 = false := by decide
theorem numN_take (l : List UInt8) : l.take (numN l) = l.takeWhile isDig := (List.prefix_iff_eq_take.1 (List.takeWhile_prefix isDig)).symm
theorem takeWhile_all : ∀ (l : List UInt8), ∀ x ∈ l.takeWhile isDig, isDig x = true
  | [], x, h => by simp at h
  | y :: l, x, h => by
    cases hy : isDig y with
    | false => rw [List.takeWhile_cons_of_neg (by simp [hy])] at h; cases h
    | true =>
      rw [List.takeWhile_cons_of_pos hy] at h
      rcases List.mem_cons.1 h with rfl | h
      · exact hy
      · exact takeWhile_all l x h
theorem takeNum_some {l M r : List UInt8} (h : takeNum l = some (M, r)) : l = M ++ r ∧ numberB M = true := by
  unfold takeNum at h
  split at h
  case isFalse => cases h
  case isTrue hg =>
    simp only [Option.some.injEq, Prod.mk.injEq] at h
    obtain ⟨rfl, rfl⟩ := h
    refine ⟨(List.take_append_drop _ _).symm, ?_⟩
    have hl : (l.take (numN l)).length = numN l := by rw [List.length_take]; have := numN_le l; omega
    unfold numGood at hg
    simp only [Bool.not_eq_true', Bool.or_eq_false_iff, decide_eq_false_iff_not, Bool.and_eq_false_iff] at hg
    obtain ⟨h0, h1⟩ := hg
    unfold numberB
    rw [Bool.and_eq_true]
    refine ⟨(digitsB_iff _).2 ⟨fun e => by rw [e] at hl; simp at hl; omega, fun x hx => ?_⟩, ?_⟩
    · rw [numN_take] at hx; exact takeWhile_all l x hx
    · rw [Bool.or_eq_true, decide_eq_true_iff, decide_eq_true_iff, hl]
      rcases h1 with h1 | h1
      · left; omega
      · right
        intro e
        apply h1
        cases l with
        | nil => simp at e
        | cons x l =>
          cases hn : numN (x :: l) with
          | zero => exact absurd hn h0
          | succ n => rw [hn] at e; simpa using e
theorem numN_app {M r : List UInt8} (h : ∀ x ∈ M, isDig x = true) (hr : ∀ c q, r = c :: q → isDig c = false) : numN (M ++ r) = M.length := by
  refine numN_of _ _ (by simp) (fun j hj hM => ?_) (fun hM => ?_)
  · rw [List.getElem_append_left hM]; exact h _ (List.getElem_mem _)
  · cases r with
    | nil => simp at hM
    | cons c q => rw [List.getElem_append_right (by omega)]; simp; exact hr c q rfl
theorem takeNum_app {M r : List UInt8} (h : numberB M = true) (hr : ∀ c q, r = c :: q → isDig c = false) : takeNum (M ++ r) = some (M, r) := by
  have hd := (digitsB_iff M).1 (numberB_dig h)
  have hn := numN_app hd.2 hr
  unfold takeNum numGood
  rw [hn]
  have hpos : 0 < M.length := List.length_pos_iff.2 hd.1
  have hx : ¬ (1 < M.length ∧ (M ++ r).head? = some 48) := fun ⟨h1, h2⟩ => by
    unfold numberB at h
    simp only [Bool.and_eq_true, Bool.or_eq_true, decide_eq_true_eq] at h
    rcases h.2 with h3 | h3
    · omega
    · apply h3
      cases M with
      | nil => simp at hpos
      | cons x M => simpa using h2
  rw [if_pos]
  · simp
  · simp only [Bool.not_eq_true', Bool.or_eq_false_iff, decide_eq_false_iff_not, Bool.and_eq_false_iff]
    refine ⟨by omega, ?_⟩
    by_cases h1 : 1 < M.length
    · exact Or.inr fun h2 => hx ⟨h1, h2⟩
    · exact Or.inl h1

theorem cutA_pre (c : UInt8) : ∀ (D r : List UInt8), c ∉ D → cutA c (D ++ r) = D ++ cutA c r ∧ cutZ c (D ++ r) = cutZ c r ∧ (c ∈ D ++ r ↔ c ∈ r)
  | [], r, _ => ⟨rfl, rfl, Iff.rfl⟩
  | x :: D, r, h => by
    have hx : x ≠ c := fun e => h (by rw [e]; simp)
    obtain ⟨e1, e2, e3⟩ := cutA_pre c D r (fun hm => h (List.mem_cons_of_mem _ hm))
    refine ⟨?_, ?_, ?_⟩
    · rw [List.cons_append, cutA, if_neg hx, e1]; rfl
    · rw [List.cons_append, cutZ, if_neg hx, e2]
    · rw [List.cons_append, List.mem_cons, e3]
      exact ⟨fun hm => hm.elim (fun e => absurd e.symm hx) id, Or.inr⟩
theorem splitD_mid (c : UInt8) : ∀ (A B : List UInt8), splitD c (A ++ c :: B) = splitD c A ++ splitD c B
  | [], B => by rw [List.nil_append, splitD_cons_eq]; rfl
  | x :: A, B => by
    have ih := splitD_mid c A B
    by_cases hx : x = c
    · subst hx; rw [List.cons_append, splitD_cons_eq, splitD_cons_eq, ih]; rfl
    · obtain ⟨w, ws, e1, e2⟩ := splitD_cons_ne c x A hx
      obtain ⟨w', ws', e3, e4⟩ := splitD_cons_ne c x (A ++ c :: B) hx
      rw [ih, e1] at e3
      obtain ⟨rfl, rfl⟩ := List.cons.inj e3
      rw [List.cons_append, e4, e2]
      rfl
theorem splitD_head {c : UInt8} {l w : List UInt8} {ws : List (List UInt8)} (h : splitD c l = w :: ws) : (ws = [] ∧ l = w ∧ c ∉ l) ∨ ∃ r, l = w ++ c :: r ∧ c ∉ w ∧ splitD c r = ws := by
  by_cases hm : c ∈ l
  · obtain ⟨a, b, rfl, hn⟩ := mem_cut c l hm
    rw [splitD_cut c a b hn] at h
    obtain ⟨rfl, rfl⟩ := List.cons.inj h
    exact Or.inr ⟨b, rfl, hn, rfl⟩
  · rw [splitD_one c l hm] at h
    obtain ⟨rfl, rfl⟩ := List.cons.inj h
    exact Or.inl ⟨rfl, rfl, hm⟩
theorem split3 {l a b c : List UInt8} (h : splitD 46 l = [a, b, c]) : l = a ++ 46 :: (b ++ 46 :: c) := by
  rcases splitD_head h with ⟨h1, _⟩ | ⟨r, rfl, _, h1⟩
  · cases h1
  · rcases splitD_head h1 with ⟨h2, _⟩ | ⟨r2, rfl, _, h2⟩
    · cases h2
    · rcases splitD_head h2 with ⟨_, rfl, _⟩ | ⟨r3, _, _, h3⟩
      · rfl
      · exact absurd h3 (splitD_ne 46 r3)
theorem wordsB_nil (b : Bool) : wordsB b [] = false := by cases b <;> decide
/-- The words, the last of which is u. -/
def Ends (C : List UInt8) : Prop := C = [] ∨ ∃ C0, C = C0 ++ [46]
theorem splitD_last {C u : List UInt8} (hC : Ends C) (hu : 46 ∉ u) : ∃ ws, (∀ v : List UInt8, 46 ∉ v → splitD 46 (C ++ v) = ws ++ [v]) := by
  rcases hC with rfl | ⟨C0, rfl⟩
  · exact ⟨[], fun v hv => by rw [List.nil_append, splitD_one 46 v hv]; rfl⟩
  · exact ⟨splitD 46 C0, fun v hv => by rw [List.append_assoc, List.singleton_append, splitD_mid, splitD_one 46 v hv]⟩
theorem wordsB_last {C u v : List UInt8} {pre : Bool} (hC : Ends C) (hu : 46 ∉ u) (hv : 46 ∉ v) (h : wordsB pre (C ++ u) = true) (hk : wordOk pre v = true) : wordsB pre (C ++ v) = true ∧ wordOk pre u = true := by
  obtain ⟨ws, hw⟩ := splitD_last hC hu
  unfold wordsB at h ⊢
  rw [hw u hu] at h
  rw [hw v hv]
  simp only [List.all_append, List.all_cons, List.all_nil, Bool.and_true, Bool.and_eq_true] at h ⊢
  exact ⟨⟨h.1, hk⟩, h.2⟩
theorem last_word : ∀ (P : List UInt8), ∃ C u, P = C ++ u ∧ 46 ∉ u ∧ Ends C
  | [] => ⟨[], [], rfl, by simp, Or.inl rfl⟩
  | x :: P => by
    obtain ⟨C, u, rfl, hu, hC⟩ := last_word P
    rcases hC with rfl | ⟨C0, rfl⟩
    · by_cases hx : x = 46
      · subst hx; exact ⟨[46], u, rfl, hu, Or.inr ⟨[], rfl⟩⟩
      · exact ⟨[], x :: u, rfl, fun hm => by rcases List.mem_cons.1 hm with e | e; exact hx e.symm; exact hu e, Or.inl rfl⟩
    · exact ⟨x :: (C0 ++ [46]), u, rfl, hu, Or.inr ⟨x :: C0, rfl⟩⟩

/-- The text of a version without a build: three numbers and a prerelease. -/
def verT (M m p P : List UInt8) : List UInt8 := 118 :: (M ++ 46 :: (m ++ 46 :: (p ++ 45 :: P)))
theorem nhead {c : UInt8} (hc : isDig c = false) (q0 : List UInt8) : ∀ d q, c :: q0 = d :: q → isDig d = false := fun d q e => by
  obtain ⟨rfl, _⟩ := List.cons.inj e; exact hc
theorem tailP_pre {M m p P : List UInt8} (h : wordsB true P = true) (h43 : 43 ∉ P) : tailP M m p (45 :: P) = some ⟨M, m, p, P, [], 0⟩ := by
  have hn : (43 : UInt8) ∉ 45 :: P := by simp [h43]
  unfold tailP
  rw [if_neg (fun hc => hn hc.1), (cutA_no 43 _ hn).1, (cutA_no 43 _ hn).2]
  simp [h]
theorem pparse_verT {M m p P : List UInt8} (hM : numberB M = true) (hm : numberB m = true) (hp : numberB p = true) (hP : wordsB true P = true) (h43 : 43 ∉ P) (hl : (verT M m p P).length ≤ 100) : pparse (verT M m p P) = some ⟨M, m, p, P, [], 0⟩ := by
  unfold verT at hl ⊢
  unfold pparse
  simp only
  rw [if_pos ⟨trivial, hl⟩, takeNum_app hM (nhead dig46 _)]
  simp only [pparse2, if_true]
  rw [takeNum_app hm (nhead dig46 _)]
  simp only [pparse3, if_true]
  rw [takeNum_app hp (nhead dig45 _)]
  exact tailP_pre hP h43

/-- What the program takes for a version, the document does. -/
theorem rparse_ne {l : List UInt8} {v : Ver} (h : pparse l = some v) : rparse l ≠ none := by
  unfold pparse at h
  split at h
  · cases h
  rename_i x r
  split at h
  case isFalse => cases h
  case isTrue hl =>
  obtain ⟨rfl, hl⟩ := hl
  split at h
  · cases h
  rename_i M r1 e1
  obtain ⟨rfl, hM⟩ := takeNum_some e1
  clear e1
  have dM := numberB_dig hM
  have neM := ((digitsB_iff M).1 dM).1
  have lM := List.length_pos_iff.2 neM
  unfold pparse2 at h
  split at h
  · -- one number
    have a1 := digitsB_no dM 43 dig43
    have a2 := digitsB_no dM 45 dig45
    have a3 := digitsB_no dM 46 dig46
    unfold rparse
    rw [List.append_nil] at hl ⊢
    rw [if_neg (by simp at hl ⊢; omega)]
    rw [List.tail_cons, if_neg (fun hc => a1 hc.1), (cutA_no 43 M a1).1, if_neg (fun hc => a2 hc.1), (cutA_no 45 M a2).1, splitD_one 46 M a3, if_neg (by simp [a1, a2])]
    simp [hM]
  rename_i c1 q1
  split at h
  case isFalse => cases h
  case isTrue hc1 =>
  subst hc1
  split at h
  · cases h
  rename_i m r2 e2
  obtain ⟨rfl, hm⟩ := takeNum_some e2
  clear e2
  have dm := numberB_dig hm
  unfold pparse3 at h
  split at h
  · -- two numbers
    have a1 : (43 : UInt8) ∉ M ++ 46 :: m := by simp [digitsB_no dM 43 dig43, digitsB_no dm 43 dig43]
    have a2 : (45 : UInt8) ∉ M ++ 46 :: m := by simp [digitsB_no dM 45 dig45, digitsB_no dm 45 dig45]
    have a3 := digitsB_no dM 46 dig46
    have a4 := digitsB_no dm 46 dig46
    unfold rparse
    rw [List.append_nil] at hl ⊢
    rw [if_neg (by simp at hl ⊢; omega)]
    rw [List.tail_cons, if_neg (fun hc => a1 hc.1), (cutA_no 43 _ a1).1, if_neg (fun hc => a2 hc.1), (cutA_no 45 _ a2).1, splitD_cut 46 M m a3, splitD_one 46 m a4, if_neg (by simp [a1, a2])]
    simp [hM, hm]
  rename_i c2 q2
  split at h
  case isFalse => cases h
  case isTrue hc2 =>
  subst hc2
  split at h
  · cases h
  rename_i p r3 e3
  obtain ⟨rfl, hp⟩ := takeNum_some e3
  clear e3
  have dp := numberB_dig hp
  obtain ⟨D, hD⟩ : ∃ D, D = M ++ 46 :: (m ++ 46 :: p) := ⟨_, rfl⟩
  have eD : M ++ 46 :: (m ++ 46 :: (p ++ r3)) = D ++ r3 := by rw [hD]; simp
  have a1 : (43 : UInt8) ∉ D := by rw [hD]; simp [digitsB_no dM 43 dig43, digitsB_no dm 43 dig43, digitsB_no dp 43 dig43]
  have a2 : (45 : UInt8) ∉ D := by rw [hD]; simp [digitsB_no dM 45 dig45, digitsB_no dm 45 dig45, digitsB_no dp 45 dig45]
  have a3 : splitD 46 D = [M, m, p] := by
    rw [hD, splitD_cut 46 M _ (digitsB_no dM 46 dig46), splitD_cut 46 m _ (digitsB_no dm 46 dig46), splitD_one 46 p (digitsB_no dp 46 dig46)]
  obtain ⟨b1, b2, b3⟩ := cutA_pre 43 D r3 a1
  unfold tailP at h
  split at h
  · cases h
  rename_i hw
  rw [eD] at hl ⊢
  unfold rparse
  rw [if_neg (by simp at hl ⊢; rw [hD] at hl ⊢; simp at hl ⊢; omega)]
  rw [List.tail_cons, b1, b2, if_neg (fun hc => hw ⟨b3.1 hc.1, hc.2⟩)]
  split at h
  · -- no prerelease
    rename_i hA
    rw [hA, List.append_nil, if_neg (fun hc => a2 hc.1), (cutA_no 45 D a2).1, a3, if_neg (by simp)]
    simp [hM, hm, hp]
  · rename_i c q hA
    split at h
    case isFalse => cases h
    case isTrue hc =>
    obtain ⟨rfl, hq⟩ := hc
    obtain ⟨c1, c2⟩ := cutA_at 45 D q a2
    rw [hA, c1, c2, if_neg (by simp [hq]), a3, if_neg (by simp)]
    simp [hM, hm, hp]

/-- A version that ends in a minus and digits, without a build: its parts. -/
theorem rparse_front {front a : List UInt8} {v : Ver} (ha : ∀ x ∈ a, isDig x = true) (h : rparse (front ++ 45 :: a) = some v) (hb : v.bld = []) :
    ∃ M m p P, front ++ 45 :: a = verT M m p P ∧ numberB M = true ∧ numberB m = true ∧ numberB p = true ∧ wordsB true P = true ∧ 43 ∉ P ∧ v.pre = P ∧
      ((P = a ∧ front = 118 :: (M ++ 46 :: (m ++ 46 :: p))) ∨ ∃ R, P = R ++ 45 :: a ∧ front = verT M m p R) := by
  unfold rparse at h
  split at h
  · cases h
  rename_i h1
  split at h
  · cases h
  rename_i h2
  split at h
  · cases h
  rename_i h3
  split at h
  · cases h
  rename_i h4
  split at h
  · cases h
  rename_i h5
  simp only [Option.some.injEq] at h
  subst h
  simp only at hb
  cases front with
  | nil => exact absurd (Or.inr (Or.inr (by simp))) h1
  | cons x f =>
    have hx : x = 118 := by
      apply Decidable.byContradiction
      intro hx
      exact h1 (Or.inr (Or.inr (by simpa using hx)))
    subst hx
    rw [List.cons_append, List.tail_cons] at h2 h3 h4 h5 hb
    have n43 : (43 : UInt8) ∉ f ++ 45 :: a := fun hm => h2 ⟨hm, by rw [hb]; exact wordsB_nil false⟩
    rw [(cutA_no 43 _ n43).1] at h3 h4 h5
    have m45 : (45 : UInt8) ∈ f ++ 45 :: a := by simp
    obtain ⟨D, P, e, nD⟩ := mem_cut 45 _ m45
    have cc := cutA_at 45 D P nD
    rw [e] at h3 h4 h5
    rw [cc.1] at h4 h5
    rw [cc.2] at h3
    have hP : wordsB true P = true := by
      cases hw : wordsB true P with
      | true => rfl
      | false => exact absurd ⟨by simp, hw⟩ h3
    have hlen : (splitD 46 D).length = 3 := by
      have g1 : ¬ 3 < (splitD 46 D).length := fun hc => h4 (Or.inl hc)
      have g2 : ¬ (splitD 46 D).length < 3 := fun hc => h4 (Or.inr ⟨Or.inr (by simp), hc⟩)
      omega
    obtain ⟨M, m, p, hs⟩ : ∃ M m p, splitD 46 D = [M, m, p] := by
      match hsd : splitD 46 D, hlen with
      | [M, m, p], _ => exact ⟨M, m, p, rfl⟩
    rw [hs] at h5
    simp only [List.all_cons, List.all_nil, Bool.and_true, Bool.not_eq_false, Bool.and_eq_true] at h5
    have hDD := split3 hs
    have n43P : (43 : UInt8) ∉ P := fun hm => n43 (by rw [e]; simp [hm])
    have hv : (118 : UInt8) :: (f ++ 45 :: a) = verT M m p P := by
      unfold verT
      rw [e, hDD]
      simp
    refine ⟨M, m, p, P, ?_, h5.1, h5.2.1, h5.2.2, hP, n43P, ?_, ?_⟩
    · exact hv
    · simp only [List.cons_append, List.tail_cons]
      rw [(cutA_no 43 _ n43).1, e, cc.2]
    · -- where the first minus stands
      by_cases hf : (45 : UInt8) ∈ f
      · obtain ⟨H, R, rfl, nH⟩ := mem_cut 45 f hf
        right
        have k1 := (cutA_at 45 H (R ++ 45 :: a) nH)
        have k2 : H ++ 45 :: (R ++ 45 :: a) = D ++ 45 :: P := by rw [← e]; simp
        rw [k2, cc.1, cc.2] at k1
        obtain ⟨rfl, rfl⟩ := k1
        refine ⟨R, rfl, ?_⟩
        unfold verT
        rw [hDD]
        simp
      · left
        have k1 := cutA_at 45 f a hf
        rw [e, cc.1, cc.2] at k1
        obtain ⟨rfl, rfl⟩ := k1
        exact ⟨rfl, by rw [hDD]⟩
end Go.Proofs.YtgojmckfabhkaaaDoor.Sem
