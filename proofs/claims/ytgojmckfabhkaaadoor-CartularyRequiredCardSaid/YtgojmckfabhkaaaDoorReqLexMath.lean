/- PLAIN LAW of a module file's words: the next word of a text; a line of words; the directives of a text; what the text that the row makes says. No program in sight. No conditions. -/
import Derived.Test.YtgojmckfabhkaaaDoorReqPathMath
import Derived.Test.YtgojmckfabhkaaaDoorSemMath
namespace Go.Proofs.YtgojmckfabhkaaaDoor.Sem
open Go
set_option linter.unusedVariables false

/-- Does the byte end a word? -/
def stopC (c : UInt8) : Bool := [32, 9, 13, 10, 40, 41, 34, 96].contains c
/-- The next token of what is left of a text: its kind, its text, what is left behind it, how many lines ended. -/
inductive NextIs : List UInt8 → Nat → List UInt8 → List UInt8 → Nat → Prop
  | blank {c : UInt8} {S t S' : List UInt8} {k d : Nat} (hc : c = 32 ∨ c = 9 ∨ c = 13) (h : NextIs S k t S' d) : NextIs (c :: S) k t S' d
  | note {K R t S' : List UInt8} {k d : Nat} (hK : 10 ∉ K) (h : NextIs (10 :: R) k t S' d) : NextIs (47 :: 47 :: (K ++ 10 :: R)) k t S' d
  | ends (R : List UInt8) : NextIs (10 :: R) 3 [] R 1
  | opens (R : List UInt8) : NextIs (40 :: R) 1 [] R 0
  | shuts (R : List UInt8) : NextIs (41 :: R) 2 [] R 0
  | whole : NextIs [] 4 [] [] 0
  | word {W : List UInt8} {r : UInt8} {R : List UInt8} (h0 : W ≠ []) (hs : ∀ c ∈ W, stopC c = false) (hd : ∀ a b, W ≠ a ++ 47 :: 47 :: b) (hr : stopC r = true) : NextIs (W ++ r :: R) 0 W (r :: R) 0

theorem NextIs.len {S t S' : List UInt8} {k d : Nat} (h : NextIs S k t S' d) : S'.length ≤ S.length ∧ (k ≠ 4 → S'.length < S.length) := by
  induction h with
  | blank hc h ih => simp; omega
  | note hK h ih => simp at ih ⊢; omega
  | ends R => simp
  | opens R => simp
  | shuts R => simp
  | whole => simp
  | @word W r R h0 hs hd hr =>
    have := List.length_pos_iff.2 h0
    simp; omega
theorem NextIs.kind {S t S' : List UInt8} {k d : Nat} (h : NextIs S k t S' d) : k ≤ 4 ∧ d ≤ 1 := by
  induction h with
  | blank hc h ih => exact ih
  | note hK h ih => exact ih
  | _ => decide
/-- What is left is an end of what was. -/
theorem NextIs.suffix {S t S' : List UInt8} {k d : Nat} (h : NextIs S k t S' d) : ∃ A, S = A ++ S' := by
  induction h with
  | @blank c S t S' k d hc h ih => obtain ⟨A, rfl⟩ := ih; exact ⟨c :: A, rfl⟩
  | @note K R t S' k d hK h ih => obtain ⟨A, e⟩ := ih; exact ⟨47 :: 47 :: (K ++ A), by rw [e]; simp⟩
  | ends R => exact ⟨[10], rfl⟩
  | opens R => exact ⟨[40], rfl⟩
  | shuts R => exact ⟨[41], rfl⟩
  | whole => exact ⟨[], rfl⟩
  | @word W r R h0 hs hd hr => exact ⟨W, rfl⟩

/-- A token: its kind, its text, its line. -/
structure Tk where
  kind : Nat
  txt : List UInt8
  at_ : Nat
/-- A directive. -/
structure LineD where
  verb : List UInt8
  words : List (List UInt8)
  at_ : Nat
/-- What a line is. -/
inductive LineR
  | nothing
  | shut
  | opens (v : List UInt8)
  | dir (verb : List UInt8) (ws : List (List UInt8))
inductive LineIs : List Tk → List UInt8 → Bool → LineR → Prop
  | nothing (verb : List UInt8) (inside : Bool) : LineIs [] verb inside .nothing
  | shut (t : List UInt8) (a : Nat) (verb : List UInt8) : LineIs [⟨2, t, a⟩] verb true .shut
  | opens (x y : List UInt8) (a b : Nat) (verb : List UInt8) (hx : x ≠ []) : LineIs [⟨0, x, a⟩, ⟨1, y, b⟩] verb false (.opens x)
  | inside (x y : List UInt8) (a b : Nat) (verb : List UInt8) : LineIs [⟨0, x, a⟩, ⟨0, y, b⟩] verb true (.dir verb [x, y])
  | alone (x y : List UInt8) (a b : Nat) (verb : List UInt8) (hx : x ≠ []) : LineIs [⟨0, x, a⟩, ⟨0, y, b⟩] verb false (.dir x [y])

/-- Where the reader of a text stands. -/
structure PS where
  now : List Tk
  verb : List UInt8
  inside : Bool
  lines : List LineD
  ln : Nat
def PS.app (s : PS) : LineR → PS
  | .nothing => ⟨[], s.verb, s.inside, s.lines, s.ln + 1⟩
  | .shut => ⟨[], s.verb, false, s.lines, s.ln + 1⟩
  | .opens v => ⟨[], v, true, s.lines, s.ln + 1⟩
  | .dir verb ws => ⟨[], s.verb, s.inside, s.lines ++ [⟨verb, ws, s.ln⟩], s.ln + 1⟩
inductive Pr : List UInt8 → PS → List LineD → Prop
  | tok {S t S' : List UInt8} {k : Nat} {s : PS} {out : List LineD} (h : NextIs S k t S' 0) (hk : k ≤ 2) (r : Pr S' { s with now := s.now ++ [⟨k, t, s.ln⟩] } out) : Pr S s out
  | nl {S S' : List UInt8} {s : PS} {out : List LineD} {x : LineR} (h : NextIs S 3 [] S' 1) (hl : LineIs s.now s.verb s.inside x) (r : Pr S' (s.app x) out) : Pr S s out
  | fin {S S' : List UInt8} {s : PS} (h : NextIs S 4 [] S' 0) (hn : s.now = []) (hi : s.inside = false) : Pr S s s.lines

/- Words that the row's text holds. -/
structure WordOk (W : List UInt8) : Prop where
  ne : W ≠ []
  stop : ∀ c ∈ W, stopC c = false
  dbl : ∀ a b, W ≠ a ++ 47 :: 47 :: b
theorem dbl_of {W : List UInt8} (h : ∀ c ∈ W, c ≠ 47) : ∀ a b, W ≠ a ++ 47 :: 47 :: b := fun a b e => h 47 (by rw [e]; simp) rfl
theorem next_word {W : List UInt8} (h : WordOk W) (r : UInt8) (R : List UInt8) (hr : stopC r = true) : NextIs (W ++ r :: R) 0 W (r :: R) 0 := .word h.ne h.stop h.dbl hr
theorem mod_ok : WordOk [109, 111, 100, 117, 108, 101] := ⟨by simp, by decide, dbl_of (by decide)⟩
theorem req_ok : WordOk [114, 101, 113, 117, 105, 114, 101] := ⟨by simp, by decide, dbl_of (by decide)⟩

theorem split_mem (c : UInt8) (x : UInt8) (hx : x ≠ c) : ∀ (l : List UInt8), x ∈ l → ∃ w ∈ splitD c l, x ∈ w := by
  intro l
  induction l with
  | nil => intro h; simp at h
  | cons y r ih =>
    intro hm
    by_cases hy : y = c
    · subst hy
      rw [splitD_cons_eq]
      rcases List.mem_cons.1 hm with e | e
      · exact absurd e hx
      · obtain ⟨w, hw, hcw⟩ := ih e
        exact ⟨w, List.mem_cons_of_mem _ hw, hcw⟩
    · obtain ⟨w, ws, e1, e2⟩ := splitD_cons_ne c y r hy
      rw [e2]
      rcases List.mem_cons.1 hm with e | e
      · exact ⟨y :: w, by simp, by simp [e]⟩
      · obtain ⟨u, hu, hcu⟩ := ih e
        rw [e1] at hu
        rcases List.mem_cons.1 hu with rfl | hu
        · exact ⟨y :: u, by simp, List.mem_cons_of_mem _ hcu⟩
        · exact ⟨u, List.mem_cons_of_mem _ hu, hcu⟩
theorem pathOk_all : ∀ (f : Bool) (ws : List (List UInt8)), pathOk f ws = true → ∀ w ∈ ws, ∃ g, partB g w = true
  | f, [], _, w, hw => by simp at hw
  | f, p :: ps, h, w, hw => by
    unfold pathOk at h
    simp only [Bool.and_eq_true] at h
    rcases List.mem_cons.1 hw with rfl | hw
    · exact ⟨f, h.1⟩
    · exact pathOk_all false ps h.2 w hw
theorem big_stop {c : UInt8} (h : bigc c = true) : stopC c = false := by
  have : ∀ n : Nat, n < 256 → bigc (UInt8.ofNat n) = true → stopC (UInt8.ofNat n) = false := by decide +kernel
  have h2 := this c.toNat (by have := UInt8.toNat_lt c; omega)
  rw [UInt8.ofNat_toNat] at h2
  exact h2 h
theorem path_word {l : List UInt8} (h : pathB l = true) : WordOk l ∧ l.length ≤ 200 := by
  unfold pathB at h
  simp only [Bool.and_eq_true, decide_eq_true_eq] at h
  have hall := pathOk_all true _ h.2
  have hnil : [] ∉ splitD 47 l := fun hm => by
    obtain ⟨g, hg⟩ := hall [] hm
    rw [partB_nil] at hg; cases hg
  refine ⟨⟨fun e => hnil (by rw [e]; simp [splitD]), fun c hc => ?_, fun a b e => hnil ?_⟩, h.1⟩
  · by_cases h47 : c = 47
    · subst h47; decide
    · obtain ⟨w, hw, hcw⟩ := split_mem 47 c h47 l hc
      obtain ⟨g, hg⟩ := hall w hw
      unfold partB at hg
      simp only [Bool.and_eq_true] at hg
      have h9 := hg.1.2
      rw [List.all_eq_true] at h9
      have h8 := h9 c hcw
      refine big_stop ?_
      unfold charB at h8
      cases g with
      | false => exact h8
      | true => unfold bigc; rw [show smallc c = true from h8]; rfl
  · rw [e, splitD_mid, splitD_cons_eq]; simp

/- The row's text. -/
def lineT (path v : List UInt8) : List UInt8 := 9 :: (path ++ 9 :: (v ++ [32, 47, 47, 32, 105, 110, 100, 105, 114, 101, 99, 116, 10]))
def linesT (path : List UInt8) (vs : List (List UInt8)) : List UInt8 := vs.flatMap (lineT path)
def headT (path : List UInt8) : List UInt8 := [109, 111, 100, 117, 108, 101, 32] ++ path ++ [10] ++ [114, 101, 113, 117, 105, 114, 101, 32, 40, 10]
def fullT (path : List UInt8) (vs : List (List UInt8)) : List UInt8 := headT path ++ linesT path vs ++ [41, 10]
def reqL (path : List UInt8) (vs : List (List UInt8)) (n : Nat) : List LineD := (vs.zipIdx n).map fun p => ⟨[114, 101, 113, 117, 105, 114, 101], [path, p.1], p.2⟩
def wantL (path : List UInt8) (vs : List (List UInt8)) : List LineD := ⟨[109, 111, 100, 117, 108, 101], [path], 1⟩ :: reqL path vs 3

theorem pr_tail (verb : List UInt8) (lines : List LineD) (n : Nat) : Pr [41, 10] ⟨[], verb, true, lines, n⟩ lines := by
  refine .tok (.shuts [10]) (by decide) (.nl (S' := []) (.ends []) (.shut [] n verb) ?_)
  exact .fin (s := ⟨[], verb, false, lines, n + 1⟩) .whole rfl rfl
theorem pr_lines {path : List UInt8} (hp : WordOk path) : ∀ (vs : List (List UInt8)) (lines : List LineD) (n : Nat), (∀ v ∈ vs, WordOk v) →
    Pr (linesT path vs ++ [41, 10]) ⟨[], [114, 101, 113, 117, 105, 114, 101], true, lines, n⟩ (lines ++ reqL path vs n)
  | [], lines, n, _ => by
    have := pr_tail [114, 101, 113, 117, 105, 114, 101] lines n
    simpa [linesT, reqL] using this
  | v :: vs, lines, n, h => by
    have hv := h v (by simp)
    have ih := pr_lines hp vs (lines ++ [⟨[114, 101, 113, 117, 105, 114, 101], [path, v], n⟩]) (n + 1) (fun u hu => h u (List.mem_cons_of_mem _ hu))
    have e1 : linesT path (v :: vs) ++ [41, 10] = 9 :: (path ++ 9 :: (v ++ 32 :: (47 :: 47 :: ([32, 105, 110, 100, 105, 114, 101, 99, 116] ++ 10 :: (linesT path vs ++ [41, 10]))))) := by
      unfold linesT lineT; simp
    have e2 : lines ++ reqL path (v :: vs) n = lines ++ [⟨[114, 101, 113, 117, 105, 114, 101], [path, v], n⟩] ++ reqL path vs (n + 1) := by
      unfold reqL; simp [List.zipIdx_cons]
    rw [e1, e2]
    refine .tok (.blank (by decide) (next_word hp 9 _ (by decide))) (by decide) ?_
    refine .tok (.blank (by decide) (next_word hv 32 _ (by decide))) (by decide) ?_
    refine .nl (.blank (by decide) (.note (by decide) (.ends _))) (.inside path v _ _ _) ?_
    exact ih
theorem pr_full {path : List UInt8} {vs : List (List UInt8)} (hp : WordOk path) (hv : ∀ v ∈ vs, WordOk v) : Pr (fullT path vs) ⟨[], [], false, [], 1⟩ (wantL path vs) := by
  have e1 : fullT path vs = [109, 111, 100, 117, 108, 101] ++ 32 :: (path ++ 10 :: ([114, 101, 113, 117, 105, 114, 101] ++ 32 :: (40 :: 10 :: (linesT path vs ++ [41, 10])))) := by
    unfold fullT headT; simp
  rw [e1]
  refine .tok (next_word mod_ok 32 _ (by decide)) (by decide) ?_
  refine .tok (.blank (by decide) (next_word hp 10 _ (by decide))) (by decide) ?_
  refine .nl (.ends _) (.alone _ path _ _ _ (by simp)) ?_
  refine .tok (next_word req_ok 32 _ (by decide)) (by decide) ?_
  refine .tok (.blank (by decide) (.opens _)) (by decide) ?_
  refine .nl (.ends _) (.opens _ _ _ _ _ (by simp)) ?_
  exact pr_lines hp vs [⟨[109, 111, 100, 117, 108, 101], [path], 1⟩] 3 hv
end Go.Proofs.YtgojmckfabhkaaaDoor.Sem
