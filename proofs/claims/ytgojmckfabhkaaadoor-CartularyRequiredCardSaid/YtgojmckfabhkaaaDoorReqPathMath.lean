/- PLAIN LAW: what a module's path is. No program in sight. No conditions. -/
import Derived.Test.YtgojmckfabhkaaaDoorSemPlain
namespace Go.Proofs.YtgojmckfabhkaaaDoor.Sem
open Go
set_option linter.unusedVariables false

def smallc (c : UInt8) : Bool := (decide (97 ≤ c.toNat) && decide (c.toNat ≤ 122)) || (decide (48 ≤ c.toNat) && decide (c.toNat ≤ 57)) || decide (c.toNat = 45) || decide (c.toNat = 46)
def bigc (c : UInt8) : Bool := smallc c || (decide (65 ≤ c.toNat) && decide (c.toNat ≤ 90)) || decide (c.toNat = 95) || decide (c.toNat = 126)
def charB (first : Bool) (c : UInt8) : Bool := if first then smallc c else bigc c
/-- Is it a part of a path? (The first one has a full stop and no minus ahead.) -/
def partB (first : Bool) (p : List UInt8) : Bool :=
  !p.isEmpty && decide (p.head? ≠ some 46) && decide (p.getLast? ≠ some 46) && p.all (charB first) && (!first || (p.contains 46 && decide (p.head? ≠ some 45)))
def pathOk : Bool → List (List UInt8) → Bool
  | _, [] => true
  | f, p :: ps => partB f p && pathOk false ps
def pathB (l : List UInt8) : Bool := decide (l.length ≤ 200) && pathOk true (splitD 47 l)

theorem small_yes {c : UInt8} (h : smallc c = true) : (97 ≤ (c.toNat : Int) ∧ (c.toNat : Int) ≤ 122) ∨ (48 ≤ (c.toNat : Int) ∧ (c.toNat : Int) ≤ 57) ∨ (c.toNat : Int) = 45 ∨ (c.toNat : Int) = 46 := by
  unfold smallc at h; simp at h; omega
theorem big_yes {c : UInt8} (hs : ¬ smallc c = true) (h : bigc c = true) : (65 ≤ (c.toNat : Int) ∧ (c.toNat : Int) ≤ 90) ∨ (c.toNat : Int) = 95 ∨ (c.toNat : Int) = 126 := by
  unfold bigc at h; simp [hs] at h; omega
theorem small_no {c : UInt8} (h : ¬ smallc c = true) : (c.toNat : Int) < 45 ∨ (46 < (c.toNat : Int) ∧ (c.toNat : Int) < 48) ∨ (57 < (c.toNat : Int) ∧ (c.toNat : Int) < 97) ∨ 122 < (c.toNat : Int) := by
  unfold smallc at h; simp at h; omega
theorem big_no {c : UInt8} (h : ¬ bigc c = true) : (c.toNat : Int) < 45 ∨ (46 < (c.toNat : Int) ∧ (c.toNat : Int) < 48) ∨ (57 < (c.toNat : Int) ∧ (c.toNat : Int) < 65) ∨ (90 < (c.toNat : Int) ∧ (c.toNat : Int) < 95) ∨ (c.toNat : Int) = 96 ∨ (122 < (c.toNat : Int) ∧ (c.toNat : Int) < 126) ∨ 126 < (c.toNat : Int) := by
  unfold bigc smallc at h; simp at h; omega
theorem pathOk_step {f : Bool} {ws : List (List UInt8)} {i : Nat} (h : i < ws.length) : pathOk f (ws.drop i) = (partB f ws[i] && pathOk false (ws.drop (i + 1))) := by
  rw [List.drop_eq_getElem_cons h]; rfl
theorem partB_nil (f : Bool) : partB f [] = false := by cases f <;> rfl
theorem part_head {f : Bool} {x : List UInt8} (h0 : 0 < x.length) (h : x[0].toNat = 46) : partB f x = false := by
  cases x with
  | nil => simp at h0
  | cons c q =>
    have hc : c = 46 := UInt8.toNat_inj.1 h
    subst hc
    unfold partB
    simp
theorem part_last {f : Bool} {x : List UInt8} (h0 : x.length - 1 < x.length) (h : x[x.length - 1].toNat = 46) : partB f x = false := by
  have hl : x.getLast? = some 46 := by
    rw [List.getLast?_eq_getElem?, List.getElem?_eq_getElem h0]
    exact congrArg some (UInt8.toNat_inj.1 h)
  unfold partB
  rw [hl]
  simp
theorem part_char {f : Bool} {x : List UInt8} {j : Nat} (h : j < x.length) (hc : charB f x[j] = false) : partB f x = false := by
  have : x.all (charB f) = false := by
    cases ha : x.all (charB f) with
    | false => rfl
    | true => rw [List.all_eq_true] at ha; rw [ha _ (List.getElem_mem h)] at hc; cases hc
  unfold partB
  rw [this]
  simp
theorem part_rest {f : Bool} {x : List UInt8} (h0 : 0 < x.length) (h1 : ¬ x[0].toNat = 46) (h2 : ¬ (x[x.length - 1]'(by omega)).toNat = 46) (hall : ∀ k (hk : k < x.length), k < x.length → charB f x[k] = true) :
    partB f x = (!f || (x.contains 46 && decide (x[0].toNat ≠ 45))) := by
  have e1 : x.isEmpty = false := by cases x with | nil => simp at h0 | cons c q => rfl
  have e2 : x.head? = some x[0] := by rw [List.head?_eq_getElem?, List.getElem?_eq_getElem]
  have e3 : x.getLast? = some (x[x.length - 1]'(by omega)) := by rw [List.getLast?_eq_getElem?, List.getElem?_eq_getElem (by omega)]
  have e4 : x.all (charB f) = true := by
    rw [List.all_eq_true]
    intro c hc
    obtain ⟨k, hk, rfl⟩ := List.getElem_of_mem hc
    exact hall k hk hk
  have n1 : ¬ x[0] = 46 := fun e => h1 (by rw [e]; rfl)
  have n2 : ¬ (x[x.length - 1]'(by omega)) = 46 := fun e => h2 (by rw [e]; rfl)
  have n3 : (x[0] = 45) ↔ x[0].toNat = 45 := ⟨fun e => by rw [e]; rfl, fun e => UInt8.toNat_inj.1 e⟩
  unfold partB
  rw [e1, e2, e3, e4]
  simp [n1, n2, n3]
end Go.Proofs.YtgojmckfabhkaaaDoor.Sem
