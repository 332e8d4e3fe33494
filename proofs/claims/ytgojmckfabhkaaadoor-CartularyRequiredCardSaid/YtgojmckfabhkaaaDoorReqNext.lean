/- THE WALK of modfile's lexer.next: the next token, where no quote stands. Conditions: what stands there (NextIs); the lexer's block; a bound on the length. -/
import Derived.Test.YtgojmckfabhkaaaDoorReqLexMath
import Derived.Test.YtgojmckfabhkaaaDoorSemLib
import Derived.Test.YtgojmckfabhkaaaDoorSemB
import Derived.Test.YtgojmckfabhkaaaDoorWorld
import Derived.Test.YtgojmckfabhkaaaDoorFrJump
import Derived.Scope
import Derived.ScopeJumps
import Derived.WalkMore
import Derived.BigQuiet
import Derived.Deep.QuietTactic
import Derived.StillTailTactics
namespace Go.Proofs.YtgojmckfabhkaaaDoor.Sem
open Go Go.RowKit
set_option linter.unusedVariables false

theorem rangeN_map (l : List Value) (n : Nat) (h : l.length = n) : l = (List.range n).map (fun i => l.getD i undef) := by
  apply List.ext_getElem
  · simp [h]
  · intro i h1 h2
    simp [List.getD_eq_getElem?_getD, List.getElem?_eq_getElem h1]
set_option maxRecDepth 100000 in
theorem frame281 (a : Act) (h : a.tmps.size = 281) (hd : a.defers = []) : ∃ f : Nat → Value, (∀ i, f i = a.tmps.getD i undef) ∧ a = { tmps := #[f 0, f 1, f 2, f 3, f 4, f 5, f 6, f 7, f 8, f 9, f 10, f 11, f 12, f 13, f 14, f 15, f 16, f 17, f 18, f 19, f 20, f 21, f 22, f 23, f 24, f 25, f 26, f 27, f 28, f 29, f 30, f 31, f 32, f 33, f 34, f 35, f 36, f 37, f 38, f 39, f 40, f 41, f 42, f 43, f 44, f 45, f 46, f 47, f 48, f 49, f 50, f 51, f 52, f 53, f 54, f 55, f 56, f 57, f 58, f 59, f 60, f 61, f 62, f 63, f 64, f 65, f 66, f 67, f 68, f 69, f 70, f 71, f 72, f 73, f 74, f 75, f 76, f 77, f 78, f 79, f 80, f 81, f 82, f 83, f 84, f 85, f 86, f 87, f 88, f 89, f 90, f 91, f 92, f 93, f 94, f 95, f 96, f 97, f 98, f 99, f 100, f 101, f 102, f 103, f 104, f 105, f 106, f 107, f 108, f 109, f 110, f 111, f 112, f 113, f 114, f 115, f 116, f 117, f 118, f 119, f 120, f 121, f 122, f 123, f 124, f 125, f 126, f 127, f 128, f 129, f 130, f 131, f 132, f 133, f 134, f 135, f 136, f 137, f 138, f 139, f 140, f 141, f 142, f 143, f 144, f 145, f 146, f 147, f 148, f 149, f 150, f 151, f 152, f 153, f 154, f 155, f 156, f 157, f 158, f 159, f 160, f 161, f 162, f 163, f 164, f 165, f 166, f 167, f 168, f 169, f 170, f 171, f 172, f 173, f 174, f 175, f 176, f 177, f 178, f 179, f 180, f 181, f 182, f 183, f 184, f 185, f 186, f 187, f 188, f 189, f 190, f 191, f 192, f 193, f 194, f 195, f 196, f 197, f 198, f 199, f 200, f 201, f 202, f 203, f 204, f 205, f 206, f 207, f 208, f 209, f 210, f 211, f 212, f 213, f 214, f 215, f 216, f 217, f 218, f 219, f 220, f 221, f 222, f 223, f 224, f 225, f 226, f 227, f 228, f 229, f 230, f 231, f 232, f 233, f 234, f 235, f 236, f 237, f 238, f 239, f 240, f 241, f 242, f 243, f 244, f 245, f 246, f 247, f 248, f 249, f 250, f 251, f 252, f 253, f 254, f 255, f 256, f 257, f 258, f 259, f 260, f 261, f 262, f 263, f 264, f 265, f 266, f 267, f 268, f 269, f 270, f 271, f 272, f 273, f 274, f 275, f 276, f 277, f 278, f 279, f 280], defers := [] } := by
  refine ⟨fun i => a.tmps.toList.getD i undef, fun i => by simp [Array.getD_eq_getD_getElem?, List.getD_eq_getElem?_getD], ?_⟩
  have h1 := rangeN_map a.tmps.toList 281 (by simpa using h)
  have h2 : a.tmps = ((List.range 281).map (fun i => a.tmps.toList.getD i undef)).toArray := by
    apply Array.ext'
    exact h1
  cases a with
  | mk t d =>
    have hd' : d = [] := hd
    subst hd'
    exact congrArg (fun x => Act.mk x []) h2

theorem rows3 {W : World} {b : Nat} {v0 v1 v2 : Value} {t : TypeId} (h : W.heap[b]? = some (.cells #[v0, v1, v2] t (0, 0))) :
    W.cell? ⟨b, 0, none⟩ = some v0 ∧ W.cell? ⟨b, 1, none⟩ = some v1 ∧ W.cell? ⟨b, 2, none⟩ = some v2 ∧ W.frozen? ⟨b, 0, none⟩ = false ∧ W.frozen? ⟨b, 1, none⟩ = false ∧ W.frozen? ⟨b, 2, none⟩ = false :=
  ⟨cell_at h 0, cell_at h 1, cell_at h 2, free_at h 0, free_at h 1, free_at h 2⟩
/-- The lexer's block. -/
def lexA (l : List UInt8) (i n : Nat) : Array Value := #[.string (tx l), .int .i64 (i : Int), .int .i64 (n : Int)]
def tokA (k : Nat) (t : List UInt8) (n : Nat) : Array Value := #[.int .i64 (k : Int), .string (tx t), .int .i64 (n : Int)]
structure Lx (w W : World) (p : Nat) (l : List UInt8) (i n : Nat) : Prop where
  cell : W.heap[p]? = some (.cells (lexA l i n) 54 (0, 0))
  le : i ≤ l.length
  res : W.heap[w.heap.size]? = some (.cells #[.int .i64 0, .string ⟨#[]⟩, .int .i64 0] 57 (0, 0))
  tok : W.heap[w.heap.size + 1]? = some (.cells (tokA 0 [] n) 57 (0, 0))
  grown : w.grownBy W (some p)
def lpos (W : World) (p : Nat) : Nat := match W.cell? ⟨p, 1, none⟩ with | some (.int _ a) => a.toNat | _ => 0
theorem Lx.pos {w W : World} {p : Nat} {l : List UInt8} {i n : Nat} (h : Lx w W p l i n) : lpos W p = i := by
  unfold lpos
  rw [show W.cell? ⟨p, 1, none⟩ = some (.int .i64 (i : Int)) from cell_at h.cell 1]
  rfl
def nm (l : List UInt8) (p lb : Nat) (W : World) : Nat := if lb = 1 then (if l[lpos W p]? = some 10 then 4 * (l.length - lpos W p) + 2 else 4 * (l.length - lpos W p)) else if lb = 0 then 4 * (l.length - lpos W p) + 1 else 4 * (l.length - lpos W p)
theorem nm0 {w W : World} {p : Nat} {l : List UInt8} {i n : Nat} (h : Lx w W p l i n) : nm l p 0 W = 4 * (l.length - i) + 1 := by unfold nm; rw [h.pos]; rfl
theorem nm3 {w W : World} {p : Nat} {l : List UInt8} {i n : Nat} (h : Lx w W p l i n) : nm l p 3 W = 4 * (l.length - i) := by unfold nm; rw [h.pos]; rfl
theorem nm1a {w W : World} {p : Nat} {l : List UInt8} {i n : Nat} (h : Lx w W p l i n) (hc : l[i]? = some 10) : nm l p 1 W = 4 * (l.length - i) + 2 := by unfold nm; rw [h.pos, if_pos rfl, if_pos hc]
theorem nm1b {w W : World} {p : Nat} {l : List UInt8} {i n : Nat} (h : Lx w W p l i n) (hc : l[i]? ≠ some 10) : nm l p 1 W = 4 * (l.length - i) := by unfold nm; rw [h.pos, if_pos rfl, if_neg hc]
theorem nm1 {w W : World} {p : Nat} {l : List UInt8} {i n : Nat} (h : Lx w W p l i n) : nm l p 1 W ≤ 4 * (l.length - i) + 2 := by unfold nm; rw [h.pos, if_pos rfl]; split <;> omega
theorem Lx.step {w W : World} {p : Nat} {l : List UInt8} {i n : Nat} (h : Lx w W p l i n) (hp : p < w.heap.size) (hi : i < l.length) : Lx w (W.setCell ⟨p, 1, none⟩ (.int .i64 ((i : Int) + 1))) p l (i + 1) n :=
  ⟨heap_set h.cell 1 _, hi, (Below.heap_setCell _ _ _ _ (by show w.heap.size ≠ p; omega)).trans h.res, (Below.heap_setCell _ _ _ _ (by show w.heap.size + 1 ≠ p; omega)).trans h.tok,
    ⟨h.grown.os, h.grown.tape, h.grown.output, by simpa [World.setCell] using h.grown.size, fun k hk hne => (Below.heap_setCell _ _ _ _ (by show k ≠ p; intro e; exact hne (by rw [e]))).trans (h.grown.block k hk hne)⟩⟩
theorem Lx.drew {w W : World} {p : Nat} {l : List UInt8} {i n : Nat} (h : Lx w W p l i n) (m : Nat) : Lx w (W.drewN m) p l i n := ⟨h.cell, h.le, h.res, h.tok, h.grown.os, h.grown.tape, h.grown.output, h.grown.size, h.grown.block⟩
structure Vx (w V : World) (p : Nat) (l : List UInt8) (i n : Nat) : Prop where
  cell : V.heap[p]? = some (.cells (lexA l i n) 54 (0, 0))
  res : V.heap[w.heap.size]? = some (.cells #[.int .i64 0, .string ⟨#[]⟩, .int .i64 0] 57 (0, 0))
  grown : w.grownBy V (some p)
theorem Lx.vx {w W : World} {p : Nat} {l : List UInt8} {i n : Nat} (h : Lx w W p l i n) : Vx w W p l i n := ⟨h.cell, h.res, h.grown⟩
theorem Vx.drew {w V : World} {p : Nat} {l : List UInt8} {i n : Nat} (h : Vx w V p l i n) (m : Nat) : Vx w (V.drewN m) p l i n := ⟨h.cell, h.res, h.grown.os, h.grown.tape, h.grown.output, h.grown.size, h.grown.block⟩
theorem gb_setN {a b : World} {r : Option Nat} {g : Nat} (h : a.grownBy b r) (hg : a.heap.size ≤ g) (o : Nat) (v : Value) : a.grownBy (b.setCell ⟨g, o, none⟩ v) r :=
  ⟨h.os, h.tape, h.output, by simpa [World.setCell] using h.size, fun k hk hr => (Below.heap_setCell _ _ _ _ (by show k ≠ g; omega)).trans (h.block k hk hr)⟩
theorem Vx.tok {w V : World} {p : Nat} {l : List UInt8} {i n : Nat} (h : Vx w V p l i n) (hp : p < w.heap.size) (o : Nat) (v : Value) : Vx w (V.setCell ⟨w.heap.size + 1, o, none⟩ v) p l i n :=
  ⟨(Below.heap_setCell _ _ _ _ (by show p ≠ w.heap.size + 1; omega)).trans h.cell, (Below.heap_setCell _ _ _ _ (by show w.heap.size ≠ w.heap.size + 1; omega)).trans h.res, gb_setN h.grown (by omega) _ _⟩
theorem Vx.pos {w V : World} {p : Nat} {l : List UInt8} {i n : Nat} (h : Vx w V p l i n) (hp : p < w.heap.size) : Vx w (V.setCell ⟨p, 1, none⟩ (.int .i64 ((i : Int) + 1))) p l (i + 1) n :=
  ⟨heap_set h.cell 1 _, (Below.heap_setCell _ _ _ _ (by show w.heap.size ≠ p; omega)).trans h.res, gb_set h.grown _ _⟩
theorem Vx.line {w V : World} {p : Nat} {l : List UInt8} {i n : Nat} (h : Vx w V p l i n) (hp : p < w.heap.size) : Vx w (V.setCell ⟨p, 2, none⟩ (.int .i64 ((n : Int) + 1))) p l i (n + 1) :=
  ⟨heap_set h.cell 2 _, (Below.heap_setCell _ _ _ _ (by show w.heap.size ≠ p; omega)).trans h.res, gb_set h.grown _ _⟩
/-- What the call leaves. -/
structure NextQ (w w' : World) (p : Nat) (l S' : List UInt8) (n : Nat) : Prop where
  pos : ∃ i, l.drop i = S' ∧ i ≤ l.length ∧ w'.heap[p]? = some (.cells (lexA l i n) 54 (0, 0))
  grown : w.grownBy w' (some p)
/-- Three stores into a struct of three. -/
def put3 (W : World) (b : Nat) (v0 v1 v2 : Value) : World := ((W.setCell ⟨b, 0, none⟩ v0).setCell ⟨b, 1, none⟩ v1).setCell ⟨b, 2, none⟩ v2
theorem next_leaf {w V : World} {p i n n0 k : Nat} {l S' x : List UInt8} (hp : p < w.heap.size) (h : Vx w V p l i n) (hi : i ≤ l.length) (hd : l.drop i = S') (t : Array Value) (h2 : t.getD 2 undef = .pointer (some ⟨w.heap.size, 0, none⟩)) (h3 : t.getD 3 undef = .bool true) :
    bodyPost Tryd.prog Tryd.f20 (fun e w' => e = .returned (.tuple #[.agg (tokA k x n0), .bool true]) ∧ NextQ w w' p l S' n) Exit.ret { tmps := t, defers := [] }
      (put3 V w.heap.size (.int .i64 (k : Int)) (.string (tx x)) (.int .i64 (n0 : Int))) := by
  have hr : (put3 V w.heap.size (.int .i64 (k : Int)) (.string (tx x)) (.int .i64 (n0 : Int))).heap[w.heap.size]? = some (.cells #[.int .i64 (k : Int), .string (tx x), .int .i64 (n0 : Int)] 57 (0, 0)) :=
    heap_set (heap_set (heap_set h.res 0 _) 1 _) 2 _
  have hg : w.grownBy (put3 V w.heap.size (.int .i64 (k : Int)) (.string (tx x)) (.int .i64 (n0 : Int))) (some p) :=
    gb_setN (gb_setN (gb_setN h.grown (Nat.le_refl _) _ _) (Nat.le_refl _) _ _) (Nat.le_refl _) _ _
  have hc : (put3 V w.heap.size (.int .i64 (k : Int)) (.string (tx x)) (.int .i64 (n0 : Int))).heap[p]? = some (.cells (lexA l i n) 54 (0, 0)) :=
    (Below.heap_setCell _ _ _ _ (by show p ≠ w.heap.size; omega)).trans ((Below.heap_setCell _ _ _ _ (by show p ≠ w.heap.size; omega)).trans ((Below.heap_setCell _ _ _ _ (by show p ≠ w.heap.size; omega)).trans h.cell))
  generalize put3 V w.heap.size (.int .i64 (k : Int)) (.string (tx x)) (.int .i64 (n0 : Int)) = W6 at hr hg hc ⊢
  obtain ⟨c0, c1, c2, -⟩ := rows3 hr
  have h2' : t[2]?.getD undef = .pointer (some ⟨w.heap.size, 0, none⟩) := by rw [← Array.getD_eq_getD_getElem?]; exact h2
  have h3' : t[3]?.getD undef = .bool true := by rw [← Array.getD_eq_getD_getElem?]; exact h3
  exact bodyPost_ret (v := .tuple #[.agg (tokA k x n0), .bool true]) (by simp [results, Tryd.results20, go_sem, c0, c1, c2, tokA, h2', h3']) rfl ⟨rfl, ⟨i, hd, hi, hc⟩, hg⟩


theorem drop_cons {l S : List UInt8} {j : Nat} {c : UInt8} (h : l.drop j = c :: S) : ∃ hj : j < l.length, l[j] = c ∧ l.drop (j + 1) = S := by
  have hj : j < l.length := by
    rcases Nat.lt_or_ge j l.length with h1 | h1
    · exact h1
    · rw [List.drop_eq_nil_of_le h1] at h; cases h
  rw [List.drop_eq_getElem_cons hj] at h
  obtain ⟨h1, h2⟩ := List.cons.inj h
  exact ⟨hj, h1, h2⟩
theorem pre_note (q : List UInt8) : Lib.hasPrefix (47 :: 47 :: q) [47, 47] = true := by
  show List.isPrefixOf [47, 47] (47 :: 47 :: q) = true
  simp [List.isPrefixOf]
theorem pre_word {A B : List UInt8} {r : UInt8} {R : List UInt8} (hd : ∀ a b, A ++ B ≠ a ++ 47 :: 47 :: b) (hB : B ≠ []) (hr : stopC r = true) : Lib.hasPrefix (B ++ r :: R) [47, 47] = false := by
  show List.isPrefixOf [47, 47] (B ++ r :: R) = false
  have hr2 : r ≠ 47 := fun e => by subst e; cases hr
  cases B with
  | nil => exact absurd rfl hB
  | cons c B =>
    by_cases h1 : c = 47
    · subst h1
      cases B with
      | nil => simp [List.isPrefixOf, hr2.symm]
      | cons c2 B =>
        have h2 : c2 ≠ 47 := fun e => by subst e; exact hd A B rfl
        simp [List.isPrefixOf, h2.symm]
    · simp [List.isPrefixOf, Ne.symm h1]
theorem stop_ix : ∀ c : UInt8, stopC c = decide (0 ≤ Lib.indexByte [32, 9, 13, 10, 40, 41, 34, 96] c) := by
  have : ∀ n : Nat, n < 256 → stopC (UInt8.ofNat n) = decide (0 ≤ Lib.indexByte [32, 9, 13, 10, 40, 41, 34, 96] (UInt8.ofNat n)) := by decide +kernel
  intro c
  have h2 := this c.toNat (by have := UInt8.toNat_lt c; omega)
  rw [UInt8.ofNat_toNat] at h2
  exact h2
theorem stop_ne {c : UInt8} (h : stopC c = false) : c.toNat ≠ 32 ∧ c.toNat ≠ 9 ∧ c.toNat ≠ 13 ∧ c.toNat ≠ 10 ∧ c.toNat ≠ 40 ∧ c.toNat ≠ 41 ∧ c.toNat ≠ 34 ∧ c.toNat ≠ 96 := by
  refine ⟨?_, ?_, ?_, ?_, ?_, ?_, ?_, ?_⟩ <;> intro e
  · rw [show c = 32 from UInt8.toNat_inj.1 e] at h; cases h
  · rw [show c = 9 from UInt8.toNat_inj.1 e] at h; cases h
  · rw [show c = 13 from UInt8.toNat_inj.1 e] at h; cases h
  · rw [show c = 10 from UInt8.toNat_inj.1 e] at h; cases h
  · rw [show c = 40 from UInt8.toNat_inj.1 e] at h; cases h
  · rw [show c = 41 from UInt8.toNat_inj.1 e] at h; cases h
  · rw [show c = 34 from UInt8.toNat_inj.1 e] at h; cases h
  · rw [show c = 96 from UInt8.toNat_inj.1 e] at h; cases h
theorem pre_call (l : List UInt8) (j : Nat) (bb : Bool) (h : Lib.hasPrefix (l.drop j) [47, 47] = bb) (W : World) :
    Calls Tryd.prog 37 #[.string ((tx l).extract j l.length), .string ⟨#[47, 47]⟩] W fun e w' => e = .returned (.bool bb) ∧ w' = W := by
  have e : (tx l).extract j l.length = tx (l.drop j) := by rw [tx_extract, List.take_length]
  rw [e]
  have h1 := Tryd.strings_HasPrefix (tx (l.drop j)) ⟨#[47, 47]⟩ W
  rw [tx_list] at h1
  rw [← h]
  exact h1
theorem stop_call (c : UInt8) (W : World) :
    Calls Tryd.prog 39 #[.string ⟨#[32, 9, 13, 10, 40, 41, 34, 96]⟩, .int .u8 (c.toNat : Int)] W fun e w' => e = .returned (.int .i64 (Lib.indexByte [32, 9, 13, 10, 40, 41, 34, 96] c)) ∧ w' = W := by
  have h1 := Tryd.strings_IndexByte ⟨#[32, 9, 13, 10, 40, 41, 34, 96]⟩ (c.toNat : Int) W
  rw [show ((c.toNat : Int)).toNat.toUInt8 = c from by rw [Int.toNat_natCast]; exact UInt8.ofNat_toNat] at h1
  exact h1


set_option maxRecDepth 100000 in
set_option maxHeartbeats 8000000 in
theorem next_any (l S' t : List UInt8) (i n k d p : Nat) (w : World) (hc : w.heap[p]? = some (.cells (lexA l i n) 54 (0, 0))) (hi : i ≤ l.length) (hz : l.length ≤ 65536) (hn : n ≤ 65536) (h : NextIs (l.drop i) k t S' d) :
    Calls Tryd.prog 20 #[.pointer (some ⟨p, 0, none⟩)] w fun e w' => e = .returned (.tuple #[.agg (tokA k t n), .bool true]) ∧ NextQ w w' p l S' (n + d) := by
  have hp := lt_of_block hc
  have H := Lib.hid h
  have HCL := Lib.hid hc
  obtain ⟨c0, c1, c2, f0, f1, f2⟩ := rows3 hc
  have hsz := tx_size l
  clear hc h
  go_enter Tryd.func20, Tryd.ntmps20
  go_wp2
  refine wp_scope_labels (fun lb a' W => (a'.tmps.size = 281 ∧ a'.defers = [] ∧ a'.tmps.getD 0 undef = .pointer (some ⟨p, 0, none⟩) ∧ a'.tmps.getD 2 undef = .pointer (some ⟨w.heap.size, 0, none⟩) ∧ a'.tmps.getD 5 undef = .pointer (some ⟨w.heap.size + 1, 0, none⟩)) ∧
      ((lb = 0 ∧ ∃ j, Lx w W p l j n ∧ NextIs (l.drop j) k t S' d) ∨
       (lb = 1 ∧ ∃ j K R, Lx w W p l j n ∧ l.drop j = K ++ 10 :: R ∧ 10 ∉ K ∧ NextIs (10 :: R) k t S' d) ∨
       (lb = 3 ∧ ∃ (j f : Nat) (r : UInt8) (R : List UInt8), Lx w W p l j n ∧ a'.tmps.getD 4 undef = .int .i64 (f : Int) ∧ k = 0 ∧ d = 0 ∧ S' = r :: R ∧ f ≤ j ∧ j ≤ f + t.length ∧ l.drop f = t ++ r :: R ∧ (∀ c ∈ t, stopC c = false) ∧ (∀ a b, t ≠ a ++ 47 :: 47 :: b) ∧ stopC r = true)))
    (fun lb a' W => nm l p lb W) ?_ ?_
  · go_hide hQ
    have HQ := Lib.hid hQ
    clear hQ
    go_wp2
    go_step3
    obtain ⟨W, hW⟩ : ∃ W, W = (w.alloc (Obj.cells #[Value.int IntKind.i64 0, Value.string { data := #[] }, Value.int IntKind.i64 0] 57)).alloc (Obj.cells #[Value.int IntKind.i64 0, Value.string { data := #[] }, Value.int IntKind.i64 ↑n] 57) := ⟨_, rfl⟩
    rw [← hW]
    have hx : Lx w W p l i n := by
      rw [hW]
      exact ⟨heap_alloc_keep (heap_alloc_keep HCL.out _) _, hi, heap_alloc_keep (heap_alloc_same _ _) _, heap_alloc_two _ _ _, gb_alloc (gb_alloc (gb_refl _ _) _) _⟩
    clear hW c0 c1 c2 f0 f1 f2
    have hN := H.out
    obtain ⟨j, hji⟩ : ∃ j, j = i := ⟨_, rfl⟩
    rw [← hji] at hx hN
    clear hji
    obtain ⟨c0, c1, c2, f0, f1, f2⟩ := rows3 (show W.heap[p]? = some (.cells #[.string (tx l), .int .i64 (j : Int), .int .i64 (n : Int)] 54 (0, 0)) from hx.cell)
    obtain ⟨r0, r1, r2, fr0, fr1, fr2⟩ := rows3 hx.res
    obtain ⟨t0, t1, t2, ft0, ft1, ft2⟩ := rows3 (show W.heap[w.heap.size + 1]? = some (.cells #[.int .i64 0, .string ⟨#[]⟩, .int .i64 (n : Int)] 57 (0, 0)) from hx.tok)
    have X := Lib.hid hx
    have hjl := hx.le
    clear hx
    obtain ⟨S, hS⟩ : ∃ S, l.drop j = S := ⟨_, rfl⟩
    rw [hS] at hN
    cases hN with
    | @blank c S0 _ _ _ _ hcc hN2 =>
      obtain ⟨hj, hlc, hls⟩ := drop_cons hS
      have hjs : j < (tx l).size := by rw [tx_size]; exact hj
      have hjI : (j : Int) < ((tx l).size : Int) := by omega
      have hjJ : (j : Int) ≤ ((tx l).size : Int) := by omega
      have hcx : (tx l)[j]'hjs = c := by rw [tx_at]; exact hlc
      have HN := Lib.hid hN2
      rcases hcc with rfl | rfl | rfl
      · have e32 : ((((tx l)[j]'hjs).toNat : Int) == 32) = true := by rw [hcx]; rfl
        have hjne : (((j : Int) == ((tx l).size : Int))) = false := by rw [beq_eq_false_iff_ne]; omega
        go_wp2
        go_quiet (fail)
        go_wp2
        go_quiet (fail)
        go_wp2
        go_step3
        rw [← HQ.out]
        exact ⟨⟨rfl, rfl, rfl, rfl, rfl⟩, Or.inl ⟨rfl, j + 1, (X.out.drew _).step hp hj, by rw [hls]; exact HN.out⟩⟩
      · have e32 : ((((tx l)[j]'hjs).toNat : Int) == 32) = false := by rw [hcx]; rfl
        have e9 : ((((tx l)[j]'hjs).toNat : Int) == 9) = true := by rw [hcx]; rfl
        have hjne : (((j : Int) == ((tx l).size : Int))) = false := by rw [beq_eq_false_iff_ne]; omega
        go_wp2
        go_quiet (fail)
        go_wp2
        go_quiet (fail)
        go_wp2
        go_step3
        rw [← HQ.out]
        exact ⟨⟨rfl, rfl, rfl, rfl, rfl⟩, Or.inl ⟨rfl, j + 1, (X.out.drew _).step hp hj, by rw [hls]; exact HN.out⟩⟩
      · have e32 : ((((tx l)[j]'hjs).toNat : Int) == 32) = false := by rw [hcx]; rfl
        have e9 : ((((tx l)[j]'hjs).toNat : Int) == 9) = false := by rw [hcx]; rfl
        have e13 : ((((tx l)[j]'hjs).toNat : Int) == 13) = true := by rw [hcx]; rfl
        have hjne : (((j : Int) == ((tx l).size : Int))) = false := by rw [beq_eq_false_iff_ne]; omega
        go_wp2
        go_quiet (fail)
        go_wp2
        go_quiet (fail)
        go_wp2
        go_step3
        rw [← HQ.out]
        exact ⟨⟨rfl, rfl, rfl, rfl, rfl⟩, Or.inl ⟨rfl, j + 1, (X.out.drew _).step hp hj, by rw [hls]; exact HN.out⟩⟩
    | @note K R _ _ _ _ hK hN2 =>
      obtain ⟨hj, hlc, hls⟩ := drop_cons hS
      have hjs : j < (tx l).size := by rw [tx_size]; exact hj
      have hjI : (j : Int) < ((tx l).size : Int) := by omega
      have hjJ : (j : Int) ≤ ((tx l).size : Int) := by omega
      have hcx : (tx l)[j]'hjs = 47 := by rw [tx_at]; exact hlc
      have e32 : ((((tx l)[j]'hjs).toNat : Int) == 32) = false := by rw [hcx]; rfl
      have e9 : ((((tx l)[j]'hjs).toNat : Int) == 9) = false := by rw [hcx]; rfl
      have e13 : ((((tx l)[j]'hjs).toNat : Int) == 13) = false := by rw [hcx]; rfl
      have e10 : ((((tx l)[j]'hjs).toNat : Int) == 10) = false := by rw [hcx]; rfl
      have e40 : ((((tx l)[j]'hjs).toNat : Int) == 40) = false := by rw [hcx]; rfl
      have e41 : ((((tx l)[j]'hjs).toNat : Int) == 41) = false := by rw [hcx]; rfl
      have HN := Lib.hid hN2
      have HP := Lib.hid (pre_call l j true (by rw [hS]; exact pre_note _))
      have hjne : (((j : Int) == ((tx l).size : Int))) = false := by rw [beq_eq_false_iff_ne]; omega
      go_wp2
      go_quiet (fail)
      go_wp2
      go_quiet (fail)
      go_wp2
      go_quiet ((go_at_call 37; refine (HP.out _).mono ?_; rintro e w2 ⟨rfl, rfl⟩; exact ⟨rfl, _, rfl⟩))
      go_wp2
      go_step3
      rw [← HQ.out]
      exact ⟨⟨rfl, rfl, rfl, rfl, rfl⟩, Or.inr (Or.inl ⟨rfl, j, 47 :: 47 :: K, R, (X.out.drew _).drew _, hS, by simpa using hK, HN.out⟩)⟩
    | @ends R =>
      obtain ⟨hj, hlc, hls⟩ := drop_cons hS
      have hjs : j < (tx l).size := by rw [tx_size]; exact hj
      have hjI : (j : Int) < ((tx l).size : Int) := by omega
      have hjJ : (j : Int) ≤ ((tx l).size : Int) := by omega
      have hcx : (tx l)[j]'hjs = 10 := by rw [tx_at]; exact hlc
      have e32 : ((((tx l)[j]'hjs).toNat : Int) == 32) = false := by rw [hcx]; rfl
      have e9 : ((((tx l)[j]'hjs).toNat : Int) == 9) = false := by rw [hcx]; rfl
      have e13 : ((((tx l)[j]'hjs).toNat : Int) == 13) = false := by rw [hcx]; rfl
      have e10 : ((((tx l)[j]'hjs).toNat : Int) == 10) = true := by rw [hcx]; rfl
      have hjne : (((j : Int) == ((tx l).size : Int))) = false := by rw [beq_eq_false_iff_ne]; omega
      go_wp2
      go_quiet (fail)
      go_wp2
      go_quiet (fail)
      go_wp2
      rw [← HQ.out]
      simp only [jumpsE]
      exact next_leaf (k := 3) (x := []) (n0 := n) hp ((((X.out.drew _).vx.pos hp).line hp).tok hp 0 _) hj hls _ rfl rfl
    | @opens R =>
      obtain ⟨hj, hlc, hls⟩ := drop_cons hS
      have hjs : j < (tx l).size := by rw [tx_size]; exact hj
      have hjI : (j : Int) < ((tx l).size : Int) := by omega
      have hjJ : (j : Int) ≤ ((tx l).size : Int) := by omega
      have hcx : (tx l)[j]'hjs = 40 := by rw [tx_at]; exact hlc
      have e32 : ((((tx l)[j]'hjs).toNat : Int) == 32) = false := by rw [hcx]; rfl
      have e9 : ((((tx l)[j]'hjs).toNat : Int) == 9) = false := by rw [hcx]; rfl
      have e13 : ((((tx l)[j]'hjs).toNat : Int) == 13) = false := by rw [hcx]; rfl
      have e10 : ((((tx l)[j]'hjs).toNat : Int) == 10) = false := by rw [hcx]; rfl
      have e40 : ((((tx l)[j]'hjs).toNat : Int) == 40) = true := by rw [hcx]; rfl
      have hjne : (((j : Int) == ((tx l).size : Int))) = false := by rw [beq_eq_false_iff_ne]; omega
      go_wp2
      go_quiet (fail)
      go_wp2
      go_quiet (fail)
      go_wp2
      rw [← HQ.out]
      simp only [jumpsE]
      exact next_leaf (k := 1) (x := []) (n0 := n) hp (((X.out.drew _).vx.pos hp).tok hp 0 _) hj hls _ rfl rfl
    | @shuts R =>
      obtain ⟨hj, hlc, hls⟩ := drop_cons hS
      have hjs : j < (tx l).size := by rw [tx_size]; exact hj
      have hjI : (j : Int) < ((tx l).size : Int) := by omega
      have hjJ : (j : Int) ≤ ((tx l).size : Int) := by omega
      have hcx : (tx l)[j]'hjs = 41 := by rw [tx_at]; exact hlc
      have e32 : ((((tx l)[j]'hjs).toNat : Int) == 32) = false := by rw [hcx]; rfl
      have e9 : ((((tx l)[j]'hjs).toNat : Int) == 9) = false := by rw [hcx]; rfl
      have e13 : ((((tx l)[j]'hjs).toNat : Int) == 13) = false := by rw [hcx]; rfl
      have e10 : ((((tx l)[j]'hjs).toNat : Int) == 10) = false := by rw [hcx]; rfl
      have e40 : ((((tx l)[j]'hjs).toNat : Int) == 40) = false := by rw [hcx]; rfl
      have e41 : ((((tx l)[j]'hjs).toNat : Int) == 41) = true := by rw [hcx]; rfl
      have hjne : (((j : Int) == ((tx l).size : Int))) = false := by rw [beq_eq_false_iff_ne]; omega
      go_wp2
      go_quiet (fail)
      go_wp2
      go_quiet (fail)
      go_wp2
      rw [← HQ.out]
      simp only [jumpsE]
      exact next_leaf (k := 2) (x := []) (n0 := n) hp (((X.out.drew _).vx.pos hp).tok hp 0 _) hj hls _ rfl rfl
    | whole =>
      have hjw : j = l.length := by have := List.drop_eq_nil_iff.1 hS; omega
      have hjt : (j : Int) = ((tx l).size : Int) := by rw [tx_size, hjw]
      go_wp2
      go_quiet (fail)
      go_wp2
      rw [← HQ.out]
      simp only [jumpsE]
      exact next_leaf (k := 4) (x := []) (n0 := n) hp ((X.out.drew _).vx.tok hp 0 _) hjl hS _ rfl rfl
    | @word _ r R h0 hs hd hr =>
      obtain ⟨c, W0, hW0⟩ : ∃ c W0, t = c :: W0 := by cases t with | nil => exact absurd rfl h0 | cons c W0 => exact ⟨c, W0, rfl⟩
      have hS2 := hS
      rw [hW0] at hS
      obtain ⟨hj, hlc, hls⟩ := drop_cons hS
      have hjs : j < (tx l).size := by rw [tx_size]; exact hj
      have hjI : (j : Int) < ((tx l).size : Int) := by omega
      have hjJ : (j : Int) ≤ ((tx l).size : Int) := by omega
      have hcx : (tx l)[j]'hjs = c := by rw [tx_at]; exact hlc
      obtain ⟨n32, n9, n13, n10, n40, n41, n34, n96⟩ := stop_ne (hs c (by rw [hW0]; simp))
      have e32 : ((c.toNat : Int) == 32) = false := by rw [beq_eq_false_iff_ne]; omega
      have e9 : ((c.toNat : Int) == 9) = false := by rw [beq_eq_false_iff_ne]; omega
      have e13 : ((c.toNat : Int) == 13) = false := by rw [beq_eq_false_iff_ne]; omega
      have e10 : ((c.toNat : Int) == 10) = false := by rw [beq_eq_false_iff_ne]; omega
      have e40 : ((c.toNat : Int) == 40) = false := by rw [beq_eq_false_iff_ne]; omega
      have e41 : ((c.toNat : Int) == 41) = false := by rw [beq_eq_false_iff_ne]; omega
      have e34 : ((c.toNat : Int) == 34) = false := by rw [beq_eq_false_iff_ne]; omega
      have e96 : ((c.toNat : Int) == 96) = false := by rw [beq_eq_false_iff_ne]; omega
      have HP := Lib.hid (pre_call l j false (by rw [hS2]; exact pre_word (A := []) hd h0 hr))
      have HW := Lib.hid (And.intro h0 (And.intro hs (And.intro hd (And.intro hr hS2))))
      clear h0 hs hd hr hS hS2 hW0 n32 n9 n13 n10 n40 n41 n34 n96 hlc hls
      have hjne : (((j : Int) == ((tx l).size : Int))) = false := by rw [beq_eq_false_iff_ne]; omega
      go_wp2
      go_quiet (fail)
      go_wp2
      go_quiet (fail)
      go_wp2
      go_quiet ((go_at_call 37; refine (HP.out _).mono ?_; rintro e w2 ⟨rfl, rfl⟩; exact ⟨rfl, _, rfl⟩))
      go_wp2
      go_step3
      rw [← HQ.out]
      exact ⟨⟨rfl, rfl, rfl, rfl, rfl⟩, Or.inr (Or.inr ⟨rfl, j, j, r, R, X.out.drew _, rfl, by simp, by simp, rfl, Nat.le_refl _, Nat.le_add_right _ _, HW.out.2.2.2.2, HW.out.2.1, HW.out.2.2.1, HW.out.2.2.2.1⟩)⟩
  · intro lb a1 W hJ
    clear c0 c1 c2 f0 f1 f2 H HCL
    obtain ⟨⟨hsz1, hdf, g0, g2, g5⟩, hJ⟩ := hJ
    rcases hJ with ⟨rfl, j, hx, hN⟩ | ⟨rfl, j, K, R, hx, hS, hK, hN⟩ | ⟨rfl, j, f, r, R, hx, g4, rfl, rfl, rfl, hfj, hjf, hfl, hst, hdb, hr⟩
    · refine ⟨_, rfl, ?_⟩
      obtain ⟨u, hu, rfl⟩ := frame281 a1 hsz1 hdf
      rw [← hu] at g0 g2 g5
      simp only [g0, g2, g5]
      clear hsz1 hdf hu g0 g2 g5
      go_hide hQ
      have HQ := Lib.hid hQ
      clear hQ
      go_wp2
      obtain ⟨c0, c1, c2, f0, f1, f2⟩ := rows3 (show W.heap[p]? = some (.cells #[.string (tx l), .int .i64 (j : Int), .int .i64 (n : Int)] 54 (0, 0)) from hx.cell)
      obtain ⟨r0, r1, r2, fr0, fr1, fr2⟩ := rows3 hx.res
      obtain ⟨t0, t1, t2, ft0, ft1, ft2⟩ := rows3 (show W.heap[w.heap.size + 1]? = some (.cells #[.int .i64 0, .string ⟨#[]⟩, .int .i64 (n : Int)] 57 (0, 0)) from hx.tok)
      have X := Lib.hid hx
      have hjl := hx.le
      clear hx
      obtain ⟨S, hS⟩ : ∃ S, l.drop j = S := ⟨_, rfl⟩
      rw [hS] at hN
      cases hN with
      | @blank c S0 _ _ _ _ hcc hN2 =>
        obtain ⟨hj, hlc, hls⟩ := drop_cons hS
        have hjs : j < (tx l).size := by rw [tx_size]; exact hj
        have hjI : (j : Int) < ((tx l).size : Int) := by omega
        have hjJ : (j : Int) ≤ ((tx l).size : Int) := by omega
        have hcx : (tx l)[j]'hjs = c := by rw [tx_at]; exact hlc
        have HN := Lib.hid hN2
        rcases hcc with rfl | rfl | rfl
        · have e32 : ((((tx l)[j]'hjs).toNat : Int) == 32) = true := by rw [hcx]; rfl
          have hjne : (((j : Int) == ((tx l).size : Int))) = false := by rw [beq_eq_false_iff_ne]; omega
          go_wp2
          go_quiet (fail)
          go_wp2
          go_quiet (fail)
          go_wp2
          go_step3
          rw [← HQ.out]
          exact ⟨⟨⟨rfl, rfl, rfl, rfl, rfl⟩, Or.inl ⟨rfl, j + 1, (X.out.drew _).step hp hj, by rw [hls]; exact HN.out⟩⟩, by rw [nm0 ((X.out.drew _).step hp hj), nm0 X.out]; omega⟩
        · have e32 : ((((tx l)[j]'hjs).toNat : Int) == 32) = false := by rw [hcx]; rfl
          have e9 : ((((tx l)[j]'hjs).toNat : Int) == 9) = true := by rw [hcx]; rfl
          have hjne : (((j : Int) == ((tx l).size : Int))) = false := by rw [beq_eq_false_iff_ne]; omega
          go_wp2
          go_quiet (fail)
          go_wp2
          go_quiet (fail)
          go_wp2
          go_step3
          rw [← HQ.out]
          exact ⟨⟨⟨rfl, rfl, rfl, rfl, rfl⟩, Or.inl ⟨rfl, j + 1, (X.out.drew _).step hp hj, by rw [hls]; exact HN.out⟩⟩, by rw [nm0 ((X.out.drew _).step hp hj), nm0 X.out]; omega⟩
        · have e32 : ((((tx l)[j]'hjs).toNat : Int) == 32) = false := by rw [hcx]; rfl
          have e9 : ((((tx l)[j]'hjs).toNat : Int) == 9) = false := by rw [hcx]; rfl
          have e13 : ((((tx l)[j]'hjs).toNat : Int) == 13) = true := by rw [hcx]; rfl
          have hjne : (((j : Int) == ((tx l).size : Int))) = false := by rw [beq_eq_false_iff_ne]; omega
          go_wp2
          go_quiet (fail)
          go_wp2
          go_quiet (fail)
          go_wp2
          go_step3
          rw [← HQ.out]
          exact ⟨⟨⟨rfl, rfl, rfl, rfl, rfl⟩, Or.inl ⟨rfl, j + 1, (X.out.drew _).step hp hj, by rw [hls]; exact HN.out⟩⟩, by rw [nm0 ((X.out.drew _).step hp hj), nm0 X.out]; omega⟩
      | @note K R _ _ _ _ hK hN2 =>
        obtain ⟨hj, hlc, hls⟩ := drop_cons hS
        have hjs : j < (tx l).size := by rw [tx_size]; exact hj
        have hjI : (j : Int) < ((tx l).size : Int) := by omega
        have hjJ : (j : Int) ≤ ((tx l).size : Int) := by omega
        have hcx : (tx l)[j]'hjs = 47 := by rw [tx_at]; exact hlc
        have e32 : ((((tx l)[j]'hjs).toNat : Int) == 32) = false := by rw [hcx]; rfl
        have e9 : ((((tx l)[j]'hjs).toNat : Int) == 9) = false := by rw [hcx]; rfl
        have e13 : ((((tx l)[j]'hjs).toNat : Int) == 13) = false := by rw [hcx]; rfl
        have e10 : ((((tx l)[j]'hjs).toNat : Int) == 10) = false := by rw [hcx]; rfl
        have e40 : ((((tx l)[j]'hjs).toNat : Int) == 40) = false := by rw [hcx]; rfl
        have e41 : ((((tx l)[j]'hjs).toNat : Int) == 41) = false := by rw [hcx]; rfl
        have HN := Lib.hid hN2
        have HP := Lib.hid (pre_call l j true (by rw [hS]; exact pre_note _))
        have hjne : (((j : Int) == ((tx l).size : Int))) = false := by rw [beq_eq_false_iff_ne]; omega
        go_wp2
        go_quiet (fail)
        go_wp2
        go_quiet (fail)
        go_wp2
        go_quiet ((go_at_call 37; refine (HP.out _).mono ?_; rintro e w2 ⟨rfl, rfl⟩; exact ⟨rfl, _, rfl⟩))
        go_wp2
        go_step3
        rw [← HQ.out]
        exact ⟨⟨⟨rfl, rfl, rfl, rfl, rfl⟩, Or.inr (Or.inl ⟨rfl, j, 47 :: 47 :: K, R, (X.out.drew _).drew _, hS, by simpa using hK, HN.out⟩)⟩, by rw [nm1b ((X.out.drew _).drew _) (by rw [List.getElem?_eq_getElem hj, hlc]; decide), nm0 X.out]; omega⟩
      | @ends R =>
        obtain ⟨hj, hlc, hls⟩ := drop_cons hS
        have hjs : j < (tx l).size := by rw [tx_size]; exact hj
        have hjI : (j : Int) < ((tx l).size : Int) := by omega
        have hjJ : (j : Int) ≤ ((tx l).size : Int) := by omega
        have hcx : (tx l)[j]'hjs = 10 := by rw [tx_at]; exact hlc
        have e32 : ((((tx l)[j]'hjs).toNat : Int) == 32) = false := by rw [hcx]; rfl
        have e9 : ((((tx l)[j]'hjs).toNat : Int) == 9) = false := by rw [hcx]; rfl
        have e13 : ((((tx l)[j]'hjs).toNat : Int) == 13) = false := by rw [hcx]; rfl
        have e10 : ((((tx l)[j]'hjs).toNat : Int) == 10) = true := by rw [hcx]; rfl
        have hjne : (((j : Int) == ((tx l).size : Int))) = false := by rw [beq_eq_false_iff_ne]; omega
        go_wp2
        go_quiet (fail)
        go_wp2
        go_quiet (fail)
        go_wp2
        rw [← HQ.out]
        simp only [jumpsE]
        exact next_leaf (k := 3) (x := []) (n0 := n) hp ((((X.out.drew _).vx.pos hp).line hp).tok hp 0 _) hj hls _ rfl rfl
      | @opens R =>
        obtain ⟨hj, hlc, hls⟩ := drop_cons hS
        have hjs : j < (tx l).size := by rw [tx_size]; exact hj
        have hjI : (j : Int) < ((tx l).size : Int) := by omega
        have hjJ : (j : Int) ≤ ((tx l).size : Int) := by omega
        have hcx : (tx l)[j]'hjs = 40 := by rw [tx_at]; exact hlc
        have e32 : ((((tx l)[j]'hjs).toNat : Int) == 32) = false := by rw [hcx]; rfl
        have e9 : ((((tx l)[j]'hjs).toNat : Int) == 9) = false := by rw [hcx]; rfl
        have e13 : ((((tx l)[j]'hjs).toNat : Int) == 13) = false := by rw [hcx]; rfl
        have e10 : ((((tx l)[j]'hjs).toNat : Int) == 10) = false := by rw [hcx]; rfl
        have e40 : ((((tx l)[j]'hjs).toNat : Int) == 40) = true := by rw [hcx]; rfl
        have hjne : (((j : Int) == ((tx l).size : Int))) = false := by rw [beq_eq_false_iff_ne]; omega
        go_wp2
        go_quiet (fail)
        go_wp2
        go_quiet (fail)
        go_wp2
        rw [← HQ.out]
        simp only [jumpsE]
        exact next_leaf (k := 1) (x := []) (n0 := n) hp (((X.out.drew _).vx.pos hp).tok hp 0 _) hj hls _ rfl rfl
      | @shuts R =>
        obtain ⟨hj, hlc, hls⟩ := drop_cons hS
        have hjs : j < (tx l).size := by rw [tx_size]; exact hj
        have hjI : (j : Int) < ((tx l).size : Int) := by omega
        have hjJ : (j : Int) ≤ ((tx l).size : Int) := by omega
        have hcx : (tx l)[j]'hjs = 41 := by rw [tx_at]; exact hlc
        have e32 : ((((tx l)[j]'hjs).toNat : Int) == 32) = false := by rw [hcx]; rfl
        have e9 : ((((tx l)[j]'hjs).toNat : Int) == 9) = false := by rw [hcx]; rfl
        have e13 : ((((tx l)[j]'hjs).toNat : Int) == 13) = false := by rw [hcx]; rfl
        have e10 : ((((tx l)[j]'hjs).toNat : Int) == 10) = false := by rw [hcx]; rfl
        have e40 : ((((tx l)[j]'hjs).toNat : Int) == 40) = false := by rw [hcx]; rfl
        have e41 : ((((tx l)[j]'hjs).toNat : Int) == 41) = true := by rw [hcx]; rfl
        have hjne : (((j : Int) == ((tx l).size : Int))) = false := by rw [beq_eq_false_iff_ne]; omega
        go_wp2
        go_quiet (fail)
        go_wp2
        go_quiet (fail)
        go_wp2
        rw [← HQ.out]
        simp only [jumpsE]
        exact next_leaf (k := 2) (x := []) (n0 := n) hp (((X.out.drew _).vx.pos hp).tok hp 0 _) hj hls _ rfl rfl
      | whole =>
        have hjw : j = l.length := by have := List.drop_eq_nil_iff.1 hS; omega
        have hjt : (j : Int) = ((tx l).size : Int) := by rw [tx_size, hjw]
        go_wp2
        go_quiet (fail)
        go_wp2
        rw [← HQ.out]
        simp only [jumpsE]
        exact next_leaf (k := 4) (x := []) (n0 := n) hp ((X.out.drew _).vx.tok hp 0 _) hjl hS _ rfl rfl
      | @word _ r R h0 hs hd hr =>
        obtain ⟨c, W0, hW0⟩ : ∃ c W0, t = c :: W0 := by cases t with | nil => exact absurd rfl h0 | cons c W0 => exact ⟨c, W0, rfl⟩
        have hS2 := hS
        rw [hW0] at hS
        obtain ⟨hj, hlc, hls⟩ := drop_cons hS
        have hjs : j < (tx l).size := by rw [tx_size]; exact hj
        have hjI : (j : Int) < ((tx l).size : Int) := by omega
        have hjJ : (j : Int) ≤ ((tx l).size : Int) := by omega
        have hcx : (tx l)[j]'hjs = c := by rw [tx_at]; exact hlc
        obtain ⟨n32, n9, n13, n10, n40, n41, n34, n96⟩ := stop_ne (hs c (by rw [hW0]; simp))
        have e32 : ((c.toNat : Int) == 32) = false := by rw [beq_eq_false_iff_ne]; omega
        have e9 : ((c.toNat : Int) == 9) = false := by rw [beq_eq_false_iff_ne]; omega
        have e13 : ((c.toNat : Int) == 13) = false := by rw [beq_eq_false_iff_ne]; omega
        have e10 : ((c.toNat : Int) == 10) = false := by rw [beq_eq_false_iff_ne]; omega
        have e40 : ((c.toNat : Int) == 40) = false := by rw [beq_eq_false_iff_ne]; omega
        have e41 : ((c.toNat : Int) == 41) = false := by rw [beq_eq_false_iff_ne]; omega
        have e34 : ((c.toNat : Int) == 34) = false := by rw [beq_eq_false_iff_ne]; omega
        have e96 : ((c.toNat : Int) == 96) = false := by rw [beq_eq_false_iff_ne]; omega
        have HP := Lib.hid (pre_call l j false (by rw [hS2]; exact pre_word (A := []) hd h0 hr))
        have HW := Lib.hid (And.intro h0 (And.intro hs (And.intro hd (And.intro hr hS2))))
        clear h0 hs hd hr hS hS2 hW0 n32 n9 n13 n10 n40 n41 n34 n96 hlc hls
        have hjne : (((j : Int) == ((tx l).size : Int))) = false := by rw [beq_eq_false_iff_ne]; omega
        go_wp2
        go_quiet (fail)
        go_wp2
        go_quiet (fail)
        go_wp2
        go_quiet ((go_at_call 37; refine (HP.out _).mono ?_; rintro e w2 ⟨rfl, rfl⟩; exact ⟨rfl, _, rfl⟩))
        go_wp2
        go_step3
        rw [← HQ.out]
        exact ⟨⟨⟨rfl, rfl, rfl, rfl, rfl⟩, Or.inr (Or.inr ⟨rfl, j, j, r, R, X.out.drew _, rfl, by simp, by simp, rfl, Nat.le_refl _, Nat.le_add_right _ _, HW.out.2.2.2.2, HW.out.2.1, HW.out.2.2.1, HW.out.2.2.2.1⟩)⟩, by rw [nm3 (X.out.drew _), nm0 X.out]; omega⟩
    · refine ⟨_, rfl, ?_⟩
      obtain ⟨u, hu, rfl⟩ := frame281 a1 hsz1 hdf
      rw [← hu] at g0 g2 g5
      simp only [g0, g2, g5]
      clear hsz1 hdf hu g0 g2 g5
      go_hide hQ
      have HQ := Lib.hid hQ
      clear hQ
      obtain ⟨c0, c1, c2, f0, f1, f2⟩ := rows3 (show W.heap[p]? = some (.cells #[.string (tx l), .int .i64 (j : Int), .int .i64 (n : Int)] 54 (0, 0)) from hx.cell)
      obtain ⟨r0, r1, r2, fr0, fr1, fr2⟩ := rows3 hx.res
      obtain ⟨t0, t1, t2, ft0, ft1, ft2⟩ := rows3 (show W.heap[w.heap.size + 1]? = some (.cells #[.int .i64 0, .string ⟨#[]⟩, .int .i64 (n : Int)] 57 (0, 0)) from hx.tok)
      have X := Lib.hid hx
      have hjl := hx.le
      clear hx
      have HN := Lib.hid hN
      clear hN
      cases K with
      | nil =>
        rw [List.nil_append] at hS
        obtain ⟨hj, hlc, hls⟩ := drop_cons hS
        have hjs : j < (tx l).size := by rw [tx_size]; exact hj
        have hjI : (j : Int) < ((tx l).size : Int) := by omega
        have hjJ : (j : Int) ≤ ((tx l).size : Int) := by omega
        have hcx : (tx l)[j]'hjs = 10 := by rw [tx_at]; exact hlc
        go_wp2
        go_quiet (fail)
        go_wp2
        go_step3
        rw [← HQ.out]
        exact ⟨⟨⟨rfl, rfl, rfl, rfl, rfl⟩, Or.inl ⟨rfl, j, X.out.drew _, by rw [hS]; exact HN.out⟩⟩, by rw [nm0 (X.out.drew _), nm1a X.out (by rw [List.getElem?_eq_getElem hj, hlc])]; omega⟩
      | cons c K =>
        rw [List.cons_append] at hS
        obtain ⟨hj, hlc, hls⟩ := drop_cons hS
        have hjs : j < (tx l).size := by rw [tx_size]; exact hj
        have hjI : (j : Int) < ((tx l).size : Int) := by omega
        have hjJ : (j : Int) ≤ ((tx l).size : Int) := by omega
        have hcx : (tx l)[j]'hjs = c := by rw [tx_at]; exact hlc
        have hc10 : c ≠ 10 := fun e => hK (by rw [e]; simp)
        have e10 : ((c.toNat : Int) != 10) = true := by rw [bne_iff_ne]; intro e; exact hc10 (UInt8.toNat_inj.1 (by show c.toNat = 10; omega))
        go_wp2
        go_quiet (fail)
        go_wp2
        go_step3
        rw [← HQ.out]
        exact ⟨⟨⟨rfl, rfl, rfl, rfl, rfl⟩, Or.inr (Or.inl ⟨rfl, j + 1, K, R, (X.out.drew _).step hp hj, hls, fun h => hK (List.mem_cons_of_mem _ h), HN.out⟩)⟩, Nat.lt_of_le_of_lt (nm1 ((X.out.drew _).step hp hj)) (by rw [nm1b X.out (by rw [List.getElem?_eq_getElem hj, hlc]; intro e; exact hc10 (Option.some.inj e))]; omega)⟩
    · refine ⟨_, rfl, ?_⟩
      obtain ⟨u, hu, rfl⟩ := frame281 a1 hsz1 hdf
      rw [← hu] at g0 g2 g5 g4
      simp only [g0, g2, g5, g4]
      clear hsz1 hdf hu g0 g2 g5 g4
      go_hide hQ
      have HQ := Lib.hid hQ
      clear hQ
      obtain ⟨c0, c1, c2, f0, f1, f2⟩ := rows3 (show W.heap[p]? = some (.cells #[.string (tx l), .int .i64 (j : Int), .int .i64 (n : Int)] 54 (0, 0)) from hx.cell)
      obtain ⟨r0, r1, r2, fr0, fr1, fr2⟩ := rows3 hx.res
      obtain ⟨t0, t1, t2, ft0, ft1, ft2⟩ := rows3 (show W.heap[w.heap.size + 1]? = some (.cells #[.int .i64 0, .string ⟨#[]⟩, .int .i64 (n : Int)] 57 (0, 0)) from hx.tok)
      have X := Lib.hid hx
      have hjl := hx.le
      clear hx
      have HF := Lib.hid hfl
      have HS := Lib.hid hst
      have HD := Lib.hid hdb
      by_cases hlt : j < f + t.length
      · obtain ⟨A, B, hAB, hA⟩ : ∃ A B, t = A ++ B ∧ A.length = j - f := ⟨t.take (j - f), t.drop (j - f), (List.take_append_drop _ _).symm, by rw [List.length_take]; omega⟩
        have hB : B ≠ [] := fun e => by rw [e, List.append_nil] at hAB; rw [hAB] at hlt; omega
        have hS : l.drop j = B ++ r :: R := by rw [show j = f + A.length by omega, ← List.drop_drop, hfl, hAB, List.append_assoc, List.drop_left]
        obtain ⟨c, B0, rfl⟩ : ∃ c B0, B = c :: B0 := by cases B with | nil => exact absurd rfl hB | cons c B0 => exact ⟨c, B0, rfl⟩
        have HP := Lib.hid (pre_call l j false (by rw [hS]; exact pre_word (A := A) (by rw [← hAB]; exact hdb) hB hr))
        have hsc : stopC c = false := hst c (by rw [hAB]; simp)
        rw [List.cons_append] at hS
        obtain ⟨hj, hlc, hls⟩ := drop_cons hS
        have hjs : j < (tx l).size := by rw [tx_size]; exact hj
        have hjI : (j : Int) < ((tx l).size : Int) := by omega
        have hjJ : (j : Int) ≤ ((tx l).size : Int) := by omega
        have hcx : (tx l)[j]'hjs = c := by rw [tx_at]; exact hlc
        have HI := Lib.hid (stop_call c)
        have hz0 := stop_ix c
        rw [hsc] at hz0
        generalize Lib.indexByte [32, 9, 13, 10, 40, 41, 34, 96] c = z at HI hz0
        have hz1 : z < 0 := by have := of_decide_eq_false hz0.symm; omega
        clear hz0 hsc hst hdb hfl hAB hB hS
        go_wp2
        go_quiet (first | (go_at_call 39; refine (HI.out _).mono ?_; rintro e w2 ⟨rfl, rfl⟩; exact ⟨rfl, _, rfl⟩) | (go_at_call 37; refine (HP.out _).mono ?_; rintro e w2 ⟨rfl, rfl⟩; exact ⟨rfl, _, rfl⟩))
        go_wp2
        go_step3
        rw [← HQ.out]
        exact ⟨⟨⟨rfl, rfl, rfl, rfl, rfl⟩, Or.inr (Or.inr ⟨rfl, j + 1, f, r, R, (X.out.drew _).step hp hj, rfl, by simp, by simp, rfl, by omega, by omega, HF.out, HS.out, HD.out, hr⟩)⟩, by rw [nm3 ((X.out.drew _).step hp hj), nm3 X.out]; omega⟩
      · have hje : j = f + t.length := by omega
        have hS : l.drop j = r :: R := by rw [hje, ← List.drop_drop, hfl, List.drop_left]
        obtain ⟨hj, hlc, hls⟩ := drop_cons hS
        have hjs : j < (tx l).size := by rw [tx_size]; exact hj
        have hjI : (j : Int) < ((tx l).size : Int) := by omega
        have hjJ : (j : Int) ≤ ((tx l).size : Int) := by omega
        have hcx : (tx l)[j]'hjs = r := by rw [tx_at]; exact hlc
        have HI := Lib.hid (stop_call r)
        have hz0 := stop_ix r
        rw [hr] at hz0
        generalize Lib.indexByte [32, 9, 13, 10, 40, 41, 34, 96] r = z at HI hz0
        have hz1 : decide (z < 0) = false := by have := of_decide_eq_true hz0.symm; rw [decide_eq_false_iff_not]; omega
        have hz2 : ¬ z < 0 := of_decide_eq_false hz1
        have hex : (tx l).extract f j = tx t := by rw [tx_extract, hje, List.drop_take, hfl]; simp
        have hfI : (f : Int) ≤ (j : Int) := by omega
        have hf0 : (f : Int) ≤ ((tx l).size : Int) := by omega
        have HJE := Lib.hid hje
        clear hz0 hst hdb hfl hr hje hlt hjf
        go_wp2
        go_quiet (first | (go_at_call 39; refine (HI.out _).mono ?_; rintro e w2 ⟨rfl, rfl⟩; exact ⟨rfl, _, rfl⟩))
        go_wp2
        go_region
        go_wp2
        rw [← HQ.out]
        simp only [jumpsE]
        exact next_leaf (k := 0) (x := t) (n0 := n) hp ((X.out.drew _).vx.tok hp 1 _) hjl hS _ rfl rfl
end Go.Proofs.YtgojmckfabhkaaaDoor.Sem
