/- A SUM THAT IS BEING ADDED UP, AS WHAT LIES IN MEMORY: its block, the row of its words; what stays as it was. No program walked. No conditions. -/
import Derived.Test.YtdhafmjhohnclaaShaEat
import Derived.Test.YtdhafmjhohnclaaShaTab
import Derived.Deep.AppendLies
import Derived.Test.YtdhafmjhohnclaaBytes
namespace Go.Proofs.Ytdhafmjhohnclaa
open Go.RowKit Sums
set_option linter.unusedVariables false

/-- Of all blocks but b and the row nothing has turned. -/
structure Kb (b : Nat) (row : Option Nat) (w w' : World) : Prop where
  os : w'.os = w.os
  tape : w'.tape = w.tape
  output : w'.output = w.output
  size : w.heap.size ≤ w'.heap.size
  block : ∀ k, k < w.heap.size → k ≠ b → some k ≠ row → w'.heap[k]? = w.heap[k]?
theorem kb_refl (b : Nat) (row : Option Nat) (w : World) : Kb b row w w := ⟨rfl, rfl, rfl, Nat.le_refl _, fun _ _ _ _ => rfl⟩
theorem kb_trans {b : Nat} {row : Option Nat} {w w1 w2 : World} (h : Kb b row w w1) (k : Kb b row w1 w2) : Kb b row w w2 :=
  ⟨k.os.trans h.os, k.tape.trans h.tape, k.output.trans h.output, Nat.le_trans h.size k.size, fun i hi hb hr => (k.block i (Nat.lt_of_lt_of_le hi h.size) hb hr).trans (h.block i hi hb hr)⟩
theorem kb_new {b g : Nat} {row : Option Nat} {w w1 w2 : World} (h : Kb b row w w1) (hg : row = some g ∨ w.heap.size ≤ g) (k : Kb b (some g) w1 w2) : Kb b row w w2 :=
  ⟨k.os.trans h.os, k.tape.trans h.tape, k.output.trans h.output, Nat.le_trans h.size k.size, fun i hi hb hr => (k.block i (Nat.lt_of_lt_of_le hi h.size) hb (fun e => by
    cases e
    rcases hg with rfl | hg
    · exact hr rfl
    · omega)).trans (h.block i hi hb hr)⟩
theorem kb_drew {b : Nat} {row : Option Nat} {w w1 : World} (h : Kb b row w w1) : Kb b row w w1.drew := ⟨h.os, h.tape, h.output, h.size, h.block⟩
theorem kb_drewN {b : Nat} {row : Option Nat} {w w1 : World} (h : Kb b row w w1) (n : Nat) : Kb b row w (w1.drewN n) := ⟨h.os, h.tape, h.output, h.size, h.block⟩
theorem kb_setB {b : Nat} {row : Option Nat} {w w1 : World} (h : Kb b row w w1) (o : Nat) (v : Value) : Kb b row w (w1.setCell ⟨b, o, none⟩ v) :=
  ⟨h.os, h.tape, h.output, by simpa [World.setCell] using h.size, fun k hk hb hr => (Below.heap_setCell _ _ _ _ hb).trans (h.block k hk hb hr)⟩
theorem kb_setR {b g : Nat} {w w1 : World} (h : Kb b (some g) w w1) (o : Nat) (v : Value) : Kb b (some g) w (w1.setCell ⟨g, o, none⟩ v) :=
  ⟨h.os, h.tape, h.output, by simpa [World.setCell] using h.size, fun k hk hb hr => (Below.heap_setCell _ _ _ _ (fun e => hr (by simp [e]))).trans (h.block k hk hb hr)⟩
theorem kb_gb {b : Nat} {row : Option Nat} {w w1 w2 : World} (h : Kb b row w w1) (k : w1.grownBy w2 none) : Kb b row w w2 :=
  kb_trans h ⟨k.os, k.tape, k.output, k.size, fun i hi _ _ => k.block i hi (by simp)⟩
theorem kb_below {b : Nat} {row : Option Nat} {w w1 w2 : World} (h : Kb b row w w1) (k : Below w1.heap.size w1 w2) : Kb b row w w2 :=
  kb_trans h ⟨k.os, k.tape, k.output, k.size, fun i hi _ _ => k.block i hi⟩
theorem kb_heap {b : Nat} {row : Option Nat} {w w' : World} {k : Nat} {o : Obj} (h : Kb b row w w') (hk : w.heap[k]? = some o) (hb : k ≠ b) (hr : some k ≠ row) : w'.heap[k]? = some o := (h.block k (lt_of_block hk) hb hr).trans hk
/-- Where the block and the row lie behind the first world: the first world's blocks stay. -/
theorem kb_to_below {b B : Nat} {row : Option Nat} {w w1 : World} (k : Kb b row w w1) (hb : B ≤ b) (hs : B ≤ w.heap.size) (hr : ∀ g, row = some g → B ≤ g) : Below B w w1 :=
  ⟨k.os, k.tape, k.output, k.size, fun i hi => k.block i (by omega) (by omega) (fun e => by have := hr i e.symm; omega)⟩

/-- Words as values. -/
def cv (h : List (BitVec 32)) : List Value := h.map (fun x => .int .u32 (x.toNat : Int))
theorem cv_len (h : List (BitVec 32)) : (cv h).length = h.length := by simp [cv]
theorem cv_at (h : List (BitVec 32)) (j : Nat) (hj : j < h.length) : (cv h)[j]? = some (.int .u32 ((at32 h j).toNat : Int)) := by
  unfold cv at32
  rw [List.getElem?_map, List.getD_eq_getElem?_getD, List.getElem?_eq_getElem hj]
  rfl
theorem cv_one (h : List (BitVec 32)) : ∀ u ∈ cv h, u.oneCell' = true := fun u hu => by
  unfold cv at hu
  rw [List.mem_map] at hu
  obtain ⟨x, _, rfl⟩ := hu
  rfl
/-- The row of a sum's words. -/
abbrev rowOf (w : World) (g k cap : Nat) (h : List (BitVec 32)) : Prop := w.ownsRow 0 24 1 (.slice (some ⟨g, 0, none⟩) k cap) k (cv h)
theorem words_of {w : World} {g k cap : Nat} {h : List (BitVec 32)} (hr : rowOf w g k cap h) (hl : h.length = k) : words w g h := fun j hj =>
  ⟨(hr.cellAt j (by omega)).trans (cv_at h j hj), hr.frozenAt j⟩
theorem row_lt {w : World} {g k cap : Nat} {h : List (BitVec 32)} (hr : rowOf w g k cap h) : g < w.heap.size := (hr.lt g rfl).2
theorem row_keep {w w' : World} {g k cap : Nat} {h : List (BitVec 32)} (hr : rowOf w g k cap h) (hh : w'.heap[g]? = w.heap[g]?) : rowOf w' g k cap h := by
  refine ⟨hr.1, ?_⟩
  rcases hr.2 with ⟨h0, _⟩ | ⟨g', cap', cur, hv, hb, hgg, rest⟩
  · cases h0
  · cases hv
    exact .inr ⟨g, cap, cur, rfl, hb, hh.trans hgg, rest⟩
theorem mix_set (a b : List Value) (i : Nat) (v : Value) (ha : a[i]? = some v) (hi : i < b.length) : (a.take i ++ b.drop i).set i v = a.take (i + 1) ++ b.drop (i + 1) := by
  have hla : i < a.length := (List.getElem?_eq_some_iff.1 ha).1
  rw [List.set_append_right _ _ (by simp; omega)]
  rw [List.length_take, Nat.min_eq_left (by omega), Nat.sub_self, List.drop_eq_getElem_cons hi, List.set_cons_zero, List.take_succ_eq_append_getElem hla, List.append_assoc]
  rw [(List.getElem?_eq_some_iff.1 ha).2]
  rfl
theorem row_putW {w : World} {g k cap : Nat} {h x : List (BitVec 32)} (hr : rowOf w g k cap h) (hl : h.length = k) (hx : x.length = k) : ∀ i, i ≤ k → (putW w g x i).ownsRow 0 24 1 (.slice (some ⟨g, 0, none⟩) k cap) k ((cv x).take i ++ (cv h).drop i)
  | 0, _ => by simpa [putW] using hr
  | i + 1, hi => by
    have h1 := (World.ownsRow.stored (row_putW hr hl hx i (by omega)) i (.int .u32 ((at32 x i).toNat : Int))).1
    rw [mix_set _ _ _ _ (cv_at x i (by omega)) (by rw [cv_len]; omega)] at h1
    exact h1
/-- All words are written: the row holds the new ones. -/
theorem row_put {w : World} {g k cap : Nat} {h x : List (BitVec 32)} (hr : rowOf w g k cap h) (hl : h.length = k) (hx : x.length = k) : rowOf (putW w g x k) g k cap x := by
  have h1 := row_putW hr hl hx k (Nat.le_refl _)
  rwa [List.take_of_length_le (by rw [cv_len]; omega), List.drop_of_length_le (by rw [cv_len]; omega), List.append_nil] at h1
theorem kb_putW {b g : Nat} {w w1 : World} (h : Kb b (some g) w w1) (x : List (BitVec 32)) : ∀ i, Kb b (some g) w (putW w1 g x i)
  | 0 => h
  | i + 1 => kb_setR (kb_putW h x i) i _
theorem putW_size (g : Nat) (w : World) (x : List (BitVec 32)) : ∀ i, (putW w g x i).heap.size = w.heap.size
  | 0 => rfl
  | i + 1 => by rw [putW]; simpa [World.setCell] using putW_size g w x i

theorem infoU32 : (Try.prog.info? 24).map (fun i => (i.zero, i.size, i.bytes)) = some (some (.int .u32 0), 1, 4) := by kernel_rfl
/-- 'append(nil, x..)' of words: a new row. -/
theorem run_append_words (w : World) (ty : TypeId) (ad : Addr) (k c : Nat) (x : List (BitVec 32)) (hl : x.length = k) (hk : 0 < k) (hk2 : k ≤ 100) (hn : ∀ j u, (cv x)[j]? = some u → w.cell? (ad.add j) = some u) :
    ∃ g cap w', (Builtin.append_ #[46, 46] ty #[.slice none 0 0, .slice (some ad) k c]).run Try.prog w = .ok (.slice (some ⟨g, 0, none⟩) k cap) w' ∧ rowOf w' g k cap x ∧ w.grownBy w' none ∧ g = w.heap.size ∧ g < w'.heap.size := by
  obtain ⟨i0, hi, hz0, hz1, hz2⟩ := info_parts infoU32
  obtain ⟨g, cap, w', h1, h2, h3, h4, h5⟩ := run_append_lies (P := Try.prog) w 46 ty 0 24 i0 (.int .u32 0) 1 4 Try.underlying46 hi hz0 hz1 hz2 rfl (by decide) (.slice none 0 0) 0 [] (World.ownsRow_nil _ _ _ _) ad k c (cv x) (by rw [cv_len, hl, Nat.mul_one]) hn (cv_one x) hk (by unfold maxLen; omega) (by omega) (Nat.zero_le _) _ rfl
  rw [Nat.zero_add] at h1 h2
  rw [List.nil_append] at h2
  refine ⟨g, cap, w', h1, h2, h3, ?_, h5⟩
  rcases h4 with h4 | h4
  · cases h4
  · exact h4
theorem append_words {ops : Array Oper} {rest : List Oper} {o : Oper} {a : Act} {Q : Exit → Act → World → Prop} (w : World) (hgd : o.guard = none) (s x : Operand)
    (ho : o.op = .call { callee := .builtin .append, args := #[s, x], argTypes := #[46, 46] }) (hs : a.eval s = .slice none 0 0)
    (ad : Addr) (k c : Nat) (l : List (BitVec 32)) (hx : a.eval x = .slice (some ad) k c) (hl : l.length = k) (hk : 0 < k) (hk2 : k ≤ 100) (hn : ∀ j u, (cv l)[j]? = some u → w.cell? (ad.add j) = some u)
    (h : ∀ g cap w', rowOf w' g k cap l → w.grownBy w' none → g = w.heap.size → g < w'.heap.size → wpList Try.prog ops Q rest (a.put o.dst (.slice (some ⟨g, 0, none⟩) k cap)) w') : wpList Try.prog ops Q (o :: rest) a w := by
  obtain ⟨g, cap, w', h1, h2, h3, h4, h5⟩ := run_append_words w o.type ad k c l hl hk hk2 hn
  refine wpList_plain hgd fun _ hK => ?_
  unfold Oper.wp execOp
  simp only [ho, resolve, invoke, builtin, Sem.run_bind, Sem.run_pure, Result.andThen_ok, List.map_toArray, List.map_cons, List.map_nil, hs, hx, h1]
  exact hK _ _ (h g cap w' h2 h3 h4 h5)
theorem step_append_words {ops : Array Oper} {o : Oper} {a : Act} {w : World} {K : Act → World → Prop} {Q : Exit → Act → World → Prop} {E : Prop}
    (hgd : o.guard = none) (s x : Operand) (ho : o.op = Op.call { callee := Callee.builtin Builtin.append, args := #[s, x], argTypes := #[46, 46] }) (hs : a.eval s = .slice none 0 0)
    (ad : Addr) (k c : Nat) (l : List (BitVec 32)) (hx : a.eval x = .slice (some ad) k c) (hl : l.length = k) (hk : 0 < k) (hk2 : k ≤ 100) (hn : ∀ j u, (cv l)[j]? = some u → w.cell? (ad.add j) = some u)
    (hK : ∀ g cap w', rowOf w' g k cap l → w.grownBy w' none → g = w.heap.size → g < w'.heap.size → K (a.put o.dst (.slice (some ⟨g, 0, none⟩) k cap)) w') :
    if Region.wanted o (yielded ops a.tmps) = true then Oper.wp Try.prog o a w K Q else E := by
  have hw : Region.wanted o (yielded ops a.tmps) = true := by simp [Region.wanted, hgd]
  rw [if_pos hw]
  obtain ⟨g, cap, w', h1, h2, h3, h4, h5⟩ := run_append_words w o.type ad k c l hl hk hk2 hn
  have h := hK g cap w' h2 h3 h4 h5
  unfold Oper.wp
  simp [execOp, ho, resolve, invoke, builtin, hs, hx, h1, Result.andThen]
  exact h

/-- What 'append(nil, words...)' makes of a sum's words, nil or not. -/
def Dup (w : World) (A : Option Addr) (k : Nat) (x : List (BitVec 32)) (V : Value) (w' : World) : Prop :=
  (A = none ∧ V = .slice none 0 0 ∧ w' = w) ∨ (A.isSome = true ∧ w.grownBy w' none ∧ ∃ cap, V = .slice (some ⟨w.heap.size, 0, none⟩) k cap ∧ rowOf w' w.heap.size k cap x)
def Src (w : World) (A : Option Addr) (n c k : Nat) (x : List (BitVec 32)) : Prop := (A = none ∧ n = 0 ∧ c = 0) ∨ (∃ g, A = some ⟨g, 0, none⟩ ∧ n = k ∧ rowOf w g k c x)
theorem Src.keep {w w' : World} {n c k : Nat} {A : Option Addr} {x : List (BitVec 32)} (h : Src w A n c k x) (hb : Below w.heap.size w w') : Src w' A n c k x := by
  rcases h with h | ⟨g, h1, h2, h3⟩
  · exact .inl h
  · exact .inr ⟨g, h1, h2, row_keep h3 (hb.block g (row_lt h3))⟩
theorem Dup.below {w w' : World} {A : Option Addr} {k B : Nat} {x : List (BitVec 32)} {V : Value} (h : Dup w A k x V w') (hB : B ≤ w.heap.size) : Below B w w' := by
  rcases h with ⟨_, _, rfl⟩ | ⟨_, hg, _⟩
  · exact Below.refl _ _
  · exact gb_below hg hB (fun _ e => by cases e)
theorem Dup.shape {w w' : World} {A : Option Addr} {k : Nat} {x : List (BitVec 32)} {V : Value} (h : Dup w A k x V w') : ∃ A9 n9 c9, V = .slice A9 n9 c9 := by
  rcases h with ⟨_, h, _⟩ | ⟨_, _, _, h, _⟩ <;> exact ⟨_, _, _, h⟩
theorem Dup.heap {w w' : World} {A : Option Addr} {k b : Nat} {x : List (BitVec 32)} {V : Value} {o : Obj} (h : Dup w A k x V w') (hb : w.heap[b]? = some o) : w'.heap[b]? = some o := (h.below (Nat.le_refl _)).block b (lt_of_block hb) |>.trans hb
theorem Dup.after {w2 w1 w3 : World} {B E : Nat} {A : Option Addr} {k : Nat} {x : List (BitVec 32)} {V : Value} (h : Dup w2 A k x V w1) (hB : B ≤ w2.heap.size) (hE : w2.heap.size < w1.heap.size → w2.heap.size ≠ E) (h3 : ∀ i, i ≠ E → i < w1.heap.size → w3.heap[i]? = w1.heap[i]?) :
    (A = none ∧ V = .slice none 0 0) ∨ (A.isSome = true ∧ ∃ g cap, V = .slice (some ⟨g, 0, none⟩) k cap ∧ B ≤ g ∧ g ≠ E ∧ rowOf w3 g k cap x) := by
  rcases h with ⟨h1, h2, _⟩ | ⟨h1, _, cap, h4, h5⟩
  · exact .inl ⟨h1, h2⟩
  · have hlt := row_lt h5
    exact .inr ⟨h1, _, cap, h4, hB, hE hlt, row_keep h5 (h3 _ (hE hlt) hlt)⟩
theorem last4 {p q r s : Prop} (h : p ∧ q ∧ r ∧ s) : s := h.2.2.2
theorem below_alloc_of {p q s : Prop} {w w' : World} (h : p ∧ q ∧ s ∧ Below w.heap.size w w') (o : Obj) : Below w.heap.size w (w'.alloc o) := h.2.2.2.alloc h.2.2.2.size o
theorem step_append_dup {ops : Array Oper} {o : Oper} {a : Act} {w : World} {K : Act → World → Prop} {Q : Exit → Act → World → Prop} {E : Prop}
    (hgd : o.guard = none) (s y : Operand) (ho : o.op = Op.call { callee := Callee.builtin Builtin.append, args := #[s, y], argTypes := #[46, 46] }) (hs : a.eval s = .slice none 0 0)
    (A : Option Addr) (n c k : Nat) (x : List (BitVec 32)) (hx : a.eval y = .slice A n c) (hl : x.length = k) (hk : 0 < k) (hk2 : k ≤ 100) (hS : Src w A n c k x)
    (hK : ∀ V w', Dup w A k x V w' → K (a.put o.dst V) w') :
    if Region.wanted o (yielded ops a.tmps) = true then Oper.wp Try.prog o a w K Q else E := by
  rcases hS with ⟨rfl, rfl, rfl⟩ | ⟨g, rfl, rfl, h3⟩
  · have hw : Region.wanted o (yielded ops a.tmps) = true := by simp [Region.wanted, hgd]
    rw [if_pos hw]
    obtain ⟨i0, hi, hz0, hz1, hz2⟩ := info_parts infoU32
    have hrun := run_append_owned_none (P := Try.prog) w 0 46 o.type 24 i0 1 Try.underlying46 hi (.slice none 0 0) 0 [] (World.ownsRow_nil _ _ _ _)
    have h := hK (.slice none 0 0) w (.inl ⟨rfl, rfl, rfl⟩)
    unfold Oper.wp
    simp [execOp, ho, resolve, invoke, builtin, hs, hx, hrun, Result.andThen]
    exact h
  · refine step_append_words hgd s y ho hs ⟨g, 0, none⟩ n c x hx hl hk hk2 (h3.cells rfl) ?_
    rintro g2 cap w' h4 h5 rfl h6
    exact hK _ _ (.inr ⟨rfl, h5, cap, rfl, h4⟩)

/-- The sum's block: where the words lie, the bytes that wait, how many there were. -/
def hcell (w : World) (b : Nat) (T : TypeId) (v : Value) (r : ByteArray) (n : Nat) : Prop := w.heap[b]? = some (.cells #[v, .string r, .int .u64 (n : Int)] T (0, 0))
/-- What was written so far is l. -/
def holds (w : World) (b : Nat) (T : TypeId) (k : Nat) (F : Blk) (S : List (BitVec 32)) (l : List UInt8) : Option Nat → Prop
  | none => l = [] ∧ hcell w b T (.slice none 0 0) ByteArray.empty 0
  | some g => g ≠ b ∧ ∃ cap r, r.data.toList = rst l ∧ hcell w b T (.slice (some ⟨g, 0, none⟩) k cap) r l.length ∧ rowOf w g k cap (full F S l)
theorem holds_keep {w w' : World} {b : Nat} {T : TypeId} {k : Nat} {F : Blk} {S : List (BitVec 32)} {l : List UInt8} {row : Option Nat} (h : holds w b T k F S l row) (hb : w'.heap[b]? = w.heap[b]?) (hr : ∀ g, row = some g → w'.heap[g]? = w.heap[g]?) : holds w' b T k F S l row := by
  cases row with
  | none => exact ⟨h.1, hb.trans h.2⟩
  | some g =>
    obtain ⟨hne, cap, r, h1, h2, h3⟩ := h
    exact ⟨hne, cap, r, h1, hb.trans h2, row_keep h3 (hr g rfl)⟩
theorem holds_lt {w : World} {b : Nat} {T : TypeId} {k : Nat} {F : Blk} {S : List (BitVec 32)} {l : List UInt8} {row : Option Nat} (h : holds w b T k F S l row) : b < w.heap.size := by
  cases row with
  | none => exact lt_of_block h.2
  | some g =>
    obtain ⟨_, _, _, _, h2, _⟩ := h
    exact lt_of_block h2
theorem holds_row {w : World} {b : Nat} {T : TypeId} {k : Nat} {F : Blk} {S : List (BitVec 32)} {l : List UInt8} {g : Nat} (h : holds w b T k F S l (some g)) : g < w.heap.size := by
  obtain ⟨_, _, _, _, _, h3⟩ := h
  exact row_lt h3

/-- What a block's function does. -/
structure BlkC (f : FuncId) (k : Nat) (F : Blk) : Prop where
  enter : ∀ (args : Array Value) (w : World), (callFunc f args).run Try.prog w = .ok (.enter f args) w
  len : ∀ s h, (F s h).length = k
  goes : ∀ (s : ByteArray) (h : List (BitVec 32)) (g cap : Nat) (w : World), s.size = 64 → h.length = k → words w g h → g < w.heap.size →
    Calls Try.prog f #[.slice (some ⟨g, 0, none⟩) k cap, .string s] w fun e w' => e = .returned (.tuple #[]) ∧ ∃ W1, Below w.heap.size w W1 ∧ w' = putW W1 g (F s h) k
theorem blkC_1 : BlkC 45 5 blk1 := ⟨fun args w => by rfl, blk1_len, fun s h g cap w h1 h2 h3 h4 => block1_any s h g cap w h1 h2 h3 h4⟩
end Go.Proofs.Ytdhafmjhohnclaa
