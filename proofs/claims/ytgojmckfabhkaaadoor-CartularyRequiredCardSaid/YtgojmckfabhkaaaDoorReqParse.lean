/- ROWS OF STRUCTS OF THREE: the tokens of a line, the directives of a text; an append of one. Conditions: bounds on lengths. THE WALK of modfile.Parse at a text whose directives are known (Pr). Conditions: the text is at most 65536 bytes long. -/
import Derived.Test.YtgojmckfabhkaaaDoorReqLine
namespace Go.Proofs.YtgojmckfabhkaaaDoor.Sem
open Go Go.RowKit
set_option linter.unusedVariables false

theorem own_ne {w : World} {B B2 s s2 n n2 : Nat} {e e2 : TypeId} {v v2 : Value} {xs xs2 : List Value} (h : w.ownsRow B e s v n xs) (h2 : w.ownsRow B2 e2 s2 v2 n2 xs2) (he : e ≠ e2) : v.ownBlock = none ∨ v.ownBlock ≠ v2.ownBlock := by
  rcases h.2 with ⟨rfl, -⟩ | ⟨g, cap, cur, rfl, -, hg, -⟩
  · exact Or.inl rfl
  · right
    rcases h2.2 with ⟨rfl, -⟩ | ⟨g2, cap2, cur2, rfl, -, hg2, -⟩
    · simp [Value.ownBlock]
    · simp only [Value.ownBlock]
      intro hc
      have hgg : g = g2 := by simpa using hc
      subst hgg
      rw [hg] at hg2
      have := Option.some.inj hg2
      injection this with h1 h3
      exact he h3
theorem own_below {w w' : World} {B s n : Nat} {e : TypeId} {v : Value} {xs : List Value} (h : w.ownsRow B e s v n xs) (hb : Below w.heap.size w w') : w'.ownsRow B e s v n xs := World.ownsRow.kept h (gb_of_below hb none) (by cases hv : v.ownBlock <;> simp)
theorem own_gb {w w' : World} {B s n p : Nat} {e : TypeId} {v : Value} {xs : List Value} (h : w.ownsRow B e s v n xs) (hg : w.grownBy w' (some p)) (hp : p < B) : w'.ownsRow B e s v n xs :=
  World.ownsRow.kept h hg (Or.inr (fun e => by have := (World.ownsRow.lt h p e).1; omega))

def tkV (t : Tk) : List Value := [.int .i64 (t.kind : Int), .string (tx t.txt), .int .i64 (t.at_ : Int)]
/-- The tokens of a line lie in a row of the call's own. -/
def NowR (w : World) (B : Nat) (v : Value) (now : List Tk) : Prop := w.ownsRow B 57 3 v now.length (now.flatMap tkV)
def lnV (d : LineD) (wv : Value) : List Value := [.string (tx d.verb), wv, .int .i64 (d.at_ : Int)]
/-- The directives lie in a row of the call's own, their words in rows of texts. -/
def LinesR (w : World) (B : Nat) (v : Value) (lines : List LineD) : Prop :=
  ∃ ps : List (LineD × Value), ps.map Prod.fst = lines ∧ w.ownsRow B 35 3 v lines.length (ps.flatMap fun p => lnV p.1 p.2) ∧ ∀ p ∈ ps, ∃ g cap, p.2 = .slice (some ⟨g, 0, none⟩) p.1.words.length cap ∧ ownsS w B p.2 (p.1.words.map tx)

theorem infoTok : (Tryd.prog.info? 57).map (fun i => (i.zero, i.size, i.bytes)) = some (some (.agg #[.int .i64 0, .string ⟨#[]⟩, .int .i64 0]), 3, 32) := by kernel_rfl
theorem infoLine : (Tryd.prog.info? 35).map (fun i => (i.zero, i.size, i.bytes)) = some (some (.agg #[.string ⟨#[]⟩, .slice none 0 0, .int .i64 0]), 3, 48) := by kernel_rfl

theorem NowR.below {w w' : World} {B : Nat} {v : Value} {now : List Tk} (h : NowR w B v now) (hb : Below w.heap.size w w') : NowR w' B v now := own_below h hb
theorem NowR.gb {w w' : World} {B p : Nat} {v : Value} {now : List Tk} (h : NowR w B v now) (hg : w.grownBy w' (some p)) (hp : p < B) : NowR w' B v now := own_gb h hg hp
theorem NowR.nil (w : World) (B : Nat) : NowR w B (.slice none 0 0) [] := World.ownsRow_nil _ _ _ _
theorem NowR.lt {w : World} {B : Nat} {v : Value} {now : List Tk} (h : NowR w B v now) : ∀ k, v.ownBlock = some k → B ≤ k ∧ k < w.heap.size := World.ownsRow.lt h
theorem NowR.one {w : World} {B : Nat} {v : Value} {t : Tk} (h : NowR w B v [t]) : ∃ g cap, v = .slice (some ⟨g, 0, none⟩) 1 cap ∧ 1 ≤ cap ∧ g < w.heap.size ∧ B ≤ g ∧ TokAt w g 0 t := by
  have h' : w.ownsRow B 57 3 v 1 (tkV t) := by have := h; unfold NowR at this; simpa using this
  rcases h'.2 with ⟨_, h0⟩ | ⟨g, cap, cur, rfl, hB, hh, hc, _⟩
  · omega
  · refine ⟨g, cap, rfl, hc, lt_of_block hh, hB, ?_, ?_, ?_⟩
    · exact (World.ownsRow.cellAt h' 0 (by omega)).trans rfl
    · exact (World.ownsRow.cellAt h' 1 (by omega)).trans rfl
    · exact (World.ownsRow.cellAt h' 2 (by omega)).trans rfl
theorem NowR.two {w : World} {B : Nat} {v : Value} {t u : Tk} (h : NowR w B v [t, u]) : ∃ g cap, v = .slice (some ⟨g, 0, none⟩) 2 cap ∧ 2 ≤ cap ∧ g < w.heap.size ∧ B ≤ g ∧ TokAt w g 0 t ∧ TokAt w g 3 u := by
  have h' : w.ownsRow B 57 3 v 2 (tkV t ++ tkV u) := by have := h; unfold NowR at this; simpa using this
  rcases h'.2 with ⟨_, h0⟩ | ⟨g, cap, cur, rfl, hB, hh, hc, _⟩
  · omega
  · refine ⟨g, cap, rfl, hc, lt_of_block hh, hB, ⟨?_, ?_, ?_⟩, ?_, ?_, ?_⟩
    · exact (World.ownsRow.cellAt h' 0 (by omega)).trans rfl
    · exact (World.ownsRow.cellAt h' 1 (by omega)).trans rfl
    · exact (World.ownsRow.cellAt h' 2 (by omega)).trans rfl
    · exact (World.ownsRow.cellAt h' 3 (by omega)).trans rfl
    · exact (World.ownsRow.cellAt h' 4 (by omega)).trans rfl
    · exact (World.ownsRow.cellAt h' 5 (by omega)).trans rfl
theorem LinesR.below {w w' : World} {B : Nat} {v : Value} {ls : List LineD} (h : LinesR w B v ls) (hb : Below w.heap.size w w') : LinesR w' B v ls := by
  obtain ⟨ps, h1, h2, h3⟩ := h
  exact ⟨ps, h1, own_below h2 hb, fun p hp => by obtain ⟨g, cap, e, h4⟩ := h3 p hp; exact ⟨g, cap, e, h4.below hb⟩⟩
theorem LinesR.gb {w w' : World} {B p : Nat} {v : Value} {ls : List LineD} (h : LinesR w B v ls) (hg : w.grownBy w' (some p)) (hp : p < B) : LinesR w' B v ls := by
  obtain ⟨ps, h1, h2, h3⟩ := h
  exact ⟨ps, h1, own_gb h2 hg hp, fun q hq => by obtain ⟨g, cap, e, h4⟩ := h3 q hq; exact ⟨g, cap, e, own_gb h4 hg hp⟩⟩
/-- A row of tokens has grown: the directives stay. -/
theorem LinesR.tok {w w' : World} {B B2 : Nat} {v nv : Value} {ls : List LineD} {now : List Tk} (h : LinesR w B v ls) (hn : NowR w B2 nv now) (hg : w.grownBy w' nv.ownBlock) : LinesR w' B v ls := by
  obtain ⟨ps, h1, h2, h3⟩ := h
  exact ⟨ps, h1, World.ownsRow.kept h2 hg (own_ne h2 hn (by decide)), fun q hq => by obtain ⟨g, cap, e, h4⟩ := h3 q hq; exact ⟨g, cap, e, World.ownsRow.kept h4 hg (own_ne h4 hn (by decide))⟩⟩
theorem LinesR.nil (w : World) (B : Nat) : LinesR w B (.slice none 0 0) [] := ⟨[], rfl, World.ownsRow_nil _ _ _ _, by simp⟩
theorem LinesR.lt {w : World} {B : Nat} {v : Value} {ls : List LineD} (h : LinesR w B v ls) : ∀ k, v.ownBlock = some k → B ≤ k ∧ k < w.heap.size := by
  obtain ⟨ps, h1, h2, h3⟩ := h
  exact World.ownsRow.lt h2
theorem new_three (w : World) (a b c : Value) (t : TypeId) : ∀ j u, ([a, b, c] : List Value)[j]? = some u → (w.alloc (.cells #[a, b, c] t)).cell? ((⟨w.heap.size, 0, none⟩ : Addr).add j) = some u := by
  intro j u hu
  have hadd : (⟨w.heap.size, 0, none⟩ : Addr).add j = ⟨w.heap.size, j, none⟩ := by unfold Addr.add; split <;> simp_all
  rw [hadd, cell_at (heap_alloc_same _ _)]
  simpa using hu
/-- 'append(now, t)'. -/
theorem append_tok {ops : Array Oper} {rest : List Oper} {o : Oper} {a : Act} {Q : Exit → Act → World → Prop} (w : World) (hgd : o.guard = none) (s x : Operand)
    (ho : o.op = .call { callee := .builtin .append, args := #[s, x], argTypes := #[55, 55] }) (B : Nat) (v : Value) (l : List Tk) (t : Tk) (hs : a.eval s = v) (hown : NowR w B v l)
    (ad : Addr) (c : Nat) (hx : a.eval x = .slice (some ad) 1 c) (hnews : ∀ j u, (tkV t)[j]? = some u → w.cell? (ad.add j) = some u)
    (hlen : l.length + 1 ≤ 1000000) (hB : B ≤ w.heap.size)
    (h : ∀ v' w', NowR w' B v' (l ++ [t]) → w.grownBy w' v.ownBlock → wpList Tryd.prog ops Q rest (a.put o.dst v') w') : wpList Tryd.prog ops Q (o :: rest) a w := by
  obtain ⟨i0, hi, hz0, hz1, hz2⟩ := info_parts infoTok
  refine wpList_append_own w hgd s x 55 ho B 57 i0 (.agg #[.int .i64 0, .string ⟨#[]⟩, .int .i64 0]) 3 32 Tryd.underlying55 hi hz0 hz1 hz2 rfl (by decide) v l.length (l.flatMap tkV) hs hown ad 1 c (tkV t) hx
    rfl hnews (by intro u hu; unfold tkV at hu; simp at hu; rcases hu with rfl | rfl | rfl <;> rfl) (by unfold maxLen; omega) (by omega) hB ?_
  intro v' w' hown' hg _
  refine h v' w' ?_ hg
  unfold NowR
  rw [List.length_append, List.flatMap_append]
  simpa using hown'
/-- 'append(lines, l)'. -/
theorem append_line {ops : Array Oper} {rest : List Oper} {o : Oper} {a : Act} {Q : Exit → Act → World → Prop} (w : World) (hgd : o.guard = none) (s x : Operand)
    (ho : o.op = .call { callee := .builtin .append, args := #[s, x], argTypes := #[29, 29] }) (B : Nat) (v : Value) (l : List LineD) (d : LineD) (g cap : Nat) (hs : a.eval s = v) (hown : LinesR w B v l)
    (ad : Addr) (c : Nat) (hx : a.eval x = .slice (some ad) 1 c) (hnews : ∀ j u, (lnV d (.slice (some ⟨g, 0, none⟩) d.words.length cap))[j]? = some u → w.cell? (ad.add j) = some u) (hw : ownsS w B (.slice (some ⟨g, 0, none⟩) d.words.length cap) (d.words.map tx))
    (hlen : l.length + 1 ≤ 1000000) (hB : B ≤ w.heap.size)
    (h : ∀ v' w', LinesR w' B v' (l ++ [d]) → w.grownBy w' v.ownBlock → wpList Tryd.prog ops Q rest (a.put o.dst v') w') : wpList Tryd.prog ops Q (o :: rest) a w := by
  obtain ⟨i0, hi, hz0, hz1, hz2⟩ := info_parts infoLine
  have hown0 := hown
  obtain ⟨ps, h1, h2, h3⟩ := hown
  refine wpList_append_own w hgd s x 29 ho B 35 i0 (.agg #[.string ⟨#[]⟩, .slice none 0 0, .int .i64 0]) 3 48 Tryd.underlying29 hi hz0 hz1 hz2 rfl (by decide) v l.length (ps.flatMap fun p => lnV p.1 p.2) hs h2 ad 1 c _ hx
    rfl hnews (by intro u hu; unfold lnV at hu; simp at hu; rcases hu with rfl | rfl | rfl <;> rfl) (by unfold maxLen; omega) (by omega) hB ?_
  intro v' w' hown' hg _
  refine h v' w' ⟨ps ++ [(d, .slice (some ⟨g, 0, none⟩) d.words.length cap)], by simp [h1], ?_, fun q hq => ?_⟩ hg
  · rw [List.length_append]
    simpa using hown'
  · rcases List.mem_append.1 hq with hq | hq
    · obtain ⟨g2, cap2, e, h4⟩ := h3 q hq
      exact ⟨g2, cap2, e, World.ownsRow.kept h4 hg (own_ne h4 h2 (by decide))⟩
    · obtain rfl := List.mem_singleton.1 hq
      exact ⟨g, cap, rfl, World.ownsRow.kept hw hg (own_ne hw h2 (by decide))⟩
end Go.Proofs.YtgojmckfabhkaaaDoor.Sem

namespace Go.Proofs.YtgojmckfabhkaaaDoor.Sem
open Go Go.RowKit
set_option linter.unusedVariables false

/-- What lies in memory in the middle of 'Parse'. -/
structure PW (w W : World) (l : List UInt8) (i n : Nat) (nv lv : Value) (now : List Tk) (lines : List LineD) : Prop where
  below : Below w.heap.size w W
  cell : W.heap[w.heap.size]? = some (.cells (lexA l i n) 54 (0, 0))
  now : NowR W (w.heap.size + 1) nv now
  lines : LinesR W (w.heap.size + 1) lv lines
section
variable {w W W' : World} {l : List UInt8} {i n i' n' : Nat} {nv lv nv' lv' : Value} {now now' : List Tk} {lines lines' : List LineD}
theorem PW.next (h : PW w W l i n nv lv now lines) (hg : W.grownBy W' (some w.heap.size)) (hc : W'.heap[w.heap.size]? = some (.cells (lexA l i' n') 54 (0, 0))) : PW w W' l i' n' nv lv now lines :=
  ⟨below_gb h.below hg h.below.size (Nat.le_refl _), hc, h.now.gb hg (Nat.lt_succ_self _), h.lines.gb hg (Nat.lt_succ_self _)⟩
theorem PW.mono (h : PW w W l i n nv lv now lines) (hb : Below W.heap.size W W') : PW w W' l i n nv lv now lines :=
  ⟨below_next h.below hb h.below.size, below_heap hb h.cell (lt_of_block h.cell), h.now.below hb, h.lines.below hb⟩
theorem PW.alloc (h : PW w W l i n nv lv now lines) (o : Obj) : PW w (W.alloc o) l i n nv lv now lines := h.mono ((Below.refl _ W).alloc (Nat.le_refl _) o)
theorem PW.push (h : PW w W l i n nv lv now lines) (hg : W.grownBy W' nv.ownBlock) (hn : NowR W' (w.heap.size + 1) nv' now') : PW w W' l i n nv' lv now' lines :=
  ⟨h.below.grown hg h.below.size (fun k e => by have := (h.now.lt k e).1; omega), gb_heap hg h.cell (fun e => by have := (h.now.lt _ e.symm).1; omega), hn, h.lines.tok h.now hg⟩
theorem PW.add (h : PW w W l i n nv lv now lines) (hg : W.grownBy W' lv.ownBlock) (hl : LinesR W' (w.heap.size + 1) lv' lines') : PW w W' l i n (.slice none 0 0) lv' [] lines' :=
  ⟨h.below.grown hg h.below.size (fun k e => by have := (h.lines.lt k e).1; omega), gb_heap hg h.cell (fun e => by have := (h.lines.lt _ e.symm).1; omega), NowR.nil _ _, hl⟩
theorem PW.drop (h : PW w W l i n nv lv now lines) : PW w W l i n (.slice none 0 0) lv [] lines := ⟨h.below, h.cell, NowR.nil _ _, h.lines⟩
end
theorem LinesR.ne_tok {W : World} {B b : Nat} {lv : Value} {ls : List LineD} {c : Array Value} {f : Nat × Nat} (h : LinesR W B lv ls) (hb : W.heap[b]? = some (.cells c 57 f)) : some b ≠ lv.ownBlock := by
  obtain ⟨ps, h1, h2, h3⟩ := h
  intro e
  rcases h2.2 with ⟨rfl, -⟩ | ⟨g, cap, cur, rfl, -, hg, -⟩
  · simp [Value.ownBlock] at e
  · have hgg : b = g := by simpa [Value.ownBlock] using e
    subst hgg
    rw [hg] at hb
    have h5 := Option.some.inj hb
    injection h5 with h6 h7
    exact absurd h7 (by decide)
structure PI (w W : World) (l : List UInt8) (nv lv : Value) (st : PS) (S : List UInt8) (i : Nat) : Prop where
  drop : l.drop i = S
  le : i ≤ l.length
  mem : PW w W l i st.ln nv lv st.now st.lines
  nil : st.now = [] → nv = .slice none 0 0
  bd1 : st.now.length + S.length ≤ l.length
  bd2 : st.lines.length ≤ st.ln
  bd3 : st.ln + S.length ≤ l.length + 1
theorem lpos_of {W : World} {p i n : Nat} {l : List UInt8} (h : W.heap[p]? = some (.cells (lexA l i n) 54 (0, 0))) : lpos W p = i := by
  unfold lpos
  rw [show W.cell? ⟨p, 1, none⟩ = some (.int .i64 (i : Int)) from cell_at h 1]
  rfl
theorem new_three2 (w : World) (o : Obj) (a b c : Value) (t : TypeId) : ∀ j u, ([a, b, c] : List Value)[j]? = some u → ((w.alloc o).alloc (.cells #[a, b, c] t)).cell? ((⟨w.heap.size + 1, 0, none⟩ : Addr).add j) = some u := by
  have h := new_three (w.alloc o) a b c t
  rwa [World.size_alloc] at h
theorem drop_lt {l S S' : List UInt8} {i i' : Nat} (h : l.drop i = S) (h' : l.drop i' = S') (hi : i ≤ l.length) (hi' : i' ≤ l.length) (hS : S'.length < S.length) : l.length - i' < l.length - i := by
  have e1 := congrArg List.length h
  have e2 := congrArg List.length h'
  rw [List.length_drop] at e1 e2
  omega
/-- What 'Parse' answers. -/
def ParsedP (out : List LineD) (w : World) (e : Ending) (w' : World) : Prop := (∃ lv, e = .returned (.tuple #[lv, .int .i64 0, .int .i64 0]) ∧ LinesR w' w.heap.size lv out) ∧ Below w.heap.size w w'
theorem LinesR.base {W : World} {B B2 : Nat} {lv : Value} {ls : List LineD} (h : LinesR W B lv ls) (hB : B2 ≤ B) : LinesR W B2 lv ls := by
  obtain ⟨ps, h1, h2, h3⟩ := h
  refine ⟨ps, h1, ⟨h2.1, ?_⟩, fun p hp => by obtain ⟨g, cap, e, h4⟩ := h3 p hp; exact ⟨g, cap, e, ownsS_mono h4 hB⟩⟩
  rcases h2.2 with h0 | ⟨g, cap, cur, k1, k2, k3⟩
  · exact Or.inl h0
  · exact Or.inr ⟨g, cap, cur, k1, Nat.le_trans hB k2, k3⟩

set_option maxRecDepth 100000 in
set_option maxHeartbeats 4000000 in
theorem mparse_any (l : List UInt8) (out : List LineD) (w : World) (hz : l.length ≤ 65535) (h : Pr l ⟨[], [], false, [], 1⟩ out) :
    Calls Tryd.prog 8 #[.string (tx l)] w (fun e w' => ParsedP out w e w') := by
  have H := Lib.hid h
  have hsz := tx_size l
  have hT2 : (tx l).size ≤ 65536 := by omega
  obtain ⟨T, hT⟩ : ∃ T, T = tx l := ⟨_, rfl⟩
  have HT := Lib.hid hT
  rw [← hT] at hT2 ⊢
  clear h hsz hT
  go_enter Tryd.func8, Tryd.ntmps8
  go_wp2
  go_loopw [2, 6, 7, 8] (fun lv nv vv iv W => ∃ (S : List UInt8) (st : PS) (i : Nat), Pr S st out ∧ vv = .string (tx st.verb) ∧ iv = .bool st.inside ∧ PI w W l nv lv st S i) (fun _ _ _ _ W => l.length - lpos W w.heap.size)
  case atStart =>
    refine ⟨l, ⟨[], [], false, [], 1⟩, 0, H.out, rfl, rfl, List.drop_zero, Nat.zero_le _, ⟨(Below.refl _ w).alloc (Nat.le_refl _) _, ?_, NowR.nil _ _, LinesR.nil _ _⟩, fun _ => rfl, by simp, by simp, by simp; omega⟩
    rw [HT.out]
    exact heap_alloc_same w _
  case round =>
    obtain ⟨S, st, i, hpr, rfl, rfl, hpi⟩ := hrel
    obtain ⟨now, verb, inside, lines, ln⟩ := st
    have hpos := lpos_of hpi.mem.cell
    have HPOS := Lib.hid hpos
    have hd := hpi.drop
    have hb1 := hpi.bd1
    have hb2 := hpi.bd2
    have hb3 := hpi.bd3
    have hle := hpi.le
    dsimp only at hb1 hb2 hb3
    cases hpr with
    | @tok _ t S' k _ _ hN hk hr =>
      have HR := Lib.hid hr
      have q3 : ((k : Int) != 3) = true := by rw [bne_iff_ne]; omega
      have q4 : ((k : Int) != 4) = true := by rw [bne_iff_ne]; omega
      have hlen := hN.len
      have hcall := next_any l S' t i ln k 0 w.heap.size wr hpi.mem.cell hle (by omega) (by omega) (by rw [hd]; exact hN)
      unfold tokA at hcall
      have HC := Lib.hid hcall
      have HPI := Lib.hid hpi
      clear hcall hpos hN hr
      go_wp2_with fail
      refine HC.out.mono ?_
      rintro e w1 ⟨rfl, ⟨i', hd', hi', hc'⟩, hg⟩
      have HPW := Lib.hid (HPI.out.mem.next hg hc')
      have HD' := Lib.hid hd'
      have hlt' := drop_lt hd hd' hle hi' (hlen.2 (by omega))
      have hp' := lpos_of hc'
      have HP' := Lib.hid hp'
      have hN1 : w.heap.size < w1.heap.size := lt_of_block hc'
      clear hg hc' hd' hd hp' HC
      obtain ⟨TT, hTT⟩ : ∃ TT, TT = tx t := ⟨_, rfl⟩
      rw [← hTT]
      have HTT := Lib.hid hTT
      clear hTT hpi
      have hBs : w.heap.size + 1 ≤ ((w1.alloc (.cells #[.int .i64 (k : Int), .string TT, .int .i64 (ln : Int)] 57)).alloc (.cells #[.int .i64 (k : Int), .string TT, .int .i64 (ln : Int)] 57)).heap.size := by rw [World.size_alloc, World.size_alloc]; omega
      have hnl : now.length + 1 ≤ 1000000 := by omega
      have hnw : ∀ j u, (tkV ⟨k, t, ln⟩)[j]? = some u → ((w1.alloc (.cells #[.int .i64 (k : Int), .string TT, .int .i64 (ln : Int)] 57)).alloc (.cells #[.int .i64 (k : Int), .string TT, .int .i64 (ln : Int)] 57)).cell? ((⟨w1.heap.size + 1, 0, none⟩ : Addr).add j) = some u := by
        unfold tkV; rw [← HTT.out]; exact new_three2 w1 _ _ _ _ _
      have HNW := Lib.hid hnw
      clear hnw
      go_wp2_with (at_builtin; go_loud (refine append_tok _ rfl (.tmp 36) (.tmp 38) rfl (w.heap.size + 1) _ now ⟨k, t, ln⟩ rfl ((HPW.out.alloc _).alloc _).now ⟨w1.heap.size + 1, 0, none⟩ 1 rfl HNW.out hnl hBs ?_); go_loud (intro v' w' hown' hg'))
      go_roundw
      case rel =>
        refine ⟨S', ⟨now ++ [⟨k, t, ln⟩], verb, inside, lines, ln⟩, i', HR.out, rfl, rfl, HD'.out, hi', ((HPW.out.alloc _).alloc _).push hg' hown', fun e => absurd e (by simp), ?_, hb2, ?_⟩
        · have := hlen.2 (by omega); simp; omega
        · have := hlen.1; show ln + S'.length ≤ _; omega
      case measure =>
        rw [HPOS.out, lpos_of (((HPW.out.alloc _).alloc _).push hg' hown').cell]
        exact hlt'
    | @nl _ S' _ _ x hN hl hr =>
      have HR := Lib.hid hr
      have hlen := hN.len
      have hcall := next_any l S' [] i ln 3 1 w.heap.size wr hpi.mem.cell hle (by omega) (by omega) (by rw [hd]; exact hN)
      unfold tokA at hcall
      have HC := Lib.hid hcall
      have HPI := Lib.hid hpi
      clear hcall hpos hN hr
      go_wp2_with fail
      refine HC.out.mono ?_
      rintro e w1 ⟨rfl, ⟨i', hd', hi', hc'⟩, hg⟩
      have HPW := Lib.hid (HPI.out.mem.next hg hc')
      have HD' := Lib.hid hd'
      have hlt' := drop_lt hd hd' hle hi' (hlen.2 (by omega))
      have hp' := lpos_of hc'
      have HP' := Lib.hid hp'
      have hN1 : w.heap.size < w1.heap.size := lt_of_block hc'
      clear hg hc' hd' hd hp' HC
      rw [show (tx ([] : List UInt8)) = ⟨#[]⟩ from rfl]
      have hsl := hlen.2 (by decide)
      have hrow9 := heap_alloc_same w1 (.cells #[.int .i64 ((3 : Nat) : Int), .string ⟨#[]⟩, .int .i64 (ln : Int)] 57)
      have HPA := Lib.hid (HPW.out.alloc (.cells #[.int .i64 ((3 : Nat) : Int), .string ⟨#[]⟩, .int .i64 (ln : Int)] 57))
      have HROW := Lib.hid hrow9
      have hNr := HPA.out.now
      dsimp only at hNr
      clear hrow9
      cases hl with
      | nothing =>
        have hnil := HPI.out.nil rfl
        subst hnil
        have HL := Lib.hid (fun W => line_nothing (tx verb) inside W)
        clear hpi hNr
        go_wp2_with fail
        refine (HL.out _).mono ?_
        rintro e w2 ⟨hb5, rfl⟩
        have HB2 := Lib.hid (HPA.out.mono hb5)
        have HROW2 := Lib.hid (below_heap hb5 HROW.out (lt_of_block HROW.out))
        obtain ⟨B9, hB9⟩ : ∃ B9, B9 = w1.heap.size := ⟨_, rfl⟩
        rw [← hB9] at HROW2 ⊢
        have HN1 : Hid (B9 < w2.heap.size) := Lib.hid (lt_of_block HROW2.out)
        have hlt9 : B9 < w2.heap.size := HN1.out
        clear hb5 HROW hB9
        obtain ⟨c0, c1, c2, f0, f1, f2⟩ := rows3 HROW2.out
        cases inside
        all_goals
          go_wp2
          go_roundw
          case rel =>
            refine ⟨S', ⟨[], verb, _, lines, ln + 1⟩, i', HR.out, rfl, rfl, HD'.out, hi', (HB2.out.alloc (.cells #[.string ⟨#[]⟩, .slice none 0 0, .int .i64 0] 35)).drop, fun _ => rfl, ?_, ?_, ?_⟩
            · show 0 + S'.length ≤ _; omega
            · show (lines).length ≤ ln + 1; omega
            · show ln + 1 + S'.length ≤ _; omega
          case measure =>
            rw [HPOS.out, lpos_of ((HB2.out.alloc (.cells #[.string ⟨#[]⟩, .slice none 0 0, .int .i64 0] 35)).drop).cell]
            exact hlt'
      | shut t a _ =>
        obtain ⟨g, cap, rfl, hcap, hgl, hgB, ht0⟩ := hNr.one
        have HL := Lib.hid (fun V => line_shut V t a g cap (w1.alloc (.cells #[.int .i64 ((3 : Nat) : Int), .string ⟨#[]⟩, .int .i64 (ln : Int)] 57)) ht0 hgl hcap)
        have HT0 := Lib.hid ht0
        have HGL := Lib.hid hgl
        clear hpi hNr ht0
        go_wp2_with fail
        refine (HL.out _).mono ?_
        rintro e w2 ⟨hb5, rfl⟩
        have ht2 := below_tok HT0.out hb5 HGL.out
        have hgl2 : g < w2.heap.size := Nat.lt_of_lt_of_le HGL.out hb5.size
        have HB2 := Lib.hid (HPA.out.mono hb5)
        have HROW2 := Lib.hid (below_heap hb5 HROW.out (lt_of_block HROW.out))
        obtain ⟨B9, hB9⟩ : ∃ B9, B9 = w1.heap.size := ⟨_, rfl⟩
        rw [← hB9] at HROW2 ⊢
        have HN1 : Hid (B9 < w2.heap.size) := Lib.hid (lt_of_block HROW2.out)
        have hlt9 : B9 < w2.heap.size := HN1.out
        clear hb5 HROW hB9
        obtain ⟨c0, c1, c2, f0, f1, f2⟩ := rows3 HROW2.out
        obtain ⟨m0, m1, m2⟩ := ht2
        dsimp only at m0 m1 m2
        clear hgl
        go_wp2
        go_roundw
        case rel =>
          refine ⟨S', ⟨[], verb, false, lines, ln + 1⟩, i', HR.out, rfl, rfl, HD'.out, hi', (HB2.out.alloc (.cells #[.string ⟨#[]⟩, .slice none 0 0, .int .i64 0] 35)).drop, fun _ => rfl, ?_, ?_, ?_⟩
          · show 0 + S'.length ≤ _; omega
          · show (lines).length ≤ ln + 1; omega
          · show ln + 1 + S'.length ≤ _; omega
        case measure =>
          rw [HPOS.out, lpos_of ((HB2.out.alloc (.cells #[.string ⟨#[]⟩, .slice none 0 0, .int .i64 0] 35)).drop).cell]
          exact hlt'
      | opens x y a b _ hx =>
        obtain ⟨g, cap, rfl, hcap, hgl, hgB, ht0, ht1⟩ := hNr.two
        have HL := Lib.hid (fun V => line_opens V x y a b g cap (w1.alloc (.cells #[.int .i64 ((3 : Nat) : Int), .string ⟨#[]⟩, .int .i64 (ln : Int)] 57)) ht0 ht1 hgl hcap hx)
        have q1 : (tx x).toList.isEmpty = false := by rw [tx_toList]; exact emp hx
        clear hpi hNr ht0 ht1 hgl
        go_wp2_with fail
        refine (HL.out _).mono ?_
        rintro e w2 ⟨hb5, rfl⟩
        have HB2 := Lib.hid (HPA.out.mono hb5)
        have HROW2 := Lib.hid (below_heap hb5 HROW.out (lt_of_block HROW.out))
        obtain ⟨B9, hB9⟩ : ∃ B9, B9 = w1.heap.size := ⟨_, rfl⟩
        rw [← hB9] at HROW2 ⊢
        have HN1 : Hid (B9 < w2.heap.size) := Lib.hid (lt_of_block HROW2.out)
        have hlt9 : B9 < w2.heap.size := HN1.out
        clear hb5 HROW hB9
        obtain ⟨c0, c1, c2, f0, f1, f2⟩ := rows3 HROW2.out
        go_wp2
        go_roundw
        case rel =>
          refine ⟨S', ⟨[], x, true, lines, ln + 1⟩, i', HR.out, rfl, rfl, HD'.out, hi', (HB2.out.alloc (.cells #[.string ⟨#[]⟩, .slice none 0 0, .int .i64 0] 35)).drop, fun _ => rfl, ?_, ?_, ?_⟩
          · show 0 + S'.length ≤ _; omega
          · show (lines).length ≤ ln + 1; omega
          · show ln + 1 + S'.length ≤ _; omega
        case measure =>
          rw [HPOS.out, lpos_of ((HB2.out.alloc (.cells #[.string ⟨#[]⟩, .slice none 0 0, .int .i64 0] 35)).drop).cell]
          exact hlt'
      | inside x y a b _ =>
        obtain ⟨g, cap, rfl, hcap, hgl, hgB, ht0, ht1⟩ := hNr.two
        have HL := Lib.hid (line_inside verb x y a b g cap (w1.alloc (.cells #[.int .i64 ((3 : Nat) : Int), .string ⟨#[]⟩, .int .i64 (ln : Int)] 57)) ht0 ht1 hgl hcap)
        clear hpi hNr ht0 ht1 hgl
        go_wp2_with fail
        refine HL.out.mono ?_
        rintro e w2 ⟨hb5, gw, cw, hgw1, hgw2, rfl, hws⟩
        dsimp only [List.length_cons, List.length_nil] at hws ⊢
        have HWS := Lib.hid hws
        clear hws
        have HB2 := Lib.hid (HPA.out.mono hb5)
        have HROW2 := Lib.hid (below_heap hb5 HROW.out (lt_of_block HROW.out))
        obtain ⟨B9, hB9⟩ : ∃ B9, B9 = w1.heap.size := ⟨_, rfl⟩
        rw [← hB9] at HROW2 ⊢
        have HN1 : Hid (B9 < w2.heap.size) := Lib.hid (lt_of_block HROW2.out)
        have hlt9 : B9 < w2.heap.size := HN1.out
        clear hb5 HROW hB9
        obtain ⟨c0, c1, c2, f0, f1, f2⟩ := rows3 HROW2.out
        have hsz2 := HB2.out.below.size
        have hBs : w.heap.size + 1 ≤ ((w2.alloc (.cells #[.string (tx verb), .slice (some ⟨gw, 0, none⟩) 2 cw, .int .i64 (ln : Int)] 35)).alloc (.cells #[.string (tx verb), .slice (some ⟨gw, 0, none⟩) 2 cw, .int .i64 (ln : Int)] 35)).heap.size := by rw [World.size_alloc, World.size_alloc]; omega
        clear hsz2
        have hnl : lines.length + 1 ≤ 1000000 := by omega
        have hwo : ownsS ((w2.alloc (.cells #[.string (tx verb), .slice (some ⟨gw, 0, none⟩) 2 cw, .int .i64 (ln : Int)] 35)).alloc (.cells #[.string (tx verb), .slice (some ⟨gw, 0, none⟩) 2 cw, .int .i64 (ln : Int)] 35)) (w.heap.size + 1) (.slice (some ⟨gw, 0, none⟩) ([x, y] : List (List UInt8)).length cw) (([x, y] : List (List UInt8)).map tx) :=
          ownsS_mono ((HWS.out.alloc _).alloc _) (by rw [World.size_alloc]; omega)
        have HWO := Lib.hid hwo
        have hne9 : some B9 ≠ u2.ownBlock := HB2.out.lines.ne_tok HROW2.out
        have HNE9 := Lib.hid hne9
        clear hwo hne9
        go_wp2_with (at_builtin; go_loud (refine append_line _ rfl (.tmp 74) (.tmp 76) rfl (w.heap.size + 1) _ lines (LineD.mk verb [x, y] ln) gw cw rfl ((HB2.out.alloc _).alloc _).lines ⟨w2.heap.size + 1, 0, none⟩ 1 rfl (new_three2 w2 _ _ _ _ _) HWO.out hnl hBs ?_); go_loud (intro v' w' hown' hg'; have hr9 := gb_heap hg' (heap_alloc_keep (heap_alloc_keep HROW2.out _) _) HNE9.out; obtain ⟨s0, s1, s2, u0, u1, u2⟩ := rows3 hr9))
        go_roundw
        case rel =>
          refine ⟨S', ⟨[], verb, true, lines ++ [(LineD.mk verb [x, y] ln)], ln + 1⟩, i', HR.out, rfl, rfl, HD'.out, hi', (((HB2.out.alloc _).alloc _).add hg' hown'), fun _ => rfl, ?_, ?_, ?_⟩
          · show 0 + S'.length ≤ _; omega
          · show (lines ++ [(LineD.mk verb [x, y] ln)]).length ≤ ln + 1; simp; omega
          · show ln + 1 + S'.length ≤ _; omega
        case measure =>
          rw [HPOS.out, lpos_of ((((HB2.out.alloc _).alloc _).add hg' hown')).cell]
          exact hlt'
      | alone x y a b _ hx =>
        obtain ⟨g, cap, rfl, hcap, hgl, hgB, ht0, ht1⟩ := hNr.two
        have HL := Lib.hid (line_alone verb x y a b g cap (w1.alloc (.cells #[.int .i64 ((3 : Nat) : Int), .string ⟨#[]⟩, .int .i64 (ln : Int)] 57)) ht0 ht1 hgl hcap hx)
        clear hpi hNr ht0 ht1 hgl
        go_wp2_with fail
        refine HL.out.mono ?_
        rintro e w2 ⟨hb5, gw, cw, hgw1, hgw2, rfl, hws⟩
        dsimp only [List.length_cons, List.length_nil] at hws ⊢
        have HWS := Lib.hid hws
        clear hws
        have HB2 := Lib.hid (HPA.out.mono hb5)
        have HROW2 := Lib.hid (below_heap hb5 HROW.out (lt_of_block HROW.out))
        obtain ⟨B9, hB9⟩ : ∃ B9, B9 = w1.heap.size := ⟨_, rfl⟩
        rw [← hB9] at HROW2 ⊢
        have HN1 : Hid (B9 < w2.heap.size) := Lib.hid (lt_of_block HROW2.out)
        have hlt9 : B9 < w2.heap.size := HN1.out
        clear hb5 HROW hB9
        obtain ⟨c0, c1, c2, f0, f1, f2⟩ := rows3 HROW2.out
        have hsz2 := HB2.out.below.size
        have hBs : w.heap.size + 1 ≤ ((w2.alloc (.cells #[.string (tx x), .slice (some ⟨gw, 0, none⟩) 1 cw, .int .i64 (ln : Int)] 35)).alloc (.cells #[.string (tx x), .slice (some ⟨gw, 0, none⟩) 1 cw, .int .i64 (ln : Int)] 35)).heap.size := by rw [World.size_alloc, World.size_alloc]; omega
        clear hsz2
        have hnl : lines.length + 1 ≤ 1000000 := by omega
        have hwo : ownsS ((w2.alloc (.cells #[.string (tx x), .slice (some ⟨gw, 0, none⟩) 1 cw, .int .i64 (ln : Int)] 35)).alloc (.cells #[.string (tx x), .slice (some ⟨gw, 0, none⟩) 1 cw, .int .i64 (ln : Int)] 35)) (w.heap.size + 1) (.slice (some ⟨gw, 0, none⟩) ([y] : List (List UInt8)).length cw) (([y] : List (List UInt8)).map tx) :=
          ownsS_mono ((HWS.out.alloc _).alloc _) (by rw [World.size_alloc]; omega)
        have HWO := Lib.hid hwo
        have hne9 : some B9 ≠ u2.ownBlock := HB2.out.lines.ne_tok HROW2.out
        have HNE9 := Lib.hid hne9
        clear hwo hne9
        go_wp2_with (at_builtin; go_loud (refine append_line _ rfl (.tmp 74) (.tmp 76) rfl (w.heap.size + 1) _ lines (LineD.mk x [y] ln) gw cw rfl ((HB2.out.alloc _).alloc _).lines ⟨w2.heap.size + 1, 0, none⟩ 1 rfl (new_three2 w2 _ _ _ _ _) HWO.out hnl hBs ?_); go_loud (intro v' w' hown' hg'; have hr9 := gb_heap hg' (heap_alloc_keep (heap_alloc_keep HROW2.out _) _) HNE9.out; obtain ⟨s0, s1, s2, u0, u1, u2⟩ := rows3 hr9))
        go_roundw
        case rel =>
          refine ⟨S', ⟨[], verb, false, lines ++ [(LineD.mk x [y] ln)], ln + 1⟩, i', HR.out, rfl, rfl, HD'.out, hi', (((HB2.out.alloc _).alloc _).add hg' hown'), fun _ => rfl, ?_, ?_, ?_⟩
          · show 0 + S'.length ≤ _; omega
          · show (lines ++ [(LineD.mk x [y] ln)]).length ≤ ln + 1; simp; omega
          · show ln + 1 + S'.length ≤ _; omega
        case measure =>
          rw [HPOS.out, lpos_of ((((HB2.out.alloc _).alloc _).add hg' hown')).cell]
          exact hlt'
    | @fin _ S' _ hN hn hi =>
      dsimp only at hn hi
      subst hn
      subst hi
      have hnil := hpi.nil rfl
      subst hnil
      have hlen := hN.len
      have hcall := next_any l S' [] i ln 4 0 w.heap.size wr hpi.mem.cell hle (by omega) (by omega) (by rw [hd]; exact hN)
      unfold tokA at hcall
      have HC := Lib.hid hcall
      have HPI := Lib.hid hpi
      clear hcall hpos hN
      go_wp2_with fail
      refine HC.out.mono ?_
      rintro e w1 ⟨rfl, ⟨i', hd', hi', hc'⟩, hg⟩
      have HPW := Lib.hid (HPI.out.mem.next hg hc')
      have HD' := Lib.hid hd'
      have hp' := lpos_of hc'
      have HP' := Lib.hid hp'
      have hN1 : w.heap.size < w1.heap.size := lt_of_block hc'
      clear hg hc' hd' hd hp' HC
      rw [show (tx ([] : List UInt8)) = ⟨#[]⟩ from rfl]
      have hrow9 := heap_alloc_same w1 (.cells #[.int .i64 ((4 : Nat) : Int), .string ⟨#[]⟩, .int .i64 (ln : Int)] 57)
      have HPA := Lib.hid (HPW.out.alloc (.cells #[.int .i64 ((4 : Nat) : Int), .string ⟨#[]⟩, .int .i64 (ln : Int)] 57))
      have HROW := Lib.hid hrow9
      clear hrow9
      have HL := Lib.hid (fun W => line_nothing (tx verb) false W)
      clear hpi
      go_wp2_with fail
      refine (HL.out _).mono ?_
      rintro e w2 ⟨hb5, rfl⟩
      have HB2 := Lib.hid (HPA.out.mono hb5)
      have HROW2 := Lib.hid (below_heap hb5 HROW.out (lt_of_block HROW.out))
      obtain ⟨B9, hB9⟩ : ∃ B9, B9 = w1.heap.size := ⟨_, rfl⟩
      rw [← hB9] at HROW2 ⊢
      have HN1 : Hid (B9 < w2.heap.size) := Lib.hid (lt_of_block HROW2.out)
      have hlt9 : B9 < w2.heap.size := HN1.out
      clear hb5 HROW hB9
      obtain ⟨c0, c1, c2, f0, f1, f2⟩ := rows3 HROW2.out
      go_wp2
      go_returns
      exact ⟨⟨u2, rfl, (HB2.out.alloc _).lines.base (Nat.le_succ _)⟩, (HB2.out.alloc _).below⟩
end Go.Proofs.YtgojmckfabhkaaaDoor.Sem
