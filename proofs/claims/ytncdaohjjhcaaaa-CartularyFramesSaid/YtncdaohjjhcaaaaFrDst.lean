/- WHAT LIES IN MEMORY WHILE A STREAM IS WRITTEN: the writer, the two sets of codes, the map. Conditions: the numbers. -/
import Derived.Test.YtncdaohjjhcaaaaFrMkSt
import Derived.Test.YtncdaohjjhcaaaaDeltaMap
namespace Go.Proofs.Ytncdaohjjhcaaaa
open Go.RowKit Sums
set_option linter.unusedVariables false

theorem places.mono {w : World} {M N N' : Nat} (h : places w M N) (hN : N ≤ N') : places w M N' := by
  obtain ⟨es, clock, h1, h2⟩ := h
  refine ⟨es, clock, h1, fun e he => ?_⟩
  obtain ⟨hs, k, hk, hv⟩ := h2 e he
  exact ⟨hs, k, by omega, hv⟩
theorem places.ne_cells {w : World} {M N b : Nat} {c : Array Value} {t : TypeId} {f : Nat × Nat} (h : places w M N) (hb : w.heap[b]? = some (.cells c t f)) : M ≠ b := fun e => by
  obtain ⟨es, clock, h1, _⟩ := h
  rw [e, hb] at h1
  injection h1 with h1
  cases h1
theorem places.ne_row {w : World} {M N B size n : Nat} {e : TypeId} {v : Value} {xs : List Value} (h : places w M N) (hr : w.ownsRow B e size v n xs) : v.ownBlock ≠ some M := fun he => by
  rcases hr.2 with ⟨e0, _⟩ | ⟨g, cap, cur, rfl, hB, hg, rest⟩
  · rw [e0] at he; cases he
  · have hgM : g = M := by injection he
    exact h.ne_cells hg hgM.symm
theorem tat_below {w w' : World} {bt B : Nat} {L : List Int} {LV SV : Value} (h : TAt w bt B L LV SV) (hb : Below w.heap.size w w') : TAt w' bt B L LV SV :=
  ⟨below_heap hb h.cell (lt_of_block h.cell), h.len.below hb, h.srt.below hb⟩
theorem tat_kt {w w' : World} {b bt B B2 B3 : Nat} {L : List Int} {LV SV v : Value} {a : St} (h : TAt w bt B2 L LV SV) (hw : WAt w b B3 v a) (hk : Kt 5 b B w w') : TAt w' bt B2 L LV SV := by
  have hc : w.heap[b]? = _ := hw.cell
  have h1 : bt ≠ b := fun e => by
    have h1 := h.cell
    rw [e, hc] at h1
    injection h1 with h1
    injection h1 with _ h1 _
    exact absurd h1 (by decide)
  exact ⟨kt_heap hk h.cell h1 (fun cur f e => by injection e with _ e _; exact absurd e (by decide)), kt_row hk h.len (by decide) (row_ne h.len hc (by decide)), kt_row hk h.srt (by decide) (row_ne h.srt hc (by decide))⟩
theorem tat_map {w w' : World} {M N bt B : Nat} {L : List Int} {LV SV : Value} (h : TAt w bt B L LV SV) (hm : places w M N) (hg : w.grownBy w' (some M)) : TAt w' bt B L LV SV :=
  ⟨gb_heap hg h.cell (fun e => hm.ne_cells h.cell (Option.some.inj e).symm), h.len.kept hg (.inr (hm.ne_row h.len)), h.srt.kept hg (.inr (hm.ne_row h.srt))⟩

/-- While a stream is written. -/
structure DW (w0 W : World) (b1 b2 M : Nat) (LV1 SV1 LV2 SV2 : Value) (N : Nat) (a : St) : Prop where
  wr : ∃ v, WAt W w0.heap.size w0.heap.size v a
  t1 : TAt W b1 w0.heap.size litL LV1 SV1
  t2 : TAt W b2 w0.heap.size distL LV2 SV2
  pl : places W M N
  hM : w0.heap.size ≤ M
  bl : Below w0.heap.size w0 W
theorem DW.kt {w0 W W' : World} {b1 b2 M N : Nat} {LV1 SV1 LV2 SV2 : Value} {a a' : St} (h : DW w0 W b1 b2 M LV1 SV1 LV2 SV2 N a) (hk : Kt 5 w0.heap.size w0.heap.size W W') (hw : ∃ v', WAt W' w0.heap.size w0.heap.size v' a') : DW w0 W' b1 b2 M LV1 SV1 LV2 SV2 N a' := by
  obtain ⟨v, hv⟩ := h.wr
  refine ⟨hw, tat_kt h.t1 hv hk, tat_kt h.t2 hv hk, ?_, h.hM, h.bl.trans (kt_to_below hk (Nat.le_refl _) h.bl.size)⟩
  obtain ⟨es, clock, h1, h2⟩ := h.pl
  exact ⟨es, clock, kt_heap hk h1 (h.pl.ne_cells hv.cell) (fun cur f e => by cases e), h2⟩
theorem DW.mono {w0 W : World} {b1 b2 M N N' : Nat} {LV1 SV1 LV2 SV2 : Value} {a : St} (h : DW w0 W b1 b2 M LV1 SV1 LV2 SV2 N a) (hN : N ≤ N') : DW w0 W b1 b2 M LV1 SV1 LV2 SV2 N' a :=
  ⟨h.wr, h.t1, h.t2, h.pl.mono hN, h.hM, h.bl⟩
theorem DW.upd {w0 W W' : World} {b1 b2 M N N' : Nat} {LV1 SV1 LV2 SV2 : Value} {a : St} (h : DW w0 W b1 b2 M LV1 SV1 LV2 SV2 N a) (hp : places W' M N') (hg : W.grownBy W' (some M)) : DW w0 W' b1 b2 M LV1 SV1 LV2 SV2 N' a := by
  obtain ⟨v, hv⟩ := h.wr
  refine ⟨⟨v, hv.ok, gb_heap hg hv.cell (fun e => h.pl.ne_cells hv.cell (Option.some.inj e).symm), hv.own.kept hg (.inr (h.pl.ne_row hv.own))⟩, tat_map h.t1 h.pl hg, tat_map h.t2 h.pl hg, hp, h.hM, ?_⟩
  exact ⟨hg.os.trans h.bl.os, hg.tape.trans h.bl.tape, hg.output.trans h.bl.output, Nat.le_trans h.bl.size hg.size, fun k hk => (hg.block k (by have := h.bl.size; omega) (fun e => by have := h.hM; injection e with e; omega)).trans (h.bl.block k hk)⟩
theorem DW.drewN {w0 W : World} {b1 b2 M N : Nat} {LV1 SV1 LV2 SV2 : Value} {a : St} (h : DW w0 W b1 b2 M LV1 SV1 LV2 SV2 N a) (n : Nat) : DW w0 (W.drewN n) b1 b2 M LV1 SV1 LV2 SV2 N a := by
  obtain ⟨v, hv⟩ := h.wr
  refine ⟨⟨v, hv.ok, hv.cell, hv.own⟩, ⟨h.t1.cell, h.t1.len, h.t1.srt⟩, ⟨h.t2.cell, h.t2.len, h.t2.srt⟩, h.pl, h.hM, ⟨h.bl.os, h.bl.tape, h.bl.output, h.bl.size, h.bl.block⟩⟩

section
variable {w0 W : World} {b1 b2 M N : Nat} {LV1 SV1 LV2 SV2 : Value} {a : St}
theorem DW.code1 (h : DW w0 W b1 b2 M LV1 SV1 LV2 SV2 N a) (x : Nat) (hx : x < 288) :
    Calls Try.prog 6 #[.pointer (some ⟨b1, 0, none⟩), .int .i64 (x : Int)] W fun e w' => e = .returned (.tuple #[.int .u32 ((codeOf litL x : Nat) : Int), .int .i64 ((lenOf litL x : Nat) : Int)]) ∧ W = w' :=
  (code_any b1 w0.heap.size x litL LV1 SV1 W h.t1 good_lit (has_lit x hx)).mono fun e w' ⟨h1, h2⟩ => ⟨h1, h2.symm⟩
theorem DW.code2 (h : DW w0 W b1 b2 M LV1 SV1 LV2 SV2 N a) (x : Nat) (hx : x < 32) :
    Calls Try.prog 6 #[.pointer (some ⟨b2, 0, none⟩), .int .i64 (x : Int)] W fun e w' => e = .returned (.tuple #[.int .u32 ((codeOf distL x : Nat) : Int), .int .i64 ((lenOf distL x : Nat) : Int)]) ∧ W = w' :=
  (code_any b2 w0.heap.size x distL LV2 SV2 W h.t2 good_dist (has_dist x hx)).mono fun e w' ⟨h1, h2⟩ => ⟨h1, h2.symm⟩
theorem code_small {L : List Int} (hg : Good L) {s : Nat} (hs : Has L s) : codeOf L s < 2 ^ 32 := by
  have h1 := code_lt hg.kraft hs
  have h2 : (2 : Nat) ^ lenOf L s ≤ 2 ^ 15 := Nat.pow_le_pow_right (by decide) hs.le
  have h3 : (2 : Nat) ^ 15 = 32768 := by decide
  omega
theorem DW.put1 (h : DW w0 W b1 b2 M LV1 SV1 LV2 SV2 N a) (ha : a.n ≤ 100000000) (x : Nat) (hx : x < 288) :
    Calls Try.prog 8 #[.pointer (some ⟨w0.heap.size, 0, none⟩), .int .u32 ((codeOf litL x : Nat) : Int), .int .i64 ((lenOf litL x : Nat) : Int)] W fun e w' => e = .returned (.tuple #[]) ∧ DW w0 w' b1 b2 M LV1 SV1 LV2 SV2 N (encC litL x a) := by
  obtain ⟨v, hv⟩ := h.wr
  have hs := has_lit x hx
  refine (wcode_any w0.heap.size w0.heap.size (codeOf litL x) (lenOf litL x) v a W hv h.bl.size ha hs.pos (by have := hs.le; omega) (code_small good_lit hs)).mono ?_
  rintro e w' ⟨rfl, hw, hk⟩
  exact ⟨rfl, h.kt hk hw⟩
theorem DW.put2 (h : DW w0 W b1 b2 M LV1 SV1 LV2 SV2 N a) (ha : a.n ≤ 100000000) (x : Nat) (hx : x < 32) :
    Calls Try.prog 8 #[.pointer (some ⟨w0.heap.size, 0, none⟩), .int .u32 ((codeOf distL x : Nat) : Int), .int .i64 ((lenOf distL x : Nat) : Int)] W fun e w' => e = .returned (.tuple #[]) ∧ DW w0 w' b1 b2 M LV1 SV1 LV2 SV2 N (encC distL x a) := by
  obtain ⟨v, hv⟩ := h.wr
  have hs := has_dist x hx
  refine (wcode_any w0.heap.size w0.heap.size (codeOf distL x) (lenOf distL x) v a W hv h.bl.size ha hs.pos (by have := hs.le; omega) (code_small good_dist hs)).mono ?_
  rintro e w' ⟨rfl, hw, hk⟩
  exact ⟨rfl, h.kt hk hw⟩
theorem DW.bits (h : DW w0 W b1 b2 M LV1 SV1 LV2 SV2 N a) (ha : a.n ≤ 100000000) (x k : Nat) (hk : k ≤ 32) (hx : x < 2 ^ k) :
    Calls Try.prog 19 #[.pointer (some ⟨w0.heap.size, 0, none⟩), .int .u32 (x : Int), .int .i64 (k : Int)] W fun e w' => e = .returned (.tuple #[]) ∧ DW w0 w' b1 b2 M LV1 SV1 LV2 SV2 N (a.put k x) := by
  obtain ⟨v, hv⟩ := h.wr
  have hx2 : x < 2 ^ 32 := Nat.lt_of_lt_of_le hx (Nat.pow_le_pow_right (by decide) hk)
  refine (wbits_any w0.heap.size w0.heap.size x k v a W hv h.bl.size (by omega) hk hx2).mono ?_
  rintro e w' ⟨rfl, hw, hk⟩
  rw [Nat.mod_eq_of_lt hx] at hw
  exact ⟨rfl, h.kt hk hw⟩
theorem DW.text (h : DW w0 W b1 b2 M LV1 SV1 LV2 SV2 N a) (ha : a.n ≤ 100000000) :
    Calls Try.prog 11 #[.pointer (some ⟨w0.heap.size, 0, none⟩)] W fun e w' => e = .returned (.string ⟨(textOf a).toArray⟩) ∧ Below w0.heap.size w0 w' := by
  obtain ⟨v, hv⟩ := h.wr
  refine (wtext_any w0.heap.size w0.heap.size v a W hv ha).mono ?_
  rintro e w' ⟨rfl, hb⟩
  exact ⟨rfl, h.bl.trans (hb.mono h.bl.size)⟩
end
end Go.Proofs.Ytncdaohjjhcaaaa
