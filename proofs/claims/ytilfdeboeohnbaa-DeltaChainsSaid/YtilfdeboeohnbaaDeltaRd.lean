/- THE READER OF A DELTA: a byte, a number in groups of seven bits, a copy's place and length. Conditions: the reader lies in a block of the call's own. -/
import Derived.Test.YtilfdeboeohnbaaBytes
import Derived.Test.YtilfdeboeohnbaaIntBits
import Derived.Test.YtilfdeboeohnbaaDeltaMath
import Derived.Deep.QuietTactic
import Derived.BigQuiet
import Derived.LoopTactic
namespace Go.Proofs.Ytilfdeboeohnbaa
open Go.RowKit Delta
set_option linter.unusedVariables false

/-- The reader in block b: the delta d, the place. -/
def rdr (w : World) (b : Nat) (d : ByteArray) (at_ : Nat) : Prop := w.heap[b]? = some (.cells #[.string d, .int .i64 (at_ : Int)] 43 (0, 0))
def wrong (x : Nat) : List PanicEntry := [{ v := .iface 39 (.int .i64 (x : Int)), recovered := false }]

theorem rdr_cells {w : World} {b a : Nat} {d : ByteArray} (h : rdr w b d a) : w.cell? ⟨b, 0, none⟩ = some (.string d) ∧ w.cell? ⟨b, 1, none⟩ = some (.int .i64 (a : Int)) ∧ w.frozen? ⟨b, 1, none⟩ = false :=
  ⟨(cell_at h 0).trans rfl, (cell_at h 1).trans rfl, free_at h 1⟩
theorem rdr_set {w : World} {b a : Nat} {d : ByteArray} (h : rdr w b d a) (n k : Nat) : rdr ((w.drewN n).setCell ⟨b, 1, none⟩ (.int .i64 (k : Int))) b d k := by
  have h' : (w.drewN n).heap[b]? = some (.cells #[.string d, .int .i64 (a : Int)] 43 (0, 0)) := h
  exact heap_set h' 1 _
theorem rdr.gb {w w' : World} {b a : Nat} {d : ByteArray} {r : Option Nat} (h : rdr w b d a) (hg : w.grownBy w' r) (hr : some b ≠ r) : rdr w' b d a := gb_heap hg h hr
theorem gb_drewN {a b : World} {r : Option Nat} (h : a.grownBy b r) (n : Nat) : a.grownBy (b.drewN n) r := ⟨h.os, h.tape, h.output, h.size, h.block⟩

set_option maxRecDepth 100000 in
set_option maxHeartbeats 1000000 in
theorem byte_ok (d : ByteArray) (a b : Nat) (w : World) (hd : (d.size : Int) ≤ 1000000) (h : rdr w b d a) (ha : a < d.size) :
    Calls Try.prog 16 #[.pointer (some ⟨b, 0, none⟩)] w fun e w' => e = .returned (.int .i64 (d[a].toNat : Int)) ∧ rdr w' b d (a + 1) ∧ w.grownBy w' (some b) := by
  obtain ⟨c0, c1, f1⟩ := rdr_cells h
  have H := Lib.hid h
  clear h
  have e1 : ((a : Int) == (d.size : Int)) = false := by rw [beq_eq_false_iff_ne]; omega
  go_enter Try.func16, Try.ntmps16
  go_wp2
  go_quiet (fail)
  go_wp2
  have h1 := rdr_set H.out nq (a + 1)
  have e2 : ((a + 1 : Nat) : Int) = (a : Int) + 1 := by omega
  rw [e2] at h1
  have hg : w.grownBy ((w.drewN nq).setCell ⟨b, 1, none⟩ (.int .i64 ((a : Int) + 1))) (some b) := gb_set (gb_drewN (gb_refl _ _) _) _ _
  clear e2 c0 c1 f1 e1
  generalize (w.drewN nq).setCell ⟨b, 1, none⟩ (.int .i64 ((a : Int) + 1)) = W at h1 hg ⊢
  obtain ⟨c0, c1, f1⟩ := rdr_cells h1
  have H1 := Lib.hid h1
  have HG := Lib.hid hg
  clear h1 hg
  have e2 : ((a + 1 : Nat) : Int) = (a : Int) + 1 := by omega
  rw [e2] at c1
  clear e2
  have e3 : IntKind.i64.wrap ((a : Int) + 1 - 1) = (a : Int) := by rw [show (a : Int) + 1 - 1 = a by omega]; exact IntWalk.i64_in _ (by omega)
  have e4 : IntKind.i64.wrap (a : Int) = (a : Int) := IntWalk.i64_in _ (by omega)
  have e5 : (a : Int) < d.size := by omega
  go_quiet (fail)
  go_wp2
  go_ret
  refine ⟨?_, H1.out, gb_drewN HG.out _⟩
  have hb := d[a].toNat_lt
  show Ending.returned (.int .i64 (wrap64 (d[a].toNat : Int))) = _
  rw [IntWalk.wrap64_in _ ⟨by omega, by omega⟩]

set_option maxRecDepth 100000 in
set_option maxHeartbeats 1000000 in
theorem byte_end (d : ByteArray) (b : Nat) (w : World) (hd : (d.size : Int) ≤ 1000000) (h : rdr w b d d.size) :
    Calls Try.prog 16 #[.pointer (some ⟨b, 0, none⟩)] w fun e w' => e = .panicked (wrong 6) ∧ w.grownBy w' (some b) := by
  obtain ⟨c0, c1, f1⟩ := rdr_cells h
  have e1 : ((d.size : Int) == (d.size : Int)) = true := by simp
  clear h
  go_enter Try.func16, Try.ntmps16
  go_wp2
  go_quiet (fail)
  go_wp2
  exact ⟨rfl, rfl, gb_drewN (gb_refl _ _) _⟩

/-! The reader by what is left to read. -/
def rdrL (w : World) (b : Nat) (d : ByteArray) (l : List UInt8) : Prop := ∃ a, a ≤ d.size ∧ rdr w b d a ∧ d.data.toList.drop a = l
theorem rdrL.gb {w w' : World} {b : Nat} {l : List UInt8} {d : ByteArray} {r : Option Nat} (h : rdrL w b d l) (hg : w.grownBy w' r) (hr : some b ≠ r) : rdrL w' b d l := by
  obtain ⟨a, ha, hr', hd⟩ := h
  exact ⟨a, ha, hr'.gb hg hr, hd⟩
theorem drop_len (d : ByteArray) (a : Nat) : (d.data.toList.drop a).length = d.size - a := by rw [List.length_drop, Array.length_toList]; rfl

theorem byte_cons (d : ByteArray) (c : UInt8) (l : List UInt8) (b : Nat) (w : World) (hd : (d.size : Int) ≤ 1000000) (h : rdrL w b d (c :: l)) :
    Calls Try.prog 16 #[.pointer (some ⟨b, 0, none⟩)] w fun e w' => e = .returned (.int .i64 (c.toNat : Int)) ∧ rdrL w' b d l ∧ w.grownBy w' (some b) := by
  obtain ⟨a, ha, hr, hl⟩ := h
  have hlen := drop_len d a
  rw [hl, List.length_cons] at hlen
  have has : a < d.size := by omega
  have h2 : d.data.toList.drop a = d[a] :: d.data.toList.drop (a + 1) := by rw [List.drop_eq_getElem_cons (by rw [Array.length_toList]; exact has)]; rfl
  rw [hl] at h2
  injection h2 with h3 h4
  refine (byte_ok d a b w hd hr has).mono ?_
  rintro e w' ⟨rfl, h1, hg⟩
  exact ⟨by rw [h3], ⟨a + 1, by omega, h1, h4.symm⟩, hg⟩
theorem byte_nil (d : ByteArray) (b : Nat) (w : World) (hd : (d.size : Int) ≤ 1000000) (h : rdrL w b d []) :
    Calls Try.prog 16 #[.pointer (some ⟨b, 0, none⟩)] w fun e w' => e = .panicked (wrong 6) ∧ w.grownBy w' (some b) := by
  obtain ⟨a, ha, hr, hl⟩ := h
  have hlen := drop_len d a
  rw [hl] at hlen
  have has : a = d.size := by simp at hlen; omega
  subst has
  exact byte_end d b w hd hr

/-- How a number's reading ends. -/
def SizeEnd (b : Nat) (d : ByteArray) (r : Except Nat (Nat × List UInt8)) (e : Ending) (w' : World) : Prop :=
  match r with
  | .ok (n, l) => e = .returned (.int .i64 (n : Int)) ∧ rdrL w' b d l
  | .error x => e = .panicked (wrong x)

set_option maxRecDepth 100000 in
set_option maxHeartbeats 1000000 in
theorem size_any (d : ByteArray) (l : List UInt8) (b : Nat) (w : World) (hd : (d.size : Int) ≤ 1000000) (h : rdrL w b d l) :
    Calls Try.prog 19 #[.pointer (some ⟨b, 0, none⟩)] w fun e w' => SizeEnd b d (sz l 0 0) e w' ∧ w.grownBy w' (some b) := by
  obtain ⟨R, hR⟩ : ∃ R, R = sz l 0 0 := ⟨_, rfl⟩
  rw [← hR]
  have HR := Lib.hid hR
  have H := Lib.hid h
  clear hR h
  go_enter Try.func19, Try.ntmps19
  go_wp2_with fail
  go_loopw [3, 4] (fun nv sv wr => ∃ (i n : Nat) (r : List UInt8), i ≤ 5 ∧ n < 128 ^ i ∧ sv = .int .i64 (7 * i : Nat) ∧ nv = .int .i64 (n : Int) ∧ rdrL wr b d r ∧ R = sz r i n ∧ w.grownBy wr (some b)) (fun _ sv _ => 100 - (intOf sv).toNat)
  case atStart => exact ⟨0, 0, l, by omega, by decide, rfl, rfl, H.out, HR.out, gb_refl _ _⟩
  case round =>
    obtain ⟨i, n, r, hi, hn, rfl, rfl, hr, hsz, hg⟩ := hrel
    have HZ := Lib.hid hsz
    have HG := Lib.hid hg
    have HN := Lib.hid hn
    clear hsz hg hn
    obtain ⟨s, hs⟩ : ∃ s, s = 7 * i := ⟨_, rfl⟩
    rw [← hs]
    have hs35 : s ≤ 35 := by omega
    have HS := Lib.hid hs
    clear hs
    cases r with
    | nil =>
      have HQ := Lib.hid hr
      clear hr
      go_wp2_with fail
      refine (byte_nil d b _ hd HQ.out).mono ?_
      rintro e w1 ⟨rfl, hg1⟩
      go_wp2
      exact ⟨rfl, by rw [HZ.out]; exact rfl, gb_trans HG.out hg1⟩
    | cons c r =>
      have HQ := Lib.hid hr
      have hcb := c.toNat_lt
      clear hr
      by_cases h5 : 5 ≤ i
      · have h29 : 28 < s := by have := HS.out; omega
        go_wp2_with fail
        refine (byte_cons d c r b _ hd HQ.out).mono ?_
        rintro e w1 ⟨rfl, hr1, hg1⟩
        go_wp2
        exact ⟨rfl, by rw [HZ.out, sz, if_pos h5]; exact rfl, gb_trans HG.out hg1⟩
      · have h28 : s ≤ 28 := by have := HS.out; omega
        go_wp2_with fail
        refine (byte_cons d c r b _ hd HQ.out).mono ?_
        rintro e w1 ⟨rfl, hr1, hg1⟩
        have hw := size_w n i c (by omega) HN.out
        have hlt := size_lt n i c HN.out
        rw [← HS.out] at hw
        obtain ⟨n', hn'⟩ : ∃ n', n' = n + c.toNat % 128 * 128 ^ i := ⟨_, rfl⟩
        rw [← hn'] at hw hlt
        have HN' := Lib.hid hn'
        have HLT := Lib.hid hlt
        clear hn' hlt
        by_cases h128 : c.toNat < 128
        · go_wp2
          go_ret
          refine ⟨?_, gb_trans HG.out hg1⟩
          rw [HZ.out, sz, if_neg h5, if_pos h128, ← HN'.out]
          exact ⟨rfl, hr1⟩
        · go_wp2
          go_roundw
          case rel =>
            have hs := HS.out
            refine ⟨i + 1, n', r, by omega, HLT.out, ?_, rfl, hr1, ?_, gb_trans HG.out hg1⟩
            · rw [hs]; go_num
            · rw [HZ.out, sz, if_neg h5, if_neg h128, ← HN'.out]
          case measure => simp [intOf]; omega
end Go.Proofs.Ytilfdeboeohnbaa
