/- THE WALK of Inflate over a stream that begins anywhere: fixed or stored. Conditions: the stream lies there; the numbers. -/
import Derived.Test.YtncdaohjjhcaaaaFrStored
import Derived.Test.YtncdaohjjhcaaaaQuietC
namespace Go.Proofs.Ytncdaohjjhcaaaa
open Go.RowKit Sums
set_option linter.unusedVariables false

set_option maxRecDepth 100000 in
theorem rnewAt_any (s : ByteArray) (q : Nat) (w : World) (hs : s.size ≤ 1000000000) (hq : q ≤ s.size) :
    Calls Try.prog 10 #[.string s, .int .i64 (q : Int)] w fun e w' => e = .returned (.pointer (some ⟨w.heap.size, 0, none⟩)) ∧ RAt w' w.heap.size s (8 * q) (q : Int) ∧ Below w.heap.size w w' ∧ w.heap.size < w'.heap.size := by
  by_cases h00 : q = 0
  · subst h00
    exact rnew_any s w hs
  have hpos : 0 < q := by omega
  have hmin : min (q : Int) (s.size : Int) = (q : Int) := by omega
  have hmax : max (0 : Int) (q : Int) = (q : Int) := by omega
  have h0 : rcell (w.alloc (.cells #[.string s, .int .i64 (q : Int), .int .u64 0, .int .i64 0, .int .i64 (q : Int)] 58)) w.heap.size s q (num s / 2 ^ (8 * q) % 2 ^ 0) 0 (q : Int) := by
    unfold rcell
    rw [Nat.pow_zero, Nat.mod_one]
    exact heap_alloc_same w _
  have HB := Lib.hid ((Below.refl w.heap.size w).alloc (Nat.le_refl _) (.cells #[.string s, .int .i64 (q : Int), .int .u64 0, .int .i64 0, .int .i64 (q : Int)] 58))
  have H0 := Lib.hid h0
  have HQ := Lib.hid hq
  clear h0 hq h00
  go_enter Try.func10, Try.ntmps10
  go_wp2
  go_ret
  exact ⟨rfl, ⟨q, 0, by omega, HQ.out, by decide, H0.out⟩, HB.out, by rw [World.size_alloc]; exact Nat.lt_succ_self _⟩

set_option maxRecDepth 100000 in
set_option maxHeartbeats 1000000 in
theorem used_any (b p q : Nat) (s : ByteArray) (w : World) (h : RAt w b s p (q : Int)) (hs : s.size ≤ 1000000000) (hq : q ≤ s.size) :
    Calls Try.prog 30 #[.pointer (some ⟨b, 0, none⟩)] w fun e w' => e = .returned (.int .i64 ((((p + 7) / 8 : Nat) : Int) - (q : Int))) ∧ ∃ n, w' = w.drewN n := by
  obtain ⟨a, hv, hr⟩ := h
  have heq := hr.eq
  have hle := hr.le
  have hsm := hr.small
  have c1 := cell_at hr.cell 1
  have c3 := cell_at hr.cell 3
  have c4 := cell_at hr.cell 4
  simp only [List.getElem?_toArray, List.getElem?_cons_zero, List.getElem?_cons_succ] at c1 c3 c4
  have h1 : IntKind.i64.wrap ((a : Int) - (hv : Int) / 8) = (((p + 7) / 8 : Nat) : Int) := by rw [IntWalk.i64_in _ (by omega)]; omega
  have h2 : IntKind.i64.wrap ((((p + 7) / 8 : Nat) : Int) - (q : Int)) = (((p + 7) / 8 : Nat) : Int) - (q : Int) := IntWalk.i64_in _ (by omega)
  have h3 : Int.tdiv (hv : Int) 8 = (hv : Int) / 8 := Int.tdiv_eq_ediv_of_nonneg (by omega)
  have h4 : IntKind.i64.wrap ((hv : Int) / 8) = (hv : Int) / 8 := IntWalk.i64_in _ (by omega)
  generalize (((p + 7) / 8 : Nat) : Int) = z at h1 h2 ⊢
  clear hr heq hle hsm
  go_enter Try.func30, Try.ntmps30
  go_wp2_with fail
  go_quiet (fail)
  clear c1 c3 c4
  obtain ⟨W, hW⟩ : ∃ W, W = w.drewN nq := ⟨_, rfl⟩
  rw [← hW]
  have E := Lib.hid hW
  clear hW
  go_wp2
  go_ret
  exact ⟨rfl, nq, E.out⟩

/-- A stream that was written here, and what it says. -/
def Strm (m s : List UInt8) : Prop := ∃ z : St, z.ok ∧ m = textOf z ∧ ((∃ l a, Toks l a s ∧ z = encC litL 256 a) ∨ (s.length < 1000 ∧ z = encB (stHdr s.length ++ s) ⟨3, 1⟩))
theorem strm_len {m s : List UInt8} (h : Strm m s) : ∃ z : St, m.length = (z.n + 7) / 8 ∧ ∀ (l r : List UInt8) (txt : ByteArray) (most : Nat), txt = ⟨(l ++ (m ++ r)).toArray⟩ → txt.size ≤ 1000000000 → s.length ≤ most → most ≤ 1000000 →
    8 * l.length + z.n ≤ 8 * txt.size ∧
    ∀ (b br B : Nat) (fr : Int) (ov : Value) (w : World), XAt w b br B txt (8 * l.length) fr [] most ov → B ≤ w.heap.size →
      Calls Try.prog 29 #[.pointer (some ⟨b, 0, none⟩)] w fun e w' => e = .returned (.int .i64 0) ∧ (∃ ov', XAt w' b br B txt (8 * l.length + z.n) fr s most ov') ∧ Ks 5 b br B w w' := by
  obtain ⟨z, hz, rfl, hk⟩ := h
  refine ⟨z, text_len z, ?_⟩
  intro l r txt most ht hsz hm hm2
  have hsize : txt.size = l.length + ((textOf z).length + r.length) := by
    rw [ht]
    show (l ++ (textOf z ++ r)).toArray.size = _
    simp
  rw [text_len] at hsize
  have hend : 8 * l.length + z.n ≤ 8 * txt.size := by omega
  have hs : Src (num txt) (8 * l.length) z := by
    have h1 := src_of l (textOf z) r z hz rfl
    have h2 : num txt = litN (l ++ (textOf z ++ r)) := by rw [ht]; rfl
    rw [h2]
    exact h1
  refine ⟨hend, ?_⟩
  intro b br B fr ov w hx hB
  rcases hk with ⟨tk, a, htk, rfl⟩ | ⟨hs1, rfl⟩
  · exact run_fixed b br B most (8 * l.length) a txt fr s tk ov w hx hB htk hs hend hsz hm hm2
  · have h1 := run_stored b br B most (8 * l.length) ⟨s.toArray⟩ txt fr ov w hx hB (by omega)
    have e1 : (⟨s.toArray⟩ : ByteArray).data.toList = s := rfl
    have e2 : (⟨s.toArray⟩ : ByteArray).size = s.length := by show s.toArray.size = _; simp
    rw [e1, e2] at h1
    exact h1 hs hend hsz hs1 hm hm2

set_option maxRecDepth 100000 in
set_option maxHeartbeats 2000000 in
theorem inflate_any (l m r s : List UInt8) (txt : ByteArray) (most : Nat) (w : World) (h : Strm m s) (ht : txt = ⟨(l ++ (m ++ r)).toArray⟩) (hsz : txt.size ≤ 1000000000) (hm : s.length ≤ most) (hm2 : most ≤ 65536) :
    Calls Try.prog 18 #[.string txt, .int .i64 (l.length : Int), .int .i64 (most : Int)] w fun e w' => e = .returned (.tuple #[.string ⟨s.toArray⟩, .int .i64 (m.length : Int), .int .i64 0]) ∧ Below w.heap.size w w' := by
  obtain ⟨z, hml, hrest⟩ := strm_len h
  obtain ⟨hend, hrun⟩ := hrest l r txt most ht hsz hm (by omega)
  have hq : l.length ≤ txt.size := by
    rw [ht]
    show _ ≤ (l ++ (m ++ r)).toArray.size
    simp
  have hqI : ¬ (txt.size : Int) < (l.length : Int) := by omega
  have hmI : ¬ (65536 : Int) < (most : Int) := by omega
  have C1 := Lib.hid (rnewAt_any txt l.length w hsz hq)
  have C2 := Lib.hid hrun
  have hu : (((8 * l.length + z.n + 7) / 8 : Nat) : Int) - (l.length : Int) = (m.length : Int) := by omega
  have C3 : RowKit.Hid (∀ (W : World) (b p : Nat), p = 8 * l.length + z.n → RAt W b txt p (l.length : Int) → Calls Try.prog 30 #[.pointer (some ⟨b, 0, none⟩)] W fun e w' => e = .returned (.int .i64 (m.length : Int)) ∧ ∃ n, w' = W.drewN n) := Lib.hid (fun W b p hp hr => by
    subst hp
    have h1 := used_any b (8 * l.length + z.n) l.length txt W hr hsz hq
    rw [hu] at h1
    exact h1)
  generalize 8 * l.length + z.n = P2 at C2 C3
  clear h ht hrest hend hrun hu hml hm hm2 hsz hq
  go_enter Try.func18, Try.ntmps18
  go_wp2_with fail
  refine (C1.out).mono ?_
  rintro e w1 ⟨rfl, hr1, hb1, hlt⟩
  have HX : RowKit.Hid (XAt (w1.alloc (.cells #[.pointer (some ⟨w.heap.size, 0, none⟩), .slice none 0 0, .int .i64 (most : Int)] 67)) w1.heap.size w.heap.size w.heap.size txt (8 * l.length) (l.length : Int) [] most (.slice none 0 0)) := Lib.hid ⟨heap_alloc_same w1 _, ownsB_nil _ _, rat_gb hr1 (gb_alloc (gb_refl w1 none) _) (by simp)⟩
  have HB : RowKit.Hid (Below w.heap.size w (w1.alloc (.cells #[.pointer (some ⟨w.heap.size, 0, none⟩), .slice none 0 0, .int .i64 (most : Int)] 67))) := Lib.hid (hb1.alloc hb1.size _)
  have hle : w.heap.size ≤ w1.heap.size := hb1.size
  have HLE := Lib.hid hle
  clear hr1 hb1 hlt C1 hle
  go_wp2_with fail
  refine (C2.out _ _ _ _ _ _ HX.out HB.out.size).mono ?_
  rintro e w2 ⟨rfl, ⟨ov, hx⟩, hk⟩
  have HB2 := Lib.hid (HB.out.trans (ks_to_below hk HLE.out (Nat.le_refl _) HB.out.size))
  have c0 := cell_at hx.cell 0
  have c1 := cell_at hx.cell 1
  simp only [List.getElem?_toArray, List.getElem?_cons_zero, List.getElem?_cons_succ] at c0 c1
  have X2 := Lib.hid hx
  clear hx hk HX HB C2
  go_wp2_with fail
  refine region_class (fun W => ∃ n, W = w2.drewN n) (by kernel_rfl) (by kernel_rfl) ⟨1, rfl⟩ ?_
  repeat (first
    | (refine qtake (v := ?_) (by rfl) (fun w9 hSw => ?_) ?_
       rotate_left
       · obtain ⟨n9, rfl⟩ := hSw
         have k1 := run_own_string (w2.drewN n9) _ _ _ (show ownsB (w2.drewN n9) w.heap.size ov s from X2.out.own)
         go_simp
         try with_reducible rfl
       simp only [Act.put, List.setIfInBounds_toArray, List.set_cons_zero, List.set_cons_succ])
    | (refine qcall (v := .int .i64 (m.length : Int)) (f := 30) (args := #[.pointer (some ⟨w.heap.size, 0, none⟩)]) (by rfl) (fun w9 => ?_) (fun w9 hSw => ?_) ?_
       · go_simp
       · obtain ⟨n9, rfl⟩ := hSw
         have hr9 : RAt (w2.drewN n9) w.heap.size txt P2 (l.length : Int) := by
           obtain ⟨a, hv, hr⟩ := X2.out.rd
           exact ⟨a, hv, rin_drewN hr n9⟩
         refine (C3.out _ _ _ rfl hr9).mono ?_
         rintro e w' ⟨rfl, n2, rfl⟩
         refine ⟨rfl, n9 + n2, ?_⟩
         rw [World.drewN_drewN]
       simp only [Act.put, List.setIfInBounds_toArray, List.set_cons_zero, List.set_cons_succ]))
  refine wpQuiet_nil ?_
  intro Wq hSq
  obtain ⟨nq, rfl⟩ := hSq
  have E : RowKit.Hid (Below w.heap.size w (w2.drewN nq)) := Lib.hid (by
    have h := HB2.out
    exact ⟨h.os, h.tape, h.output, h.size, h.block⟩)
  generalize w2.drewN nq = W3 at E ⊢
  clear c0 c1
  go_wp2
  go_ret3
  exact ⟨rfl, E.out⟩
end Go.Proofs.Ytncdaohjjhcaaaa
