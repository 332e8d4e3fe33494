/- THE WALK of Stored: a stream of one stored block. Conditions: the text is short. -/
import Derived.Test.YtncdaohjjhcaaaaFrEnd
import Derived.Test.YtncdaohjjhcaaaaCodW2
import Derived.Deep.RegionHeld3
namespace Go.Proofs.Ytncdaohjjhcaaaa
open Go.RowKit Sums
set_option linter.unusedVariables false

theorem below_next {B : Nat} {a w w' : World} (h : Below B a w) (hb : Below w.heap.size w w') (hB : B ≤ a.heap.size) : Below B a w' := h.trans (hb.mono (Nat.le_trans hB h.size))
theorem cat_size (a b : ByteArray) : (a ++ b).size = a.size + b.size := by simp
/-- What Stored writes. -/
def stoS (l : List UInt8) : St := encB (stHdr l.length ++ l) ⟨3, 1⟩
theorem stoS_len (l : List UInt8) : (textOf (stoS l)).length = l.length + 5 := by
  rw [text_len]
  show (up8 3 + 8 * (stHdr l.length ++ l).length + 7) / 8 = _
  rw [List.length_append, stHdr_len]
  have : up8 3 = 8 := by decide
  omega
theorem stoS_strm (l : List UInt8) (h : l.length < 1000) : Strm (textOf (stoS l)) l :=
  ⟨stoS l, (encB_ok (show (⟨3, 1⟩ : St).ok from by show 1 < 2 ^ 3; decide)).1, rfl, .inr ⟨h, rfl⟩⟩
theorem wat_new (w : World) : WAt (w.alloc (.cells #[.slice none 0 0, .int .u64 0, .int .i64 0] 34)) w.heap.size w.heap.size (.slice none 0 0) ⟨0, 0⟩ :=
  ⟨by show 0 < 2 ^ 0; decide, heap_alloc_same w _, ownsB_nil _ _⟩
theorem WAt.below {w w' : World} {b B : Nat} {v : Value} {a : St} (h : WAt w b B v a) (hb : Below w.heap.size w w') : WAt w' b B v a :=
  ⟨h.ok, below_heap hb h.cell (lt_of_block h.cell), h.own.below hb⟩

set_option maxRecDepth 100000 in
set_option maxHeartbeats 2000000 in
theorem mkStored_any (s : ByteArray) (w : World) (hs : s.size < 1000) :
    Calls Try.prog 24 #[.string s] w fun e w' => e = .returned (.string ⟨(textOf (stoS s.data.toList)).toArray⟩) ∧ Below w.heap.size w w' := by
  have hlen : s.data.toList.length = s.size := by simp
  have hmin : min (s.size : Int) 65535 = (s.size : Int) := by omega
  have hxo := xor_w s.size hs
  obtain ⟨y, hy⟩ : ∃ y, y = 65535 - s.size := ⟨_, rfl⟩
  rw [← hy] at hxo
  have hyl : y ≤ 65535 := by omega
  have hwy : IntKind.u64.wrap (y : Int) = (y : Int) := IntWalk.u64_in _ (by omega)
  have hws : IntKind.u64.wrap (s.size : Int) = (s.size : Int) := IntWalk.u64_in _ (by omega)
  have hs0 : (0 : Int) ≤ (s.size : Int) := by omega
  have L1 : RowKit.Hid (∀ W, Calls Try.prog 34 #[.int .u64 (s.size : Int), .int .i64 2] W fun e w' => e = .returned (.string ⟨(lits s.size 2).toArray⟩) ∧ Below W.heap.size W w') := Lib.hid (fun W => little_any s.size 2 2 (.inr rfl) (by decide) (by show _ < 18446744073709551616; omega) W)
  have L2 : RowKit.Hid (∀ W, Calls Try.prog 34 #[.int .u64 (y : Int), .int .i64 2] W fun e w' => e = .returned (.string ⟨(lits y 2).toArray⟩) ∧ Below W.heap.size W w') := Lib.hid (fun W => little_any y 2 2 (.inr rfl) (by decide) (by show _ < 18446744073709551616; omega) W)
  obtain ⟨t1, ht1⟩ : ∃ t : ByteArray, t = ⟨(lits s.size 2).toArray⟩ := ⟨_, rfl⟩
  obtain ⟨t2, ht2⟩ : ∃ t : ByteArray, t = ⟨(lits y 2).toArray⟩ := ⟨_, rfl⟩
  rw [← ht1] at L1
  rw [← ht2] at L2
  have z1 : t1.size = 2 := by rw [ht1]; show (lits s.size 2).toArray.size = 2; rw [List.size_toArray, lits_length]
  have z2 : t2.size = 2 := by rw [ht2]; show (lits y 2).toArray.size = 2; rw [List.size_toArray, lits_length]
  have hex : s.extract 0 s.size = s := by apply ByteArray.ext; apply Array.ext'; simp
  have hcat : (t1 ++ t2 ++ s).data.toList = stHdr s.size ++ s.data.toList := by
    unfold stHdr
    rw [ht1, ht2, hy]
    simp
  have z12 : (t1 ++ t2).size = 4 := by rw [cat_size]; omega
  have zall : (t1 ++ t2 ++ s).size ≤ 1000000 := by rw [cat_size]; omega
  have k1 : (9223372036854775807 < t1.size + t2.size) = False := by simp; omega
  have k2 : (9223372036854775807 < (t1 ++ t2).size + s.size) = False := by simp; omega
  have k3 : (9223372036854775807 < t1.size + t2.size + s.size) = False := by simp; omega
  have k4 : (9223372036854775807 < 2 + 2 + s.size) = False := by simp; omega
  have k5 : (9223372036854775807 < 4 + s.size) = False := by simp; omega
  have HN := Lib.hid (wat_new w)
  have HB := Lib.hid ((Below.refl w.heap.size w).alloc (Nat.le_refl _) (.cells #[.slice none 0 0, .int .u64 0, .int .i64 0] 34))
  have C1 := Lib.hid (wbits_any w.heap.size w.heap.size 1 3 _ _ _ HN.out HB.out.size (by decide) (by decide) (by decide))
  have C2 : RowKit.Hid (∀ W v, WAt W w.heap.size w.heap.size v ⟨3, 1⟩ → w.heap.size ≤ W.heap.size → Calls Try.prog 9 #[.pointer (some ⟨w.heap.size, 0, none⟩), .string (t1 ++ t2 ++ s)] W fun e w' => e = .returned (.tuple #[]) ∧ (∃ v', WAt w' w.heap.size w.heap.size v' (stoS s.data.toList)) ∧ Kt 5 w.heap.size w.heap.size W w') := Lib.hid (fun W v hW hBW => by
    have h := wbytes_any w.heap.size w.heap.size (t1 ++ t2 ++ s) v ⟨3, 1⟩ W hW hBW (by decide) zall
    rw [hcat] at h
    unfold stoS
    rw [hlen]
    exact h)
  have hn3 : (stoS s.data.toList).n ≤ 100000000 := by
    show up8 3 + 8 * (stHdr s.data.toList.length ++ s.data.toList).length ≤ _
    have h8 : up8 3 = 8 := by decide
    rw [List.length_append, stHdr_len, hlen]
    omega
  have C3 := Lib.hid (fun W v (hW : WAt W w.heap.size w.heap.size v (stoS s.data.toList)) => wtext_any w.heap.size w.heap.size v (stoS s.data.toList) W hW hn3)
  clear hn3 hlen hs hy hyl ht1 ht2 hcat z12 zall
  generalize stoS s.data.toList = A3 at C2 C3 ⊢
  go_enter Try.func24, Try.ntmps24
  go_wp2_with fail
  go_loopw [0] (fun v0 wr => v0 = .string s ∧ wr = w.alloc (.cells #[.slice none 0 0, .int .u64 0, .int .i64 0] 34)) (fun _ _ => 0)
  case atStart => exact ⟨rfl, rfl⟩
  case round =>
    obtain ⟨rfl, rfl⟩ := hrel
    go_wp2_with fail
    refine (C1.out).mono ?_
    rintro e w1 ⟨rfl, ⟨v1, hw1⟩, hk1⟩
    have W1 : RowKit.Hid (WAt w1 w.heap.size w.heap.size v1 ⟨3, 1⟩) := Lib.hid hw1
    have hle1 : w.heap.size ≤ w1.heap.size := Nat.le_trans HB.out.size hk1.size
    have B1 := Lib.hid (HB.out.trans (kt_to_below hk1 (Nat.le_refl _) HB.out.size))
    have hbd : Below w1.heap.size w1 w1.drew := (Below.refl _ _).drew
    clear hw1 hk1
    go_wp2_with fail
    try simp only [List.append_eq, List.cons_append, List.nil_append]
    go_region_held3 (fun w' => True)
      (exact True.intro)
      (first
        | (go_at_call 34
           first
             | (with_reducible refine (L1.out _).mono ?_)
             | (with_reducible refine (L2.out _).mono ?_)
           rintro e w' ⟨rfl, hb⟩
           have hbd : Below w1.heap.size w1 w' := below_next (by assumption) hb (Nat.le_refl _))
        | (go_at_call 9
           refine (C2.out _ _ (W1.out.below (by assumption)) (Nat.le_trans hle1 (Below.size (by assumption : Below w1.heap.size w1 _)))).mono ?_
           rintro e w3 ⟨rfl, ⟨v3, hw3⟩, hk3⟩
           have B3 := Lib.hid (B1.out.trans ((Below.mono (by assumption : Below w1.heap.size w1 _) hle1).trans (kt_to_below hk3 (Nat.le_refl _) (Nat.le_trans hle1 (Below.size (by assumption : Below w1.heap.size w1 _))))))
           have W3 := Lib.hid hw3
           clear hw3 hk3))
    all_goals
      clear hbd
      go_wp2_with fail
      refine (C3.out _ _ W3.out).mono ?_
      rintro e w4 ⟨rfl, hb4⟩
      go_wp2
      go_ret
      exact ⟨rfl, B3.out.trans (hb4.mono (Below.size B3.out))⟩
end Go.Proofs.Ytncdaohjjhcaaaa
