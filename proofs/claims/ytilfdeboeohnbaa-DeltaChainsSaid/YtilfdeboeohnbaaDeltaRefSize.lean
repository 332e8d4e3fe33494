/- THE WALKS of the reference's size and Sizes. Conditions: the delta's length. -/
import Derived.Test.YtilfdeboeohnbaaBytes
import Derived.Test.YtilfdeboeohnbaaDeltaMath
import Derived.LoopTactic
namespace Go.Proofs.Ytilfdeboeohnbaa
open Go.RowKit Delta
set_option linter.unusedVariables false

/-- What the reference's size answers. -/
def szR (len : Nat) (r : Except Nat (Nat × List UInt8)) : Nat × Nat × Nat :=
  match r with
  | .ok (n, l) => (n, len - l.length, 0)
  | .error x => (0, 0, x)
def szV (r : Nat × Nat × Nat) : Value := .tuple #[.int .i64 (r.1 : Int), .int .i64 (r.2.1 : Int), .int .i64 (r.2.2 : Int)]

theorem drop_at (d : ByteArray) (a : Nat) (h : a < d.size) : d.data.toList.drop a = d[a] :: d.data.toList.drop (a + 1) := by
  rw [List.drop_eq_getElem_cons (by rw [Array.length_toList]; exact h)]; rfl
theorem drop_len' (d : ByteArray) (a : Nat) : (d.data.toList.drop a).length = d.size - a := by rw [List.length_drop, Array.length_toList]; rfl

theorem szV_ok (m n a : Nat) (l : List UInt8) (hl : l.length = m - a) (ha : a ≤ m) : szV (szR m (.ok (n, l))) = .tuple #[.int .i64 (n : Int), .int .i64 (a : Int), .int .i64 0] := by
  show Value.tuple #[.int .i64 (n : Int), .int .i64 ((m - l.length : Nat) : Int), .int .i64 ((0 : Nat) : Int)] = _
  rw [hl, show m - (m - a) = a by omega]
  rfl

set_option maxRecDepth 100000 in
set_option maxHeartbeats 1000000 in
theorem refSize_any (d : ByteArray) (at_ : Nat) (w : World) (hd : (d.size : Int) ≤ 1000000) (ha : at_ ≤ d.size) :
    Calls Try.prog 20 #[.string d, .int .i64 (at_ : Int)] w fun e w' => e = .returned (szV (szR d.size (sz (d.data.toList.drop at_) 0 0))) ∧ Below w.heap.size w w' := by
  obtain ⟨R, hR⟩ : ∃ R, R = sz (d.data.toList.drop at_) 0 0 := ⟨_, rfl⟩
  rw [← hR]
  have HR := Lib.hid hR
  clear hR
  go_enter Try.func20, Try.ntmps20
  go_wp2
  go_loopw [7, 8, 9] (fun nv uv iv wr => ∃ (i n u : Nat), i ≤ 5 ∧ at_ + i ≤ d.size ∧ n < 128 ^ i ∧ u = 128 ^ i ∧ iv = .int .i64 (i : Int) ∧ uv = .int .i64 (u : Int) ∧ nv = .int .i64 (n : Int) ∧ R = sz (d.data.toList.drop (at_ + i)) i n ∧ wr = w) (fun _ _ iv _ => 100 - (intOf iv).toNat)
  case atStart => exact ⟨0, 0, 1, by omega, by omega, by decide, by decide, rfl, rfl, rfl, HR.out, rfl⟩
  case round =>
    obtain ⟨i, n, u, hi, hai, hn, hu, rfl, rfl, rfl, hsz, rfl⟩ := hrel
    by_cases hlt : at_ + i < d.size
    · rw [drop_at d _ hlt] at hsz
      by_cases h5 : i = 5
      · have e : R = .error 3 := by rw [hsz, sz, if_pos (by omega)]
        clear hsz hn hu
        go_wp2
        go_returns
        exact ⟨by rw [e]; rfl, Below.refl _ _⟩
      · rw [sz, if_neg (by omega)] at hsz
        have hlt2 := size_lt n i d[at_ + i] hn
        have hi4 : (128 : Nat) ^ i ≤ 128 ^ 4 := Nat.pow_le_pow_right (by omega) (by omega)
        have hi5 : (128 : Nat) ^ (i + 1) = 128 * 128 ^ i := by rw [Nat.pow_succ, Nat.mul_comm]
        have hcb := d[at_ + i].toNat_lt
        rw [← hu] at hsz hlt2 hn hi4 hi5
        obtain ⟨P, hP⟩ : ∃ P, P = d[at_ + i].toNat % 128 * u := ⟨_, rfl⟩
        rw [← hP] at hsz hlt2
        have hPi : ((d[at_ + i].toNat : Int) % 128) * (u : Int) = (P : Int) := by rw [hP]; simp
        have HS := Lib.hid hsz
        have HL := Lib.hid hlt2
        have HP := Lib.hid hP
        have HU := Lib.hid hu
        have HI5 := Lib.hid hi5
        have w1 : IntKind.i64.wrap ((P : Int)) = (P : Int) := IntWalk.i64_in _ (by omega)
        have w2 : IntKind.i64.wrap ((n : Int) + (P : Int)) = ((n + P : Nat) : Int) := by rw [IntWalk.i64_in _ (by omega)]; omega
        have w3 : IntKind.i64.wrap (128 * (u : Int)) = ((128 * u : Nat) : Int) := by rw [IntWalk.i64_in _ (by omega)]; omega
        clear hsz hlt2 hP hu hi5 hn
        by_cases h128 : d[at_ + i].toNat < 128
        · go_wp2
          go_returns
          refine ⟨?_, Below.refl _ _⟩
          rw [HS.out, if_pos h128, szV_ok _ _ _ _ (drop_len' d (at_ + i + 1)) (by omega)]
          show Ending.returned (.tuple #[.int .i64 ((n : Int) + P), .int .i64 ((at_ : Int) + i + 1), .int .i64 0]) = _
          rw [show ((n : Int) + P) = ((n + P : Nat) : Int) by omega, show ((at_ : Int) + i + 1) = ((at_ + i + 1 : Nat) : Int) by omega]
        · go_wp2
          go_roundw
          case rel =>
            have hs := HS.out
            rw [if_neg h128] at hs
            exact ⟨i + 1, n + P, 128 * u, by omega, by omega, HL.out, by rw [HI5.out], by go_num, by go_num, by go_num, hs, trivial⟩
          case measure => simp [intOf]; omega
    · have e : R = .error 6 := by rw [hsz, List.drop_eq_nil_of_le (by rw [Array.length_toList]; exact Nat.le_of_not_lt hlt), sz]
      clear hsz hn hu
      go_wp2
      go_returns
      exact ⟨by rw [e]; rfl, Below.refl _ _⟩

def sizesW (r : Nat × Nat × Nat × Nat) : Value := .tuple #[.int .i64 (r.1 : Int), .int .i64 (r.2.1 : Int), .int .i64 (r.2.2.1 : Int), .int .i64 (r.2.2.2 : Int)]

theorem szR_call (len : Nat) (r : Except Nat (Nat × List UInt8)) : ∃ a b c : Nat, szR len r = (a, b, c) := ⟨_, _, _, rfl⟩

theorem sz_err : ∀ (l : List UInt8) (i n x : Nat), sz l i n = .error x → x = 3 ∨ x = 6
  | [], i, n, x, h => by rw [sz] at h; injection h with h; omega
  | c :: l, i, n, x, h => by
    rw [sz] at h
    split at h
    · injection h with h; omega
    · split at h
      · cases h
      · exact sz_err l _ _ _ h

theorem sz_drop : ∀ (l : List UInt8) (i n m : Nat) (r : List UInt8), sz l i n = .ok (m, r) → r.length ≤ l.length ∧ l.drop (l.length - r.length) = r
  | [], i, n, m, r, h => by rw [sz] at h; cases h
  | c :: l, i, n, m, r, h => by
    rw [sz] at h
    split at h
    · cases h
    · split at h
      · injection h with h
        simp only [Prod.mk.injEq] at h
        rw [← h.2]
        refine ⟨by simp, ?_⟩
        rw [List.length_cons, show l.length + 1 - l.length = 1 by omega]
        rfl
      · obtain ⟨h1, h2⟩ := sz_drop l _ _ _ _ h
        refine ⟨by simp; omega, ?_⟩
        rw [List.length_cons, show l.length + 1 - r.length = (l.length - r.length) + 1 by omega]
        exact h2

theorem refSize_err (d : ByteArray) (a : Nat) (w : World) (hd : (d.size : Int) ≤ 1000000) (ha : a ≤ d.size) (x : Nat) (h : sz (d.data.toList.drop a) 0 0 = .error x) :
    Calls Try.prog 20 #[.string d, .int .i64 (a : Int)] w fun e w' => e = .returned (.tuple #[.int .i64 0, .int .i64 0, .int .i64 (x : Int)]) ∧ Below w.heap.size w w' := by
  have := refSize_any d a w hd ha
  rw [h] at this
  exact this
theorem refSize_ok (d : ByteArray) (a : Nat) (w : World) (hd : (d.size : Int) ≤ 1000000) (ha : a ≤ d.size) (n : Nat) (r : List UInt8) (h : sz (d.data.toList.drop a) 0 0 = .ok (n, r)) :
    Calls Try.prog 20 #[.string d, .int .i64 (a : Int)] w fun e w' => e = .returned (.tuple #[.int .i64 (n : Int), .int .i64 ((d.size - r.length : Nat) : Int), .int .i64 0]) ∧ Below w.heap.size w w' := by
  have := refSize_any d a w hd ha
  rw [h] at this
  exact this

set_option maxRecDepth 100000 in
set_option maxHeartbeats 1000000 in
theorem refSizes_any (d : ByteArray) (w : World) (hd : (d.size : Int) ≤ 1000000) :
    Calls Try.prog 12 #[.string d] w fun e w' => e = .returned (sizesW (sizesS d.data.toList)) ∧ Below w.heap.size w w' := by
  have hd0 : d.data.toList.drop 0 = d.data.toList := List.drop_zero
  unfold sizesS
  cases hz : sz d.data.toList 0 0 with
  | error x =>
    have h1 := fun w => refSize_err d 0 w hd (Nat.zero_le _) x (by rw [hd0]; exact hz)
    have hx : ((x : Int) == 0) = false := by rw [beq_eq_false_iff_ne]; have := sz_err _ _ _ _ hz; omega
    clear hz hd0
    go_enter Try.func12, Try.ntmps12
    go_wp2_with (go_at_call 20; refine (h1 _).mono ?_; rintro e w' ⟨rfl, hb1⟩)
    go_returns
    exact ⟨rfl, by assumption⟩
  | ok p =>
    obtain ⟨a, r⟩ := p
    obtain ⟨hl, hdr⟩ := sz_drop _ _ _ _ _ hz
    have hsz : d.data.toList.length = d.size := by rw [Array.length_toList]; rfl
    rw [hsz] at hl hdr
    have h1 := fun w => refSize_ok d 0 w hd (Nat.zero_le _) a r (by rw [hd0]; exact hz)
    simp only []
    obtain ⟨b, hb⟩ : ∃ b, b = d.size - r.length := ⟨_, rfl⟩
    rw [← hb] at h1 hdr
    have hbl : b ≤ d.size := by omega
    clear hz hd0 hb
    cases hy : sz r 0 0 with
    | error x =>
      have h2 := fun w => refSize_err d b w hd hbl x (by rw [hdr]; exact hy)
      have hx : ((x : Int) == 0) = false := by rw [beq_eq_false_iff_ne]; have := sz_err _ _ _ _ hy; omega
      clear hy hdr hsz
      go_enter Try.func12, Try.ntmps12
      go_wp2_with fail
      go_at_call 20
      refine (h1 _).mono ?_
      rintro e w1 ⟨rfl, hb1⟩
      clear h1
      go_wp2_with fail
      go_at_call 20
      refine (h2 _).mono ?_
      rintro e w2 ⟨rfl, hb2⟩
      clear h2
      go_wp2_with fail
      go_returns
      exact ⟨rfl, hb1.trans (hb2.mono hb1.size)⟩
    | ok p =>
      obtain ⟨n, l⟩ := p
      have h2 := fun w => refSize_ok d b w hd hbl n l (by rw [hdr]; exact hy)
      clear hy hdr
      simp only []
      rw [hsz]
      generalize d.size - l.length = g at h2 ⊢
      clear hsz
      go_enter Try.func12, Try.ntmps12
      go_wp2_with fail
      go_at_call 20
      refine (h1 _).mono ?_
      rintro e w1 ⟨rfl, hb1⟩
      clear h1
      go_wp2_with fail
      go_at_call 20
      refine (h2 _).mono ?_
      rintro e w2 ⟨rfl, hb2⟩
      clear h2
      go_wp2_with fail
      go_returns
      exact ⟨rfl, hb1.trans (hb2.mono hb1.size)⟩
end Go.Proofs.Ytilfdeboeohnbaa
