/- THE WALKS of Stamp and Text. Conditions: the library's table stands. -/
import Derived.Test.YtgojmckfabhkaaaDoorCalDigits
import Derived.Test.YtgojmckfabhkaaaDoorCalFrom
import Derived.Deep.RegionHeld3
namespace Go.Proofs.YtgojmckfabhkaaaDoor
open Go.RowKit
set_option linter.unusedVariables false

theorem tabOk.below {w w' : World} (h : tabOk w) (hb : Below w.heap.size w w') : tabOk w' := by
  unfold tabOk Lib.TabIs World.var? at *
  cases hg : Tryd.prog.globalNamed "internal/strconv.uint64pow10" with
  | none => rw [hg] at h; cases h
  | some g =>
    rw [hg] at h
    simp only [Option.bind_some] at h ⊢
    have hlt : g < w.heap.size := by
      rcases Nat.lt_or_ge g w.heap.size with h' | h'
      · exact h'
      · rw [Array.getElem?_eq_none h'] at h; cases h
    rw [hb.block g hlt]
    exact h

def d2 (n : Int) : List UInt8 := padL 2 (Lib.decDigits n.toNat)
def d4 (n : Int) : List UInt8 := padL 4 (Lib.decDigits n.toNat)
def stampL (y m d h n s : Int) : List UInt8 := d4 y ++ d2 m ++ d2 d ++ d2 h ++ d2 n ++ d2 s
def stampOf (t : Int) : List UInt8 := stampL (dY (dayOf t)) (dM (dayOf t)) (dD (dayOf t)) (secIn t / 3600) (secIn t / 60 % 60) (secIn t % 60)

theorem digits_int (n : Int) (k : Nat) (hn : 0 ≤ n ∧ n ≤ 9999) (hk : k ≤ 4) (w : World) (ht : tabOk w) :
    Calls Tryd.prog 27 #[.int .i64 n, .int .i64 (k : Int)] w fun e w' => e = .returned (.string ⟨(padL k (Lib.decDigits n.toNat)).toArray⟩) ∧ Below w.heap.size w w' ∧ tabOk w' := by
  have := digits_any n.toNat k (by omega) hk w ht
  rw [show ((n.toNat : Nat) : Int) = n by omega] at this
  exact this.mono fun e w' ⟨he, hb⟩ => ⟨he, hb, ht.below hb⟩

theorem digits_2 (n : Int) (hn : 0 ≤ n ∧ n ≤ 9999) (w : World) (ht : tabOk w) :
    Calls Tryd.prog 27 #[.int .i64 n, .int .i64 2] w fun e w' => e = .returned (.string ⟨(d2 n).toArray⟩) ∧ Below w.heap.size w w' ∧ tabOk w' := digits_int n 2 hn (by omega) w ht
theorem digits_4 (n : Int) (hn : 0 ≤ n ∧ n ≤ 9999) (w : World) (ht : tabOk w) :
    Calls Tryd.prog 27 #[.int .i64 n, .int .i64 4] w fun e w' => e = .returned (.string ⟨(d4 n).toArray⟩) ∧ Below w.heap.size w w' ∧ tabOk w' := digits_int n 4 hn (by omega) w ht
theorem padL_len (k n : Nat) (hk : k ≤ 4) (hn : n ≤ 9999) : (⟨(padL k (Lib.decDigits n)).toArray⟩ : ByteArray).size ≤ 4 := by
  have := dig_len 3 n (by omega)
  show (padL k (Lib.decDigits n)).toArray.size ≤ 4
  unfold padL
  rw [List.size_toArray, List.length_append, List.length_replicate]
  omega
theorem digits_of (n : Int) (k : Nat) (v : Value) (hv : v = .int .i64 (k : Int)) (hn : 0 ≤ n ∧ n ≤ 9999) (hk : k ≤ 4) : ∃ u : ByteArray, u = ⟨(padL k (Lib.decDigits n.toNat)).toArray⟩ ∧ u.size ≤ 4 ∧ RowKit.Hid (∀ w, tabOk w → Calls Tryd.prog 27 #[.int .i64 n, v] w fun e w' => e = .returned (.string u) ∧ Below w.heap.size w w' ∧ tabOk w') := by
  subst hv
  exact ⟨_, rfl, padL_len k _ hk (by omega), Lib.hid (fun w ht => digits_int n k hn hk w ht)⟩
theorem below_next {B : Nat} {a w w' : World} (h : Below B a w) (hb : Below w.heap.size w w') (hB : B ≤ a.heap.size) : Below B a w' := h.trans (hb.mono (Nat.le_trans hB h.size))

theorem dim_le (y m : Int) : dim y m ≤ 31 := by unfold dim; have := lp_le y; split <;> (try split) <;> (try split) <;> omega
theorem six (a b c d e f : List UInt8) : (⟨a.toArray⟩ : ByteArray) ++ ⟨b.toArray⟩ ++ ⟨c.toArray⟩ ++ ⟨d.toArray⟩ ++ ⟨e.toArray⟩ ++ ⟨f.toArray⟩ = ⟨(a ++ b ++ c ++ d ++ e ++ f).toArray⟩ := by
  apply ByteArray.ext
  simp [ByteArray.data_append]

set_option maxRecDepth 100000 in
set_option maxHeartbeats 2000000 in
theorem stamp_in (t : Int) (w : World) (h1 : -62135596800 ≤ t) (h2 : t ≤ 253402300799) (ht : tabOk w) :
    Calls Tryd.prog 11 #[.int .i64 t] w fun e w' => e = .returned (.tuple #[.string ⟨(stampOf t).toArray⟩, .int .i64 0]) ∧ Below w.heap.size w w' := by
  have hD : 0 ≤ dayOf t ∧ dayOf t ≤ 3652058 := by unfold dayOf; omega
  have hS : 0 ≤ secIn t ∧ secIn t < 86400 := by unfold secIn; omega
  obtain ⟨hok, _⟩ := date_ok (dayOf t) hD.1 hD.2
  obtain ⟨hm1, hm2⟩ := okD_month hok
  have hdl := dim_le (dY (dayOf t)) (dM (dayOf t))
  obtain ⟨y1, y2, q1, q2, -⟩ := hok
  have hf := from_in t w h1 h2
  have hs : stampOf t = stampL (dY (dayOf t)) (dM (dayOf t)) (dD (dayOf t)) (secIn t / 3600) (secIn t / 60 % 60) (secIn t % 60) := rfl
  rw [hs]
  unfold fromV dateV at hf
  generalize dY (dayOf t) = Y at *
  generalize dM (dayOf t) = M at *
  generalize dD (dayOf t) = D at *
  have hh : 0 ≤ secIn t / 3600 ∧ secIn t / 3600 ≤ 23 := by omega
  have hn : 0 ≤ secIn t / 60 % 60 ∧ secIn t / 60 % 60 ≤ 59 := by omega
  have hss : 0 ≤ secIn t % 60 ∧ secIn t % 60 ≤ 59 := by omega
  generalize secIn t / 3600 = H at *
  generalize secIn t / 60 % 60 = N at *
  generalize secIn t % 60 = S at *
  generalize (dayOf t + 1) % 7 = K at *
  obtain ⟨u0, hu0, z0, C0⟩ := digits_of Y 4 (.int .i64 4) rfl (by omega) (by omega)
  obtain ⟨u1, hu1, z1, C1⟩ := digits_of M 2 (.int .i64 2) rfl (by omega) (by omega)
  obtain ⟨u2, hu2, z2, C2⟩ := digits_of D 2 (.int .i64 2) rfl (by omega) (by omega)
  obtain ⟨u3, hu3, z3, C3⟩ := digits_of H 2 (.int .i64 2) rfl (by omega) (by omega)
  obtain ⟨u4, hu4, z4, C4⟩ := digits_of N 2 (.int .i64 2) rfl (by omega) (by omega)
  obtain ⟨u5, hu5, z5, C5⟩ := digits_of S 2 (.int .i64 2) rfl (by omega) (by omega)
  have hall : u0 ++ u1 ++ u2 ++ u3 ++ u4 ++ u5 = ⟨(stampL Y M D H N S).toArray⟩ := by
    rw [hu0, hu1, hu2, hu3, hu4, hu5, six]
    rfl
  have HALL := Lib.hid hall
  clear hall hu0 hu1 hu2 hu3 hu4 hu5
  have HT := Lib.hid ht
  have HF := Lib.hid hf
  clear hs hS hD ht hf q2
  go_enter Tryd.func11, Tryd.ntmps11
  go_wp2_with fail
  refine HF.out.mono ?_
  rintro e w1 ⟨rfl, hb1⟩
  have T1 := HT.out.below hb1
  have hc : (w1.alloc (.cells #[.int .i64 Y, .int .i64 M, .int .i64 D, .int .i64 H, .int .i64 N, .int .i64 S, .int .i64 K] 68)).heap[w1.heap.size]? = some (.cells #[.int .i64 Y, .int .i64 M, .int .i64 D, .int .i64 H, .int .i64 N, .int .i64 S, .int .i64 K] 68 (0, 0)) := heap_alloc_same w1 _
  have hsz : (w1.alloc (.cells #[.int .i64 Y, .int .i64 M, .int .i64 D, .int .i64 H, .int .i64 N, .int .i64 S, .int .i64 K] 68)).heap.size = w1.heap.size + 1 := World.size_alloc _ _
  have ht2 : tabOk (w1.alloc (.cells #[.int .i64 Y, .int .i64 M, .int .i64 D, .int .i64 H, .int .i64 N, .int .i64 S, .int .i64 K] 68)) := T1.below ((Below.refl _ _).alloc (Nat.le_refl _) _)
  have hb2 : Below w.heap.size w (w1.alloc (.cells #[.int .i64 Y, .int .i64 M, .int .i64 D, .int .i64 H, .int .i64 N, .int .i64 S, .int .i64 K] 68)) := hb1.alloc hb1.size _
  have hs1 := hb1.size
  have HC := Lib.hid hc
  have HSZ := Lib.hid hsz
  have HT2 := Lib.hid ht2
  have HB2 := Lib.hid hb2
  clear hc hsz ht2 hb2 T1 hb1
  go_wp2_with fail
  obtain ⟨B, hB⟩ : ∃ B, B = w1.heap.size := ⟨_, rfl⟩
  rw [← hB] at HC HSZ hs1 ⊢
  have HHB := Lib.hid hB
  clear hB
  generalize w1.alloc (.cells #[.int .i64 Y, .int .i64 M, .int .i64 D, .int .i64 H, .int .i64 N, .int .i64 S, .int .i64 K] 68) = W0 at HC HSZ HT2 HB2 ⊢
  have HS : RowKit.Hid (∀ w', Below (B + 1) W0 w' → tabOk w' → (w'.cell? ⟨B, 0, none⟩ = some (.int .i64 Y) ∧ w'.cell? ⟨B, 1, none⟩ = some (.int .i64 M) ∧ w'.cell? ⟨B, 2, none⟩ = some (.int .i64 D) ∧ w'.cell? ⟨B, 3, none⟩ = some (.int .i64 H) ∧ w'.cell? ⟨B, 4, none⟩ = some (.int .i64 N) ∧ w'.cell? ⟨B, 5, none⟩ = some (.int .i64 S) ∧ Below (B + 1) W0 w' ∧ tabOk w')) :=
    Lib.hid (fun w' hb ht => by
      have h := below_heap hb HC.out (by omega)
      exact ⟨cell_at h 0, cell_at h 1, cell_at h 2, cell_at h 3, cell_at h 4, cell_at h 5, hb, ht⟩)
  have hbd : Below (B + 1) W0 W0.drew := (Below.refl _ _).drew
  have htd : tabOk W0.drew := HT2.out
  have q1 : (9223372036854775807 < u0.size + u1.size) = False := by simp; omega
  have q2 : (9223372036854775807 < u0.size + u1.size + u2.size) = False := by simp; omega
  have q3 : (9223372036854775807 < u0.size + u1.size + u2.size + u3.size) = False := by simp; omega
  have q4 : (9223372036854775807 < u0.size + u1.size + u2.size + u3.size + u4.size) = False := by simp; omega
  have q5 : (9223372036854775807 < u0.size + u1.size + u2.size + u3.size + u4.size + u5.size) = False := by simp; omega
  go_region_held3 (fun w' => w'.cell? ⟨B, 0, none⟩ = some (.int .i64 Y) ∧ w'.cell? ⟨B, 1, none⟩ = some (.int .i64 M) ∧ w'.cell? ⟨B, 2, none⟩ = some (.int .i64 D) ∧ w'.cell? ⟨B, 3, none⟩ = some (.int .i64 H) ∧ w'.cell? ⟨B, 4, none⟩ = some (.int .i64 N) ∧ w'.cell? ⟨B, 5, none⟩ = some (.int .i64 S) ∧ Below (B + 1) W0 w' ∧ tabOk w')
    (first
      | exact HS.out _ hq ht'
      | exact HS.out _ (Below.refl _ _) HT2.out
      | exact HS.out _ ((Below.refl _ _).drew) HT2.out)
    (first
      | (go_at_call 27
         (with_reducible refine (C0.out _ ?_).mono ?_)
         · assumption
         rintro e w' ⟨rfl, hb, ht'⟩
         have hq : Below (B + 1) W0 w' := below_next (by assumption) hb (by rw [HSZ.out]; exact Nat.le_refl _))
      | (go_at_call 27
         (with_reducible refine (C1.out _ ?_).mono ?_)
         · assumption
         rintro e w' ⟨rfl, hb, ht'⟩
         have hq : Below (B + 1) W0 w' := below_next (by assumption) hb (by rw [HSZ.out]; exact Nat.le_refl _))
      | (go_at_call 27
         (with_reducible refine (C2.out _ ?_).mono ?_)
         · assumption
         rintro e w' ⟨rfl, hb, ht'⟩
         have hq : Below (B + 1) W0 w' := below_next (by assumption) hb (by rw [HSZ.out]; exact Nat.le_refl _))
      | (go_at_call 27
         (with_reducible refine (C3.out _ ?_).mono ?_)
         · assumption
         rintro e w' ⟨rfl, hb, ht'⟩
         have hq : Below (B + 1) W0 w' := below_next (by assumption) hb (by rw [HSZ.out]; exact Nat.le_refl _))
      | (go_at_call 27
         (with_reducible refine (C4.out _ ?_).mono ?_)
         · assumption
         rintro e w' ⟨rfl, hb, ht'⟩
         have hq : Below (B + 1) W0 w' := below_next (by assumption) hb (by rw [HSZ.out]; exact Nat.le_refl _))
      | (go_at_call 27
         (with_reducible refine (C5.out _ ?_).mono ?_)
         · assumption
         rintro e w' ⟨rfl, hb, ht'⟩
         have hq : Below (B + 1) W0 w' := below_next (by assumption) hb (by rw [HSZ.out]; exact Nat.le_refl _)))
  clear q1 q2 q3 q4 q5
  go_wp2
  go_returns
  refine ⟨?_, HB2.out.trans (hq.mono (by omega))⟩
  rw [← HALL.out]
  rfl

set_option maxHeartbeats 1000000 in
theorem stamp_out (t : Int) (w : World) (h : t < -62135596800 ∨ 253402300799 < t) :
    Calls Tryd.prog 11 #[.int .i64 t] w fun e w' => e = .returned (.tuple #[.string ⟨#[]⟩, .int .i64 1]) ∧ Below w.heap.size w w' := by
  have hf := from_out t w h
  unfold dateV at hf
  have HF := Lib.hid hf
  clear hf h
  go_enter Tryd.func11, Tryd.ntmps11
  go_wp2_with fail
  refine HF.out.mono ?_
  rintro e w1 ⟨rfl, hb1⟩
  go_wp2
  go_returns
  exact ⟨rfl, hb1.alloc hb1.size _⟩
end Go.Proofs.YtgojmckfabhkaaaDoor
