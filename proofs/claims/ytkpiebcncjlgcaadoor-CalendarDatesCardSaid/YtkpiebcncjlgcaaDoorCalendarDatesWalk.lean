/- THE WALK of 'CalendarDates'. Conditions: the library's table stands. -/
import Derived.Test.YtkpiebcncjlgcaaDoorCalAwake
import Derived.Test.YtkpiebcncjlgcaaDoorCalListed
import Derived.Test.YtkpiebcncjlgcaaDoorQuietC
import Derived.StillTailTactics
namespace Go.Proofs.YtkpiebcncjlgcaaDoor
open Go.RowKit
set_option linter.unusedVariables false

def kOf (i : Nat) : Nat := i / 2 - 1
/-- The numbers that the law reads off the first i bytes. -/
def valD (s : ByteArray) : Nat → Nat → Int
  | 0, _ => 0
  | i + 1, k => if k = kOf i then 10 * valD s i k + dv s i else valD s i k
theorem valD_bound (s : ByteArray) (i : Nat) (hd : ∀ j, j < i → 0 ≤ dv s j ∧ dv s j ≤ 9) : ∀ k, 0 ≤ valD s i k ∧ valD s i k < 10 ^ i := by
  induction i with
  | zero => intro k; simp [valD]
  | succ i ih =>
    intro k
    have h := ih (fun j hj => hd j (by omega)) k
    have h2 := hd i (by omega)
    have e : (10 : Int) ^ (i + 1) = 10 ^ i * 10 := Int.pow_succ _ _
    unfold valD
    generalize (10 : Int) ^ i = P at *
    split <;> omega
def arr7 (s : ByteArray) (i : Nat) : Array Value := #[.int .i64 (valD s i 0), .int .i64 (valD s i 1), .int .i64 (valD s i 2), .int .i64 (valD s i 3), .int .i64 (valD s i 4), .int .i64 (valD s i 5), .int .i64 (valD s i 6)]
theorem arr7_at (s : ByteArray) (i k : Nat) (hk : k ≤ 6) : (arr7 s i)[k]? = some (.int .i64 (valD s i k)) := by
  have h : k = 0 ∨ k = 1 ∨ k = 2 ∨ k = 3 ∨ k = 4 ∨ k = 5 ∨ k = 6 := by omega
  rcases h with rfl | rfl | rfl | rfl | rfl | rfl | rfl <;> rfl
theorem arr7_set (s : ByteArray) (i : Nat) (hi : i < 14) : (arr7 s i).setIfInBounds (kOf i) (.int .i64 (10 * valD s i (kOf i) + dv s i)) = arr7 s (i + 1) := by
  have hk : kOf i ≤ 6 := by unfold kOf; omega
  obtain ⟨k, hkk⟩ : ∃ k, k = kOf i := ⟨_, rfl⟩
  have e : arr7 s (i + 1) = #[.int .i64 (if 0 = k then 10 * valD s i 0 + dv s i else valD s i 0), .int .i64 (if 1 = k then 10 * valD s i 1 + dv s i else valD s i 1), .int .i64 (if 2 = k then 10 * valD s i 2 + dv s i else valD s i 2), .int .i64 (if 3 = k then 10 * valD s i 3 + dv s i else valD s i 3), .int .i64 (if 4 = k then 10 * valD s i 4 + dv s i else valD s i 4), .int .i64 (if 5 = k then 10 * valD s i 5 + dv s i else valD s i 5), .int .i64 (if 6 = k then 10 * valD s i 6 + dv s i else valD s i 6)] := by
    rw [hkk]; rfl
  rw [e, ← hkk]
  rw [← hkk] at hk
  have h : k = 0 ∨ k = 1 ∨ k = 2 ∨ k = 3 ∨ k = 4 ∨ k = 5 ∨ k = 6 := by omega
  rcases h with rfl | rfl | rfl | rfl | rfl | rfl | rfl <;> rfl
theorem valD_end (s : ByteArray) : valD s 14 0 = 100 * (10 * dv s 0 + dv s 1) + (10 * dv s 2 + dv s 3) ∧ valD s 14 1 = 10 * dv s 4 + dv s 5 ∧ valD s 14 2 = 10 * dv s 6 + dv s 7 ∧ valD s 14 3 = 10 * dv s 8 + dv s 9 ∧ valD s 14 4 = 10 * dv s 10 + dv s 11 ∧ valD s 14 5 = 10 * dv s 12 + dv s 13 ∧ valD s 14 6 = 0 := by
  refine ⟨?_, ?_, ?_, ?_, ?_, ?_, ?_⟩
  all_goals
    simp [valD, kOf]
    try omega

/-- Both answers of a date. -/
theorem both (a b c d h f : Int) : ∃ (N E : Int) (K : Bool), (E = 0 ∧ K = true ∨ E = 1 ∧ K = false) ∧ unixR a b c d h f (N, E) ∧ refR a b c d h f (N, K) ∧ (K = false → N = 0) := by
  by_cases ho : okD a b c d h f
  · exact ⟨secF a b c d h f, 0, true, Or.inl ⟨rfl, rfl⟩, ⟨fun _ => rfl, fun h => absurd ho h⟩, ⟨fun _ => rfl, fun h => absurd ho h⟩, fun h => by cases h⟩
  · exact ⟨0, 1, false, Or.inr ⟨rfl, rfl⟩, ⟨fun h => absurd h ho, fun _ => rfl⟩, ⟨fun h => absurd h ho, fun _ => rfl⟩, fun _ => rfl⟩

/-- What fourteen bytes answer. -/
theorem stamped (s : ByteArray) : ∃ (N E : Int) (K : Bool), (digs s → (E = 0 ∧ K = true ∨ E = 1 ∧ K = false) ∧ refR (valD s 14 0) (valD s 14 1) (valD s 14 2) (valD s 14 3) (valD s 14 4) (valD s 14 5) (N, K)) ∧ (¬ digs s → N = 0 ∧ E = 3) ∧ unstampR s (N, E) := by
  by_cases hd : digs s
  · obtain ⟨v0, v1, v2, v3, v4, v5, _⟩ := valD_end s
    rw [v0, v1, v2, v3, v4, v5]
    obtain ⟨N, E, K, h1, h2, h3, _⟩ := both (100 * (10 * dv s 0 + dv s 1) + (10 * dv s 2 + dv s 3)) (10 * dv s 4 + dv s 5) (10 * dv s 6 + dv s 7) (10 * dv s 8 + dv s 9) (10 * dv s 10 + dv s 11) (10 * dv s 12 + dv s 13)
    exact ⟨N, E, K, fun _ => ⟨h1, h3⟩, fun h => absurd hd h, fun h => absurd hd h, fun _ => h2⟩
  · exact ⟨0, 3, false, fun h => absurd h hd, fun _ => ⟨rfl, rfl⟩, fun _ => rfl, fun h => absurd h hd⟩

set_option maxRecDepth 100000 in
set_option maxHeartbeats 4000000 in
theorem calendarDates_walk (y m d h n f k : Int) (s : ByteArray) (hs : (s.size : Int) ≤ 9223372036854775807) (w : World) (ht : tabOk w) :
    Calls Tryd.prog 3 #[.agg #[.int .i64 y, .int .i64 m, .int .i64 d, .int .i64 h, .int .i64 n, .int .i64 f, .int .i64 k], .string s] w fun e w' => e = .returned (.bool true) ∧ Below w.heap.size w w' := by
  have HT := Lib.hid ht
  clear ht
  obtain ⟨N, E, K, hEK, hU, hR, hN⟩ := both y m d h n f
  have U1 := Lib.hid (fun W => unix_any y m d h n f k (N, E) hU W)
  have U2 := Lib.hid (fun (g : Nat) W hb => refUnix_any y m d h n f k g W hb (N, K) hR)
  have UL := Lib.hid (fun W => list_any y m d h n f k W)
  have D1 := Lib.hid (fun W => days_q y m W)
  have D2 := Lib.hid (fun W => refDays_any y m W)
  generalize dim y m = L at D1 D2
  clear hU hR hN
  go_enter Tryd.func3, Tryd.ntmps3
  go_wp2_with fail
  have hc0 := heap_alloc_same w (.cells #[.int .i64 y, .int .i64 m, .int .i64 d, .int .i64 h, .int .i64 n, .int .i64 f, .int .i64 k] 23)
  have hb0 := (Below.refl w.heap.size w).alloc (Nat.le_refl _) (.cells #[.int .i64 y, .int .i64 m, .int .i64 d, .int .i64 h, .int .i64 n, .int .i64 f, .int .i64 k] 23)
  have hs0 : w.heap.size < (w.alloc (.cells #[.int .i64 y, .int .i64 m, .int .i64 d, .int .i64 h, .int .i64 n, .int .i64 f, .int .i64 k] 23)).heap.size := by rw [World.size_alloc]; omega
  have HC0 := Lib.hid hc0
  have HB0 := Lib.hid hb0
  have HS0 := Lib.hid hs0
  clear hc0 hb0 hs0
  refine (U1.out _).mono ?_
  rintro e w1 ⟨rfl, hb1⟩
  obtain ⟨X, hX⟩ : ∃ X, X = w.heap.size := ⟨_, rfl⟩
  rw [← hX] at HC0 HS0 ⊢
  generalize w.alloc (.cells #[.int .i64 y, .int .i64 m, .int .i64 d, .int .i64 h, .int .i64 n, .int .i64 f, .int .i64 k] 23) = W0 at HC0 HB0 HS0 hb1
  have HX := Lib.hid hX
  clear hX
  have c1 := below_heap hb1 HC0.out HS0.out
  have HB1 := Lib.hid (HB0.out.trans (hb1.mono HB0.out.size))
  have HS1 := Lib.hid (Nat.lt_of_lt_of_le HS0.out hb1.size)
  have HC1 := Lib.hid c1
  have l0 := cell_at c1 0
  have l1 := cell_at c1 1
  have l2 := cell_at c1 2
  have l3 := cell_at c1 3
  have l4 := cell_at c1 4
  have l5 := cell_at c1 5
  have l6 := cell_at c1 6
  simp only [List.getElem?_toArray, List.getElem?_cons_zero, List.getElem?_cons_succ] at l0 l1 l2 l3 l4 l5 l6
  clear c1 hb1
  go_wp2_with fail
  refine (UL.out _).mono ?_
  rintro e w2 ⟨g, rfl, hg, hg1, hb2⟩
  have HG := Lib.hid hg
  have HB2 := Lib.hid (HB1.out.trans (hb2.mono HB1.out.size))
  have HC2 := Lib.hid (below_heap hb2 HC1.out HS1.out)
  clear hg hg1 hb2 l0 l1 l2 l3 l4 l5 l6
  go_wp2_with fail
  refine (U2.out g _ HG.out).mono ?_
  rintro e w3 ⟨rfl, hb3⟩
  have HB3 := Lib.hid (HB2.out.trans (hb3.mono HB2.out.size))
  have hc3 := below_heap hb3 HC2.out (lt_of_block HC2.out)
  have HS3 := Lib.hid (lt_of_block hc3)
  have ht3 := HT.out.below HB3.out
  have HSV : RowKit.Hid (∀ w', Below (X + 1) w3 w' → tabOk w' → (w'.cell? ⟨X, 0, none⟩ = some (.int .i64 y) ∧ w'.cell? ⟨X, 1, none⟩ = some (.int .i64 m) ∧ Below (X + 1) w3 w' ∧ tabOk w')) := Lib.hid (fun w' hb ht => by
    have h := below_heap hb hc3 (Nat.lt_succ_self X)
    exact ⟨cell_at h 0, cell_at h 1, hb, ht⟩)
  have hs3 : (w3.drew.cell? ⟨X, 0, none⟩ = some (.int .i64 y) ∧ w3.drew.cell? ⟨X, 1, none⟩ = some (.int .i64 m) ∧ Below (X + 1) w3 w3.drew ∧ tabOk w3.drew) := HSV.out _ ((Below.refl _ _).drew) ht3
  have HS3' := Lib.hid hs3
  clear hb3 hc3 ht3 hs3
  rcases hEK with ⟨rfl, rfl⟩ | ⟨rfl, rfl⟩
  all_goals
    go_wp2_with fail
    refine region_class (fun w' => w'.cell? ⟨X, 0, none⟩ = some (.int .i64 y) ∧ w'.cell? ⟨X, 1, none⟩ = some (.int .i64 m) ∧ Below (X + 1) w3 w' ∧ tabOk w') (by kernel_rfl) (by kernel_rfl) HS3'.out ?_
    repeat (first
      | (refine qskip (by rfl) ?_
         simp only [Act.put, List.setIfInBounds_toArray, List.set_cons_zero, List.set_cons_succ])
      | (refine qtake (v := ?_) (by rfl) (fun w9 hSw => ?_) ?_
         rotate_left
         · (try dsimp only at hSw)
           obtain ⟨k0, k1, -⟩ := hSw
           go_simp
           try with_reducible rfl
         simp only [Act.put, List.setIfInBounds_toArray, List.set_cons_zero, List.set_cons_succ])
      | (refine qcall (v := .bool true) (f := 11) (args := #[]) (by rfl) (fun w9 => ?_) (fun w9 hSw => ?_) ?_
         · go_simp
         · (try dsimp only at hSw)
           obtain ⟨-, -, hbw, htw⟩ := hSw
           go_at_call 11
           refine (awake_any _ htw).mono ?_
           rintro e w' ⟨rfl, hb⟩
           exact ⟨rfl, HSV.out _ (hbw.trans (hb.mono (Nat.le_trans HS3.out hbw.size))) (htw.below hb)⟩
         simp only [Act.put, List.setIfInBounds_toArray, List.set_cons_zero, List.set_cons_succ])
      | (refine qcall (v := .int .i64 L) (f := 12) (args := #[.int .i64 y, .int .i64 m]) (by rfl) (fun w9 => ?_) (fun w9 hSw => ?_) ?_
         · go_simp
         · (try dsimp only at hSw)
           obtain ⟨-, -, hbw, htw⟩ := hSw
           go_at_call 12
           refine (D1.out _).mono ?_
           rintro e w' ⟨rfl, rfl⟩
           exact ⟨rfl, HSV.out _ hbw htw⟩
         simp only [Act.put, List.setIfInBounds_toArray, List.set_cons_zero, List.set_cons_succ])
      | (refine qcall (v := .int .i64 L) (f := 13) (args := #[.int .i64 y, .int .i64 m]) (by rfl) (fun w9 => ?_) (fun w9 hSw => ?_) ?_
         · go_simp
         · (try dsimp only at hSw)
           obtain ⟨-, -, hbw, htw⟩ := hSw
           go_at_call 13
           refine (D2.out _).mono ?_
           rintro e w' ⟨rfl, hb⟩
           exact ⟨rfl, HSV.out _ (hbw.trans (hb.mono (Nat.le_trans HS3.out hbw.size))) (htw.below hb)⟩
         simp only [Act.put, List.setIfInBounds_toArray, List.set_cons_zero, List.set_cons_succ]))
    refine wpQuiet_nil ?_
    intro w4 hSq
    have HB4 := Lib.hid (HB3.out.trans (hSq.2.2.1.mono (by rw [← HX.out]; exact Nat.le_succ X)))
    have HT4 := Lib.hid hSq.2.2.2
    clear hSq
    go_wp2_with fail
    by_cases hlen : s.size = 14
    · obtain ⟨N2, E2, K2, hdg, hnd, hrr⟩ := stamped s
      have US := Lib.hid (fun W => unstamp_14 s W hlen (N2, E2) hrr)
      have e14 : ((s.size : Int) != 14) = false := by rw [hlen]; rfl
      have HL := Lib.hid hlen
      have HDG := Lib.hid hdg
      have HND := Lib.hid hnd
      clear hlen hdg hnd hrr
      refine (US.out _).mono ?_
      rintro e w5 ⟨rfl, hb5⟩
      have HB5 := Lib.hid (HB4.out.trans (hb5.mono HB4.out.size))
      have hv0 := heap_alloc_same w5 (.cells (arr7 s 0) 3)
      have HV0 := Lib.hid hv0
      clear hb5 hv0
      go_wp2
      go_loopw [12] (fun iv wr => ∃ i : Nat, i ≤ 14 ∧ iv = .int .i64 (i : Int) ∧ (∀ j, j < i → 48 ≤ (s.data.toList.getD j 0).toNat ∧ (s.data.toList.getD j 0).toNat ≤ 57) ∧ wr.heap[w5.heap.size]? = some (.cells (arr7 s i) 3 (0, 0)) ∧ Below w5.heap.size w5 wr) (fun iv _ => 14 - (intOf iv).toNat)
      case atStart => exact ⟨0, by omega, rfl, fun j hj => by omega, HV0.out, (Below.refl _ _).alloc (Nat.le_refl _) _⟩
      case round =>
        obtain ⟨i, hi, rfl, hds, hc, hb⟩ := hrel
        have HDS := Lib.hid hds
        have HC := Lib.hid hc
        have HB := Lib.hid hb
        clear hds hc hb
        by_cases hi14 : i < 14
        · have his : i < s.size := by rw [HL.out]; exact hi14
          have hg := getD_at s i his
          obtain ⟨c, hcc⟩ : ∃ c, s[i] = c := ⟨_, rfl⟩
          rw [hcc] at hg
          have HG := Lib.hid hg
          have hcb := c.toNat_lt
          clear hg
          by_cases hbad : c.toNat < 48 ∨ 57 < c.toNat
          · have hnd : ¬ digs s := fun hd => by have := hd i hi14; rw [HG.out] at this; omega
            obtain ⟨hN, hE⟩ := HND.out hnd
            subst hN hE
            have hfin : Below w.heap.size w wr := HB5.out.trans (HB.out.mono HB5.out.size)
            have HFIN := Lib.hid hfin
            clear hnd hfin
            rcases hbad with hb1 | hb1
            · go_wp2
              go_ret
              exact ⟨rfl, HFIN.out⟩
            · have hb2 : ¬ c.toNat < 48 := by omega
              go_wp2
              go_ret
              exact ⟨rfl, HFIN.out⟩
          · have hb1 : 48 ≤ c.toNat ∧ c.toNat ≤ 57 := by omega
            have hb2 : ¬ c.toNat < 48 := by omega
            have hb3 : ¬ 57 < c.toNat := by omega
            clear hbad
            obtain ⟨kk, hkk⟩ : ∃ kk, kk = kOf i := ⟨_, rfl⟩
            have hk7 : kk < 7 := by rw [hkk]; unfold kOf; omega
            have hk : max 0 ((i : Int) / 2 - 1) = (kk : Int) := by rw [hkk]; unfold kOf; omega
            have hce := (cell_at HC.out kk).trans (arr7_at s i kk (by omega))
            have hce0 := (cell_at (heap_drew HC.out) kk).trans (arr7_at s i kk (by omega))
            have hfr := free_at (heap_drew HC.out) kk
            have hdv : dv s i = (c.toNat : Int) - 48 := by unfold dv; rw [HG.out]
            have hset := heap_set (heap_drew HC.out) kk (.int .i64 (10 * valD s i kk + ((c.toNat : Int) - 48)))
            have has := arr7_set s i hi14
            rw [← hkk, hdv] at has
            rw [has] at hset
            have hvb := valD_bound s i (fun j hj => by have := HDS.out j hj; unfold dv; omega) kk
            have hp : (10 : Int) ^ i ≤ 10 ^ 13 := by
              have : 10 ^ i ≤ 10 ^ 13 := Nat.pow_le_pow_right (by omega) (by omega)
              exact_mod_cast this
            have hvb2 : 0 ≤ valD s i kk ∧ valD s i kk < 10000000000000 := by
              have e13 : (10 : Int) ^ 13 = 10000000000000 := by decide
              omega
            generalize valD s i kk = v at *
            have hbb : Below w5.heap.size w5 (wr.drew.setCell ⟨w5.heap.size, kk, none⟩ (.int .i64 (10 * v + ((c.toNat : Int) - 48)))) := HB.out.drew.setCell (Nat.le_refl _) _
            have HSET := Lib.hid hset
            have HBB := Lib.hid hbb
            have HB1 := Lib.hid hb1
            have HKK := Lib.hid hkk
            clear hset hbb hdv has hvb hp hkk
            have hki : (kk : Int) < 7 := by omega
            have w1 : IntKind.i64.wrap (10 * v) = 10 * v := IntWalk.i64_in _ (by omega)
            have w2 : IntKind.u8.wrap ((c.toNat : Int) - 48) = (c.toNat : Int) - 48 := IntWalk.u8_in _ (by omega)
            have w3 : IntKind.i64.wrap ((c.toNat : Int) - 48) = (c.toNat : Int) - 48 := IntWalk.i64_in _ (by omega)
            have w4 : IntKind.i64.wrap (10 * v + ((c.toNat : Int) - 48)) = 10 * v + ((c.toNat : Int) - 48) := IntWalk.i64_in _ (by omega)
            go_wp2_with fail
            go_still_tail 14, (by kernel_rfl)
            change wpList _ _ _ _ _ wr.drew
            generalize wr.drew = W0 at hfr hce0 HSET HBB ⊢
            go_wp2
            refine ⟨⟨i + 1, by omega, by go_num, fun j hj => ?_, HSET.out, HBB.out⟩, by simp [intOf]; omega⟩
            by_cases hji : j < i
            · exact HDS.out j hji
            · obtain rfl : j = i := by omega
              rw [HG.out]
              exact HB1.out
        · obtain rfl : i = 14 := by omega
          have hd : digs s := HDS.out
          obtain ⟨hEK2, hR2⟩ := HDG.out hd
          have U3 := Lib.hid (refUnix_any _ _ _ _ _ _ (valD s 14 6) w5.heap.size wr ⟨3, HC.out⟩ (N2, K2) hR2)
          have HBW := Lib.hid (HB5.out.trans (HB.out.mono HB5.out.size))
          clear hd hR2
          go_wp2_with fail
          refine U3.out.mono ?_
          rintro e w6 ⟨rfl, hb6⟩
          have HB6 := Lib.hid (HBW.out.trans (hb6.mono HBW.out.size))
          clear hb6
          rcases hEK2 with ⟨rfl, rfl⟩ | ⟨rfl, rfl⟩
          all_goals
            go_wp2
            go_ret
            exact ⟨rfl, HB6.out⟩
    · have hl1 : ((s.size : Int) != 14) = true := by rw [bne_iff_ne]; omega
      refine (unstamp_len s _ hs hlen).mono ?_
      rintro e w5 ⟨rfl, hb5⟩
      have HB5 := Lib.hid (HB4.out.trans (hb5.mono HB4.out.size))
      clear hb5
      go_wp2
      go_ret
      exact ⟨rfl, HB5.out⟩
end Go.Proofs.YtkpiebcncjlgcaaDoor
