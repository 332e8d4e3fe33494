/- THE WALKS of the references: hexadecimal written and read. -/
import Derived.Test.YtdhafmjhohnclaaSumsDigWalks
import Derived.Lib.Strings
import Derived.LoopTactic
namespace Go.Proofs.Ytdhafmjhohnclaa
open Go.RowKit Sums
set_option linter.unusedVariables false

theorem digit_slice (n : Nat) (h : n < 16) : (hexDigits.extract n (n + 1)) = ⟨#[hexD n]⟩ := by
  have : ∀ n : Fin 16, hexDigits.extract n.val (n.val + 1) = ⟨#[hexD n.val]⟩ := by decide +kernel
  exact this ⟨n, h⟩

theorem bytes_two (l : List UInt8) (a b : UInt8) : (⟨l.toArray⟩ : ByteArray) ++ (⟨#[a]⟩ ++ ⟨#[b]⟩) = ⟨(l ++ [a, b]).toArray⟩ := by
  apply ByteArray.ext
  simp [ByteArray.data_append]

set_option maxHeartbeats 1000000 in
theorem refHex_any (s : ByteArray) (w : World) (hs : (s.size : Int) ≤ 1000000) :
    Calls Try.prog 22 #[.string s] w fun e w' => e = .returned (.string ⟨(hexL s.data.toList).toArray⟩) ∧ Below w.heap.size w w' := by
  go_enter Try.func22, Try.ntmps22
  go_wp2
  go_loopw [3, 4] (fun v i wr => ∃ k : Nat, k ≤ s.size ∧ i = .int .i64 k ∧ v = .string ⟨(hexL (s.data.toList.take k)).toArray⟩ ∧ Below w.heap.size w wr) (fun _ i _ => s.size - (intOf i).toNat)
  case atStart => exact ⟨0, Nat.zero_le _, rfl, rfl, Below.refl _ _⟩
  case round =>
    obtain ⟨k, hk, rfl, rfl, hb⟩ := hrel
    have hln := hexL_length (s.data.toList.take k)
    have hlk : (s.data.toList.take k).length ≤ k := List.length_take_le _ _
    obtain ⟨u, hu⟩ : ∃ u : ByteArray, u = ⟨(hexL (s.data.toList.take k)).toArray⟩ := ⟨_, rfl⟩
    have hus : u.size ≤ 2 * k := by rw [hu]; show (hexL (s.data.toList.take k)).toArray.size ≤ _; rw [List.size_toArray]; omega
    rw [← hu]
    have HU := Lib.hid hu
    clear hu hln hlk
    by_cases hlt : k < s.size
    · have hby := s[k].toNat_lt
      have i1 : (0 : Int) ≤ (s[k].toNat : Int) / 16 ∧ (s[k].toNat : Int) / 16 + 1 ≤ 16 := by omega
      have i2 : (0 : Int) ≤ (s[k].toNat : Int) % 16 ∧ (s[k].toNat : Int) % 16 + 1 ≤ 16 := by omega
      go_wp2
      go_quiet (fail)
      go_wp2
      go_roundw
      case rel =>
        refine ⟨k + 1, by omega, by go_num, ?_, below_drewN hb nq⟩
        show Value.string (u ++ (hexDigits.extract (s[k].toNat / 16) (s[k].toNat / 16 + 1) ++ hexDigits.extract (s[k].toNat % 16) (s[k].toNat % 16 + 1))) = _
        rw [digit_slice _ (by omega), digit_slice _ (by omega), HU.out, take_snoc s k hlt, hexL_snoc, bytes_two]
      case measure => simp [intOf]; omega
    · obtain rfl : k = s.size := by omega
      have h := HU.out
      rw [take_all] at h
      have HV := Lib.hid h
      clear h
      go_wp2
      go_ret
      exact ⟨by rw [← HV.out]; rfl, hb⟩

def hexN (l : List UInt8) : Nat := l.foldl (fun n c => 16 * n + hv c) 0

theorem pair_cells (w : World) (u : ByteArray) (C : Nat) (hu : 2 ≤ u.size) (g : List UInt8) (hg : u.data.toList = g) (j : Nat) (h : j < g.length) :
    ((w.alloc (.cells (bytesRow u C) 5 ((bytesRow u C).size, (bytesRow u C).size + 1))).drew).cell? ⟨w.heap.size, j, none⟩ = some (.int .u8 (g[j].toNat : Int)) := by
  subst hg
  show (w.alloc _).cell? _ = _
  rw [World.cell?_alloc_mark, bytesRow_at u C j (by simpa using h)]
  simp

set_option maxHeartbeats 2000000 in
theorem refUnhex_any (s : ByteArray) (w : World) (hs : (s.size : Int) ≤ 1000000) (hx : hexed s.data.toList = true) :
    Calls Try.prog 27 #[.string s] w fun e w' => e = .returned (.string ⟨(pairs s.data.toList).toArray⟩) ∧ Below w.heap.size w w' := by
  obtain ⟨hall, hev0⟩ := (hexed_iff _).1 hx
  have hev : s.size % 2 = 0 := by rw [Array.length_toList] at hev0; exact hev0
  have HA := Lib.hid hall
  clear hx hall hev0
  go_enter Try.func27, Try.ntmps27
  go_wp2
  go_loopw [3, 4] (fun v i wr => ∃ j : Nat, j ≤ s.size ∧ j % 2 = 0 ∧ i = .int .i64 j ∧ ownsB wr w.heap.size v (pairs (s.data.toList.take j)) ∧ Below w.heap.size w wr) (fun _ i _ => s.size - (intOf i).toNat)
  case atStart => exact ⟨0, Nat.zero_le _, rfl, rfl, ownsB_empty w, (Below.refl _ _).alloc (Nat.le_refl _) _⟩
  case round =>
    obtain ⟨j, hj, hjev, rfl, hown, hb⟩ := hrel
    have hB := hb.size
    have hlt : (s.data.toList.take j).length = j := by rw [List.length_take, Array.length_toList]; have : s.data.size = s.size := rfl; omega
    have hl : (pairs (s.data.toList.take j)).length + 1 ≤ 140737488355328 := by rw [pairs_length _ (by omega)]; omega
    have HL := Lib.hid hlt
    have HV := Lib.hid hjev
    have HE := Lib.hid hev
    clear hlt hjev hev
    obtain ⟨wo, rfl⟩ : ∃ wo : World, wo = wr := ⟨_, rfl⟩
    by_cases hlt : j + 1 < s.size
    · have hlt0 := HL.out
      have m1 : s[j] ∈ s.data.toList := Array.getElem_mem_toList _
      have m2 : s[j + 1] ∈ s.data.toList := Array.getElem_mem_toList _
      have x1 := HA.out _ m1
      have x2 := HA.out _ m2
      have ht2 := take_two s j hlt
      obtain ⟨a, ha⟩ : ∃ a, a = s[j] := ⟨_, rfl⟩
      obtain ⟨b, hb'⟩ : ∃ b, b = s[j + 1] := ⟨_, rfl⟩
      rw [← ha] at x1 ht2
      rw [← hb'] at x2 ht2
      have hul : (s.extract j (j + 2)).data.toList = [a, b] := by
        have h2 : s.data.toList = s.data.toList.take j ++ ([a, b] ++ s.data.toList.drop (j + 2)) := by
          rw [← List.append_assoc, ← ht2, List.take_append_drop]
        rw [Lib.extract_data, h2, List.drop_left' hlt0, show j + 2 - j = 2 by omega]
        rfl
      have hus : (s.extract j (j + 2)).size = 2 := by
        have : (s.extract j (j + 2)).size = (s.extract j (j + 2)).data.toList.length := by rw [Array.length_toList]; rfl
        rw [this, hul]; rfl
      have hcv := run_bytes_of_string (P := Try.prog) wo 9 35 5 (s.extract j (j + 2)) Try.underlying9 Try.underlying35 Try.underlying5
      rw [hus] at hcv
      generalize grownCap wo 2 0 5 = C at hcv
      have hc := pair_cells wo (s.extract j (j + 2)) C (by omega) [a, b] hul
      have hb1 : Below w.heap.size w (wo.alloc (.cells (bytesRow (s.extract j (j + 2)) C) 5 ((bytesRow (s.extract j (j + 2)) C).size, (bytesRow (s.extract j (j + 2)) C).size + 1))).drew := (hb.alloc hB _).drew
      have hown1 := (hown.alloc (.cells (bytesRow (s.extract j (j + 2)) C) 5 ((bytesRow (s.extract j (j + 2)) C).size, (bytesRow (s.extract j (j + 2)) C).size + 1))).drew
      have HC := Lib.hid hc
      have HB := Lib.hid hb1
      have HO := Lib.hid hown1
      have HT := Lib.hid ht2
      have HX1 := Lib.hid x1
      have HX2 := Lib.hid x2
      clear m1 m2 ha hb' hc hb1 hown1 ht2 x1 x2 hlt0 hul hus
      go_wp2
      clear hcv
      generalize (wo.alloc (.cells (bytesRow (s.extract j (j + 2)) C) 5 ((bytesRow (s.extract j (j + 2)) C).size, (bytesRow (s.extract j (j + 2)) C).size + 1))).drew = W1 at HC HB HO ⊢
      go_loop [5, 23] (fun n i => ∃ t : Nat, t ≤ 2 ∧ i = .int .i64 t ∧ n = .int .i64 (hexN ([a, b].take t))) (fun _ i => 2 - (intOf i).toNat)
      case atStart => exact ⟨0, by omega, rfl, rfl⟩
      case round =>
        obtain ⟨t, ht, rfl, rfl⟩ := hrel
        by_cases ht2 : t < 2
        · obtain ⟨c, hcx, hcc, hcn⟩ : ∃ c, isHex c = true ∧ W1.cell? ⟨wo.heap.size, t, none⟩ = some (.int .u8 (c.toNat : Int)) ∧ hexN ([a, b].take (t + 1)) = 16 * hexN ([a, b].take t) + hv c := by
            match t, ht2 with
            | 0, _ => exact ⟨a, HX1.out, HC.out 0 (by simp), rfl⟩
            | 1, _ => exact ⟨b, HX2.out, HC.out 1 (by simp), rfl⟩
          have hn : hexN ([a, b].take t) < 16 := by
            have := hv_lt a HX1.out
            match t, ht2 with
            | 0, _ => exact (by decide : 0 < 16)
            | 1, _ => show 16 * 0 + hv a < 16; omega
          generalize hexN ([a, b].take t) = N at hn hcn
          have HN := Lib.hid hcn
          have hcl := c.toNat_lt
          have hcx' := hcx
          simp only [isHex, Bool.or_eq_true, Bool.and_eq_true, decide_eq_true_eq] at hcx'
          clear hcn hcx
          by_cases h57 : c.toNat ≤ 57
          · have e : hv c = c.toNat - 48 := if_pos h57
            have HH := Lib.hid e
            clear e
            go_wp2
            go_round
            case rel => exact ⟨t + 1, by omega, by go_num, by rw [HN.out, HH.out]; go_num⟩
            case measure => simp [intOf]; omega
          · have e : hv c = c.toNat - 87 := if_neg h57
            have HH := Lib.hid e
            clear e
            go_wp2
            go_round
            case rel => exact ⟨t + 1, by omega, by go_num, by rw [HN.out, HH.out]; go_num⟩
            case measure => simp [intOf]; omega
        · obtain rfl : t = 2 := by omega
          have e2 : hexN ([a, b].take 2) = 16 * hv a + hv b := by show 16 * (16 * 0 + hv a) + hv b = _; omega
          have l1 := hv_lt a HX1.out
          have l2 := hv_lt b HX2.out
          obtain ⟨D, hD⟩ : ∃ D, D = UInt8.ofNat (16 * hv a + hv b) := ⟨_, rfl⟩
          have ho := ofNat_pair _ _ l1 l2
          rw [← hD] at ho
          rw [e2, ← ho]
          have HD := Lib.hid hD
          have hDl := D.toNat_lt
          have hBo := HB.out.size
          clear e2 ho hD l1 l2
          go_wp2_with (at_builtin; refine append_bytes _ rfl (.tmp 38) (.tmp 41) rfl w.heap.size _ _ [D] rfl (HO.out.alloc _) ⟨W1.heap.size, 0, none⟩ 1 rfl (new_cells W1 _ _) hl (by simp; omega) ?_; intro v' w' hown' hg')
          go_roundw
          case rel =>
            have hv2 := HV.out
            refine ⟨j + 2, by omega, by omega, by go_num, ?_, (HB.out.alloc hBo _).grown hg' (by simp; omega) fun k hk => (HO.out.lt k hk).1⟩
            rw [HT.out, pairs_snoc _ _ _ (by rw [HL.out]; exact hv2), ← HD.out]
            exact hown'
          case measure => simp [intOf]; omega
    · have h1 := HV.out
      have h2 := HE.out
      obtain rfl : j = s.size := by omega
      rw [take_all] at hown
      have hc := run_own_string wo _ _ _ hown
      clear h1 h2
      go_wp2
      go_ret
      exact ⟨rfl, hb⟩
end Go.Proofs.Ytdhafmjhohnclaa
