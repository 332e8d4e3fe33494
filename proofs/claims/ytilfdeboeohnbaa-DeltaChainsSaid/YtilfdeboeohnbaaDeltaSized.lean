/- THE WALKS of sized and copyOf. Conditions: the numbers. -/
import Derived.Test.YtilfdeboeohnbaaQueue
import Derived.Test.YtilfdeboeohnbaaDeltaMkMath
import Derived.Test.YtilfdeboeohnbaaIntBits
import Derived.LoopTactic
import Derived.Deep.QuietTactic
import Derived.BigQuiet
import Derived.StillTailTactics
namespace Go.Proofs.Ytilfdeboeohnbaa
open Go.RowKit Delta
set_option linter.unusedVariables false

theorem or128 (m : Nat) : bits BinOp.or IntKind.u8 ((m : Int) % 256) 128 = ((UInt8.ofNat (m % 128 + 128)).toNat : Int) := by
  have h : ∀ k : Fin 256, bits BinOp.or IntKind.u8 ((k.val : Nat) : Int) 128 = ((k.val % 128 + 128 : Nat) : Int) := by decide +kernel
  have e : (m : Int) % 256 = ((m % 256 : Nat) : Int) := by omega
  have h2 := h ⟨m % 256, by omega⟩
  rw [e, h2, UInt8.toNat_ofNat']
  simp only []
  omega
theorem or_bit (c i : Nat) (hc : c < 2 ^ i) (h7 : i < 7) : bits BinOp.or IntKind.u8 ((128 + c : Nat) : Int) ((2 ^ i : Nat) : Int) = ((128 + (c + 2 ^ i) : Nat) : Int) := by
  have h : ∀ (i : Fin 7) (c : Fin 128), c.val < 2 ^ i.val → bits BinOp.or IntKind.u8 ((128 + c.val : Nat) : Int) ((2 ^ i.val : Nat) : Int) = ((128 + (c.val + 2 ^ i.val) : Nat) : Int) := by decide +kernel
  have : (2 : Nat) ^ i ≤ 2 ^ 6 := Nat.pow_le_pow_right (by omega) (by omega)
  exact h ⟨i, h7⟩ ⟨c, by omega⟩ hc

theorem or_set (c i : Nat) (hc : c < 2 ^ i) (h7 : i < 7) : ∃ D : UInt8, D = UInt8.ofNat (128 + (c + 2 ^ i)) ∧ bits BinOp.or IntKind.u8 (128 + (c : Int)) (IntKind.u8.wrap (2 ^ i)) = (D.toNat : Int) := by
  refine ⟨_, rfl, ?_⟩
  have h := or_bit c i hc h7
  have h6 : (2 : Nat) ^ i ≤ 2 ^ 6 := Nat.pow_le_pow_right (by omega) (by omega)
  have e : IntKind.u8.wrap (2 ^ i) = ((2 ^ i : Nat) : Int) := by
    have e2 : (2 : Int) ^ i = ((2 ^ i : Nat) : Int) := by simp
    rw [e2]
    simp [IntKind.wrap, IntKind.bits, IntKind.signed]
    omega
  rw [e, UInt8.toNat_ofNat', show (128 : Int) + (c : Int) = ((128 + c : Nat) : Int) by omega, h]
  congr 1
  omega

section
variable {w w' : World} {B : Nat} {v : Value} {l : List UInt8}
theorem ownsB.cell {g cap n : Nat} (h : ownsB w B (.slice (some ⟨g, 0, none⟩) n cap) l) (hn : l.length = n) (j : Nat) (hj : j < n) : w.cell? ⟨g, j, none⟩ = some (bv (l[j]'(by omega))) := by
  subst hn
  have := World.ownsRow.cellAt h j (by omega)
  rw [this, List.getElem?_map, List.getElem?_eq_getElem hj]
  rfl
theorem ownsB.free {g cap n : Nat} (h : ownsB w B (.slice (some ⟨g, 0, none⟩) n cap) l) (hn : l.length = n) (j : Nat) : w.frozen? ⟨g, j, none⟩ = false := by
  subst hn
  exact World.ownsRow.frozenAt h j
theorem ownsB.stored {g cap n : Nat} (h : ownsB w B (.slice (some ⟨g, 0, none⟩) n cap) l) (hn : l.length = n) (j : Nat) (x : UInt8) :
    ownsB (w.setCell ⟨g, j, none⟩ (.int .u8 (x.toNat : Int))) B (.slice (some ⟨g, 0, none⟩) n cap) (l.set j x) ∧ w.grownBy (w.setCell ⟨g, j, none⟩ (.int .u8 (x.toNat : Int))) (some g) := by
  subst hn
  have := World.ownsRow.stored h j (bv x)
  refine ⟨?_, this.2⟩
  unfold ownsB
  rw [List.length_set, List.map_set]
  exact this.1
theorem ownsB.form (h : ownsB w B v l) (hl : 0 < l.length) : ∃ g cap, v = .slice (some ⟨g, 0, none⟩) l.length cap ∧ B ≤ g ∧ g < w.heap.size := by
  rcases h.2 with ⟨_, h0⟩ | ⟨g, cap, cur, rfl, hB, hh, _⟩
  · omega
  · exact ⟨g, cap, rfl, hB, lt_of_block hh⟩
end
theorem made_128 (w : World) (o n : Nat) : ownsB (w.alloc (.cells #[.int .u8 128] 5)) w.heap.size (.slice (some ⟨w.heap.size, 0, none⟩) (copyL o n 0).length 1) (copyL o n 0) :=
  World.ownsRow_lit w #[.int .u8 128] 1 (Nat.le_refl _) (by decide) rfl
theorem copyL_head (o n i : Nat) (h : i < 7) : (copyL o n i)[0]'(by unfold copyL; simp) = UInt8.ofNat (128 + mask (xs7 o n i) 0) ∧ (UInt8.ofNat (128 + mask (xs7 o n i) 0)).toNat = 128 + mask (xs7 o n i) 0 := by
  refine ⟨rfl, ?_⟩
  have hm := mask_lt (xs7 o n i) 0
  rw [xs7_len] at hm
  have h2 : (2 : Nat) ^ (0 + i) ≤ 2 ^ 6 := Nat.pow_le_pow_right (by omega) (by omega)
  have h3 : (2 : Nat) ^ 0 = 1 := rfl
  rw [UInt8.toNat_ofNat']; omega
theorem copyL_len (o n i : Nat) : 0 < (copyL o n i).length := by unfold copyL; simp
theorem copyL_le (o n i : Nat) : (copyL o n i).length ≤ i + 1 := by
  have h := List.length_filter_le (fun x => decide (x ≠ 0)) (xs7 o n i)
  rw [xs7_len] at h
  unfold copyL full
  rw [List.length_cons, List.length_map]
  omega
theorem copyL_zero (o n i : Nat) (h : xcopy o n i = 0) : copyL o n (i + 1) = copyL o n i := by
  unfold copyL
  rw [xs7_succ, h, full_zero, mask_snoc]
  simp [bit]
theorem copyL_snoc (o n i : Nat) (h : xcopy o n i ≠ 0) : copyL o n (i + 1) = (copyL o n i).set 0 (UInt8.ofNat (128 + (mask (xs7 o n i) 0 + 2 ^ i))) ++ [UInt8.ofNat (xcopy o n i)] := by
  unfold copyL
  rw [xs7_succ, full_snoc _ _ h, mask_snoc, xs7_len]
  simp [bit, h]
theorem x_lo (o n i : Nat) (h : i < 4) (ho : o < 4294967296) : bits BinOp.and IntKind.i64 ((o : Int) / 2 ^ (8 * i)) 255 = ((xcopy o n i : Nat) : Int) := by
  have e1 : ((o : Int) / 2 ^ (8 * i)) = ((o / 2 ^ (8 * i) : Nat) : Int) := by simp
  have hle : o / 2 ^ (8 * i) ≤ o := Nat.div_le_self _ _
  have h8 := i64_mask (o / 2 ^ (8 * i)) 8 (by omega) (by omega)
  rw [e1, show (255 : Int) = ((2 ^ 8 - 1 : Nat) : Int) by rfl, h8]
  match i, h with
  | 0, _ => simp [xcopy]
  | 1, _ => rfl
  | 2, _ => rfl
  | 3, _ => rfl
theorem x_hi (n i : Nat) (hn : n ≤ 65536) : bits BinOp.and IntKind.i64 ((n : Int) / 2 ^ (8 * i)) 255 = ((n / 2 ^ (8 * i) % 256 : Nat) : Int) := by
  have e1 : ((n : Int) / 2 ^ (8 * i)) = ((n / 2 ^ (8 * i) : Nat) : Int) := by simp
  have hle : n / 2 ^ (8 * i) ≤ n := Nat.div_le_self _ _
  have h8 := i64_mask (n / 2 ^ (8 * i)) 8 (by omega) (by omega)
  rw [e1, show (255 : Int) = ((2 ^ 8 - 1 : Nat) : Int) by rfl, h8]

set_option maxRecDepth 100000 in
set_option maxHeartbeats 1000000 in
theorem sized_any (n : Nat) (w : World) (hn : n ≤ 34359738367) :
    Calls Try.prog 21 #[.int .i64 (n : Int)] w fun e w' => ∃ v, e = .returned v ∧ ownsB w' w.heap.size v (sized n) ∧ Below w.heap.size w w' := by
  go_enter Try.func21, Try.ntmps21
  go_wp2
  go_loopw [0, 3] (fun nv bv_ wr => ∃ (m : Nat) (pre : List UInt8), m ≤ 34359738367 ∧ nv = .int .i64 (m : Int) ∧ ownsB wr w.heap.size bv_ pre ∧ sized n = pre ++ sized m ∧ pre.length + m / 128 ≤ 1000000000 ∧ Below w.heap.size w wr) (fun nv _ _ => (intOf nv).toNat)
  case atStart => exact ⟨n, [], hn, rfl, ownsB_nil _ _, rfl, by simp; omega, Below.refl _ _⟩
  case round =>
    obtain ⟨m, pre, hm, rfl, hown, hs, hpl, hb⟩ := hrel
    have HOWN := Lib.hid hown
    have HS := Lib.hid hs
    have HB := Lib.hid hb
    have hBs := hb.size
    clear hown hs hb
    by_cases hlt : m < 128
    · obtain ⟨C, hC⟩ : ∃ C : UInt8, m = C.toNat := ⟨UInt8.ofNat m, by rw [UInt8.toNat_ofNat']; omega⟩
      subst hC
      have hlen : pre.length + [C].length ≤ 140737488355328 := by simp; omega
      go_wp2_with (at_builtin; refine append_bytes _ rfl (.tmp 14) (.tmp 17) rfl w.heap.size _ _ [C] rfl (HOWN.out.alloc _) ⟨wr.heap.size, 0, none⟩ 1 rfl (new_cells wr [C] _) hlen (by simp; omega) ?_; intro v' w' hown' hg')
      go_ret
      refine ⟨_, rfl, ?_, (HOWN.out.alloc _).grown (HB.out.alloc hBs _) hg' (by simp; omega)⟩
      rw [HS.out, sized_lo _ hlt, UInt8.ofNat_toNat]
      exact hown'
    · obtain ⟨C, hC⟩ : ∃ C : UInt8, C = UInt8.ofNat (m % 128 + 128) := ⟨_, rfl⟩
      have hor : bits BinOp.or IntKind.u8 ((m : Int) % 256) 128 = (C.toNat : Int) := by
        rw [hC]
        exact or128 m
      have HC := Lib.hid hC
      have hlen : pre.length + [C].length ≤ 140737488355328 := by simp; omega
      clear hC
      go_wp2_with (at_builtin; refine append_bytes _ rfl (.tmp 8) (.tmp 12) rfl w.heap.size _ _ [C] rfl (HOWN.out.alloc _) ⟨wr.heap.size, 0, none⟩ 1 rfl (new_cells wr [C] _) hlen (by simp; omega) ?_; intro v' w' hown' hg')
      go_roundw
      case rel =>
        refine ⟨m / 128, pre ++ [C], by omega, by go_num, hown', ?_, by rw [List.length_append]; simp; omega, (HOWN.out.alloc _).grown (HB.out.alloc hBs _) hg' (by simp; omega)⟩
        rw [HS.out, sized_hi m hlt, ← HC.out, List.append_assoc]
        rfl
      case measure => simp [intOf]; omega

set_option maxRecDepth 100000 in
set_option maxHeartbeats 1000000 in
theorem copyOf_any (o n : Nat) (w : World) (ho : o < 4294967296) (hn : n ≤ 65536) :
    Calls Try.prog 23 #[.int .i64 (o : Int), .int .i64 (n : Int)] w fun e w' => ∃ v, e = .returned v ∧ ownsB w' w.heap.size v (copyL o n 7) ∧ Below w.heap.size w w' := by
  go_enter Try.func23, Try.ntmps23
  go_wp2
  go_loopw [5, 9] (fun bv_ iv_ wr => ∃ (i cap g : Nat), i ≤ 7 ∧ iv_ = .int .i64 (i : Int) ∧ bv_ = .slice (some ⟨g, 0, none⟩) (copyL o n i).length cap ∧ ownsB wr w.heap.size (.slice (some ⟨g, 0, none⟩) (copyL o n i).length cap) (copyL o n i) ∧ Below w.heap.size w wr) (fun _ iv_ _ => 100 - (intOf iv_).toNat)
  case atStart => exact ⟨0, 1, w.heap.size, by omega, rfl, rfl, made_128 w o n, (Below.refl _ _).alloc (Nat.le_refl _) _⟩
  case round =>
    obtain ⟨i, cap, g, hi, rfl, rfl, hown, hb⟩ := hrel
    obtain ⟨X, hX⟩ : ∃ X, X = xcopy o n i := ⟨_, rfl⟩
    have hX256 := xcopy_lt o n i
    rw [← hX] at hX256
    have hz := copyL_zero o n i
    have hs := copyL_snoc o n i
    have hcl := copyL_len o n i
    have hle := copyL_le o n i
    have hmask := mask_lt (xs7 o n i) 0
    rw [xs7_len] at hmask
    have hob0 := hown.cell rfl 0 hcl
    have hof := hown.free rfl 0
    have hhead := copyL_head o n i
    obtain ⟨M, hM⟩ : ∃ M, M = mask (xs7 o n i) 0 := ⟨_, rfl⟩
    rw [← hM] at hmask hs hhead
    have hob : i < 7 → wr.cell? ⟨g, 0, none⟩ = some (.int .u8 ((128 + M : Nat) : Int)) := fun h7 => by
      rw [hob0, (hhead h7).1]
      show some (Value.int .u8 _) = _
      rw [(hhead h7).2]
    clear hhead hob0
    obtain ⟨L, hL⟩ : ∃ L, L = copyL o n i := ⟨_, rfl⟩
    rw [← hX, ← hL] at hz hs
    rw [← hL] at hown hcl hle ⊢
    have HX := Lib.hid hX
    have HL := Lib.hid hL
    have HB := Lib.hid hb
    have HO := Lib.hid hown
    have HZ := Lib.hid hz
    have HS := Lib.hid hs
    have HM := Lib.hid hM
    clear hX hL hb hown hz hs hM
    by_cases h7 : i < 7
    · by_cases h4 : i < 4
      · have hx := x_lo o n i h4 ho
        rw [← HX.out] at hx
        by_cases h0 : X = 0
        · subst h0
          go_wp2
          refine ⟨⟨i + 1, cap, g, by omega, by go_num, by rw [HZ.out rfl], ?_, HB.out⟩, by simp [intOf]; omega⟩
          rw [HZ.out rfl]
          exact HO.out
        · have hxb : ((X : Int) != 0) = true := by rw [bne_iff_ne]; omega
          have hob' := hob h7
          obtain ⟨D, hD, hor⟩ := or_set M i (by simp at hmask; omega) h7
          have HD := Lib.hid hD
          obtain ⟨C, hC⟩ : ∃ C : UInt8, X = C.toNat := ⟨UInt8.ofNat X, by rw [UInt8.toNat_ofNat']; omega⟩
          subst hC
          obtain ⟨hst, hgr⟩ := ownsB.stored (w := wr.drew) HO.out rfl 0 D
          have k1 : wr.drew.cell? ⟨g, 0, none⟩ = some (.int .u8 ((128 + M : Nat) : Int)) := hob'
          have k2 : wr.drew.frozen? ⟨g, 0, none⟩ = false := hof
          have hb1 : Below w.heap.size w (wr.drew.setCell ⟨g, 0, none⟩ (.int .u8 (D.toNat : Int))) := HB.out.drew.setCell (HO.out.lt g rfl).1 _
          have hsn := HS.out h0
          have hws : (wr.drew.setCell ⟨g, 0, none⟩ (.int .u8 (D.toNat : Int))).heap.size = wr.drew.heap.size := by simp
          have hnc := new_cells (wr.drew.setCell ⟨g, 0, none⟩ (.int .u8 (D.toNat : Int))) [C] 5
          rw [hws] at hnc
          have HNC := Lib.hid hnc
          clear hnc
          have HST := Lib.hid hst
          have HWS := Lib.hid hws
          clear hws
          have HB1 := Lib.hid hb1
          have HSN := Lib.hid hsn
          have hlen : (L.set 0 D).length + [C].length ≤ 140737488355328 := by rw [List.length_set]; simp; omega
          have hsz : w.heap.size ≤ (wr.drew.setCell ⟨g, 0, none⟩ (.int .u8 (D.toNat : Int))).heap.size := hb1.size
          clear hD hmask hob hst hgr hb1 hsn
          go_wp2
          go_still_tail 7, (by kernel_rfl)
          change wpList _ _ _ _ _ wr.drew
          generalize wr.drew = W0 at k1 k2 HST HB1 HWS HNC hsz ⊢
          go_wp2_with (at_builtin; go_loud (refine append_bytes _ rfl (.tmp 43) (.tmp 46) rfl w.heap.size _ _ [C] rfl (HST.out.alloc _) ⟨W0.heap.size, 0, none⟩ 1 rfl HNC.out hlen (by rw [World.size_alloc]; omega) ?_); intro v' w' hown' hg')
          have hsn : copyL o n (i + 1) = L.set 0 D ++ [C] := by rw [HSN.out, ← HD.out, UInt8.ofNat_toNat]
          obtain ⟨g', cap', hv, hgB, _⟩ := hown'.form (by simp)
          refine ⟨⟨i + 1, cap', g', by omega, by go_num, by rw [hsn]; exact hv, by rw [hsn, ← hv]; exact hown', (HST.out.alloc _).grown (HB1.out.alloc hsz _) hg' (by rw [World.size_alloc]; omega)⟩, by simp [intOf]; omega⟩
      · have hi3 : i = 4 ∨ i = 5 ∨ i = 6 := by omega
        rcases hi3 with rfl | rfl | rfl
        · have hx := x_hi n 0 hn
          have hx : bits BinOp.and IntKind.i64 (n : Int) 255 = (X : Int) := by
            rw [HX.out]
            simp only [Nat.mul_zero, Nat.pow_zero, Nat.div_one] at hx
            rw [show ((n : Int) / 2 ^ 0) = (n : Int) by omega] at hx
            exact hx
          by_cases h0 : X = 0
          · subst h0
            go_wp2
            refine ⟨⟨4 + 1, cap, g, by omega, by go_num, by rw [HZ.out rfl], ?_, HB.out⟩, by simp [intOf]⟩
            rw [HZ.out rfl]
            exact HO.out
          · have hxb : ((X : Int) != 0) = true := by rw [bne_iff_ne]; omega
            have hob' := hob h7
            obtain ⟨D, hD, hor⟩ := or_set M 4 (by simp at hmask; omega) h7
            rw [show IntKind.u8.wrap (2 ^ 4) = 16 by decide] at hor
            have HD := Lib.hid hD
            obtain ⟨C, hC⟩ : ∃ C : UInt8, X = C.toNat := ⟨UInt8.ofNat X, by rw [UInt8.toNat_ofNat']; omega⟩
            subst hC
            obtain ⟨hst, hgr⟩ := ownsB.stored (w := wr.drew) HO.out rfl 0 D
            have k1 : wr.drew.cell? ⟨g, 0, none⟩ = some (.int .u8 ((128 + M : Nat) : Int)) := hob'
            have k2 : wr.drew.frozen? ⟨g, 0, none⟩ = false := hof
            have hb1 : Below w.heap.size w (wr.drew.setCell ⟨g, 0, none⟩ (.int .u8 (D.toNat : Int))) := HB.out.drew.setCell (HO.out.lt g rfl).1 _
            have hsn := HS.out h0
            have hws : (wr.drew.setCell ⟨g, 0, none⟩ (.int .u8 (D.toNat : Int))).heap.size = wr.drew.heap.size := by simp
            have hnc := new_cells (wr.drew.setCell ⟨g, 0, none⟩ (.int .u8 (D.toNat : Int))) [C] 5
            rw [hws] at hnc
            have HNC := Lib.hid hnc
            clear hnc
            have HST := Lib.hid hst
            have HWS := Lib.hid hws
            clear hws
            have HB1 := Lib.hid hb1
            have HSN := Lib.hid hsn
            have hlen : (L.set 0 D).length + [C].length ≤ 140737488355328 := by rw [List.length_set]; simp; omega
            have hsz : w.heap.size ≤ (wr.drew.setCell ⟨g, 0, none⟩ (.int .u8 (D.toNat : Int))).heap.size := hb1.size
            clear hD hmask hob hst hgr hb1 hsn
            go_wp2
            go_still_tail 7, (by kernel_rfl)
            change wpList _ _ _ _ _ wr.drew
            generalize wr.drew = W0 at k1 k2 HST HB1 HWS HNC hsz ⊢
            go_wp2_with (at_builtin; go_loud (refine append_bytes _ rfl (.tmp 43) (.tmp 46) rfl w.heap.size _ _ [C] rfl (HST.out.alloc _) ⟨W0.heap.size, 0, none⟩ 1 rfl HNC.out hlen (by rw [World.size_alloc]; omega) ?_); intro v' w' hown' hg')
            have hsn : copyL o n (4 + 1) = L.set 0 D ++ [C] := by rw [HSN.out, ← HD.out, UInt8.ofNat_toNat]
            obtain ⟨g', cap', hv, hgB, _⟩ := hown'.form (by simp)
            refine ⟨⟨4 + 1, cap', g', by omega, by go_num, by rw [hsn]; exact hv, by rw [hsn, ← hv]; exact hown', (HST.out.alloc _).grown (HB1.out.alloc hsz _) hg' (by rw [World.size_alloc]; omega)⟩, by simp [intOf]⟩
        · have hx := x_hi n 1 hn
          have hx : bits BinOp.and IntKind.i64 ((n : Int) / 256) 255 = (X : Int) := by
            rw [HX.out]
            exact hx
          by_cases h0 : X = 0
          · subst h0
            go_wp2
            refine ⟨⟨5 + 1, cap, g, by omega, by go_num, by rw [HZ.out rfl], ?_, HB.out⟩, by simp [intOf]⟩
            rw [HZ.out rfl]
            exact HO.out
          · have hxb : ((X : Int) != 0) = true := by rw [bne_iff_ne]; omega
            have hob' := hob h7
            obtain ⟨D, hD, hor⟩ := or_set M 5 (by simp at hmask; omega) h7
            rw [show IntKind.u8.wrap (2 ^ 5) = 32 by decide] at hor
            have HD := Lib.hid hD
            obtain ⟨C, hC⟩ : ∃ C : UInt8, X = C.toNat := ⟨UInt8.ofNat X, by rw [UInt8.toNat_ofNat']; omega⟩
            subst hC
            obtain ⟨hst, hgr⟩ := ownsB.stored (w := wr.drew) HO.out rfl 0 D
            have k1 : wr.drew.cell? ⟨g, 0, none⟩ = some (.int .u8 ((128 + M : Nat) : Int)) := hob'
            have k2 : wr.drew.frozen? ⟨g, 0, none⟩ = false := hof
            have hb1 : Below w.heap.size w (wr.drew.setCell ⟨g, 0, none⟩ (.int .u8 (D.toNat : Int))) := HB.out.drew.setCell (HO.out.lt g rfl).1 _
            have hsn := HS.out h0
            have hws : (wr.drew.setCell ⟨g, 0, none⟩ (.int .u8 (D.toNat : Int))).heap.size = wr.drew.heap.size := by simp
            have hnc := new_cells (wr.drew.setCell ⟨g, 0, none⟩ (.int .u8 (D.toNat : Int))) [C] 5
            rw [hws] at hnc
            have HNC := Lib.hid hnc
            clear hnc
            have HST := Lib.hid hst
            have HWS := Lib.hid hws
            clear hws
            have HB1 := Lib.hid hb1
            have HSN := Lib.hid hsn
            have hlen : (L.set 0 D).length + [C].length ≤ 140737488355328 := by rw [List.length_set]; simp; omega
            have hsz : w.heap.size ≤ (wr.drew.setCell ⟨g, 0, none⟩ (.int .u8 (D.toNat : Int))).heap.size := hb1.size
            clear hD hmask hob hst hgr hb1 hsn
            go_wp2
            go_still_tail 7, (by kernel_rfl)
            change wpList _ _ _ _ _ wr.drew
            generalize wr.drew = W0 at k1 k2 HST HB1 HWS HNC hsz ⊢
            go_wp2_with (at_builtin; go_loud (refine append_bytes _ rfl (.tmp 43) (.tmp 46) rfl w.heap.size _ _ [C] rfl (HST.out.alloc _) ⟨W0.heap.size, 0, none⟩ 1 rfl HNC.out hlen (by rw [World.size_alloc]; omega) ?_); intro v' w' hown' hg')
            have hsn : copyL o n (5 + 1) = L.set 0 D ++ [C] := by rw [HSN.out, ← HD.out, UInt8.ofNat_toNat]
            obtain ⟨g', cap', hv, hgB, _⟩ := hown'.form (by simp)
            refine ⟨⟨5 + 1, cap', g', by omega, by go_num, by rw [hsn]; exact hv, by rw [hsn, ← hv]; exact hown', (HST.out.alloc _).grown (HB1.out.alloc hsz _) hg' (by rw [World.size_alloc]; omega)⟩, by simp [intOf]⟩
        · have hx := x_hi n 2 hn
          by_cases h64 : n = 65536
          · have hX0 : X = 0 := by
              rw [HX.out]
              show (if n = 65536 then 0 else n / 65536 % 256) = 0
              rw [if_pos h64]
            have hx : bits BinOp.and IntKind.i64 ((n : Int) / 65536) 255 = 1 := by
              refine Eq.trans hx ?_
              rw [h64]
              rfl
            have e : ((n : Int) == 65536) = true := by rw [beq_iff_eq]; omega
            have hz := HZ.out hX0
            have HZ2 := Lib.hid hz
            clear hX0 hz h64
            go_wp2
            refine ⟨⟨6 + 1, cap, g, by omega, by go_num, by rw [HZ2.out], ?_, HB.out⟩, by simp [intOf]⟩
            rw [HZ2.out]
            exact HO.out
          · have e : ((n : Int) == 65536) = false := by rw [beq_eq_false_iff_ne]; omega
            have hx : bits BinOp.and IntKind.i64 ((n : Int) / 65536) 255 = (X : Int) := by
              rw [HX.out]
              refine Eq.trans hx ?_
              show ((n / 65536 % 256 : Nat) : Int) = ((if n = 65536 then 0 else n / 65536 % 256 : Nat) : Int)
              rw [if_neg h64]
            by_cases h0 : X = 0
            · subst h0
              go_wp2
              refine ⟨⟨6 + 1, cap, g, by omega, by go_num, by rw [HZ.out rfl], ?_, HB.out⟩, by simp [intOf]⟩
              rw [HZ.out rfl]
              exact HO.out
            · have hxb : ((X : Int) != 0) = true := by rw [bne_iff_ne]; omega
              have hob' := hob h7
              obtain ⟨D, hD, hor⟩ := or_set M 6 (by simp at hmask; omega) h7
              rw [show IntKind.u8.wrap (2 ^ 6) = 64 by decide] at hor
              have HD := Lib.hid hD
              obtain ⟨C, hC⟩ : ∃ C : UInt8, X = C.toNat := ⟨UInt8.ofNat X, by rw [UInt8.toNat_ofNat']; omega⟩
              subst hC
              obtain ⟨hst, hgr⟩ := ownsB.stored (w := wr.drew) HO.out rfl 0 D
              have k1 : wr.drew.cell? ⟨g, 0, none⟩ = some (.int .u8 ((128 + M : Nat) : Int)) := hob'
              have k2 : wr.drew.frozen? ⟨g, 0, none⟩ = false := hof
              have hb1 : Below w.heap.size w (wr.drew.setCell ⟨g, 0, none⟩ (.int .u8 (D.toNat : Int))) := HB.out.drew.setCell (HO.out.lt g rfl).1 _
              have hsn := HS.out h0
              have hws : (wr.drew.setCell ⟨g, 0, none⟩ (.int .u8 (D.toNat : Int))).heap.size = wr.drew.heap.size := by simp
              have hnc := new_cells (wr.drew.setCell ⟨g, 0, none⟩ (.int .u8 (D.toNat : Int))) [C] 5
              rw [hws] at hnc
              have HNC := Lib.hid hnc
              clear hnc
              have HST := Lib.hid hst
              have HWS := Lib.hid hws
              clear hws
              have HB1 := Lib.hid hb1
              have HSN := Lib.hid hsn
              have hlen : (L.set 0 D).length + [C].length ≤ 140737488355328 := by rw [List.length_set]; simp; omega
              have hsz : w.heap.size ≤ (wr.drew.setCell ⟨g, 0, none⟩ (.int .u8 (D.toNat : Int))).heap.size := hb1.size
              clear hD hmask hob hst hgr hb1 hsn
              go_wp2
              go_still_tail 7, (by kernel_rfl)
              change wpList _ _ _ _ _ wr.drew
              generalize wr.drew = W0 at k1 k2 HST HB1 HWS HNC hsz ⊢
              go_wp2_with (at_builtin; go_loud (refine append_bytes _ rfl (.tmp 43) (.tmp 46) rfl w.heap.size _ _ [C] rfl (HST.out.alloc _) ⟨W0.heap.size, 0, none⟩ 1 rfl HNC.out hlen (by rw [World.size_alloc]; omega) ?_); intro v' w' hown' hg')
              have hsn : copyL o n (6 + 1) = L.set 0 D ++ [C] := by rw [HSN.out, ← HD.out, UInt8.ofNat_toNat]
              obtain ⟨g', cap', hv, hgB, _⟩ := hown'.form (by simp)
              refine ⟨⟨6 + 1, cap', g', by omega, by go_num, by rw [hsn]; exact hv, by rw [hsn, ← hv]; exact hown', (HST.out.alloc _).grown (HB1.out.alloc hsz _) hg' (by rw [World.size_alloc]; omega)⟩, by simp [intOf]⟩
    · obtain rfl : i = 7 := by omega
      go_wp2
      go_ret
      exact ⟨_, rfl, by rw [← HL.out]; exact HO.out, HB.out⟩
end Go.Proofs.Ytilfdeboeohnbaa
