/- THE WALK: base 64. -/
import Derived.Test.YtdhafmjhohnclaaBytes
import Derived.Test.YtdhafmjhohnclaaSumsMath
import Derived.Lib.BufferWrite
import Derived.Lib.SlBuf
namespace Go.Proofs.Ytdhafmjhohnclaa
open Go.RowKit Sums

/-- 'copy(dst, s)' from a string, as much of it as fits. -/
theorem run_copy_string_any {P : Program} (w : World) (dT sT ty elem : TypeId) (g o dLen dCap : Nat) (s : ByteArray) (cur : Array Value) (t : TypeId)
    (hu : P.underlying dT = some (.slice elem)) (hs : (P.info? elem).map (·.size) = some 1) (hg : w.heap[g]? = some (.cells cur t (0, 0))) (n : Nat) (hn : n = min s.size dLen) (hfit : o + n ≤ cur.size) :
    (Builtin.copy_ #[dT, sT] ty #[.slice (some ⟨g, o, none⟩) dLen dCap, .string s]).run P w =
      .ok (goInt n) (w.setRow g (cur.toList.take o ++ (s.data.toList.take n).map bv ++ cur.toList.drop (o + n)).toArray) := by
  have hlen : ((s.data.toList.take n).map bv).length = n := by simp; omega
  have hst := run_storeCells_at P g o t ((s.data.toList.take n).map bv) 0 cur w hg (by rw [hlen]; simpa using hfit) (map_bv_one _)
  have htk : List.take n (List.map (fun b : UInt8 => Value.int IntKind.u8 (b.toNat : Int)) s.data.toList) = (s.data.toList.take n).map bv := by
    rw [← List.map_take]; rfl
  rw [hlen] at hst
  simp only [Nat.add_zero] at hst
  have hmin : Nat.min s.size dLen = n := hn.symm
  cases hq : P.info? elem with
  | none => simp [hq] at hs
  | some i =>
    simp [Builtin.copy_, run_underlying hu, Builtin.lenOf, Builtin.firstCells, sizeOf, typeInfo, hq, hmin]
    rw [htk, hst]
    simp [Result.andThen]

theorem extract_drop (s : ByteArray) (a : Nat) : (s.extract a s.size).data.toList = s.data.toList.drop a := by
  rw [Lib.extract_data, List.take_of_length_le]
  rw [List.length_drop, Array.length_toList]
  exact Nat.le_refl _

def lenOf : Value → Nat | .string s => s.size | _ => 0

theorem alloc_setRow (w : World) (c d : Array Value) (t : TypeId) : (w.alloc (.cells c t)).setRow w.heap.size d = w.alloc (.cells d t) := by
  unfold World.setRow World.alloc
  have : ∀ (a : Array Obj) (x : Obj) (f : Obj → Obj), (a.push x).modify a.size f = a.push (f x) := by
    intro a x f
    apply Array.ext
    · simp
    · intro i h1 h2
      simp only [Array.getElem_modify, Array.getElem_push]
      by_cases h : a.size = i
      · subst h; simp
      · have hi : i < a.size := by simp at h1; omega
        simp [h, hi]
  simp [this]

/-- What 'copy(b[:], t)' leaves of three zero bytes. -/
theorem copy3 (w : World) (u : ByteArray) (x y z : UInt8) (n : Nat) (hn : n = min u.size 3)
    (hl : (u.data.toList.take n).map bv ++ ([Value.int .u8 0, Value.int .u8 0, Value.int .u8 0]).drop n = [bv x, bv y, bv z]) :
    (Builtin.copy_ #[35, 9] 3 #[.slice (some ⟨w.heap.size, 0, none⟩) 3 3, .string u]).run Try.prog (w.alloc (.cells #[.int .u8 0, .int .u8 0, .int .u8 0] 57)) =
      .ok (goInt n) (w.alloc (.cells #[.int .u8 (x.toNat : Int), .int .u8 (y.toNat : Int), .int .u8 (z.toNat : Int)] 57)) := by
  obtain ⟨i0, hi, _, hz1, _⟩ := info_parts infoU8
  have h := run_copy_string_any (P := Try.prog) (w.alloc (.cells #[.int .u8 0, .int .u8 0, .int .u8 0] 57)) 35 9 3 5 w.heap.size 0 3 3 u #[.int .u8 0, .int .u8 0, .int .u8 0] 57
    Try.underlying35 (by rw [hi]; show some i0.size = some 1; rw [hz1]) (heap_alloc_same _ _) n hn (by show 0 + n ≤ 3; omega)
  rw [h, alloc_setRow]
  have e : ((#[Value.int .u8 0, .int .u8 0, .int .u8 0] : Array Value).toList.take 0 ++ (u.data.toList.take n).map bv ++ (#[Value.int .u8 0, .int .u8 0, .int .u8 0] : Array Value).toList.drop (0 + n)) = [bv x, bv y, bv z] := by
    rw [Nat.zero_add]; exact hl
  rw [e]
  rfl

/-- One group: what the round finds, whatever of the text is left. -/
structure Group (u : ByteArray) (n : Nat) (x y z : UInt8) : Prop where
  pos : 0 < u.size
  num : n = min u.size 3
  cells : (u.data.toList.take n).map bv ++ ([Value.int .u8 0, Value.int .u8 0, Value.int .u8 0]).drop n = [bv x, bv y, bv z]
  step : b64 u.data.toList = grp (word3 x.toNat y.toNat z.toNat) n ++ b64 (u.data.toList.drop n)

theorem group_of (u : ByteArray) (h : 0 < u.size) : ∃ n x y z, Group u n x y z := by
  have hsz : u.data.toList.length = u.size := by rw [Array.length_toList]; rfl
  match hu : u.data.toList with
  | [] => rw [hu] at hsz; simp at hsz; omega
  | [a] => rw [hu] at hsz; simp at hsz; exact ⟨1, a, 0, 0, h, by omega, by rw [hu]; rfl, by rw [hu]; rfl⟩
  | [a, b] => rw [hu] at hsz; simp at hsz; exact ⟨2, a, b, 0, h, by omega, by rw [hu]; rfl, by rw [hu]; rfl⟩
  | a :: b :: c :: r => rw [hu] at hsz; simp at hsz; exact ⟨3, a, b, c, h, by omega, by rw [hu]; rfl, by rw [hu]; rfl⟩

theorem word3_w (x y z : UInt8) : bits .or .u32 (bits .or .u32 ((x.toNat : Int) * 65536) ((y.toNat : Int) * 256)) (z.toNat : Int) = ((word3 x.toNat y.toNat z.toNat : Nat) : Int) := by
  have hx := x.toNat_lt
  have hy := y.toNat_lt
  have hz := z.toNat_lt
  have e1 : (x.toNat : Int) * 65536 = ((2 ^ 16 * x.toNat : Nat) : Int) := by omega
  have e2 : (y.toNat : Int) * 256 = ((2 ^ 8 * y.toNat : Nat) : Int) := by omega
  rw [e1, e2, u32_or_nat _ _ (by omega) (by omega), ← Nat.two_pow_add_eq_or_of_lt (show 2 ^ 8 * y.toNat < 2 ^ 16 by omega)]
  have e3 : 2 ^ 16 * x.toNat + 2 ^ 8 * y.toNat = 2 ^ 8 * (2 ^ 8 * x.toNat + y.toNat) := by omega
  rw [e3, u32_or_nat _ _ (by omega) (by omega), ← Nat.two_pow_add_eq_or_of_lt (show z.toNat < 2 ^ 8 by omega)]
  simp only [word3]
  omega

set_option maxHeartbeats 2000000 in
theorem b64_any (s : ByteArray) (w : World) (hs : (s.size : Int) ≤ 1000000) :
    Calls Try.prog 23 #[.string s] w fun e w' => e = .returned (.string ⟨(b64 s.data.toList).toArray⟩) ∧ Below w.heap.size w w' := by
  go_enter Try.func23, Try.ntmps23
  go_wp2
  go_loopw [0, 3] (fun t v wr => ∃ (u : ByteArray) (l : List UInt8), t = .string u ∧ (u.size : Int) ≤ 1000000 ∧ ownsB wr w.heap.size v l ∧ (l.length : Int) ≤ 4000000 - 4 * (u.size : Int) ∧ l ++ b64 u.data.toList = b64 s.data.toList ∧ Below w.heap.size w wr) (fun t _ _ => lenOf t)
  case atStart => exact ⟨s, [], rfl, hs, ownsB_nil _ _, by simp; omega, rfl, Below.refl _ _⟩
  case round =>
    obtain ⟨u, l, rfl, hu, hown, hl, hr, hb⟩ := hrel
    have HR := Lib.hid hr
    clear hr
    have hB := hb.size
    obtain ⟨wo, rfl⟩ : ∃ wo : World, wo = wr := ⟨_, rfl⟩
    by_cases h0 : 0 < u.size
    · obtain ⟨n, x, y, z, hG⟩ := group_of u h0
      have hc := copy3 wo u x y z n hG.num hG.cells
      have hmin : min (u.size : Int) 3 = (n : Int) := by have := hG.num; omega
      have hn1 : 1 ≤ n := by have := hG.num; omega
      have hn3 : n ≤ 3 := by have := hG.num; omega
      have hnu : n ≤ u.size := by have := hG.num; omega
      have HG := Lib.hid hG
      clear hG
      have hx := x.toNat_lt
      have hy := y.toNat_lt
      have hz := z.toNat_lt
      have hw := word3_w x y z
      have hW : word3 x.toNat y.toNat z.toNat < 16777216 := by unfold word3; omega
      obtain ⟨W, hWe⟩ : ∃ W, W = word3 x.toNat y.toNat z.toNat := ⟨_, rfl⟩
      rw [← hWe] at hw hW
      have HW := Lib.hid hWe
      clear hWe
      go_wp2_with (refine Lib.wpList_copy_run (o := ⟨some 16, _, _, _, _, _⟩) _ rfl _ _ _ _ rfl _ _ rfl rfl hc ?_)
      clear hc hw hmin
      go_loopw [3, 30] (fun v i wq => ∃ j : Nat, j ≤ 4 ∧ i = .int .i64 j ∧ ownsB wq w.heap.size v (l ++ (grp W n).take j) ∧ Below w.heap.size w wq) (fun _ i _ => 4 - (intOf i).toNat)
      case atStart => exact ⟨0, by omega, rfl, by simpa using hown.alloc _, hb.alloc hB _⟩
      case round =>
        obtain ⟨j, hj, rfl, hownj, hbj⟩ := hrel
        have hBj := hbj.size
        have hlj : (l ++ (grp W n).take j).length + 1 ≤ 140737488355328 := by rw [List.length_append, List.length_take]; omega
        by_cases hj4 : j < 4
        · by_cases hjn : j ≤ n
          · have hsix := six_w W (18 - 6 * j) hW
            obtain ⟨c, hce⟩ : ∃ c, c = W / 2 ^ (18 - 6 * j) % 64 := ⟨_, rfl⟩
            have hc64 : c < 64 := by rw [hce]; exact Nat.mod_lt _ (by omega)
            rw [← hce] at hsix
            have HC := Lib.hid hce
            clear hce
            go_wp2_with (at_builtin; refine append_bytes _ rfl (.tmp 36) (.tmp 44) rfl w.heap.size _ _ [b64Letters[c]'hc64] rfl (hownj.alloc _) ⟨wr.heap.size, 0, none⟩ 1 rfl (new_cells wr _ _) hlj (by simp; omega) ?_; intro v' w' hown' hg')
            go_roundw
            case rel =>
              refine ⟨j + 1, by omega, by go_num, ?_, (hbj.alloc hBj _).grown hg' (by simp; omega) fun k hk => (hownj.lt k hk).1⟩
              rw [grp_take W n j hj4, ← List.append_assoc]
              rw [letter_at, HC.out] at hown'
              have e : chr64 W n j = letter (W / 2 ^ (18 - 6 * j) % 64) := by rw [chr64, if_pos hjn, letter, letter, Nat.mod_mod]
              rw [e]
              exact hown'
            case measure => simp [intOf]; omega
          · go_wp2_with (at_builtin; refine append_bytes _ rfl (.tmp 46) (.tmp 47) rfl w.heap.size _ _ [61] rfl (hownj.alloc _) ⟨wr.heap.size, 0, none⟩ 1 rfl (new_cells wr _ _) hlj (by simp; omega) ?_; intro v' w' hown' hg')
            go_roundw
            case rel =>
              refine ⟨j + 1, by omega, by go_num, ?_, (hbj.alloc hBj _).grown hg' (by simp; omega) fun k hk => (hownj.lt k hk).1⟩
              rw [grp_take W n j hj4, ← List.append_assoc]
              have e : chr64 W n j = 61 := by rw [chr64, if_neg hjn]
              rw [e]
              exact hown'
            case measure => simp [intOf]; omega
        · obtain rfl : j = 4 := by omega
          go_wp2
          go_roundw
          case rel =>
            refine ⟨u.extract n u.size, l ++ grp W n, rfl, ?_, ?_, ?_, ?_, hbj⟩
            · rw [ByteArray.size_extract]; omega
            · exact hownj
            · rw [List.length_append, ByteArray.size_extract]; simp only [grp, List.length_cons, List.length_nil]; omega
            · rw [← HR.out, HG.out.step, ← HW.out, List.append_assoc, extract_drop]
          case measure => simp only [lenOf, ByteArray.size_extract]; omega
    · have hz : u.size = 0 := by omega
      have hnil : u.data.toList = [] := List.length_eq_zero_iff.1 (by rw [Array.length_toList]; exact hz)
      have hc := run_own_string wo _ _ _ hown
      have e : l = b64 s.data.toList := by rw [← HR.out, hnil]; simp [b64]
      have HE := Lib.hid e
      clear e hnil
      go_wp2
      go_ret
      exact ⟨by rw [← HE.out]; rfl, hb⟩
end Go.Proofs.Ytdhafmjhohnclaa
