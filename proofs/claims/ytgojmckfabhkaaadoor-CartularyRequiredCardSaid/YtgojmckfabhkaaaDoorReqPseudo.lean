/- THE WALK of pseudo.Parse at a text that Make made: it answers the second. Conditions: what the text says (FrontOk). -/
import Derived.Test.YtgojmckfabhkaaaDoorReqMake
import Derived.Test.YtgojmckfabhkaaaDoorReqLess
import Derived.Test.YtgojmckfabhkaaaDoorReqNext
import Derived.Test.YtgojmckfabhkaaaDoorCalUnstamp
import Derived.Test.YtgojmckfabhkaaaDoorCalBack
import Derived.Deep.RegionHeld3
namespace Go.Proofs.YtgojmckfabhkaaaDoor.Sem
open Go Go.RowKit Sums
set_option linter.unusedVariables false

theorem getB (l : List UInt8) (j : Nat) (h : j < l.length) : (tx l).data[j]! = l[j] := by
  show l.toArray[j]! = _
  simp [h]
theorem lastix (A B : List UInt8) (h : 45 ∉ B) : Lib.lastIndexByte (tx (A ++ 45 :: B)) 45 = (A.length : Int) := by
  have hs : (tx (A ++ 45 :: B)).size = A.length + 1 + B.length := by rw [tx_size]; simp; omega
  rcases Lib.lastIndexByte_spec (tx (A ++ 45 :: B)) 45 with ⟨-, hn⟩ | ⟨i, hi, e, hc, hn⟩
  · have h1 := hn A.length (by omega)
    rw [getB _ _ (by simp)] at h1
    simp at h1
  · rw [e]
    rcases Nat.lt_trichotomy i A.length with h1 | h1 | h1
    · have h2 := hn A.length h1 (by omega)
      rw [getB _ _ (by simp)] at h2
      simp at h2
    · rw [h1]
    · exfalso
      rw [getB _ _ (by rw [hs] at hi; simp; omega)] at hc
      rw [List.getElem_append_right (by omega)] at hc
      rw [List.getElem_cons, dif_neg (by omega)] at hc
      have hm : (B[i - A.length - 1]'(by rw [hs] at hi; omega)) ∈ B := List.getElem_mem _
      have h45 : (B[i - A.length - 1]'(by rw [hs] at hi; omega)) = 45 := UInt8.toNat_inj.1 (by show _ = 45; omega)
      rw [h45] at hm
      exact h hm
theorem suf (A : List UInt8) : Lib.trimSuffix (A ++ [46, 48, 46]) [46, 48, 46] = A ∧ Lib.hasSuffix (A ++ [46, 48, 46]) [46, 48, 46] = true := by
  have h : Lib.hasSuffix (A ++ [46, 48, 46]) [46, 48, 46] = true := by
    show List.isSuffixOf [46, 48, 46] (A ++ [46, 48, 46]) = true
    rw [List.isSuffixOf_iff_suffix]
    exact ⟨A, rfl⟩
  refine ⟨?_, h⟩
  unfold Lib.trimSuffix
  rw [if_pos h]
  simp

theorem put3_row {W : World} {b : Nat} {a0 a1 a2 : Value} {t : TypeId} (h : W.heap[b]? = some (.cells #[a0, a1, a2] t (0, 0))) (v0 v1 v2 : Value) : (put3 W b v0 v1 v2).heap[b]? = some (.cells #[v0, v1, v2] t (0, 0)) :=
  heap_set (heap_set (heap_set h 0 v0) 1 v1) 2 v2
theorem put3_below {W w : World} {b N : Nat} (h : Below N w W) (hb : N ≤ b) (v0 v1 v2 : Value) : Below N w (put3 W b v0 v1 v2) :=
  ((h.setCell (p := ⟨b, 0, none⟩) hb _).setCell (p := ⟨b, 1, none⟩) hb _).setCell (p := ⟨b, 2, none⟩) hb _
/-- What 'Parse' answers. -/
def PPq (t : Int) (w : World) (e : Ending) (w' : World) : Prop := (∃ b r : ByteArray, e = .returned (.tuple #[.agg #[.string b, .int .i64 t, .string r], .int .i64 0])) ∧ Below w.heap.size w w'
theorem pp_leaf {w W6 : World} {ti : Int} {b r : ByteArray} (hr : W6.heap[w.heap.size]? = some (.cells #[.string b, .int .i64 ti, .string r] 37 (0, 0))) (hb : Below w.heap.size w W6) (t : Array Value) (h2 : t.getD 2 undef = .pointer (some ⟨w.heap.size, 0, none⟩)) (h3 : t.getD 3 undef = .int .i64 0) :
    bodyPost Tryd.prog Tryd.f10 (fun e w' => PPq ti w e w') Exit.ret { tmps := t, defers := [] } W6 := by
  obtain ⟨c0, c1, c2, -⟩ := rows3 hr
  have h2' : t[2]?.getD undef = .pointer (some ⟨w.heap.size, 0, none⟩) := by rw [← Array.getD_eq_getD_getElem?]; exact h2
  have h3' : t[3]?.getD undef = .int .i64 0 := by rw [← Array.getD_eq_getD_getElem?]; exact h3
  exact bodyPost_ret (v := .tuple #[.agg #[.string b, .int .i64 ti, .string r], .int .i64 0]) (by simp [results, Tryd.results10, go_sem, c0, c1, c2, h2', h3']) rfl ⟨⟨b, r, rfl⟩, hb⟩
/-- What holds at the end of the third way. -/
structure PC (w : World) (a4 : Array Value) (B4 B10 : Nat) (tv rv : Value) (w' : World) : Prop where
  below : Below w.heap.size w w'
  row : w'.heap[B4]? = some (.cells a4 44 (0, 0))
  res : ∃ x y z : Value, w'.heap[w.heap.size]? = some (.cells #[x, y, z] 37 (0, 0))
  out : ∃ x : ByteArray, w'.heap[B10]? = some (.cells #[.string x, tv, rv] 37 (0, 0))
theorem PC.call {w : World} {a4 : Array Value} {B4 B10 : Nat} {tv rv : Value} {a b : World} (h : PC w a4 B4 B10 tv rv a) (hb : Below a.heap.size a b) : PC w a4 B4 B10 tv rv b :=
  ⟨below_next h.below hb h.below.size, below_heap hb h.row (lt_of_block h.row), by obtain ⟨x, y, z, h1⟩ := h.res; exact ⟨x, y, z, below_heap hb h1 (lt_of_block h1)⟩, by obtain ⟨x, h1⟩ := h.out; exact ⟨x, below_heap hb h1 (lt_of_block h1)⟩⟩
theorem PC.set {w : World} {a4 : Array Value} {B4 B10 : Nat} {tv rv : Value} {a : World} (h : PC w a4 B4 B10 tv rv a) (h1 : B4 < B10) (h2 : w.heap.size < B10) (x : ByteArray) : PC w a4 B4 B10 tv rv (a.setCell ⟨B10, 0, none⟩ (.string x)) :=
  ⟨h.below.setCell (p := ⟨B10, 0, none⟩) (by show w.heap.size ≤ B10; omega) _, (Below.heap_setCell _ _ _ _ (by show B4 ≠ B10; omega)).trans h.row,
    by obtain ⟨x, y, z, h3⟩ := h.res; exact ⟨x, y, z, (Below.heap_setCell _ _ _ _ (by show w.heap.size ≠ B10; omega)).trans h3⟩,
    by obtain ⟨y, h3⟩ := h.out; exact ⟨x, heap_set h3 0 _⟩⟩
theorem PC.drew {w : World} {a4 : Array Value} {B4 B10 : Nat} {tv rv : Value} {a : World} (h : PC w a4 B4 B10 tv rv a) : PC w a4 B4 B10 tv rv a.drew := ⟨h.below.drew, h.row, h.res, h.out⟩
/-- What lies in a block's first cell. -/
def top0 (w : World) (b : Nat) : Value := (w.cell? ⟨b, 0, none⟩).getD undef
theorem PC.facts {w : World} {v0 v1 v2 v3 v4 v5 : Value} {B4 B10 : Nat} {tv rv : Value} {a : World} (h : PC w #[v0, v1, v2, v3, v4, v5] B4 B10 tv rv a) :
    a.cell? ⟨B4, 0, none⟩ = some v0 ∧ a.cell? ⟨B4, 1, none⟩ = some v1 ∧ a.cell? ⟨B4, 2, none⟩ = some v2 ∧ a.cell? ⟨B4, 3, none⟩ = some v3 ∧ a.cell? ⟨B4, 4, none⟩ = some v4 ∧ a.cell? ⟨B4, 5, none⟩ = some v5 ∧
    a.cell? ⟨B10, 0, none⟩ = some (top0 a B10) ∧ a.frozen? ⟨B10, 0, none⟩ = false ∧ PC w #[v0, v1, v2, v3, v4, v5] B4 B10 tv rv a := by
  obtain ⟨c0, c1, c2, c3, c4, c5, -⟩ := rows6 h.row
  obtain ⟨x, h1⟩ := h.out
  obtain ⟨y0, y1, y2, z0, z1, z2⟩ := rows3 h1
  refine ⟨c0, c1, c2, c3, c4, c5, ?_, z0, h⟩
  unfold top0
  rw [y0]
  rfl


set_option maxRecDepth 100000 in
set_option maxHeartbeats 1600000 in
theorem pp_none (L M m p C b id : List UInt8) (t : Int) (w : World) (h1 : -62135596800 ≤ t) (h2 : t ≤ 253402300799) (hid : revB id = true) (hp : pparse L = some ⟨M, m, p, C ++ segD t id, b, 0⟩) (hL : L.length ≤ 100)
    (lM : M.length ≤ 100) (lm : m.length ≤ 100) (lp : p.length ≤ 100) (lC : (C ++ segD t id).length ≤ 100) (lb : b.length ≤ 100) (hC : C = []) (hm : m = [48]) (hpp : p = [48]) (hbb : b = []) :
    Calls Tryd.prog 10 #[.string (tx L)] w (fun e w9 => PPq t w e w9) := by
  obtain ⟨a1, a2, -⟩ := stampOf_is t h1 h2
  obtain ⟨b1, b2⟩ := rev_is hid
  have q1 : (tx C).toList.isEmpty = true := by rw [tx_toList, hC]; rfl
  have q2 : (tx m).toList = [48] := by rw [tx_toList, hm]
  have q3 : (tx p).toList = [48] := by rw [tx_toList, hpp]
  have q4 : (tx b).toList.isEmpty = true := by rw [tx_toList, hbb]; rfl
  have HP := Lib.hid (fun W => parse_some2 L _ W (by omega) hp)
  dsimp only at HP
  have hr := fun W => rev_any id W (by omega)
  rw [hid] at hr
  have HR := Lib.hid hr
  have h45 : 45 ∉ id := fun hm => (b2 45 hm).2.2.1 rfl
  have hP : C ++ segD t id = (C ++ stampOf t) ++ 45 :: id := by unfold segD; simp
  have hlx := fun W => Tryd.strings_LastIndexByte (tx (C ++ segD t id)) 45 (by rw [tx_size]; omega) W
  have hlv : Lib.lastIndexByte (tx (C ++ segD t id)) 45 = (C.length : Int) + 14 := by
    rw [hP, lastix _ _ h45, List.length_append, a2]; rfl
  rw [hlv] at hlx
  have HLX := Lib.hid hlx
  have hsz : (tx (C ++ segD t id)).size = C.length + 27 := by rw [tx_size]; unfold segD; simp [a2, b1]
  have e1 : (tx (C ++ segD t id)).extract (C.length + 14 + 1) (C.length + 27) = tx id := by
    rw [tx_extract, List.take_of_length_le (by rw [← tx_size]; omega), hP, show C.length + 14 + 1 = (C ++ stampOf t).length + 1 by simp [a2], ← List.drop_drop, List.drop_left]
    rfl
  have e2 : (tx (C ++ segD t id)).extract 0 C.length = tx C := by rw [tx_extract, List.drop_zero, List.take_left]
  have e3 : (tx (C ++ segD t id)).extract C.length (C.length + 14) = tx (stampOf t) := by
    rw [tx_extract, hP, show C.length + 14 = (C ++ stampOf t).length by simp [a2], List.take_left, List.drop_left]
  have hub := stamp_back t h1 h2
  have HUN : Hid (∀ W, Calls Tryd.prog 23 #[.string (tx (stampOf t))] W fun e w' => e = .returned (.tuple #[.int .i64 t, .int .i64 0]) ∧ Below W.heap.size W w') := Lib.hid (fun W => unstamp_14 _ W hub.1 (t, 0) hub.2)
  have S0l : (tx M).size ≤ 1000 := by rw [tx_size]; omega
  have S1l : (tx m).size ≤ 1000 := by rw [tx_size]; omega
  have S2l : (tx p).size ≤ 1000 := by rw [tx_size]; omega
  have S4l : (tx b).size ≤ 1000 := by rw [tx_size]; omega
  have lC2 : C.length ≤ 100 := by rw [List.length_append] at lC; omega
  obtain ⟨X, hX⟩ : ∃ X, X = tx (C ++ segD t id) := ⟨_, rfl⟩
  rw [← hX] at HP HLX hsz e1 e2 e3
  obtain ⟨I, hI⟩ : ∃ I, I = tx id := ⟨_, rfl⟩
  rw [← hI] at HR e1
  obtain ⟨G, hG⟩ : ∃ G, G = tx (stampOf t) := ⟨_, rfl⟩
  rw [← hG] at HUN e3
  obtain ⟨FR, hFR⟩ : ∃ FR, FR = tx C := ⟨_, rfl⟩
  rw [← hFR] at e2 q1
  obtain ⟨cl, hcl⟩ : ∃ cl, cl = C.length := ⟨_, rfl⟩
  rw [← hcl] at HLX hsz e1 e2 e3 lC2
  obtain ⟨ii, hii⟩ : ∃ ii : Nat, ii = cl + 14 := ⟨_, rfl⟩
  have hiv : (cl : Int) + 14 = (ii : Int) := by omega
  rw [hiv] at HLX
  rw [← hii] at e1 e3
  have hi14 : (ii : Int) - 14 = (cl : Int) := by omega
  have hige : ¬ (ii : Int) < 14 := by omega
  have hile : ii + 13 = X.size := by omega
  have hcle : cl ≤ X.size := by omega
  have hcii : cl ≤ ii := by omega
  have hii2 : ii ≤ 200 := by omega
  have hXs : X.size ≤ 1000 := by omega
  rw [← hsz] at e1
  have HII := Lib.hid (And.intro hii hile)
  have hi1 : ii + 1 ≤ X.size := by omega
  have hi1I : (ii : Int) + 1 ≤ (X.size : Int) := by omega
  have hiX : ii ≤ X.size := by omega
  clear hiv hii hile hsz hcl
  obtain ⟨E, hE⟩ : ∃ E, E = tx L := ⟨_, rfl⟩
  rw [← hE] at HP ⊢
  obtain ⟨sh, hsh⟩ : ∃ sh : Int, sh = ((0 : Nat) : Int) := ⟨_, rfl⟩
  rw [show ((0 : Nat) : Int) = 0 from rfl] at HP
  have S2t : True := trivial
  generalize tx M = S0 at *
  generalize tx m = S1 at *
  generalize tx p = S2 at *
  generalize tx b = S4 at *
  clear hsh sh hE hFR hI hG hX hub hlv hlx hP h45 hr b1 b2 a1 a2 hp hL lM lm lp lC lb hid h1 h2 hC hm hpp hbb
  go_enter Tryd.func10, Tryd.ntmps10
  go_wp2_with fail
  refine (HP.out _).mono ?_
  rintro e w1 ⟨rfl, hb1⟩
  have hres1 := below_heap hb1 (heap_alloc_same w (.cells #[.string ⟨#[]⟩, .int .i64 0, .string ⟨#[]⟩] 37)) (by rw [World.size_alloc]; omega)
  have hq1 := ((Below.refl w.heap.size w).alloc (Nat.le_refl _) (.cells #[.string ⟨#[]⟩, .int .i64 0, .string ⟨#[]⟩] 37)).trans (hb1.mono (by rw [World.size_alloc]; omega))
  have hq2 := hq1.alloc hq1.size (.cells #[.string S0, .string S1, .string S2, .string X, .string S4, .int .i64 0] 44)
  have hrow := heap_alloc_same w1 (.cells #[.string S0, .string S1, .string S2, .string X, .string S4, .int .i64 0] 44)
  have hres2 := heap_alloc_keep hres1 (.cells #[.string S0, .string S1, .string S2, .string X, .string S4, .int .i64 0] 44)
  have HB1 := Lib.hid (And.intro hq2 (And.intro hrow hres2))
  clear hb1 hres1 hq1 hq2 hrow hres2
  go_wp2_with fail
  refine (HLX.out _).mono ?_
  rintro e w2 ⟨rfl, rfl⟩
  go_wp2_with fail
  refine (HR.out _).mono ?_
  rintro e w3 ⟨rfl, hb3⟩
  have HB3 := Lib.hid (And.intro (below_next HB1.out.1 hb3 HB1.out.1.size) (And.intro (below_heap hb3 HB1.out.2.1 (lt_of_block HB1.out.2.1)) (below_heap hb3 HB1.out.2.2 (lt_of_block HB1.out.2.2))))
  clear hb3
  obtain ⟨B4, hB4⟩ : ∃ B4, B4 = w1.heap.size := ⟨_, rfl⟩
  rw [← hB4] at HB3 ⊢
  clear hB4 HB1
  obtain ⟨c0, c1, c2, c3, c4, c5, f0, f1, f2, f3, f4, f5⟩ := rows6 HB3.out.2.1
  go_wp2_with fail
  refine (HUN.out _).mono ?_
  rintro e w4 ⟨rfl, hb4⟩
  clear c0 c1 c2 c3 c4 c5 f0 f1 f2 f3 f4 f5
  have hq4 := below_next HB3.out.1 hb4 HB3.out.1.size
  have hr4 := below_heap hb4 HB3.out.2.1 (lt_of_block HB3.out.2.1)
  have hs4 := below_heap hb4 HB3.out.2.2 (lt_of_block HB3.out.2.2)
  have hlt4 := lt_of_block hr4
  have hlt2 := lt_of_block hs4
  clear hb4
  obtain ⟨c0, c1, c2, c3, c4, c5, f0, f1, f2, f3, f4, f5⟩ := rows6 hr4
  obtain ⟨r0, r1, r2, g0, g1, g2⟩ := rows3 hs4
  have HB4 := Lib.hid (And.intro hq4 (And.intro hr4 hs4))
  clear hq4 hr4 hs4
  obtain ⟨d0, d1, d2, d3, d4, d5, x0, x1, x2, x3, x4, x5⟩ := rows6 (heap_alloc_keep HB4.out.2.1 (.cells #[.string ⟨#[]⟩, .int .i64 t, .string I] 37))
  obtain ⟨y0, y1, y2, z0, z1, z2⟩ := rows3 (heap_alloc_same w4 (.cells #[.string ⟨#[]⟩, .int .i64 t, .string I] 37))
  go_wp2
  exact pp_leaf (heap_alloc_keep (put3_row HB4.out.2.2 _ _ _) _) ((put3_below HB4.out.1 (Nat.le_refl _) _ _ _).alloc (put3_below HB4.out.1 (Nat.le_refl _) _ _ _).size _) _ rfl rfl


set_option maxRecDepth 100000 in
set_option maxHeartbeats 1600000 in
theorem pp_rel (L M m p C b id : List UInt8) (t : Int) (w : World) (h1 : -62135596800 ≤ t) (h2 : t ≤ 253402300799) (hid : revB id = true) (hp : pparse L = some ⟨M, m, p, C ++ segD t id, b, 0⟩) (hL : L.length ≤ 100)
    (lM : M.length ≤ 100) (lm : m.length ≤ 100) (lp : p.length ≤ 100) (lC : (C ++ segD t id).length ≤ 100) (lb : b.length ≤ 100) (hC : C = [48, 46]) (hpn : numberB p = true) (hph : p.head? ≠ some 48) :
    Calls Tryd.prog 10 #[.string (tx L)] w (fun e w9 => PPq t w e w9) := by
  obtain ⟨a1, a2, -⟩ := stampOf_is t h1 h2
  obtain ⟨b1, b2⟩ := rev_is hid
  have q1 : (tx C).toList.isEmpty = false := by rw [tx_toList, hC]; rfl
  have q2 : ((tx C).toList == [48, 46]) = true := by rw [tx_toList, hC]; rfl
  have hpd := (digitsB_iff p).1 (numberB_dig hpn)
  have hp0 : 0 < p.length := List.length_pos_iff.2 hpd.1
  have hpp : p[0].toNat ≠ 48 := fun e => hph (by
    cases p with
    | nil => simp at hp0
    | cons c p => exact congrArg some (UInt8.toNat_inj.1 e))
  have HLS := Lib.hid (fun W => less_any p W (by omega) hp0 (fun i h => (by have := hpd.2 p[i] (List.getElem_mem h); unfold isDig at this; simp at this; exact this)) hpp)
  have HBD := Lib.hid (fun W => build_any ⟨M, m, p, C ++ segD t id, b, 0⟩ W (by show b.length ≤ _; omega))
  have hsB : (tx (plusD b)).size ≤ 101 := by rw [tx_size]; have := plusD_len b; omega
  unfold verA at HBD
  dsimp only at HBD
  have hpl : p.length ≤ 100 := lp
  have HP := Lib.hid (fun W => parse_some2 L _ W (by omega) hp)
  dsimp only at HP
  have hr := fun W => rev_any id W (by omega)
  rw [hid] at hr
  have HR := Lib.hid hr
  have h45 : 45 ∉ id := fun hm => (b2 45 hm).2.2.1 rfl
  have hP : C ++ segD t id = (C ++ stampOf t) ++ 45 :: id := by unfold segD; simp
  have hlx := fun W => Tryd.strings_LastIndexByte (tx (C ++ segD t id)) 45 (by rw [tx_size]; omega) W
  have hlv : Lib.lastIndexByte (tx (C ++ segD t id)) 45 = (C.length : Int) + 14 := by
    rw [hP, lastix _ _ h45, List.length_append, a2]; rfl
  rw [hlv] at hlx
  have HLX := Lib.hid hlx
  have hsz : (tx (C ++ segD t id)).size = C.length + 27 := by rw [tx_size]; unfold segD; simp [a2, b1]
  have e1 : (tx (C ++ segD t id)).extract (C.length + 14 + 1) (C.length + 27) = tx id := by
    rw [tx_extract, List.take_of_length_le (by rw [← tx_size]; omega), hP, show C.length + 14 + 1 = (C ++ stampOf t).length + 1 by simp [a2], ← List.drop_drop, List.drop_left]
    rfl
  have e2 : (tx (C ++ segD t id)).extract 0 C.length = tx C := by rw [tx_extract, List.drop_zero, List.take_left]
  have e3 : (tx (C ++ segD t id)).extract C.length (C.length + 14) = tx (stampOf t) := by
    rw [tx_extract, hP, show C.length + 14 = (C ++ stampOf t).length by simp [a2], List.take_left, List.drop_left]
  have hub := stamp_back t h1 h2
  have HUN : Hid (∀ W, Calls Tryd.prog 23 #[.string (tx (stampOf t))] W fun e w' => e = .returned (.tuple #[.int .i64 t, .int .i64 0]) ∧ Below W.heap.size W w') := Lib.hid (fun W => unstamp_14 _ W hub.1 (t, 0) hub.2)
  have S0l : (tx M).size ≤ 1000 := by rw [tx_size]; omega
  have S1l : (tx m).size ≤ 1000 := by rw [tx_size]; omega
  have S2l : (tx p).size ≤ 1000 := by rw [tx_size]; omega
  have S4l : (tx b).size ≤ 1000 := by rw [tx_size]; omega
  have lC2 : C.length ≤ 100 := by rw [List.length_append] at lC; omega
  obtain ⟨X, hX⟩ : ∃ X, X = tx (C ++ segD t id) := ⟨_, rfl⟩
  rw [← hX] at HBD HP HLX hsz e1 e2 e3
  obtain ⟨I, hI⟩ : ∃ I, I = tx id := ⟨_, rfl⟩
  rw [← hI] at HR e1
  obtain ⟨G, hG⟩ : ∃ G, G = tx (stampOf t) := ⟨_, rfl⟩
  rw [← hG] at HUN e3
  obtain ⟨FR, hFR⟩ : ∃ FR, FR = tx C := ⟨_, rfl⟩
  rw [← hFR] at e2 q1 q2
  obtain ⟨cl, hcl⟩ : ∃ cl, cl = C.length := ⟨_, rfl⟩
  rw [← hcl] at HLX hsz e1 e2 e3 lC2
  obtain ⟨ii, hii⟩ : ∃ ii : Nat, ii = cl + 14 := ⟨_, rfl⟩
  have hiv : (cl : Int) + 14 = (ii : Int) := by omega
  rw [hiv] at HLX
  rw [← hii] at e1 e3
  have hi14 : (ii : Int) - 14 = (cl : Int) := by omega
  have hige : ¬ (ii : Int) < 14 := by omega
  have hile : ii + 13 = X.size := by omega
  have hcle : cl ≤ X.size := by omega
  have hcii : cl ≤ ii := by omega
  have hii2 : ii ≤ 200 := by omega
  have hXs : X.size ≤ 1000 := by omega
  rw [← hsz] at e1
  have HII := Lib.hid (And.intro hii hile)
  have hi1 : ii + 1 ≤ X.size := by omega
  have hi1I : (ii : Int) + 1 ≤ (X.size : Int) := by omega
  have hiX : ii ≤ X.size := by omega
  clear hiv hii hile hsz hcl
  obtain ⟨E, hE⟩ : ∃ E, E = tx L := ⟨_, rfl⟩
  rw [← hE] at HP ⊢
  obtain ⟨sh, hsh⟩ : ∃ sh : Int, sh = ((0 : Nat) : Int) := ⟨_, rfl⟩
  rw [show ((0 : Nat) : Int) = 0 from rfl] at HP HBD
  obtain ⟨B, hB⟩ : ∃ B, B = tx (plusD b) := ⟨_, rfl⟩
  rw [← hB] at HBD hsB
  clear hB
  have S2t : True := trivial
  generalize tx M = S0 at *
  generalize tx m = S1 at *
  generalize tx p = S2 at *
  generalize tx b = S4 at *
  clear hsh sh hE hFR hI hG hX hub hlv hlx hP h45 hr b1 b2 a1 a2 hp hL lM lm lp lC lb hid h1 h2 hC hpn hph hpd hp0 hpp
  go_enter Tryd.func10, Tryd.ntmps10
  go_wp2_with fail
  refine (HP.out _).mono ?_
  rintro e w1 ⟨rfl, hb1⟩
  have hres1 := below_heap hb1 (heap_alloc_same w (.cells #[.string ⟨#[]⟩, .int .i64 0, .string ⟨#[]⟩] 37)) (by rw [World.size_alloc]; omega)
  have hq1 := ((Below.refl w.heap.size w).alloc (Nat.le_refl _) (.cells #[.string ⟨#[]⟩, .int .i64 0, .string ⟨#[]⟩] 37)).trans (hb1.mono (by rw [World.size_alloc]; omega))
  have hq2 := hq1.alloc hq1.size (.cells #[.string S0, .string S1, .string S2, .string X, .string S4, .int .i64 0] 44)
  have hrow := heap_alloc_same w1 (.cells #[.string S0, .string S1, .string S2, .string X, .string S4, .int .i64 0] 44)
  have hres2 := heap_alloc_keep hres1 (.cells #[.string S0, .string S1, .string S2, .string X, .string S4, .int .i64 0] 44)
  have HB1 := Lib.hid (And.intro hq2 (And.intro hrow hres2))
  clear hb1 hres1 hq1 hq2 hrow hres2
  go_wp2_with fail
  refine (HLX.out _).mono ?_
  rintro e w2 ⟨rfl, rfl⟩
  go_wp2_with fail
  refine (HR.out _).mono ?_
  rintro e w3 ⟨rfl, hb3⟩
  have HB3 := Lib.hid (And.intro (below_next HB1.out.1 hb3 HB1.out.1.size) (And.intro (below_heap hb3 HB1.out.2.1 (lt_of_block HB1.out.2.1)) (below_heap hb3 HB1.out.2.2 (lt_of_block HB1.out.2.2))))
  clear hb3
  obtain ⟨B4, hB4⟩ : ∃ B4, B4 = w1.heap.size := ⟨_, rfl⟩
  rw [← hB4] at HB3 ⊢
  clear hB4 HB1
  obtain ⟨c0, c1, c2, c3, c4, c5, f0, f1, f2, f3, f4, f5⟩ := rows6 HB3.out.2.1
  go_wp2_with fail
  refine (HUN.out _).mono ?_
  rintro e w4 ⟨rfl, hb4⟩
  clear c0 c1 c2 c3 c4 c5 f0 f1 f2 f3 f4 f5
  have hq4 := below_next HB3.out.1 hb4 HB3.out.1.size
  have hr4 := below_heap hb4 HB3.out.2.1 (lt_of_block HB3.out.2.1)
  have hs4 := below_heap hb4 HB3.out.2.2 (lt_of_block HB3.out.2.2)
  have hlt4 := lt_of_block hr4
  have hlt2 := lt_of_block hs4
  clear hb4
  obtain ⟨c0, c1, c2, c3, c4, c5, f0, f1, f2, f3, f4, f5⟩ := rows6 hr4
  obtain ⟨r0, r1, r2, g0, g1, g2⟩ := rows3 hs4
  have HB4 := Lib.hid (And.intro hq4 (And.intro hr4 hs4))
  clear hq4 hr4 hs4
  have hb10 := (HB4.out.1).alloc HB4.out.1.size (.cells #[.string ⟨#[]⟩, .int .i64 t, .string I] 37)
  have hr10 := heap_alloc_keep HB4.out.2.1 (.cells #[.string ⟨#[]⟩, .int .i64 t, .string I] 37)
  have hs10 := heap_alloc_keep HB4.out.2.2 (.cells #[.string ⟨#[]⟩, .int .i64 t, .string I] 37)
  have hn10 := heap_alloc_same w4 (.cells #[.string ⟨#[]⟩, .int .i64 t, .string I] 37)
  have HB5 := Lib.hid (And.intro hb10 (And.intro hr10 (And.intro hs10 hn10)))
  clear hb10 hr10 hs10 hn10
  go_wp2_with fail
  refine (HLS.out _).mono ?_
  rintro e w5 ⟨⟨r, ⟨hr1, hr2⟩, rfl⟩, hb5⟩
  clear c0 c1 c2 c3 c4 c5 f0 f1 f2 f3 f4 f5 r0 r1 r2 g0 g1 g2
  have qr : (tx r).toList.isEmpty = false := by rw [tx_toList]; exact emp hr1
  have Rl : (tx r).size ≤ 1000 := by rw [tx_size]; omega
  generalize tx r = R at *
  have HB6 := Lib.hid (And.intro (below_next HB5.out.1 hb5 HB5.out.1.size) (And.intro (below_heap hb5 HB5.out.2.1 (lt_of_block HB5.out.2.1)) (And.intro (below_heap hb5 HB5.out.2.2.1 (lt_of_block HB5.out.2.2.1)) (below_heap hb5 HB5.out.2.2.2 (lt_of_block HB5.out.2.2.2)))))
  have HNE : Hid (w.heap.size < w4.heap.size) := Lib.hid (lt_of_block HB4.out.2.2)
  clear hb5 HB5 HB4 hr1 hr2
  obtain ⟨B10, hB10⟩ : ∃ B10, B10 = w4.heap.size := ⟨_, rfl⟩
  rw [← hB10] at HB6 HNE ⊢
  clear hB10
  obtain ⟨c0, c1, c2, c3, c4, c5, f0, f1, f2, f3, f4, f5⟩ := rows6 HB6.out.2.1
  go_wp2_with fail
  refine (HBD.out _).mono ?_
  rintro e w6 ⟨rfl, hb6⟩
  clear c0 c1 c2 c3 c4 c5 f0 f1 f2 f3 f4 f5
  have HB7 := Lib.hid (And.intro (below_next HB6.out.1 hb6 HB6.out.1.size) (And.intro (below_heap hb6 HB6.out.2.2.1 (lt_of_block HB6.out.2.2.1)) (below_heap hb6 HB6.out.2.2.2 (lt_of_block HB6.out.2.2.2))))
  clear hb6 HB6
  obtain ⟨y0, y1, y2, z0, z1, z2⟩ := rows3 HB7.out.2.2
  obtain ⟨r0, r1, r2, g0, g1, g2⟩ := rows3 HB7.out.2.1
  have hne1 : ¬ w.heap.size = B10 := by have := HNE.out; omega
  have hne2 : ¬ B10 = w.heap.size := by have := HNE.out; omega
  go_wp2
  exact pp_leaf (put3_row ((Below.heap_setCell _ _ _ _ (by show w.heap.size ≠ B10; have := HNE.out; omega)).trans HB7.out.2.1) _ _ _) (put3_below (HB7.out.1.setCell (p := ⟨B10, 0, none⟩) (by show w.heap.size ≤ B10; have := HNE.out; omega) _) (Nat.le_refl _) _ _ _) _ rfl rfl


set_option maxRecDepth 100000 in
set_option maxHeartbeats 1600000 in
theorem pp_pre (L M m p C b id : List UInt8) (t : Int) (w : World) (h1 : -62135596800 ≤ t) (h2 : t ≤ 253402300799) (hid : revB id = true) (hp : pparse L = some ⟨M, m, p, C ++ segD t id, b, 0⟩) (hL : L.length ≤ 100)
    (lM : M.length ≤ 100) (lm : m.length ≤ 100) (lp : p.length ≤ 100) (lC : (C ++ segD t id).length ≤ 100) (lb : b.length ≤ 100) (P0 : List UInt8) (hP0 : P0 ≠ []) (hC : C = P0 ++ [46, 48, 46]) :
    Calls Tryd.prog 10 #[.string (tx L)] w (fun e w9 => PPq t w e w9) := by
  obtain ⟨a1, a2, -⟩ := stampOf_is t h1 h2
  obtain ⟨b1, b2⟩ := rev_is hid
  have q1 : (tx C).toList.isEmpty = false := by rw [tx_toList, hC]; exact emp (by simp)
  have q2 : ((tx C).toList == [48, 46]) = false := by
    rw [tx_toList, beq_eq_false_iff_ne, hC]
    intro e
    have := congrArg List.length e
    have h9 := List.length_pos_iff.2 hP0
    simp at this
  have q5 : (tx P0).toList.isEmpty = false := by rw [tx_toList]; exact emp hP0
  have SPl : (tx P0).size ≤ 1000 := by rw [tx_size]; rw [hC] at lC; simp at lC; omega
  have hcs := fun W => Tryd.strings_CutSuffix (tx C) ⟨#[46, 48, 46]⟩ W (by rw [tx_size]; simp at lC; omega)
  simp only [tx_list] at hcs
  rw [hC] at hcs
  rw [(suf P0).1, (suf P0).2, ← hC] at hcs
  have HCS : Hid (∀ W, Calls Tryd.prog 25 #[.string (tx C), .string ⟨#[46, 48, 46]⟩] W fun e w' => e = .returned (.tuple #[.string (tx P0), .bool true]) ∧ w' = W) := Lib.hid hcs
  have HBD := Lib.hid (fun W => build_any ⟨M, m, p, C ++ segD t id, b, 0⟩ W (by show b.length ≤ _; omega))
  have hsB : (tx (plusD b)).size ≤ 101 := by rw [tx_size]; have := plusD_len b; omega
  unfold verA at HBD
  dsimp only at HBD
  obtain ⟨SP, hSP⟩ : ∃ SP, SP = tx P0 := ⟨_, rfl⟩
  rw [← hSP] at HCS q5 SPl
  have HP := Lib.hid (fun W => parse_some2 L _ W (by omega) hp)
  dsimp only at HP
  have hr := fun W => rev_any id W (by omega)
  rw [hid] at hr
  have HR := Lib.hid hr
  have h45 : 45 ∉ id := fun hm => (b2 45 hm).2.2.1 rfl
  have hP : C ++ segD t id = (C ++ stampOf t) ++ 45 :: id := by unfold segD; simp
  have hlx := fun W => Tryd.strings_LastIndexByte (tx (C ++ segD t id)) 45 (by rw [tx_size]; omega) W
  have hlv : Lib.lastIndexByte (tx (C ++ segD t id)) 45 = (C.length : Int) + 14 := by
    rw [hP, lastix _ _ h45, List.length_append, a2]; rfl
  rw [hlv] at hlx
  have HLX := Lib.hid hlx
  have hsz : (tx (C ++ segD t id)).size = C.length + 27 := by rw [tx_size]; unfold segD; simp [a2, b1]
  have e1 : (tx (C ++ segD t id)).extract (C.length + 14 + 1) (C.length + 27) = tx id := by
    rw [tx_extract, List.take_of_length_le (by rw [← tx_size]; omega), hP, show C.length + 14 + 1 = (C ++ stampOf t).length + 1 by simp [a2], ← List.drop_drop, List.drop_left]
    rfl
  have e2 : (tx (C ++ segD t id)).extract 0 C.length = tx C := by rw [tx_extract, List.drop_zero, List.take_left]
  have e3 : (tx (C ++ segD t id)).extract C.length (C.length + 14) = tx (stampOf t) := by
    rw [tx_extract, hP, show C.length + 14 = (C ++ stampOf t).length by simp [a2], List.take_left, List.drop_left]
  have hub := stamp_back t h1 h2
  have HUN : Hid (∀ W, Calls Tryd.prog 23 #[.string (tx (stampOf t))] W fun e w' => e = .returned (.tuple #[.int .i64 t, .int .i64 0]) ∧ Below W.heap.size W w') := Lib.hid (fun W => unstamp_14 _ W hub.1 (t, 0) hub.2)
  have S0l : (tx M).size ≤ 1000 := by rw [tx_size]; omega
  have S1l : (tx m).size ≤ 1000 := by rw [tx_size]; omega
  have S2l : (tx p).size ≤ 1000 := by rw [tx_size]; omega
  have S4l : (tx b).size ≤ 1000 := by rw [tx_size]; omega
  have lC2 : C.length ≤ 100 := by rw [List.length_append] at lC; omega
  obtain ⟨X, hX⟩ : ∃ X, X = tx (C ++ segD t id) := ⟨_, rfl⟩
  rw [← hX] at HBD HP HLX hsz e1 e2 e3
  obtain ⟨I, hI⟩ : ∃ I, I = tx id := ⟨_, rfl⟩
  rw [← hI] at HR e1
  obtain ⟨G, hG⟩ : ∃ G, G = tx (stampOf t) := ⟨_, rfl⟩
  rw [← hG] at HUN e3
  obtain ⟨FR, hFR⟩ : ∃ FR, FR = tx C := ⟨_, rfl⟩
  rw [← hFR] at e2 q1 q2 HCS
  obtain ⟨cl, hcl⟩ : ∃ cl, cl = C.length := ⟨_, rfl⟩
  rw [← hcl] at HLX hsz e1 e2 e3 lC2
  obtain ⟨ii, hii⟩ : ∃ ii : Nat, ii = cl + 14 := ⟨_, rfl⟩
  have hiv : (cl : Int) + 14 = (ii : Int) := by omega
  rw [hiv] at HLX
  rw [← hii] at e1 e3
  have hi14 : (ii : Int) - 14 = (cl : Int) := by omega
  have hige : ¬ (ii : Int) < 14 := by omega
  have hile : ii + 13 = X.size := by omega
  have hcle : cl ≤ X.size := by omega
  have hcii : cl ≤ ii := by omega
  have hii2 : ii ≤ 200 := by omega
  have hXs : X.size ≤ 1000 := by omega
  rw [← hsz] at e1
  have HII := Lib.hid (And.intro hii hile)
  have hi1 : ii + 1 ≤ X.size := by omega
  have hi1I : (ii : Int) + 1 ≤ (X.size : Int) := by omega
  have hiX : ii ≤ X.size := by omega
  clear hiv hii hile hsz hcl
  obtain ⟨E, hE⟩ : ∃ E, E = tx L := ⟨_, rfl⟩
  rw [← hE] at HP ⊢
  obtain ⟨sh, hsh⟩ : ∃ sh : Int, sh = ((0 : Nat) : Int) := ⟨_, rfl⟩
  rw [show ((0 : Nat) : Int) = 0 from rfl] at HP HBD
  obtain ⟨B, hB⟩ : ∃ B, B = tx (plusD b) := ⟨_, rfl⟩
  rw [← hB] at HBD hsB
  clear hB
  have S2t : True := trivial
  generalize tx M = S0 at *
  generalize tx m = S1 at *
  generalize tx p = S2 at *
  generalize tx b = S4 at *
  clear hsh sh hE hFR hI hG hX hub hlv hlx hP h45 hr b1 b2 a1 a2 hp hL lM lm lp lC lb hid h1 h2 hC hP0 hcs hSP
  go_enter Tryd.func10, Tryd.ntmps10
  go_wp2_with fail
  refine (HP.out _).mono ?_
  rintro e w1 ⟨rfl, hb1⟩
  have hres1 := below_heap hb1 (heap_alloc_same w (.cells #[.string ⟨#[]⟩, .int .i64 0, .string ⟨#[]⟩] 37)) (by rw [World.size_alloc]; omega)
  have hq1 := ((Below.refl w.heap.size w).alloc (Nat.le_refl _) (.cells #[.string ⟨#[]⟩, .int .i64 0, .string ⟨#[]⟩] 37)).trans (hb1.mono (by rw [World.size_alloc]; omega))
  have hq2 := hq1.alloc hq1.size (.cells #[.string S0, .string S1, .string S2, .string X, .string S4, .int .i64 0] 44)
  have hrow := heap_alloc_same w1 (.cells #[.string S0, .string S1, .string S2, .string X, .string S4, .int .i64 0] 44)
  have hres2 := heap_alloc_keep hres1 (.cells #[.string S0, .string S1, .string S2, .string X, .string S4, .int .i64 0] 44)
  have HB1 := Lib.hid (And.intro hq2 (And.intro hrow hres2))
  clear hb1 hres1 hq1 hq2 hrow hres2
  go_wp2_with fail
  refine (HLX.out _).mono ?_
  rintro e w2 ⟨rfl, rfl⟩
  go_wp2_with fail
  refine (HR.out _).mono ?_
  rintro e w3 ⟨rfl, hb3⟩
  have HB3 := Lib.hid (And.intro (below_next HB1.out.1 hb3 HB1.out.1.size) (And.intro (below_heap hb3 HB1.out.2.1 (lt_of_block HB1.out.2.1)) (below_heap hb3 HB1.out.2.2 (lt_of_block HB1.out.2.2))))
  clear hb3
  obtain ⟨B4, hB4⟩ : ∃ B4, B4 = w1.heap.size := ⟨_, rfl⟩
  rw [← hB4] at HB3 ⊢
  clear hB4 HB1
  obtain ⟨c0, c1, c2, c3, c4, c5, f0, f1, f2, f3, f4, f5⟩ := rows6 HB3.out.2.1
  go_wp2_with fail
  refine (HUN.out _).mono ?_
  rintro e w4 ⟨rfl, hb4⟩
  clear c0 c1 c2 c3 c4 c5 f0 f1 f2 f3 f4 f5
  have hq4 := below_next HB3.out.1 hb4 HB3.out.1.size
  have hr4 := below_heap hb4 HB3.out.2.1 (lt_of_block HB3.out.2.1)
  have hs4 := below_heap hb4 HB3.out.2.2 (lt_of_block HB3.out.2.2)
  have hlt4 := lt_of_block hr4
  have hlt2 := lt_of_block hs4
  clear hb4
  obtain ⟨c0, c1, c2, c3, c4, c5, f0, f1, f2, f3, f4, f5⟩ := rows6 hr4
  obtain ⟨r0, r1, r2, g0, g1, g2⟩ := rows3 hs4
  have HB4 := Lib.hid (And.intro hq4 (And.intro hr4 hs4))
  clear hq4 hr4 hs4
  have hb10 := (HB4.out.1).alloc HB4.out.1.size (.cells #[.string ⟨#[]⟩, .int .i64 t, .string I] 37)
  have hr10 := heap_alloc_keep HB4.out.2.1 (.cells #[.string ⟨#[]⟩, .int .i64 t, .string I] 37)
  have hs10 := heap_alloc_keep HB4.out.2.2 (.cells #[.string ⟨#[]⟩, .int .i64 t, .string I] 37)
  have hn10 := heap_alloc_same w4 (.cells #[.string ⟨#[]⟩, .int .i64 t, .string I] 37)
  have HB5 := Lib.hid (And.intro hb10 (And.intro hr10 (And.intro hs10 hn10)))
  have HL1 : Hid (B4 < w4.heap.size) := Lib.hid (lt_of_block HB4.out.2.1)
  have HL2 : Hid (w.heap.size < w4.heap.size) := Lib.hid (lt_of_block HB4.out.2.2)
  clear hb10 hr10 hs10 hn10
  go_wp2_with fail
  refine (HCS.out _).mono ?_
  rintro e w5 ⟨rfl, rfl⟩
  clear c0 c1 c2 c3 c4 c5 f0 f1 f2 f3 f4 f5 r0 r1 r2 g0 g1 g2
  obtain ⟨W5, hW5⟩ : ∃ W5, W5 = w4.alloc (.cells #[.string ⟨#[]⟩, .int .i64 t, .string I] 37) := ⟨_, rfl⟩
  rw [← hW5] at HB5 ⊢
  obtain ⟨B10, hB10⟩ : ∃ B10, B10 = w4.heap.size := ⟨_, rfl⟩
  rw [← hB10] at HB5 HL1 HL2 ⊢
  have hbd : PC w #[.string S0, .string S1, .string S2, .string X, .string S4, .int .i64 0] B4 B10 (.int .i64 t) (.string I) W5.drew := PC.drew ⟨HB5.out.1, HB5.out.2.1, ⟨_, _, _, HB5.out.2.2.1⟩, ⟨_, HB5.out.2.2.2⟩⟩
  have HF : Hid (∀ a, PC w #[.string S0, .string S1, .string S2, .string X, .string S4, .int .i64 0] B4 B10 (.int .i64 t) (.string I) a →
    (a.cell? ⟨B4, 0, none⟩ = some (.string S0) ∧ a.cell? ⟨B4, 1, none⟩ = some (.string S1) ∧ a.cell? ⟨B4, 2, none⟩ = some (.string S2) ∧ a.cell? ⟨B4, 3, none⟩ = some (.string X) ∧ a.cell? ⟨B4, 4, none⟩ = some (.string S4) ∧ a.cell? ⟨B4, 5, none⟩ = some (.int .i64 0) ∧
    a.cell? ⟨B10, 0, none⟩ = some (top0 a B10) ∧ a.frozen? ⟨B10, 0, none⟩ = false ∧ PC w #[.string S0, .string S1, .string S2, .string X, .string S4, .int .i64 0] B4 B10 (.int .i64 t) (.string I) a)) := Lib.hid (fun a h => h.facts)
  clear hW5 hB10 HB4 HB5
  obtain ⟨Hd, hHd⟩ : ∃ Hd, Hd = ((((⟨#[118]⟩ : ByteArray) ++ S0) ++ ⟨#[46]⟩) ++ S1) ++ ⟨#[46]⟩ := ⟨_, rfl⟩
  rw [← hHd]
  have hHs : Hd.size ≤ 3000 := by
    have k118 : (⟨#[118]⟩ : ByteArray).size = 1 := rfl
    have k46 : (⟨#[46]⟩ : ByteArray).size = 1 := rfl
    rw [hHd]; simp only [ByteArray.size_append, k118, k46]; omega
  have n1 : ¬ 9223372036854775807 < Hd.size + S2.size := by omega
  have n2 : ¬ 9223372036854775807 < Hd.size + S2.size + 1 := by omega
  have n3 : ¬ 9223372036854775807 < Hd.size + S2.size + 1 + SP.size := by omega
  have n4 : ¬ 9223372036854775807 < Hd.size + S2.size + 1 + SP.size + B.size := by omega
  clear hHd
  go_wp2_with fail
  go_region_held3 (fun a => a.cell? ⟨B4, 0, none⟩ = some (.string S0) ∧ a.cell? ⟨B4, 1, none⟩ = some (.string S1) ∧ a.cell? ⟨B4, 2, none⟩ = some (.string S2) ∧ a.cell? ⟨B4, 3, none⟩ = some (.string X) ∧ a.cell? ⟨B4, 4, none⟩ = some (.string S4) ∧ a.cell? ⟨B4, 5, none⟩ = some (.int .i64 0) ∧
    a.cell? ⟨B10, 0, none⟩ = some (top0 a B10) ∧ a.frozen? ⟨B10, 0, none⟩ = false ∧ PC w #[.string S0, .string S1, .string S2, .string X, .string S4, .int .i64 0] B4 B10 (.int .i64 t) (.string I) a)
    (first
      | exact HF.out _ hq
      | exact HF.out _ hbd
      | exact HF.out _ (hq.set HL1.out HL2.out _))
    (first
      | (go_at_call 16
         (with_reducible refine (HBD.out _).mono ?_)
         rintro e w' ⟨rfl, hb⟩
         have hq : PC w #[.string S0, .string S1, .string S2, .string X, .string S4, .int .i64 0] B4 B10 (.int .i64 t) (.string I) w' := PC.call (by assumption) hb))
  obtain ⟨ZZ, hZZ⟩ : ∃ ZZ, ZZ = ((((Hd ++ S2) ++ (⟨#[45]⟩ : ByteArray)) ++ SP) ++ B) := ⟨_, rfl⟩
  rw [← hZZ]
  obtain ⟨W9, hW9⟩ : ∃ W9, W9 = w'.setCell ⟨B10, 0, none⟩ (.string ZZ) := ⟨_, rfl⟩
  obtain ⟨xv, h10⟩ := hq.out
  obtain ⟨xr, yr, zr, hrs⟩ := hq.res
  have k10 : W9.heap[B10]? = some (.cells #[.string ZZ, .int .i64 t, .string I] 37 (0, 0)) := by rw [hW9]; exact heap_set h10 0 _
  have hrs9 : W9.heap[w.heap.size]? = some (.cells #[xr, yr, zr] 37 (0, 0)) := by
    rw [hW9]
    exact (Below.heap_setCell _ _ _ _ (by show w.heap.size ≠ B10; have := HL2.out; omega)).trans hrs
  have hb9 : Below w.heap.size w W9 := by
    rw [hW9]
    exact hq.below.setCell (p := ⟨B10, 0, none⟩) (by show w.heap.size ≤ B10; have := HL2.out; omega) _
  rw [← hW9]
  have HQ := Lib.hid (And.intro hb9 hrs9)
  clear hbd HF hq h10 hrs hZZ hW9
  obtain ⟨y0, y1, y2, z0, z1, z2⟩ := rows3 k10
  obtain ⟨r0, r1, r2, g0, g1, g2⟩ := rows3 hrs9
  clear k10 hrs9 hb9
  go_wp2
  exact pp_leaf (put3_row HQ.out.2 _ _ _) (put3_below HQ.out.1 (Nat.le_refl _) _ _ _) _ rfl rfl


theorem pparse_made {fb : List UInt8 × List UInt8} {M m p C b id : List UInt8} {t : Int} (h : FrontOk fb M m p C b) (h1 : -62135596800 ≤ t) (h2 : t ≤ 253402300799) (hid : revB id = true) (hl : (madeL fb t id).length ≤ 100) (w : World) :
    Calls Tryd.prog 10 #[.string (tx (madeL fb t id))] w (fun e w9 => PPq t w e w9) := by
  have hp := made_parse h h1 h2 hid hl
  obtain ⟨l1, l2, l3, l4, l5⟩ := made_len h hl
  rcases h.kind with ⟨k1, k2, k3, k4⟩ | ⟨k1, k2⟩ | ⟨P0, k1, k2⟩
  · exact pp_none _ M m p C b id t w h1 h2 hid hp hl l1 l2 l3 l4 l5 k1 k2 k3 k4
  · exact pp_rel _ M m p C b id t w h1 h2 hid hp hl l1 l2 l3 l4 l5 k1 h.pat k2
  · exact pp_pre _ M m p C b id t w h1 h2 hid hp hl l1 l2 l3 l4 l5 P0 k1 k2

end Go.Proofs.YtgojmckfabhkaaaDoor.Sem
