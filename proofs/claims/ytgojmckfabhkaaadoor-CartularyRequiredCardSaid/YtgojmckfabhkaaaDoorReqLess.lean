/- A ROW OF BYTES OF THE CALL's OWN, by its cells: made of a text, stored into, made a text again. No conditions. THE WALK of pseudo.more: a number one greater. Conditions: a bound on the length. THE WALK of pseudo.less: at a number above nothing it answers a text that is not empty. Conditions: a bound on the length; digits, the first no nought. -/
import Derived.Test.YtgojmckfabhkaaaDoorSemD
import Derived.Laws.IdiomStrings
import Derived.Laws.AppendOwn
namespace Go.Proofs.YtgojmckfabhkaaaDoor.Sem
open Go Go.RowKit
set_option linter.unusedVariables false

/-- From the block g's first cell on lie the bytes l; none is frozen. -/
def rowB (w : World) (g : Nat) (l : List UInt8) : Prop := g < w.heap.size ∧ ∀ i (h : i < l.length), w.cell? ⟨g, i, none⟩ = some (.int .u8 (l[i].toNat : Int)) ∧ w.frozen? ⟨g, i, none⟩ = false

theorem rowB.set {w : World} {g : Nat} {l : List UInt8} (h : rowB w g l) (i : Nat) (hi : i < l.length) (c : UInt8) : rowB (w.setCell ⟨g, i, none⟩ (.int .u8 (c.toNat : Int))) g (l.set i c) := by
  refine ⟨by simpa [World.setCell] using h.1, fun j hj => ?_⟩
  have hj' : j < l.length := by rw [List.length_set] at hj; exact hj
  refine ⟨?_, by rw [World.frozen?_setCell]; exact (h.2 j hj').2⟩
  by_cases e : i = j
  · subst e
    rw [World.cell?_setCell_same' _ _ _ (by rw [(h.2 i hi).1]; rfl)]; simp
  · rw [World.cell?_setCell_other (h := show (⟨g, i, none⟩ : Addr) ≠ ⟨g, j, none⟩ from fun h2 => e (congrArg Addr.off h2)), (h.2 j hj').1]
    simp [List.getElem_set, e]
theorem row_of (s : ByteArray) (l : List UInt8) (hs : s = tx l) (W : World) : ∃ (cap : Nat) (W2 : World), (convert 9 50 (.string s)).run Tryd.prog W = .ok (.slice (some ⟨W.heap.size, 0, none⟩) s.size cap) W2 ∧ Below W.heap.size W W2 ∧ rowB W2 W.heap.size l ∧ s.size ≤ cap := by
  refine ⟨_, _, run_bytes_of_string W 9 50 5 s Tryd.underlying9 Tryd.underlying50 Tryd.underlying5, (Below.refl _ W).drew.alloc (Nat.le_refl _) _, ⟨by rw [World.size_alloc]; exact Nat.lt_succ_self _, fun i h => ?_⟩, grownCap_ge _ _ _ _⟩
  have hm := World.cell?_alloc_mark W.drew (bytesRow s (grownCap W s.size 0 5)) 5 ((bytesRow s (grownCap W s.size 0 5)).size, (bytesRow s (grownCap W s.size 0 5)).size + 1) i
  have hf := World.frozen?_alloc_mark W.drew (bytesRow s (grownCap W s.size 0 5)) 5 (bytesRow s (grownCap W s.size 0 5)).size ((bytesRow s (grownCap W s.size 0 5)).size + 1) i
  rw [show W.drew.heap.size = W.heap.size from rfl] at hm hf
  have hi : i < s.data.size := by rw [hs]; unfold tx; simpa using h
  have hrs : s.data.size ≤ (bytesRow s (grownCap W s.size 0 5)).size := by unfold bytesRow; simp
  refine ⟨?_, ?_⟩
  · rw [hm, bytesRow_at s _ i hi]
    subst hs
    rfl
  · rw [hf, decide_eq_false (by omega)]
    rfl
theorem rowB.text {w : World} {g : Nat} {l : List UInt8} (h : rowB w g l) (n cap : Nat) (hn : n = l.length) : (convert 50 9 (.slice (some ⟨g, 0, none⟩) n cap)).run Tryd.prog w = .ok (.string (tx l)) w := by
  subst hn
  refine run_convert_bytes_back w _ _ 5 ⟨g, 0, none⟩ cap l Tryd.underlying50 Tryd.underlying5 Tryd.underlying9 (fun j hj => ?_)
  have hadd : (⟨g, 0, none⟩ : Addr).add j = ⟨g, j, none⟩ := by unfold Addr.add; split <;> simp_all
  rw [hadd]
  exact (h.2 j hj).1
end Go.Proofs.YtgojmckfabhkaaaDoor.Sem

namespace Go.Proofs.YtgojmckfabhkaaaDoor.Sem
open Go Go.RowKit
set_option linter.unusedVariables false

def incR : List UInt8 → List UInt8
  | [] => [49]
  | c :: r => if c.toNat < 57 then (c + 1) :: r else 48 :: incR r
def moreD (l : List UInt8) : List UInt8 := (incR l.reverse).reverse

theorem take_rev {l : List UInt8} {k : Nat} (h : k < l.length) : (l.take (k + 1)).reverse = l[k] :: (l.take k).reverse := by
  rw [List.take_add_one, List.getElem?_eq_getElem h]; simp
theorem set_at {l Z : List UInt8} {k : Nat} (h : k < l.length) (c : UInt8) : (l.take (k + 1) ++ Z).set k c = l.take k ++ c :: Z := by
  rw [List.take_add_one, List.getElem?_eq_getElem h]
  have : (l.take k).length = k := by rw [List.length_take]; omega
  simp only [Option.toList_some, List.append_assoc, List.singleton_append]
  rw [List.set_append_right _ _ (by omega), this, Nat.sub_self]
  rfl
theorem more_lt {l Z : List UInt8} {k : Nat} (h : k < l.length) (hc : l[k].toNat < 57) (H : moreD l = (incR (l.take (k + 1)).reverse).reverse ++ Z) : (l.take (k + 1) ++ Z).set k (l[k] + 1) = moreD l := by
  rw [set_at h, H, take_rev h]
  unfold incR
  rw [if_pos hc]
  simp
theorem more_ge {l Z : List UInt8} {k : Nat} (h : k < l.length) (hc : ¬ l[k].toNat < 57) (H : moreD l = (incR (l.take (k + 1)).reverse).reverse ++ Z) : moreD l = (incR (l.take k).reverse).reverse ++ 48 :: Z := by
  rw [H, take_rev h]
  conv => lhs; unfold incR
  rw [if_neg hc]
  simp

set_option maxRecDepth 100000 in
set_option maxHeartbeats 4000000 in
theorem more_any (l : List UInt8) (w : World) (hz : l.length ≤ 1000000) :
    Calls Tryd.prog 15 #[.string (tx l)] w fun e w' => e = .returned (.string (tx (moreD l))) ∧ Below w.heap.size w w' := by
  have hsz := tx_size l
  obtain ⟨T, hT⟩ : ∃ T, T = tx l := ⟨_, rfl⟩
  rw [← hT] at hsz ⊢
  obtain ⟨cb, W1, hcv, hb, hrow, hcb⟩ := row_of T l hT w
  rw [hsz] at hcv
  have HB := Lib.hid hb
  have HR := Lib.hid hrow
  obtain ⟨g, hg⟩ : ∃ g, g = w.heap.size := ⟨_, rfl⟩
  rw [← hg] at hcv
  have HG := Lib.hid hg
  clear hb hrow hT hg
  go_enter Tryd.func15, Tryd.ntmps15
  go_wp2
  go_loopw [4] (fun iv W => ∃ k : Nat, k ≤ l.length ∧ iv = .int .i64 ((k : Int) - 1) ∧ Below w.heap.size w W ∧ ∃ Z, rowB W g (l.take k ++ Z) ∧ k + Z.length = l.length ∧ moreD l = (incR (l.take k).reverse).reverse ++ Z) (fun iv _ => (intOf iv + 1).toNat)
  case atStart =>
    refine ⟨l.length, Nat.le_refl _, rfl, HB.out, [], ?_, by simp, ?_⟩
    · rw [List.take_length, List.append_nil, HG.out]; exact HR.out
    · rw [List.take_length, List.append_nil]; rfl
  case round =>
    obtain ⟨k, hk, rfl, hbv, Z, hrw, hZ, hmo⟩ := hrel
    have HBV := Lib.hid hbv
    have HRW := Lib.hid hrw
    have HMO := Lib.hid hmo
    clear hbv hrw hmo
    by_cases hk0 : 0 < k
    · obtain ⟨j, rfl⟩ : ∃ j, k = j + 1 := ⟨k - 1, by omega⟩
      have hjl : j < l.length := by omega
      have hji : ((j + 1 : Nat) : Int) - 1 = (j : Int) := by omega
      have hjc : j < (l.take (j + 1) ++ Z).length := by rw [List.length_append, List.length_take]; omega
      have hcx := HRW.out.2 j hjc
      have hce : (l.take (j + 1) ++ Z)[j] = l[j] := by
        rw [List.getElem_append_left (by rw [List.length_take]; omega), List.getElem_take]
      rw [hce] at hcx
      obtain ⟨hc1, hc2⟩ := hcx
      rw [hji]
      clear hji hce
      by_cases hlt : l[j].toNat < 57
      · have hset := HRW.out.set j hjc (l[j] + 1)
        rw [more_lt hjl hlt HMO.out] at hset
        have hv : ((l[j] + 1).toNat : Int) = (l[j].toNat : Int) + 1 := by
          rw [UInt8.toNat_add]; show (((l[j].toNat + 1) % 256 : Nat) : Int) = _; omega
        rw [hv] at hset
        obtain ⟨cn, hcn⟩ : ∃ cn, cn = l[j].toNat := ⟨_, rfl⟩
        rw [← hcn] at hlt hset hc1
        have hlm : (moreD l).length = l.length := by
          rw [← more_lt hjl (by rw [← hcn]; exact hlt) HMO.out, List.length_set, List.length_append, List.length_take]; omega
        have hcv2 := hset.text l.length cb hlm.symm
        have HB2 := Lib.hid (HBV.out.setCell (p := ⟨g, j, none⟩) (by show w.heap.size ≤ g; rw [HG.out]; exact Nat.le_refl _) (.int .u8 ((cn : Int) + 1)))
        clear hset hv hcn hlm
        go_wp2
        go_ret
        exact ⟨rfl, HB2.out⟩
      · have hset := HRW.out.set j hjc 48
        rw [set_at hjl] at hset
        have HST := Lib.hid hset
        have HMG := Lib.hid (more_ge hjl hlt HMO.out)
        have HB2 := Lib.hid (HBV.out.setCell (p := ⟨g, j, none⟩) (by show w.heap.size ≤ g; rw [HG.out]; exact Nat.le_refl _) (.int .u8 48))
        obtain ⟨cn, hcn⟩ : ∃ cn, cn = l[j].toNat := ⟨_, rfl⟩
        rw [← hcn] at hlt hc1
        clear hset hcn
        go_wp2
        go_roundw
        case rel =>
          exact ⟨j, by omega, by go_num, HB2.out, 48 :: Z, HST.out, by simp; omega, HMG.out⟩
        case measure => first | (simp [intOf]; done) | (simp [intOf]; omega)
    · have hk2 : k = 0 := by omega
      subst hk2
      have hzl : (l.take 0 ++ Z).length = l.length := by simp; omega
      have hcv2 := HRW.out.text l.length cb hzl.symm
      have hfin : moreD l = 49 :: (l.take 0 ++ Z) := HMO.out
      have hcat : (⟨#[49]⟩ : ByteArray) ++ tx (l.take 0 ++ Z) = tx (moreD l) := by rw [hfin]; exact tx_append [49] _
      have hzs := tx_size (l.take 0 ++ Z)
      obtain ⟨X, hX⟩ : ∃ X, X = tx (l.take 0 ++ Z) := ⟨_, rfl⟩
      rw [← hX] at hcat hcv2 hzs
      have hXs : X.size ≤ 1000000 := by omega
      clear hX hzs hzl hfin
      go_wp2
      go_ret
      exact ⟨by first | rfl | rw [hcat], HBV.out⟩
end Go.Proofs.YtgojmckfabhkaaaDoor.Sem

namespace Go.Proofs.YtgojmckfabhkaaaDoor.Sem
open Go Go.RowKit
set_option linter.unusedVariables false

theorem rowB.text1 {w : World} {g : Nat} {l : List UInt8} (h : rowB w g l) (n cap : Nat) (hn : n + 1 = l.length) : (convert 50 9 (.slice (some ⟨g, 1, none⟩) n cap)).run Tryd.prog w = .ok (.string (tx (l.drop 1))) w := by
  have hd : (l.drop 1).length = n := by rw [List.length_drop]; omega
  subst hd
  refine run_convert_bytes_back w _ _ 5 ⟨g, 1, none⟩ cap (l.drop 1) Tryd.underlying50 Tryd.underlying5 Tryd.underlying9 (fun j hj => ?_)
  have hadd : (⟨g, 1, none⟩ : Addr).add j = ⟨g, 1 + j, none⟩ := by unfold Addr.add; split <;> simp_all
  have hj2 : 1 + j < l.length := by rw [List.length_drop] at hj; omega
  rw [hadd, (h.2 (1 + j) hj2).1, List.getElem_drop]

set_option maxRecDepth 100000 in
set_option maxHeartbeats 4000000 in
theorem less_any (l : List UInt8) (w : World) (hz : l.length ≤ 1000000) (h0 : 0 < l.length) (hd : ∀ i (h : i < l.length), 48 ≤ l[i].toNat ∧ l[i].toNat ≤ 57) (hn : l[0].toNat ≠ 48) :
    Calls Tryd.prog 24 #[.string (tx l)] w fun e w' => (∃ r, (r ≠ [] ∧ r.length ≤ l.length) ∧ e = .returned (.string (tx r))) ∧ Below w.heap.size w w' := by
  have hsz := tx_size l
  have hne2 : ((tx l).toList == [48]) = false := by
    rw [tx_toList, beq_eq_false_iff_ne]
    intro h2
    subst h2
    exact absurd rfl hn
  obtain ⟨T, hT⟩ : ∃ T, T = tx l := ⟨_, rfl⟩
  rw [← hT] at hsz hne2 ⊢
  obtain ⟨cb, W1, hcv, hb, hrow, hcb⟩ := row_of T l hT w
  rw [hsz] at hcv hcb
  have HB := Lib.hid hb
  have HR := Lib.hid hrow
  obtain ⟨g, hg⟩ : ∃ g, g = w.heap.size := ⟨_, rfl⟩
  rw [← hg] at hcv
  have HG := Lib.hid hg
  have HD := Lib.hid hd
  have HN := Lib.hid hn
  clear hb hrow hT hg hd hn
  go_enter Tryd.func24, Tryd.ntmps24
  go_wp2
  go_loopw [4] (fun iv W => ∃ k : Nat, k < l.length ∧ iv = .int .i64 (k : Int) ∧ Below w.heap.size w W ∧ ∃ Z, rowB W g (l.take (k + 1) ++ Z) ∧ k + 1 + Z.length = l.length) (fun iv _ => (intOf iv).toNat)
  case atStart =>
    refine ⟨l.length - 1, by omega, by go_num, HB.out, [], ?_, by simp; omega⟩
    rw [show l.length - 1 + 1 = l.length by omega, List.take_length, List.append_nil, HG.out]
    exact HR.out
  case round =>
    obtain ⟨k, hk, rfl, hbv, Z, hrw, hZ⟩ := hrel
    have HBV := Lib.hid hbv
    have HRW := Lib.hid hrw
    clear hbv hrw
    have hjc : k < (l.take (k + 1) ++ Z).length := by rw [List.length_append, List.length_take]; omega
    have hcx := HRW.out.2 k hjc
    have hce : (l.take (k + 1) ++ Z)[k] = l[k] := by
      rw [List.getElem_append_left (by rw [List.length_take]; omega), List.getElem_take]
    rw [hce] at hcx
    obtain ⟨hc1, hc2⟩ := hcx
    clear hce
    have hdk := HD.out k hk
    by_cases hlt : l[k].toNat = 48
    · have hk0 : 0 < k := by
        rcases Nat.eq_zero_or_pos k with h | h
        · subst h; exact absurd hlt HN.out
        · exact h
      obtain ⟨j, rfl⟩ : ∃ j, k = j + 1 := ⟨k - 1, by omega⟩
      have hset := HRW.out.set (j + 1) hjc 57
      rw [set_at hk] at hset
      have HST := Lib.hid hset
      have HB2 := Lib.hid (HBV.out.setCell (p := ⟨g, j + 1, none⟩) (by show w.heap.size ≤ g; rw [HG.out]; exact Nat.le_refl _) (.int .u8 57))
      rw [hlt] at hc1
      clear hset hlt hdk
      go_wp2
      go_roundw
      case rel =>
        exact ⟨j, by omega, by go_num, HB2.out, 57 :: Z, HST.out, by rw [List.length_cons]; omega⟩
      case measure => first | (simp [intOf]; done) | (simp [intOf]; omega)
    · obtain ⟨d, hdd⟩ : ∃ d : UInt8, d = l[k] - 1 := ⟨_, rfl⟩
      have hset := HRW.out.set k hjc d
      have hv : (d.toNat : Int) = (l[k].toNat : Int) - 1 := by
        rw [hdd, UInt8.toNat_sub]; show (((2 ^ 8 - 1 + l[k].toNat) % 256 : Nat) : Int) = _; omega
      rw [hv] at hset
      obtain ⟨C, hC⟩ : ∃ C, C = (l.take (k + 1) ++ Z).set k d := ⟨_, rfl⟩
      have hCl : C.length = l.length := by rw [hC, List.length_set, List.length_append, List.length_take]; omega
      rw [← hC] at hset
      obtain ⟨cn, hcn⟩ : ∃ cn, cn = l[k].toNat := ⟨_, rfl⟩
      rw [← hcn] at hlt hset hc1 hdk
      have hc8 : cn ≤ 57 := hdk.2
      have hc9 : 48 < cn := by omega
      have q1 : ((cn : Int) == 48) = false := by rw [beq_eq_false_iff_ne]; omega
      have hcv2 := hset.text l.length cb hCl.symm
      have hc0 := hset.2 0 (by omega)
      obtain ⟨hc0, _⟩ := hc0
      have HB2 := Lib.hid (HBV.out.setCell (p := ⟨g, k, none⟩) (by show w.heap.size ≤ g; rw [HG.out]; exact Nat.le_refl _) (.int .u8 ((cn : Int) - 1)))
      have hCne : C ≠ [] := fun e => by rw [e] at hCl; simp at hCl; omega
      have HCN := Lib.hid (And.intro hCne (Nat.le_of_eq hCl))
      by_cases h1 : 1 < l.length
      · have hcv3 := hset.text1 (l.length - 1) (cb - 1) (by omega)
        have hDne : C.drop 1 ≠ [] := fun e => by have := congrArg List.length e; rw [List.length_drop] at this; simp at this; omega
        have hDl : (C.drop 1).length ≤ l.length := by rw [List.length_drop]; omega
        rw [List.drop_one] at hcv3 hDne hDl
        have HDN := Lib.hid (And.intro hDne hDl)
        clear hDl
        have hcb2 : 0 < cb - 1 := by omega
        have hcb3 : l.length - 1 ≤ cb - 1 := by omega
        have hcb4 : ¬ cb = 1 := by omega
        by_cases h48 : C[0].toNat = 48
        · rw [h48] at hc0
          clear hset hv hcn hlt hdk hCne hDne h48 hdd hC
          go_wp2
          go_ret
          exact ⟨⟨_, HDN.out, rfl⟩, HB2.out⟩
        · obtain ⟨c0, hcc⟩ : ∃ c0, c0 = C[0].toNat := ⟨_, rfl⟩
          rw [← hcc] at hc0 h48
          have q2 : ((c0 : Int) == 48) = false := by rw [beq_eq_false_iff_ne]; omega
          clear hset hv hcn hlt hdk hCne hDne hdd hC hcc
          go_wp2
          go_ret
          exact ⟨⟨_, HCN.out, rfl⟩, HB2.out⟩
      · clear hset hv hcn hlt hdk hCne hdd hC
        go_wp2
        go_ret
        exact ⟨⟨_, HCN.out, rfl⟩, HB2.out⟩
end Go.Proofs.YtgojmckfabhkaaaDoor.Sem
