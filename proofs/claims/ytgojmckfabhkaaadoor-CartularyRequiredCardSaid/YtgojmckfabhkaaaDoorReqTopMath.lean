/- SLICES OF INTEGERS OF THE CALL's OWN: what they hold as a list; an append of one; a store. No conditions. WHAT CartularyRequired CALLS, at any length; two of Make's texts compared; what the loop gathers. Conditions: bounds on lengths. -/
import Derived.Test.YtgojmckfabhkaaaDoorRows
import Derived.WalkKit
import Derived.WalkSpells
import Derived.WalkLawsBesides
import Derived.Handy
import Derived.Lib.Hide
import Derived.Deep.RegionLaw
import Derived.Test.YtgojmckfabhkaaaDoorWorld
import Derived.Laws.OwnMore
import Derived.Test.YtgojmckfabhkaaaDoorReqModule
import Derived.Test.YtgojmckfabhkaaaDoorReqPath
namespace Go.Proofs.YtgojmckfabhkaaaDoor
open Go.RowKit

def iv (b : Int) : Value := .int .i64 b
/-- The slice v is the call's own (from block B on) and holds the integers l. -/
def ownsI (w : World) (B : Nat) (v : Value) (l : List Int) : Prop := w.ownsRow B 3 1 v l.length (l.map iv)

theorem infoI64 : (Tryd.prog.info? 3).map (fun i => (i.zero, i.size, i.bytes)) = some (some (.int .i64 0), 1, 8) := by kernel_rfl

section
variable {w w' : World} {B : Nat} {v : Value} {l : List Int}
theorem ownsI_nil (w : World) (B : Nat) : ownsI w B (.slice none 0 0) [] := World.ownsRow_nil _ _ _ _
theorem ownsI_made (w : World) (hB : B ≤ w.heap.size) : ownsI (w.alloc (.cells #[] 3)) B (.slice (some ⟨w.heap.size, 0, none⟩) 0 0) [] := World.ownsRow_made w #[] 0 hB (Nat.zero_le _) rfl
theorem ownsI.alloc (h : ownsI w B v l) (o : Obj) : ownsI (w.alloc o) B v l := World.ownsRow.alloc h o
theorem ownsI.drew (h : ownsI w B v l) : ownsI w.drew B v l := h
theorem ownsI.kept {row : Option Nat} (h : ownsI w B v l) (hg : w.grownBy w' row) (hne : v.ownBlock = none ∨ v.ownBlock ≠ row) : ownsI w' B v l := World.ownsRow.kept h hg hne
theorem ownsI.below (h : ownsI w B v l) (hb : Below w.heap.size w w') : ownsI w' B v l := World.ownsRow.kept h (gb_of_below hb none) (by cases hv : v.ownBlock <;> simp)
theorem ownsI.lt (h : ownsI w B v l) : ∀ k, v.ownBlock = some k → B ≤ k ∧ k < w.heap.size := World.ownsRow.lt h
theorem ownsI.grown {a : World} (h : ownsI w B v l) (hb : Below B a w) (hg : w.grownBy w' v.ownBlock) (hB : B ≤ w.heap.size) : Below B a w' :=
  hb.grown hg hB fun k hk => (h.lt k hk).1
/-- One that holds something is a slice from a block's first cell on. -/
theorem ownsI.form (h : ownsI w B v l) (hl : 0 < l.length) : ∃ g cap, v = .slice (some ⟨g, 0, none⟩) l.length cap ∧ B ≤ g ∧ g < w.heap.size := by
  rcases h.2 with ⟨_, h0⟩ | ⟨g, cap, cur, rfl, hB, hh, _⟩
  · omega
  · exact ⟨g, cap, rfl, hB, lt_of_block hh⟩
theorem ownsI.cell {g cap n : Nat} (h : ownsI w B (.slice (some ⟨g, 0, none⟩) n cap) l) (hn : l.length = n) (j : Nat) (hj : j < n) : w.cell? ⟨g, j, none⟩ = some (iv (l[j]'(by omega))) := by
  subst hn
  have := World.ownsRow.cellAt h j (by omega)
  rw [this, List.getElem?_map, List.getElem?_eq_getElem hj]
  rfl
theorem ownsI.free {g cap n : Nat} (h : ownsI w B (.slice (some ⟨g, 0, none⟩) n cap) l) (hn : l.length = n) (j : Nat) : w.frozen? ⟨g, j, none⟩ = false := by
  subst hn
  exact World.ownsRow.frozenAt h j
theorem ownsI.stored {g cap n : Nat} (h : ownsI w B (.slice (some ⟨g, 0, none⟩) n cap) l) (hn : l.length = n) (j : Nat) (x : Int) :
    ownsI (w.setCell ⟨g, j, none⟩ (.int .i64 x)) B (.slice (some ⟨g, 0, none⟩) n cap) (l.set j x) ∧ w.grownBy (w.setCell ⟨g, j, none⟩ (.int .i64 x)) (some g) := by
  subst hn
  have := World.ownsRow.stored h j (iv x)
  refine ⟨?_, this.2⟩
  unfold ownsI
  rw [List.length_set, List.map_set]
  exact this.1
end

theorem map_iv_one (l : List Int) : ∀ u ∈ l.map iv, u.oneCell' = true := by
  intro u hu
  obtain ⟨b, _, rfl⟩ := List.mem_map.1 hu
  rfl

/-- 'append(out, x..)': out is the call's own; the new integers lie at an address. -/
theorem append_ints {ops : Array Oper} {rest : List Oper} {o : Oper} {a : Act} {Q : Exit → Act → World → Prop} (w : World) (hgd : o.guard = none) (s x : Operand)
    (ho : o.op = .call { callee := .builtin .append, args := #[s, x], argTypes := #[22, 22] }) (B : Nat) (v : Value) (l news : List Int) (hs : a.eval s = v) (hown : ownsI w B v l)
    (ad : Addr) (c : Nat) (hx : a.eval x = .slice (some ad) news.length c) (hnews : ∀ j u, (news.map iv)[j]? = some u → w.cell? (ad.add j) = some u)
    (hlen : l.length + news.length ≤ 17592186044416) (hB : B ≤ w.heap.size)
    (h : ∀ v' w', ownsI w' B v' (l ++ news) → w.grownBy w' v.ownBlock → wpList Tryd.prog ops Q rest (a.put o.dst v') w') : wpList Tryd.prog ops Q (o :: rest) a w := by
  obtain ⟨i0, hi, hz0, hz1, hz2⟩ := info_parts infoI64
  refine wpList_append_own w hgd s x 22 ho B 3 i0 (.int .i64 0) 1 8 Tryd.underlying22 hi hz0 hz1 hz2 rfl (by decide) v l.length (l.map iv) hs hown ad news.length c (news.map iv) hx
    (by simp) hnews (map_iv_one news) (by unfold maxLen; omega) (by omega) hB ?_
  intro v' w' hown' hg _
  refine h v' w' ?_ hg
  unfold ownsI
  rw [List.length_append, List.map_append]
  exact hown'

theorem new_ints (w : World) (l : List Int) (t : TypeId) : ∀ j u, (l.map iv)[j]? = some u → (w.alloc (.cells (l.map iv).toArray t)).cell? ((⟨w.heap.size, 0, none⟩ : Addr).add j) = some u := by
  intro j u hu
  have hadd : (⟨w.heap.size, 0, none⟩ : Addr).add j = ⟨w.heap.size, j, none⟩ := by unfold Addr.add; split <;> simp_all
  rw [hadd, cell_at (heap_alloc_same _ _)]
  simpa using hu
end Go.Proofs.YtgojmckfabhkaaaDoor

namespace Go.Proofs.YtgojmckfabhkaaaDoor.Sem
open Go Go.RowKit Sums
set_option linter.unusedVariables false

set_option maxRecDepth 100000 in
theorem rpath_long (T : ByteArray) (w : World) (h1 : 200 < T.size) (h2 : T.size ≤ 9223372036854775807) : Calls Tryd.prog 5 #[.string T] w fun e w' => e = .returned (.bool false) ∧ Below w.heap.size w w' := by
  go_enter Tryd.func5, Tryd.ntmps5
  go_wp2
  go_ret
  exact ⟨rfl, Below.refl _ w⟩
set_option maxRecDepth 100000 in
theorem mpath_long (T : ByteArray) (w : World) (h1 : 200 < T.size) (h2 : T.size ≤ 9223372036854775807) : Calls Tryd.prog 6 #[.string T] w fun e w' => e = .returned (.bool false) ∧ Below w.heap.size w w' := by
  go_enter Tryd.func6, Tryd.ntmps6
  go_wp2
  go_ret
  exact ⟨rfl, Below.refl _ w⟩
theorem pathB_long {l : List UInt8} (h : 200 < l.length) : pathB l = false := by
  unfold pathB
  rw [decide_eq_false (by omega)]
  rfl
theorem rpath_all (l : List UInt8) (w : World) (hz : l.length ≤ 9223372036854775807) : Calls Tryd.prog 5 #[.string (tx l)] w fun e w' => e = .returned (.bool (pathB l)) ∧ Below w.heap.size w w' := by
  by_cases h : 200 < l.length
  · rw [pathB_long h]
    exact rpath_long (tx l) w (by rw [tx_size]; exact h) (by rw [tx_size]; exact hz)
  · exact rpath_any l w (by omega)
theorem mpath_all (l : List UInt8) (w : World) (hz : l.length ≤ 9223372036854775807) (mx : Int) (hmx : w.cell? ⟨0, 0, none⟩ = some (.int .i64 mx)) : Calls Tryd.prog 6 #[.string (tx l)] w fun e w' => e = .returned (.bool (pathB l)) ∧ Below w.heap.size w w' := by
  by_cases h : 200 < l.length
  · rw [pathB_long h]
    exact mpath_long (tx l) w (by rw [tx_size]; exact h) (by rw [tx_size]; exact hz)
  · exact mpath_any l w (by omega) mx hmx

/-- The first call's answer. -/
theorem first_made : makeR [] [97, 98, 99, 100, 101, 102, 97, 98, 99, 100, 101, 102] 1136214245 = some [118, 48, 46, 48, 46, 48, 45, 50, 48, 48, 54, 48, 49, 48, 50, 49, 53, 48, 52, 48, 53, 45, 97, 98, 99, 100, 101, 102, 97, 98, 99, 100, 101, 102] := by decide +kernel
theorem make_first (w : World) (ht : tabOk w) : Calls Tryd.prog 4 #[.string ⟨#[118, 48]⟩, .string ⟨#[]⟩, .int .i64 1136214245, .string ⟨#[97, 98, 99, 100, 101, 102, 97, 98, 99, 100, 101, 102]⟩] w fun e w' =>
    e = .returned (.tuple #[.string ⟨#[118, 48, 46, 48, 46, 48, 45, 50, 48, 48, 54, 48, 49, 48, 50, 49, 53, 48, 52, 48, 53, 45, 97, 98, 99, 100, 101, 102, 97, 98, 99, 100, 101, 102]⟩, .int .i64 0]) ∧ Below w.heap.size w w' := by
  have h := make_any [] [97, 98, 99, 100, 101, 102, 97, 98, 99, 100, 101, 102] 1136214245 w ht (by decide) (by decide)
  refine h.mono fun e w' hm => ?_
  unfold MakeP at hm
  rw [first_made] at hm
  exact hm

/-- What the loop has gathered. -/
def acc (base id : List UInt8) (ts : List Int) : List (Int × List UInt8) := ts.filterMap fun t => (makeR base id t).map fun v => (t, v)
theorem acc_snoc_some {base id v : List UInt8} {ts : List Int} {t : Int} (h : makeR base id t = some v) : acc base id (ts ++ [t]) = acc base id ts ++ [(t, v)] := by unfold acc; simp [h]
theorem acc_snoc_none {base id : List UInt8} {ts : List Int} {t : Int} (h : makeR base id t = none) : acc base id (ts ++ [t]) = acc base id ts := by unfold acc; simp [h]
theorem acc_len (base id : List UInt8) (ts : List Int) : (acc base id ts).length ≤ ts.length := by unfold acc; exact List.length_filterMap_le _ _
/-- What is known of one. -/
theorem makeR_is {base id v : List UInt8} {t : Int} (h : makeR base id t = some v) : -62135596800 ≤ t ∧ t ≤ 253402300799 ∧ revB id = true ∧ ∃ fb, frontD base = some fb ∧ v = madeL fb t id ∧ (madeL fb t id).length ≤ 100 := by
  unfold makeR at h
  split at h
  · rename_i hc
    split at h
    · cases h
    · rename_i fb hfb
      split at h
      · rename_i hl
        exact ⟨hc.1.1, hc.1.2, hc.2, fb, hfb, (Option.some.inj h).symm, hl⟩
      · cases h
  · cases h
theorem acc_mem {base id : List UInt8} {ts : List Int} {p : Int × List UInt8} (h : p ∈ acc base id ts) : makeR base id p.1 = some p.2 := by
  unfold acc at h
  obtain ⟨t, _, h2⟩ := List.mem_filterMap.1 h
  cases hm : makeR base id t with
  | none => rw [hm] at h2; cases h2
  | some v => rw [hm] at h2; obtain rfl := Option.some.inj h2; exact hm
theorem made_word {base id v : List UInt8} {t : Int} (h : makeR base id t = some v) : WordOk v ∧ v.length ≤ 100 := by
  obtain ⟨h1, h2, hid, fb, hfb, rfl, hl⟩ := makeR_is h
  obtain ⟨M, m, p, C, b, hf⟩ := front_ok hfb
  have hc := made_verC hf h1 h2 hid
  have key : ∀ n : Nat, n < 256 → verC (UInt8.ofNat n) = true → stopC (UInt8.ofNat n) = false ∧ UInt8.ofNat n ≠ 47 := by decide +kernel
  have key2 : ∀ c : UInt8, verC c = true → stopC c = false ∧ c ≠ 47 := fun c hv => by
    have h9 := key c.toNat (by have := UInt8.toNat_lt c; omega)
    rw [UInt8.ofNat_toNat] at h9
    exact h9 hv
  exact ⟨⟨by rw [made_eq hf]; simp, fun c hm => (key2 c (hc c hm)).1, dbl_of (fun c hm => (key2 c (hc c hm)).2)⟩, hl⟩
/-- 'Parse' of one. -/
theorem parse_one {base id v : List UInt8} {t : Int} (h : makeR base id t = some v) (w : World) : Calls Tryd.prog 10 #[.string (tx v)] w (fun e w9 => PPq t w e w9) := by
  obtain ⟨h1, h2, hid, fb, hfb, rfl, hl⟩ := makeR_is h
  obtain ⟨M, m, p, C, b, hf⟩ := front_ok hfb
  exact pparse_made hf h1 h2 hid hl w
/-- 'Compare' of two. -/
theorem compare_two {base id v u : List UInt8} {s t : Int} (h : makeR base id s = some v) (k : makeR base id t = some u) (hlt : Op.bytesLess (stampOf s) (stampOf t) = true) (w : World) :
    Calls Tryd.prog 12 #[.string (tx v), .string (tx u)] w fun e w' => e = .returned (.int .i64 (-1)) ∧ Below w.heap.size w w' := by
  obtain ⟨h1, h2, hid, fb, hfb, rfl, hl⟩ := makeR_is h
  obtain ⟨k1, k2, -, fb2, hfb2, rfl, hl2⟩ := makeR_is k
  obtain rfl : fb2 = fb := Option.some.inj (hfb2.symm.trans hfb)
  obtain ⟨M, m, p, C, b, hf⟩ := front_ok hfb
  obtain ⟨l1, l2, l3, l4, l5⟩ := made_len hf hl
  obtain ⟨a1, a2, a3, a4, a5, a6⟩ := seg_is h1 h2 hid
  obtain ⟨b1, b2, b3, b4, b5, b6⟩ := seg_is k1 k2 hid
  have hx := (stampOf_is s h1 h2).2.1
  have hy := (stampOf_is t k1 k2).2.1
  have hc : Lib.compareBytes (segD s id) (segD t id) = -1 := by unfold segD; exact cmp_tail _ _ _ (by rw [hx, hy]) hlt
  have hne : segD s id ≠ segD t id := fun e => by
    unfold segD at e
    have := List.append_inj_left e (by rw [hx, hy])
    rw [this] at hlt
    rw [stamp_less t t k1 k2 k1 k2] at hlt
    simp at hlt
  refine compare_any _ _ M m p _ _ b b 0 0 (-1) w (by omega) (by omega) (by omega) (by omega) (by omega) (made_parse hf h1 h2 hid hl) (made_parse hf k1 k2 hid hl2) (fun W => ?_)
  have h9 := byWords_last C (segD s id) (segD t id) W hf.ends a2 b2 a6 b6 hne (by rw [a1, b1]) (by rw [a5, b5]) (by omega)
  rw [hc] at h9
  exact h9
/-- The text so far. -/
def textD (path : List UInt8) (ps : List (Int × List UInt8)) : List UInt8 := headT path ++ linesT path (ps.map Prod.snd)
theorem textD_snoc (path : List UInt8) (ps : List (Int × List UInt8)) (t : Int) (v : List UInt8) : textD path (ps ++ [(t, v)]) = textD path ps ++ lineT path v := by
  unfold textD linesT; simp
theorem textD_full (path : List UInt8) (ps : List (Int × List UInt8)) : textD path ps ++ [41, 10] = fullT path (ps.map Prod.snd) := rfl
theorem textD_len (path : List UInt8) : ∀ (ps : List (Int × List UInt8)), path.length ≤ 200 → (∀ p ∈ ps, p.2.length ≤ 100) → (textD path ps).length ≤ 300 + 400 * ps.length
  | [], hp, _ => by unfold textD linesT headT; simp; omega
  | p :: ps, hp, h => by
    have ih := textD_len path ps hp (fun q hq => h q (List.mem_cons_of_mem _ hq))
    have h1 := h p (by simp)
    unfold textD linesT lineT at *
    simp at ih ⊢
    omega
end Go.Proofs.YtgojmckfabhkaaaDoor.Sem
