/- THE WALK of a sum's write. Conditions: what the block's function does (BlkC); the texts are short. -/
import Derived.Test.YtdhafmjhohnclaaShaHold
import Derived.StillTailTactics
import Derived.Deep.DeepCutAuto
import Derived.Deep.CutBlock
namespace Go.Proofs.Ytdhafmjhohnclaa
open Go.RowKit Sums
set_option linter.unusedVariables false

def szOf : Value → Nat | .string s => s.size | _ => 0
theorem toList_append (a b : ByteArray) : (a ++ b).data.toList = a.data.toList ++ b.data.toList := by simp

set_option maxRecDepth 100000 in
set_option maxHeartbeats 2000000 in
theorem write_any (f : FuncId) (k : Nat) (F : Blk) (S : List (BitVec 32)) (T : TypeId) (hF : BlkC f k F) (hk : 0 < k) (hk2 : k ≤ 100) (b sg scap : Nat) (t : ByteArray) (l : List UInt8) (row : Option Nat) (w : World)
    (h : holds w b T k F S l row) (hS : S.length = k) (hst : ∀ j u, (cv S)[j]? = some u → w.cell? ((⟨sg, 0, none⟩ : Addr).add j) = some u) (hsz : l.length + t.size ≤ 1000000) :
    Calls Try.prog 43 #[.pointer (some ⟨b, 0, none⟩), .string t, .slice (some ⟨sg, 0, none⟩) k scap, .func (.func f) #[] #[]] w fun e w' => e = .returned (.tuple #[]) ∧
      ∃ g, holds w' b T k F S (l ++ t.data.toList) (some g) ∧ (row = some g ∨ (row = none ∧ w.heap.size ≤ g)) ∧ Kb b row w w' := by
  obtain ⟨A, n0, cap0, r, hr0, hc0, hA⟩ : ∃ A n0 cap0 r, r.data.toList = rst l ∧ hcell w b T (.slice A n0 cap0) r l.length ∧ ((A = none ∧ row = none ∧ n0 = 0 ∧ cap0 = 0 ∧ l = []) ∨ (∃ g, A = some ⟨g, 0, none⟩ ∧ n0 = k ∧ row = some g ∧ g ≠ b ∧ rowOf w g k cap0 (full F S l))) := by
    cases row with
    | none =>
      obtain ⟨rfl, h2⟩ := h
      exact ⟨none, 0, 0, ByteArray.empty, rfl, h2, .inl ⟨rfl, rfl, rfl, rfl, rfl⟩⟩
    | some g =>
      obtain ⟨hne, cap, r, h1, h2, h3⟩ := h
      exact ⟨some ⟨g, 0, none⟩, k, cap, r, h1, h2, .inr ⟨g, rfl, rfl, rfl, hne, h3⟩⟩
  have HF := hF
  have HA := Lib.hid hA
  have HR0 := Lib.hid hr0
  have HC0 := Lib.hid hc0
  have HST := Lib.hid hst
  have l0 := cell_at hc0 0
  simp only [List.getElem?_toArray, List.getElem?_cons_zero, List.getElem?_cons_succ] at l0
  clear hA hr0 hc0 h hF hst
  have e12 : ∀ W : World, (binOp .eql 46 (.slice A n0 cap0) (.slice none 0 0)).run Try.prog W = .ok (.bool A.isNone) W := fun W => by cases A <;> rfl
  go_enter Try.func43, Try.ntmps43
  go_upto_if 12 with fail
  go_cut [] (fun wx => ∃ g cap, hcell wx b T (.slice (some ⟨g, 0, none⟩) k cap) r l.length ∧ rowOf wx g k cap (full F S l) ∧ g ≠ b ∧ (row = some g ∨ (row = none ∧ w.heap.size ≤ g)) ∧ Kb b row w wx)
  case first =>
    rcases HA.out with ⟨rfl, hrow, rfl, rfl, hl⟩ | ⟨g, rfl, rfl, hrow, hne, hro⟩
    · have hsg := HST.out
      have f0 := free_at HC0.out 0
      clear l0
      go_wp2_with (refine append_words _ rfl _ _ rfl rfl ⟨sg, 0, none⟩ k scap S rfl hS hk hk2 HST.out ?_)
      intro g cap w1 h1 h2 h3 h4
      have hb := lt_of_block HC0.out
      have hcw : hcell w1 b T (.slice none 0 0) r l.length := gb_heap h2 HC0.out (by simp)
      have d0 := cell_at hcw 0
      simp only [List.getElem?_toArray, List.getElem?_cons_zero, List.getElem?_cons_succ] at d0
      have f1 := free_at hcw 0
      have hset := heap_set hcw 0 (.slice (some ⟨g, 0, none⟩) k cap)
      simp only [List.setIfInBounds_toArray, List.set_cons_zero, List.set_cons_succ] at hset
      have hne : g ≠ b := by omega
      have hro := row_keep h1 (Below.heap_setCell w1 ⟨b, 0, none⟩ (.slice (some ⟨g, 0, none⟩) k cap) g hne)
      have hkb : Kb b row w (w1.setCell ⟨b, 0, none⟩ (.slice (some ⟨g, 0, none⟩) k cap)) := kb_setB (kb_gb (kb_refl b row w) h2) 0 _
      have hge : w.heap.size ≤ g := by omega
      have E := Lib.hid (And.intro hset (And.intro hro (And.intro hne (And.intro hge hkb))))
      clear h1 h2 h3 h4 hcw hset hne hro hkb hge hb
      go_wp2
      go_meet
      obtain ⟨e1, e2, e3, e4, e5⟩ := E.out
      refine ⟨g, cap, e1, ?_, e3, Or.inr ⟨hrow, e4⟩, e5⟩
      rw [hl]
      exact e2
    · have E := Lib.hid (And.intro HC0.out (And.intro hro (And.intro hne hrow)))
      clear hro hne hrow l0
      go_wp2
      go_meet
      obtain ⟨e1, e2, e3, e4⟩ := E.out
      exact ⟨g, cap0, e1, e2, e3, Or.inl e4, kb_refl _ _ _⟩
  case rest =>
    obtain ⟨g, cap, hc, hro, hne, hg, hkb⟩ := hcut
    have c1 := cell_at hc 1
    have c2 := cell_at hc 2
    simp only [List.getElem?_toArray, List.getElem?_cons_zero, List.getElem?_cons_succ] at c1 c2
    have f2 := free_at hc 2
    have hrz : r.size = l.length % 64 := by
      have := congrArg List.length HR0.out
      rw [rst_len] at this
      simpa using this
    have hset := heap_set hc 2 (.int .u64 ((l.length + t.size : Nat) : Int))
    simp only [List.setIfInBounds_toArray, List.set_cons_zero, List.set_cons_succ] at hset
    have hro2 := row_keep hro (Below.heap_setCell wc ⟨b, 2, none⟩ (.int .u64 ((l.length + t.size : Nat) : Int)) g hne)
    have hkb2 := kb_setB hkb 2 (.int .u64 ((l.length + t.size : Nat) : Int))
    obtain ⟨L, hL⟩ : ∃ L, L = rst l ++ t.data.toList := ⟨_, rfl⟩
    obtain ⟨H, hH⟩ : ∃ H, H = full F S l := ⟨_, rfl⟩
    rw [← hH] at hro2
    have hLt : (r ++ t).data.toList = L := by rw [hL, toList_append, HR0.out]
    have hLn : L.length ≤ 2000000 := by
      rw [hL, List.length_append, rst_len]
      simp
      omega
    have E := Lib.hid (And.intro hset (And.intro hro2 (And.intro hne (And.intro hg hkb2))))
    have HL := Lib.hid hL
    have HH := Lib.hid hH
    have HLT := Lib.hid hLt
    have HLN := Lib.hid hLn
    have hw64 : IntKind.u64.wrap ((l.length : Int) + (t.size : Int)) = ((l.length + t.size : Nat) : Int) := by rw [IntWalk.u64_in _ (by omega)]; omega
    have hov : (9223372036854775807 < r.size + t.size) = False := by simp; omega
    clear hset hro2 hkb2 hc hro hne hg hkb hL hH hLt hLn e12
    go_wp2_with fail
    go_loopw [1] (fun tv wr => ∃ (i : Nat) (ti : ByteArray), tv = .string ti ∧ ti.data.toList = L.drop (64 * i) ∧ 64 * i ≤ L.length ∧ hcell wr b T (.slice (some ⟨g, 0, none⟩) k cap) r (l.length + t.size) ∧ rowOf wr g k cap (eat F H L i) ∧ Kb b row w wr) (fun tv _ => szOf tv)
    case atStart =>
      obtain ⟨e1, e2, e3, e4, e5⟩ := E.out
      exact ⟨0, r ++ t, rfl, by rw [HLT.out]; rfl, Nat.zero_le _, e1, e2, e5⟩
    case round =>
      obtain ⟨i, ti, rfl, hti, hi, hcr, hrr, hkr⟩ := hrel
      obtain ⟨-, -, hne, hg, -⟩ := E.out
      have hz : ti.size + 64 * i = L.length := by
        have := congrArg List.length hti
        rw [List.length_drop] at this
        simp at this
        omega
      by_cases h64 : 64 ≤ ti.size
      · have c0 := cell_at hcr 0
        simp only [List.getElem?_toArray, List.getElem?_cons_zero, List.getElem?_cons_succ] at c0
        have hbl : ti.extract 0 64 = bl L i := by
          apply ByteArray.ext
          apply Array.ext'
          show (ti.extract 0 64).data.toList = ((L.drop (64 * i)).take 64)
          rw [← hti]
          simp
        have hlz : (eat F H L i).length = k := eat_len F k HF.len H (by rw [HH.out]; exact eat_len F k HF.len S hS l _) L i
        have hgo := fun W (hW : words W g (eat F H L i)) (hg : g < W.heap.size) => HF.goes (bl L i) (eat F H L i) g cap W (bl_size L i (by omega)) hlz hW hg
        have HGO := Lib.hid hgo
        have HRR := Lib.hid hrr
        have HCR := Lib.hid hcr
        have HKR := Lib.hid hkr
        have HLZ := Lib.hid hlz
        have HTI := Lib.hid hti
        have HNE := Lib.hid hne
        have HG := Lib.hid hg
        have hent := HF.enter
        clear hgo hrr hcr hkr hlz hti hne hg
        go_wp2_with fail
        refine wp_region_still_tail 7 (by kernel_rfl) (by kernel_rfl) ?_
        simp only [List.take_succ_cons, List.take_zero, List.drop_succ_cons, List.drop_zero]
        repeat still_step
        refine wpStill_nil ?_
        change wpList _ _ _ _ _ wr.drew
        have hww : words wr.drew g (eat F H L i) := words_of HRR.out HLZ.out
        have hgl : g < wr.drew.heap.size := row_lt HRR.out
        have HWW := Lib.hid hww
        clear hww c0
        go_wp2_with fail
        refine (HGO.out wr.drew HWW.out hgl).mono ?_
        rintro e w1 ⟨rfl, W1, hb1, rfl⟩
        have hc1 : hcell (putW W1 g (F (bl L i) (eat F H L i)) k) b T (.slice (some ⟨g, 0, none⟩) k cap) r (l.length + t.size) := (putW_heap (fun e => HNE.out e.symm) _ _ _).trans (below_heap hb1 HCR.out (lt_of_block HCR.out))
        have hr1 : rowOf (putW W1 g (F (bl L i) (eat F H L i)) k) g k cap (eat F H L (i + 1)) := row_put (row_keep HRR.out (hb1.block g hgl)) HLZ.out (HF.len _ _)
        have hk1 : Kb b row w (putW W1 g (F (bl L i) (eat F H L i)) k) := kb_new HKR.out (HG.out.imp id And.right) (kb_putW (kb_below (kb_drew (kb_refl b (some g) wr)) hb1) _ _)
        have E1 := Lib.hid (And.intro hc1 (And.intro hr1 hk1))
        generalize putW W1 g (F (bl L i) (eat F H L i)) k = W3 at E1 ⊢
        clear hc1 hr1 hk1 hb1 hbl hent
        have hi2 : 64 * (i + 1) ≤ L.length := by omega
        have ht2 : (ti.extract 64 ti.size).data.toList = L.drop (64 * (i + 1)) := by
          rw [show 64 * (i + 1) = 64 * i + 64 by omega, ← List.drop_drop, ← HTI.out]
          simp
          exact List.take_of_length_le (by simp)
        have HT2 := Lib.hid ht2
        clear ht2
        go_wp2
        obtain ⟨e1, e2, e3⟩ := E1.out
        refine ⟨⟨i + 1, _, rfl, HT2.out, hi2, e1, e2, e3⟩, ?_⟩
        simp [szOf]
        omega
      · have hq : i = L.length / 64 := by omega
        have hf : L.drop (64 * i) = rst (l ++ t.data.toList) := by rw [hq, ← rst_append, ← HL.out]; rfl
        have hfe : eat F H L i = full F S (l ++ t.data.toList) := by
          rw [hq, ← full_append, ← HL.out, ← HH.out]
          rfl
        rw [hf] at hti
        rw [hfe] at hrr
        have f1 := free_at hcr 1
        have c1' := cell_at hcr 1
        simp only [List.getElem?_toArray, List.getElem?_cons_zero, List.getElem?_cons_succ] at c1'
        have hln : (l ++ t.data.toList).length = l.length + t.size := by simp
        have hset := heap_set hcr 1 (.string ti)
        simp only [List.setIfInBounds_toArray, List.set_cons_zero, List.set_cons_succ] at hset
        rw [← hln] at hset
        have hr1 := row_keep hrr (Below.heap_setCell wr ⟨b, 1, none⟩ (.string ti) g hne)
        have E1 := Lib.hid (And.intro hti (And.intro hset (And.intro hr1 (And.intro hne (And.intro hg (kb_setB hkr 1 (.string ti)))))))
        clear hti hset hr1 hne hg hkr hrr hcr hln hf hfe hq
        go_wp2
        obtain ⟨e1, e2, e3, e4, e5, e6⟩ := E1.out
        go_end0
        exact ⟨rfl, g, ⟨e4, cap, ti, e1, e2, e3⟩, e5, e6⟩
end Go.Proofs.Ytdhafmjhohnclaa
