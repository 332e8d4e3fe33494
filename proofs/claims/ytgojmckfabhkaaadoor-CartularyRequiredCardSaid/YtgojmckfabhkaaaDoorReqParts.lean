/- THE WALK of the document's Parts: a text at each slash. Conditions: a bound on the length. -/
import Derived.Test.YtgojmckfabhkaaaDoorSemB
import Derived.Test.YtgojmckfabhkaaaDoorStrs
import Derived.Deep.RegionWith
import Derived.StillTailTactics
namespace Go.Proofs.YtgojmckfabhkaaaDoor.Sem
open Go Go.RowKit
set_option linter.unusedVariables false

/-- What 'Cut' answers: a slice of the call's own. -/
def CutP (c : UInt8) (l : List UInt8) (w : World) (e : Ending) (w' : World) : Prop := ∃ v, e = .returned v ∧ ownsS w' w.heap.size v ((splitD c l).map tx) ∧ Below w.heap.size w w'
def CutR (c : UInt8) (l : List UInt8) (w : World) (i : Nat) (v : Value) (W : World) : Prop := ownsS W w.heap.size v ((splitD c (l.take i)).map tx) ∧ Below w.heap.size w W

theorem take_succ {l : List UInt8} {i : Nat} (h : i < l.length) : l.take (i + 1) = l.take i ++ [l[i]] := by
  rw [List.take_add_one, List.getElem?_eq_getElem h]; rfl

set_option maxRecDepth 100000 in
set_option maxHeartbeats 2000000 in
theorem parts_raw (s : ByteArray) (l : List UInt8) (w : World) (hs : s = tx l) (hz : l.length ≤ 1000000) :
    Calls Tryd.prog 17 #[.string s] w (CutP 47 l w) := by
  have hsz : s.size = l.length := by rw [hs, tx_size]
  have hz2 : s.size ≤ 1000000 := by omega
  have hat : ∀ i (h : i < s.size) (h2 : i < l.length), s[i] = l[i] := fun i h h2 => by subst hs; exact tx_at l i h
  have hex : ∀ i (h : i < l.length), s.extract i (i + 1) = tx [l[i]] := fun i h => by
    rw [hs, tx_extract, take_succ h, List.drop_left' (by simp; omega)]
  have HSZ := Lib.hid hsz
  have HAT := Lib.hid hat
  have HEX := Lib.hid hex
  clear hs hsz hat hex
  have h0 : ownsS (w.alloc (.cells #[.string ⟨#[]⟩] 9)) w.heap.size (.slice (some ⟨w.heap.size, 0, none⟩) 1 1) [⟨#[]⟩] :=
    World.ownsRow_lit w #[.string ⟨#[]⟩] 1 (Nat.le_refl _) (by decide) rfl
  have HO := Lib.hid h0
  clear h0
  go_enter Tryd.func17, Tryd.ntmps17
  go_wp2
  go_loopw [3, 4] (fun v iv W => ∃ i : Nat, i ≤ l.length ∧ iv = .int .i64 (i : Int) ∧ CutR 47 l w i v W) (fun _ iv _ => l.length - (intOf iv).toNat)
  case atStart =>
    refine ⟨0, by omega, rfl, ?_, (Below.refl _ w).alloc (Nat.le_refl _) _⟩
    rw [List.take_zero]
    exact HO.out
  case round =>
    obtain ⟨i, hi, rfl, hown, hb⟩ := hrel
    have HB := Lib.hid hb
    by_cases hil : i < l.length
    · have his : i < s.size := by have := HSZ.out; omega
      have hci := HAT.out i his hil
      have HTK := Lib.hid (take_succ hil)
      by_cases hc : l[i] = 47
      · have q1 : ((s[i].toNat : Int) == 47) = true := by rw [hci, hc]; rfl
        have HC := Lib.hid hc
        have HOW := Lib.hid hown
        clear hc hown hci hb
        have hBs : w.heap.size ≤ (wr.alloc (.cells #[.string ⟨#[]⟩] 9)).heap.size := by rw [World.size_alloc]; have := HB.out.size; omega
        have hlen : ((splitD 47 (l.take i)).map tx).length + [(⟨#[]⟩ : ByteArray)].length ≤ 8796093022208 := by
          have := splitD_len 47 (l.take i); rw [List.length_map]; rw [List.length_take] at this; simp; omega
        go_wp2_with (at_builtin; go_loud (refine append_strs _ rfl (.tmp 16) (.tmp 17) rfl w.heap.size _ _ [⟨#[]⟩] rfl (HOW.out.alloc _) ⟨wr.heap.size, 0, none⟩ 1 rfl (new_strs wr [⟨#[]⟩] _) hlen hBs ?_); intro v' w' hown' hg')
        go_roundw
        case rel =>
          refine ⟨i + 1, by omega, by go_num, ?_, (HOW.out.alloc _).grown (HB.out.alloc HB.out.size _) hg' hBs⟩
          rw [HTK.out, HC.out, splitD_snoc_eq, List.map_append]
          exact hown'
        case measure => simp [intOf]; omega
      · have q1 : ((s[i].toNat : Int) == 47) = false := by
          rw [beq_eq_false_iff_ne, hci]; intro e; exact hc (UInt8.toNat_inj.1 (by show l[i].toNat = 47; omega))
        obtain ⟨a, wd, e1, e2⟩ := splitD_snoc_ne 47 l[i] hc (l.take i)
        have hwl : wd.length ≤ l.length := by
          have := splitD_word 47 (l.take i) wd (by rw [e1]; simp)
          rw [List.length_take] at this; omega
        rw [e1] at hown
        obtain ⟨g, cap, hv, hgB, hgl⟩ := hown.form (by simp)
        have hml : ((a ++ [wd]).map tx).length = a.length + 1 := by simp
        have hmax : a.length ≤ 1000000 := by
          have := splitD_len 47 (l.take i); rw [e1] at this; simp at this; omega
        rw [hml] at hv
        subst hv
        have k1 := hown.cell hml a.length (by omega)
        have k2 := hown.free hml a.length
        have hX : ((a ++ [wd]).map tx)[a.length]'(by omega) = tx wd := by simp
        rw [hX] at k1
        have k1' : wr.cell? ⟨g, a.length, none⟩ = some (.string (tx wd)) := k1
        obtain ⟨hst, hgr⟩ := hown.stored hml a.length (tx (wd ++ [l[i]]))
        have hset : ((a ++ [wd]).map tx).set a.length (tx (wd ++ [l[i]])) = (a ++ [wd ++ [l[i]]]).map tx := by simp
        rw [hset] at hst
        have hxi := HEX.out i hil
        have hap : tx wd ++ tx [l[i]] = tx (wd ++ [l[i]]) := tx_append _ _
        have s1 := tx_size wd
        have s2 : (tx [l[i]]).size = 1 := by rw [tx_size]; rfl
        obtain ⟨X, hXX⟩ : ∃ X, X = tx wd := ⟨_, rfl⟩
        obtain ⟨Y, hYY⟩ : ∃ Y, Y = tx [l[i]] := ⟨_, rfl⟩
        obtain ⟨Z, hZZ⟩ : ∃ Z, Z = tx (wd ++ [l[i]]) := ⟨_, rfl⟩
        rw [← hXX] at k1' hap s1
        rw [← hYY] at hxi hap s2
        rw [← hZZ] at hap hst hgr
        have HST := Lib.hid hst
        have HE2 := Lib.hid e2
        have HB2 := Lib.hid (HB.out.trans (gb_below hgr HB.out.size (fun k e => by cases e; exact hgB)))
        have hXs : X.size ≤ 1000000 := by omega
        clear hb hc hci e1 e2 hwl hown hml k1 hX hset hst hgr hXX hYY hZZ s1
        go_wp2
        go_region
        go_wp2
        go_roundw
        case rel =>
          refine ⟨i + 1, by omega, by go_num, ?_, ?_⟩
          · rw [HTK.out, HE2.out]
            exact HST.out
          · exact HB2.out.trans ⟨rfl, rfl, rfl, by simp [World.setCell], fun k _ => rfl⟩
        case measure => simp [intOf]; omega
    · have hie : i = l.length := by omega
      have hsi : s.size = i := by have := HSZ.out; omega
      have HF : Hid (ownsS wr w.heap.size u3 ((splitD 47 l).map tx)) := by rw [hie, List.take_length] at hown; exact hown
      clear hown hb
      go_wp2
      go_ret
      exact ⟨_, rfl, HF.out, HB.out⟩
/-- 'Parts'. -/
theorem parts_any (l : List UInt8) (w : World) (hz : l.length ≤ 1000000) :
    Calls Tryd.prog 17 #[.string (tx l)] w (CutP 47 l w) := parts_raw (tx l) l w rfl hz
end Go.Proofs.YtgojmckfabhkaaaDoor.Sem
