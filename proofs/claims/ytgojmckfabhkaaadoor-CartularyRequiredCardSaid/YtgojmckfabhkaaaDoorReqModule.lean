/- THE WALKS of modfile.Module at a text whose directives are known, and of modfile.Plain. Conditions: what the directives are; the text's length; bytealg.MaxLen holds an int. -/
import Derived.Test.YtgojmckfabhkaaaDoorReqParse
import Derived.Test.YtgojmckfabhkaaaDoorReqPath2
namespace Go.Proofs.YtgojmckfabhkaaaDoor.Sem
open Go Go.RowKit
set_option linter.unusedVariables false

theorem flat_get (f : LineD × Value → List Value) (hf : ∀ p, (f p).length = 3) : ∀ (ps : List (LineD × Value)) (k o : Nat) (hk : k < ps.length), o < 3 → (ps.flatMap f)[3 * k + o]? = (f (ps[k]'hk))[o]?
  | [], k, o, hk, _ => by simp at hk
  | p :: ps, 0, o, hk, ho => by
    rw [List.flatMap_cons, Nat.mul_zero, Nat.zero_add, List.getElem?_append_left (by rw [hf]; exact ho)]
    rfl
  | p :: ps, k + 1, o, hk, ho => by
    rw [List.flatMap_cons, List.getElem?_append_right (by rw [hf]; omega), hf, show 3 * (k + 1) + o - 3 = 3 * k + o by omega]
    rw [flat_get f hf ps k o (by simpa using hk) ho]
    rfl
/-- A directive lies there. -/
structure LnAt (w : World) (B g k : Nat) (d : LineD) (gw cw : Nat) : Prop where
  c0 : w.cell? ⟨g, k * 3, none⟩ = some (.string (tx d.verb))
  c1 : w.cell? ⟨g, k * 3 + 1, none⟩ = some (.slice (some ⟨gw, 0, none⟩) d.words.length cw)
  c2 : w.cell? ⟨g, k * 3 + 2, none⟩ = some (.int .i64 (d.at_ : Int))
  ws : ownsS w B (.slice (some ⟨gw, 0, none⟩) d.words.length cw) (d.words.map tx)
theorem LnAt.below {w w' : World} {B g k gw cw : Nat} {d : LineD} (h : LnAt w B g k d gw cw) (hg : g < w.heap.size) (hb : Below w.heap.size w w') : LnAt w' B g k d gw cw :=
  ⟨(hb.cell (p := ⟨g, k * 3, none⟩) hg).trans h.c0, (hb.cell (p := ⟨g, k * 3 + 1, none⟩) hg).trans h.c1, (hb.cell (p := ⟨g, k * 3 + 2, none⟩) hg).trans h.c2, h.ws.below hb⟩
theorem LinesR.form {w : World} {B : Nat} {v : Value} {ls : List LineD} (h : LinesR w B v ls) (hl : 0 < ls.length) :
    ∃ g cap, v = .slice (some ⟨g, 0, none⟩) ls.length cap ∧ ls.length ≤ cap ∧ B ≤ g ∧ g < w.heap.size ∧ ∀ k (hk : k < ls.length), ∃ gw cw, LnAt w B g k (ls[k]'hk) gw cw := by
  obtain ⟨ps, rfl, h2, h3⟩ := h
  have hn : (ps.map Prod.fst).length = ps.length := by simp
  have h2' := h2
  rcases h2'.2 with ⟨_, h0⟩ | ⟨g, cap, cur, rfl, hB, hh, hc, _⟩
  · omega
  · refine ⟨g, cap, rfl, hc, hB, lt_of_block hh, fun k hk => ?_⟩
    have hkp : k < ps.length := by omega
    obtain ⟨gw, cw, e, h4⟩ := h3 ps[k] (List.getElem_mem hkp)
    have hget : ∀ o, o < 3 → w.cell? ⟨g, k * 3 + o, none⟩ = (lnV ps[k].1 ps[k].2)[o]? := fun o ho => by
      rw [World.ownsRow.cellAt h2 (k * 3 + o) (by omega), show k * 3 + o = 3 * k + o by omega]
      exact flat_get (fun p => lnV p.1 p.2) (fun _ => rfl) ps k o hkp ho
    have he : (ps.map Prod.fst)[k]'hk = ps[k].1 := by simp
    refine ⟨gw, cw, ?_⟩
    rw [he]
    rw [e] at h4
    refine ⟨(hget 0 (by omega)).trans rfl, ?_, (hget 2 (by omega)).trans rfl, h4⟩
    rw [hget 1 (by omega)]
    show some ps[k].2 = _
    rw [e]

set_option maxRecDepth 100000 in
set_option maxHeartbeats 1000000 in
theorem plain_any (l : List UInt8) (w : World) (hz : l.length ≤ 1000) :
    Calls Tryd.prog 7 #[.string (tx l)] w fun e w' => e = .returned (.string (tx ([109, 111, 100, 117, 108, 101, 32] ++ l ++ [10]))) ∧ w' = w := by
  have hsz : (tx l).size ≤ 1000 := by rw [tx_size]; exact hz
  have hr : (⟨#[109, 111, 100, 117, 108, 101, 32]⟩ : ByteArray) ++ tx l ++ ⟨#[10]⟩ = tx ([109, 111, 100, 117, 108, 101, 32] ++ l ++ [10]) := by
    rw [show (⟨#[109, 111, 100, 117, 108, 101, 32]⟩ : ByteArray) = tx [109, 111, 100, 117, 108, 101, 32] from rfl, show (⟨#[10]⟩ : ByteArray) = tx [10] from rfl, tx_append, tx_append]
  obtain ⟨T, hT⟩ : ∃ T, T = tx l := ⟨_, rfl⟩
  rw [← hT] at hsz hr ⊢
  clear hT
  obtain ⟨Z, hZ⟩ : ∃ Z, Z = tx ([109, 111, 100, 117, 108, 101, 32] ++ l ++ [10]) := ⟨_, rfl⟩
  rw [← hZ] at hr ⊢
  clear hZ
  go_enter Tryd.func7, Tryd.ntmps7
  go_wp2
  go_ret
  exact ⟨by first | rfl | rw [hr], rfl⟩

theorem reqL_len (path : List UInt8) (vs : List (List UInt8)) (n : Nat) : (reqL path vs n).length = vs.length := by unfold reqL; simp
theorem reqL_get (path : List UInt8) (vs : List (List UInt8)) (n k : Nat) (hk : k < (reqL path vs n).length) (hv : k < vs.length) : (reqL path vs n)[k]'hk = ⟨[114, 101, 113, 117, 105, 114, 101], [path, vs[k]'hv], n + k⟩ := by
  have h : (reqL path vs n)[k]? = some ⟨[114, 101, 113, 117, 105, 114, 101], [path, vs[k]'hv], n + k⟩ := by
    unfold reqL
    rw [List.getElem?_map, List.getElem?_zipIdx, List.getElem?_eq_getElem hv]
    rfl
  exact Option.some.inj ((List.getElem?_eq_getElem hk).symm.trans h)
theorem wantL_zero (path : List UInt8) (vs : List (List UInt8)) (hk : 0 < (wantL path vs).length) : (wantL path vs)[0]'hk = ⟨[109, 111, 100, 117, 108, 101], [path], 1⟩ := rfl
theorem wantL_succ (path : List UInt8) (vs : List (List UInt8)) (k : Nat) (hk : k + 1 < (wantL path vs).length) (hv : k < vs.length) : (wantL path vs)[k + 1]'hk = ⟨[114, 101, 113, 117, 105, 114, 101], [path, vs[k]'hv], 3 + k⟩ :=
  reqL_get path vs 3 k (by unfold wantL at hk; simpa using hk) hv
theorem wantL_len (path : List UInt8) (vs : List (List UInt8)) : (wantL path vs).length = vs.length + 1 := by unfold wantL; simp [reqL_len]

set_option maxRecDepth 100000 in
set_option maxHeartbeats 2000000 in
theorem mod_any (l path : List UInt8) (vs : List (List UInt8)) (w : World) (hz : l.length ≤ 65535) (h : Pr l ⟨[], [], false, [], 1⟩ (wantL path vs)) (hp : pathB path = true) (mx : Int) (hmx : w.cell? ⟨0, 0, none⟩ = some (.int .i64 mx)) (hw0 : 0 < w.heap.size) (hvs : vs.length ≤ 1000) :
    Calls Tryd.prog 9 #[.string (tx l)] w fun e w' => e = .returned (.tuple #[.string (tx path), .int .i64 0, .int .i64 0]) ∧ Below w.heap.size w w' := by
  have HPR := Lib.hid (mparse_any l _ w hz h)
  have hpl := (path_word hp).2
  have HMX := Lib.hid hmx
  have HPT := Lib.hid hp
  obtain ⟨T, hT⟩ : ∃ T, T = tx l := ⟨_, rfl⟩
  rw [← hT] at HPR ⊢
  clear hT h hmx hp
  go_enter Tryd.func9, Tryd.ntmps9
  go_wp2_with fail
  refine HPR.out.mono ?_
  rintro e w1 ⟨⟨lv, rfl, hls⟩, hb1⟩
  obtain ⟨g, cap, rfl, hcap, hgB, hgl, hat⟩ := hls.form (by unfold wantL; simp)
  obtain ⟨n, hn⟩ : ∃ n, n = (wantL path vs).length := ⟨_, rfl⟩
  have hn9 : n ≤ 1001 := by rw [hn, wantL_len]; omega
  have HN := Lib.hid hn
  have HAT := Lib.hid hat
  have HB1 := Lib.hid hb1
  rw [← hn] at hcap ⊢
  clear hls hat hb1 hn
  go_wp2
  go_loopw [2, 6, 21] (fun pv fv iv W => ∃ k : Nat, k ≤ n ∧ iv = .int .i64 (k : Int) ∧ pv = .string (if k = 0 then ⟨#[]⟩ else tx path) ∧ fv = .bool (decide (k ≠ 0)) ∧ Below w1.heap.size w1 W) (fun _ _ iv _ => n - (intOf iv).toNat)
  case atStart => exact ⟨0, by omega, rfl, rfl, rfl, Below.refl _ _⟩
  case round =>
    obtain ⟨k, hk, rfl, rfl, rfl, hbw⟩ := hrel
    by_cases hkn : k < n
    · have hk' : k < (wantL path vs).length := by rw [← HN.out]; exact hkn
      obtain ⟨gw, cw, hln⟩ := HAT.out k hk'
      have hln2 := hln.below hgl hbw
      have hgl2 : g < wr.heap.size := Nat.lt_of_lt_of_le hgl hbw.size
      cases k with
      | zero =>
        rw [wantL_zero] at hln2
        obtain ⟨c0, c1, c2, hws⟩ := hln2
        dsimp only [List.length_cons, List.length_nil, Nat.zero_mul, Nat.zero_add] at c0 c1 c2 hws
        have q1 : ((tx [109, 111, 100, 117, 108, 101]).toList == [109, 111, 100, 117, 108, 101]) = true := by rw [tx_toList]; rfl
        have hwc : wr.cell? ⟨gw, 0, none⟩ = some (.string (tx path)) := hws.cell rfl 0 (by decide)
        have hgw : gw < wr.heap.size := (hws.lt gw rfl).2
        have hmx : wr.cell? ⟨0, 0, none⟩ = some (.int .i64 mx) := (hbw.cell (p := ⟨0, 0, none⟩) (by show 0 < w1.heap.size; have := HB1.out.size; omega)).trans ((HB1.out.cell (p := ⟨0, 0, none⟩) hw0).trans HMX.out)
        obtain ⟨M0, hM0⟩ : ∃ M0, M0 = tx [109, 111, 100, 117, 108, 101] := ⟨_, rfl⟩
        rw [← hM0] at c0 q1
        have hal : ∀ o : Obj, (wr.alloc o).cell? ⟨0, 0, none⟩ = some (.int .i64 mx) := fun o => (((Below.refl wr.heap.size wr).alloc (Nat.le_refl _) o).cell (p := ⟨0, 0, none⟩) (by show 0 < wr.heap.size; omega)).trans hmx
        have HPC := Lib.hid (mpath_any path (wr.alloc (.cells #[.string M0, .slice (some ⟨gw, 0, none⟩) 1 cw, .int .i64 ((1 : Nat) : Int)] 35)) (by omega) mx (hal _))
        rw [HPT.out] at HPC
        have hrow := heap_alloc_same wr (.cells #[.string M0, .slice (some ⟨gw, 0, none⟩) 1 cw, .int .i64 ((1 : Nat) : Int)] 35)
        have hwc2 : ∀ o : Obj, (wr.alloc o).cell? ⟨gw, 0, none⟩ = some (.string (tx path)) := fun o => (((Below.refl wr.heap.size wr).alloc (Nat.le_refl _) o).cell (p := ⟨gw, 0, none⟩) (by show gw < wr.heap.size; omega)).trans hwc
        have HRO := Lib.hid hrow
        have HWC := Lib.hid hwc2
        have HBW := Lib.hid hbw
        have HGW := Lib.hid hgw
        clear hM0 hln hws hmx hal hrow hwc2 hbw
        generalize tx path = PT at *
        go_wp2_with fail
        refine HPC.out.mono ?_
        rintro e w2 ⟨rfl, hb2⟩
        have hrow2 := below_heap hb2 HRO.out (lt_of_block HRO.out)
        obtain ⟨d0, d1, d2, f0, f1, f2⟩ := rows3 hrow2
        have hwc3 : w2.cell? ⟨gw, 0, none⟩ = some (.string PT) := (hb2.cell (p := ⟨gw, 0, none⟩) (by show gw < _; rw [World.size_alloc]; have := HGW.out; omega)).trans (HWC.out _)
        have HB2 := Lib.hid (below_next (HBW.out.alloc HBW.out.size _) hb2 (HBW.out.alloc HBW.out.size _).size)
        obtain ⟨B8, hB8⟩ : ∃ B8, B8 = wr.heap.size := ⟨_, rfl⟩
        rw [← hB8] at d0 d1 d2 f0 f1 f2 ⊢
        clear hb2 hrow2 hB8
        go_wp2
        go_roundw
        case rel => exact ⟨1, by omega, rfl, rfl, rfl, HB2.out⟩
        case measure => first | (simp [intOf]; done) | (simp [intOf]; omega)
      | succ k =>
        have hv : k < vs.length := by rw [wantL_len] at hk'; omega
        rw [wantL_succ path vs k hk' hv] at hln2
        obtain ⟨c0, c1, c2, hws⟩ := hln2
        dsimp only [List.length_cons, List.length_nil] at c0 c1 c2 hws
        have q1 : ((tx [114, 101, 113, 117, 105, 114, 101]).toList == [109, 111, 100, 117, 108, 101]) = false := by rw [tx_toList]; rfl
        obtain ⟨M0, hM0⟩ : ∃ M0, M0 = tx [114, 101, 113, 117, 105, 114, 101] := ⟨_, rfl⟩
        rw [← hM0] at c0 q1
        have HBW := Lib.hid (hbw.alloc hbw.size (.cells #[.string M0, .slice (some ⟨gw, 0, none⟩) 2 cw, .int .i64 ((3 + k : Nat) : Int)] 35))
        obtain ⟨kk, hkk⟩ : ∃ kk, kk = k + 1 := ⟨_, rfl⟩
        rw [← hkk] at c0 c1 c2 hkn hk ⊢
        have hk0 : ¬ kk = 0 := by omega
        have HKK := Lib.hid hk0
        rw [if_neg hk0, show decide (kk ≠ 0) = true from decide_eq_true hk0]
        clear hM0 hln hws hbw hkk hk'
        go_wp2
        go_roundw
        case rel => exact ⟨kk + 1, by omega, by go_num, rfl, by simp, HBW.out⟩
        case measure => first | (simp [intOf]; done) | (simp [intOf]; omega)
    · have hkn2 : k = n := by omega
      have hk0 : ¬ k = 0 := by have := wantL_len path vs; have := HN.out; omega
      rw [if_neg hk0, show decide (k ≠ 0) = true from decide_eq_true hk0]
      have HBW := Lib.hid hbw
      clear hbw hkn2
      go_wp2
      go_returns
      exact ⟨rfl, HB1.out.trans (HBW.out.mono HB1.out.size)⟩
end Go.Proofs.YtgojmckfabhkaaaDoor.Sem
