/- THE WALK of modfile.line at the lines that the row's text has: none, a bracket, a verb and a bracket, two words inside a block, a verb and a word. Conditions: the tokens lie in a row. -/
import Derived.Test.YtgojmckfabhkaaaDoorReqNext
import Derived.Test.YtgojmckfabhkaaaDoorReqPseudo
import Derived.Test.YtgojmckfabhkaaaDoorStrs
namespace Go.Proofs.YtgojmckfabhkaaaDoor.Sem
open Go Go.RowKit
set_option linter.unusedVariables false

/-- The tokens lie at the address. -/
def TokAt (w : World) (g o : Nat) (t : Tk) : Prop := w.cell? ⟨g, o, none⟩ = some (.int .i64 (t.kind : Int)) ∧ w.cell? ⟨g, o + 1, none⟩ = some (.string (tx t.txt)) ∧ w.cell? ⟨g, o + 2, none⟩ = some (.int .i64 (t.at_ : Int))
/-- What 'line' answers. -/
def LineP (r : LineR) (w : World) (e : Ending) (w' : World) : Prop :=
  Below w.heap.size w w' ∧ match r with
  | .nothing | .shut => e = .returned (.tuple #[.agg #[.string ⟨#[]⟩, .slice none 0 0, .int .i64 0], .string ⟨#[]⟩, .bool true])
  | .opens v => e = .returned (.tuple #[.agg #[.string ⟨#[]⟩, .slice none 0 0, .int .i64 0], .string (tx v), .bool true])
  | .dir verb ws => ∃ g cap, w.heap.size ≤ g ∧ g < w'.heap.size ∧ e = .returned (.tuple #[.agg #[.string (tx verb), .slice (some ⟨g, 0, none⟩) ws.length cap, .int .i64 0], .string ⟨#[]⟩, .bool true]) ∧ ownsS w' w.heap.size (.slice (some ⟨g, 0, none⟩) ws.length cap) (ws.map tx)
theorem line_leaf {w W6 : World} {v0 v1 v2 s : Value} {R : Ending → World → Prop} (hr : W6.heap[w.heap.size]? = some (.cells #[v0, v1, v2] 35 (0, 0))) (hR : R (.returned (.tuple #[.agg #[v0, v1, v2], s, .bool true])) W6)
    (t : Array Value) (h2 : t.getD 6 undef = .pointer (some ⟨w.heap.size, 0, none⟩)) (h3 : t.getD 7 undef = s) (h4 : t.getD 8 undef = .bool true) :
    bodyPost Tryd.prog Tryd.f21 (fun e w' => R e w') Exit.ret { tmps := t, defers := [] } W6 := by
  obtain ⟨c0, c1, c2, -⟩ := rows3 hr
  have h2' : t[6]?.getD undef = .pointer (some ⟨w.heap.size, 0, none⟩) := by rw [← Array.getD_eq_getD_getElem?]; exact h2
  have h3' : t[7]?.getD undef = s := by rw [← Array.getD_eq_getD_getElem?]; exact h3
  have h4' : t[8]?.getD undef = .bool true := by rw [← Array.getD_eq_getD_getElem?]; exact h4
  exact bodyPost_ret (v := .tuple #[.agg #[v0, v1, v2], s, .bool true]) (by simp [results, Tryd.results21, go_sem, c0, c1, c2, h2', h3', h4']) rfl hR

set_option maxRecDepth 100000 in
set_option maxHeartbeats 1600000 in
theorem line_nothing (V : ByteArray) (b : Bool) (w : World) : Calls Tryd.prog 21 #[.slice none 0 0, .string V, .bool b] w (fun e w' => LineP .nothing w e w') := by
  cases b
  all_goals
    go_enter Tryd.func21, Tryd.ntmps21
    go_wp2
    exact line_leaf (R := LineP .nothing w) (s := .string ⟨#[]⟩) (heap_alloc_same w _) ⟨(Below.refl _ w).alloc (Nat.le_refl _) _, rfl⟩ _ rfl rfl rfl

set_option maxRecDepth 100000 in
set_option maxHeartbeats 1600000 in
theorem line_shut (V : ByteArray) (t : List UInt8) (a g cap : Nat) (w : World) (h : TokAt w g 0 ⟨2, t, a⟩) (hg : g < w.heap.size) (hc : 1 ≤ cap) : Calls Tryd.prog 21 #[.slice (some ⟨g, 0, none⟩) 1 cap, .string V, .bool true] w (fun e w' => LineP .shut w e w') := by
  obtain ⟨k0, k1, k2⟩ := h
  dsimp only at k0 k1 k2
  go_enter Tryd.func21, Tryd.ntmps21
  go_wp2
  exact line_leaf (R := LineP .shut w) (s := .string ⟨#[]⟩) (heap_alloc_same w _) ⟨(Below.refl _ w).alloc (Nat.le_refl _) _, rfl⟩ _ rfl rfl rfl

set_option maxRecDepth 100000 in
set_option maxHeartbeats 1600000 in
theorem line_opens (V : ByteArray) (x y : List UInt8) (a b g cap : Nat) (w : World) (h : TokAt w g 0 ⟨0, x, a⟩) (h2 : TokAt w g 3 ⟨1, y, b⟩) (hg : g < w.heap.size) (hc : 2 ≤ cap) (hx : x ≠ []) : Calls Tryd.prog 21 #[.slice (some ⟨g, 0, none⟩) 2 cap, .string V, .bool false] w (fun e w' => LineP (.opens x) w e w') := by
  obtain ⟨k0, k1, k2⟩ := h
  obtain ⟨k3, k4, k5⟩ := h2
  dsimp only at k0 k1 k2 k3 k4 k5
  have q1 : (tx x).toList.isEmpty = false := by rw [tx_toList]; exact emp hx
  obtain ⟨X, hX⟩ : ∃ X, X = tx x := ⟨_, rfl⟩
  have HX := Lib.hid hX
  rw [← hX] at k1 q1
  clear hX
  go_enter Tryd.func21, Tryd.ntmps21
  go_wp2
  go_region
  go_wp2
  exact line_leaf (R := LineP (.opens x) w) (s := .string X) (heap_drew (heap_alloc_keep (heap_alloc_same w _) _)) ⟨(((Below.refl _ w).alloc (Nat.le_refl _) _).alloc ((Below.refl _ w).alloc (Nat.le_refl _) _).size _).drew, by have e9 := HX.out; subst e9; rfl⟩ _ rfl rfl rfl

theorem ownsS_mono {w : World} {B B2 : Nat} {v : Value} {l : List ByteArray} (h : ownsS w B v l) (hB : B2 ≤ B) : ownsS w B2 v l := by
  refine ⟨h.1, ?_⟩
  rcases h.2 with h0 | ⟨g, cap, cur, h1, h2, h3⟩
  · exact Or.inl h0
  · exact Or.inr ⟨g, cap, cur, h1, Nat.le_trans hB h2, h3⟩
theorem new_strs2 (W : World) (o : Obj) (l : List ByteArray) (t : TypeId) : ∀ j u, (l.map sv)[j]? = some u → ((W.alloc o).alloc (.cells (l.map sv).toArray t)).cell? ((⟨W.heap.size + 1, 0, none⟩ : Addr).add j) = some u := by
  have h := new_strs (W.alloc o) l t
  rwa [World.size_alloc] at h
/-- The loop's state: k words are taken. -/
structure LI (w W : World) (verb : ByteArray) (ws : List ByteArray) (k : Nat) : Prop where
  below : Below w.heap.size w W
  res : W.heap[w.heap.size]? = some (.cells #[.string ⟨#[]⟩, .slice none 0 0, .int .i64 0] 35 (0, 0))
  row : ∃ wv, W.heap[w.heap.size + 1]? = some (.cells #[.string verb, wv, .int .i64 0] 35 (0, 0)) ∧ ownsS W (w.heap.size + 2) wv (ws.take k)
theorem LI.next {w W2 w' : World} {verb : ByteArray} {ws : List ByteArray} {k g cap n : Nat} {wv : Value} (hb : Below w.heap.size w W2) (hres : W2.heap[w.heap.size]? = some (.cells #[.string ⟨#[]⟩, .slice none 0 0, .int .i64 0] 35 (0, 0)))
    (hrow : W2.heap[w.heap.size + 1]? = some (.cells #[.string verb, wv, .int .i64 0] 35 (0, 0))) (hown : ownsS W2 (w.heap.size + 2) wv (ws.take k)) (hg : W2.grownBy w' wv.ownBlock)
    (hown' : ownsS w' (w.heap.size + 2) (.slice (some ⟨g, 0, none⟩) n cap) (ws.take (k + 1))) (hgB : w.heap.size + 2 ≤ g) : LI w (w'.setCell ⟨w.heap.size + 1, 1, none⟩ (.slice (some ⟨g, 0, none⟩) n cap)) verb ws (k + 1) := by
  have hlt := hown.lt
  have hne : ∀ b, b < w.heap.size + 2 → some b ≠ wv.ownBlock := fun b hb e => by have := (hlt b e.symm).1; omega
  refine ⟨(hb.grown hg hb.size (fun b e => by have := (hlt b e).1; omega)).setCell (p := ⟨w.heap.size + 1, 1, none⟩) (by show w.heap.size ≤ w.heap.size + 1; omega) _,
    (Below.heap_setCell _ _ _ _ (by show w.heap.size ≠ w.heap.size + 1; omega)).trans (gb_heap hg hres (hne _ (by omega))), .slice (some ⟨g, 0, none⟩) n cap, heap_set (gb_heap hg hrow (hne _ (by omega))) 1 _, ?_⟩
  exact hown'.kept (gb_set (gb_refl _ _) _ _) (Or.inr (by simp [Value.ownBlock]; omega))
theorem LI.fin {w W : World} {verb : List UInt8} {ws : List (List UInt8)} (hb : Below w.heap.size w W) (hres : W.heap[w.heap.size]? = some (.cells #[.string ⟨#[]⟩, .slice none 0 0, .int .i64 0] 35 (0, 0))) {g cap : Nat}
    (hown : ownsS W (w.heap.size + 2) (.slice (some ⟨g, 0, none⟩) ws.length cap) (ws.map tx)) (hgB : w.heap.size + 2 ≤ g) (hgl : g < W.heap.size) :
    LineP (.dir verb ws) w (.returned (.tuple #[.agg #[.string (tx verb), .slice (some ⟨g, 0, none⟩) ws.length cap, .int .i64 0], .string ⟨#[]⟩, .bool true])) (put3 W w.heap.size (.string (tx verb)) (.slice (some ⟨g, 0, none⟩) ws.length cap) (.int .i64 0)) := by
  refine ⟨put3_below hb (Nat.le_refl _) _ _ _, g, cap, by omega, by simpa [put3, World.setCell] using hgl, rfl, ?_⟩
  refine ownsS_mono (B := w.heap.size + 2) ?_ (by omega)
  exact hown.kept (gb_set (gb_set (gb_set (gb_refl _ (some w.heap.size)) _ _) _ _) _ _) (Or.inr (by simp [Value.ownBlock]; omega))
theorem LI.alloc {w W : World} {verb : ByteArray} {ws : List ByteArray} {k : Nat} (h : LI w W verb ws k) (o : Obj) : LI w (W.alloc o) verb ws k := by
  obtain ⟨wv, h1, h2⟩ := h.row
  exact ⟨h.below.alloc h.below.size _, heap_alloc_keep h.res _, wv, heap_alloc_keep h1 _, h2.alloc _⟩
theorem below_tok {w W : World} {g o : Nat} {t : Tk} (h : TokAt w g o t) (hb : Below w.heap.size w W) (hg : g < w.heap.size) : TokAt W g o t :=
  ⟨(hb.cell (p := ⟨g, o, none⟩) hg).trans h.1, (hb.cell (p := ⟨g, o + 1, none⟩) hg).trans h.2.1, (hb.cell (p := ⟨g, o + 2, none⟩) hg).trans h.2.2⟩


set_option maxRecDepth 100000 in
set_option maxHeartbeats 3000000 in
theorem line_inside (vb x y : List UInt8) (a b g cap : Nat) (w : World) (h : TokAt w g 0 ⟨0, x, a⟩) (h2 : TokAt w g 3 ⟨0, y, b⟩) (hg : g < w.heap.size) (hc : 2 ≤ cap) : Calls Tryd.prog 21 #[.slice (some ⟨g, 0, none⟩) 2 cap, .string (tx vb), .bool true] w (fun e w' => LineP (.dir vb [x, y]) w e w') := by
  have HT0 := Lib.hid h
  have HT1 := Lib.hid h2
  have HG := Lib.hid hg
  obtain ⟨k0, k1, k2⟩ := h
  obtain ⟨k3, k4, k5⟩ := h2
  dsimp only at k0 k1 k2 k3 k4 k5
  obtain ⟨X, hX⟩ : ∃ X, X = tx x := ⟨_, rfl⟩
  obtain ⟨Y, hY⟩ : ∃ Y, Y = tx y := ⟨_, rfl⟩
  obtain ⟨V, hV⟩ : ∃ V, V = tx vb := ⟨_, rfl⟩
  rw [← hV]
  have HX := Lib.hid hX
  have HY := Lib.hid hY
  have HV := Lib.hid hV
  rw [← hX] at k1
  rw [← hY] at k4
  obtain ⟨WS, hWS⟩ : ∃ WS, WS = [X, Y] := ⟨_, rfl⟩
  have HWS := Lib.hid hWS
  have hw2 : WS.length ≤ 2 := by rw [hWS]; simp
  have HW0 : Hid (WS.take 0 ++ [X] = WS.take 1) := Lib.hid (by rw [hWS]; rfl)
  have HL0 : Hid ((WS.take 1).length = 1) := Lib.hid (by rw [hWS]; rfl)
  have HW1 : Hid (WS.take 1 ++ [Y] = WS.take 2) := Lib.hid (by rw [hWS]; rfl)
  have HL1 : Hid ((WS.take 2).length = 2) := Lib.hid (by rw [hWS]; rfl)
  clear hX hY hV hWS
  go_enter Tryd.func21, Tryd.ntmps21
  go_wp2
  go_loopw [72] (fun iv W => ∃ k : Nat, k ≤ 2 ∧ iv = .int .i64 (k : Int) ∧ LI w W V WS k) (fun iv _ => 2 - (intOf iv).toNat)
  case atStart => exact ⟨0, by omega, rfl, ⟨((Below.refl _ w).alloc (Nat.le_refl _) _).alloc ((Below.refl _ w).alloc (Nat.le_refl _) _).size _, heap_alloc_keep (heap_alloc_same w _) _, _, heap_alloc_two w _ _, ownsS_nil _ _⟩⟩
  case round =>
    obtain ⟨k, hk, rfl, hli⟩ := hrel
    clear k0 k1 k2 k3 k4 k5
    have hcs : k = 0 ∨ k = 1 ∨ k = 2 := by omega
    rcases hcs with rfl | rfl | rfl
    · have ht := below_tok HT0.out (hli.below) HG.out
      obtain ⟨m0, m1, m2⟩ := ht
      dsimp only at m0 m1 m2
      rw [← HX.out] at m1
      obtain ⟨wv, hrow, hown⟩ := hli.row
      obtain ⟨r0, r1, r2, g0, g1, g2⟩ := rows3 hrow
      have hlt1 := lt_of_block hrow
      have hgW : g < wr.heap.size := Nat.lt_of_lt_of_le HG.out hli.below.size
      have HLI := Lib.hid hli
      have HOW := Lib.hid hown
      have HRW := Lib.hid hrow
      clear hli hrow hown
      have hBs : w.heap.size + 2 ≤ ((wr.alloc (.cells #[.int .i64 0, .string X, .int .i64 (a : Int)] 57)).alloc (.cells #[.string X] 9)).heap.size := by rw [World.size_alloc, World.size_alloc]; omega
      have hlen : ((WS).take 0).length + [X].length ≤ 8796093022208 := by rw [List.length_take]; first | (simp; done) | (simp; omega)
      go_wp2_with (at_builtin; go_loud (refine append_strs _ rfl (.tmp 81) (.tmp 84) rfl (w.heap.size + 2) _ _ [X] rfl ((HOW.out.alloc _).alloc _) ⟨wr.heap.size + 1, 0, none⟩ 1 rfl (new_strs2 wr _ [X] _) hlen hBs ?_); go_loud (intro v' w' hown' hg'; rw [HW0.out] at hown'; obtain ⟨g', cap', hv', hgB, hgl⟩ := hown'.form (by rw [HL0.out]; omega); rw [HL0.out] at hv'; subst hv'; have hrw := gb_heap hg' (heap_alloc_keep (heap_alloc_keep HRW.out _) _) (fun e => by have := (HOW.out.lt _ e.symm).1; omega); obtain ⟨s0, s1, s2, u0, u1, u2⟩ := rows3 hrw))
      go_roundw
      case rel => exact ⟨1, by omega, by go_num, LI.next (HLI.out.alloc _ |>.alloc _).below (HLI.out.alloc _ |>.alloc _).res (heap_alloc_keep (heap_alloc_keep HRW.out _) _) ((HOW.out.alloc _).alloc _) hg' hown' hgB⟩
      case measure => first | (simp [intOf]; done) | (simp [intOf]; omega)
    · have ht := below_tok HT1.out (hli.below) HG.out
      obtain ⟨m0, m1, m2⟩ := ht
      dsimp only at m0 m1 m2
      rw [← HY.out] at m1
      obtain ⟨wv, hrow, hown⟩ := hli.row
      obtain ⟨r0, r1, r2, g0, g1, g2⟩ := rows3 hrow
      have hlt1 := lt_of_block hrow
      have hgW : g < wr.heap.size := Nat.lt_of_lt_of_le HG.out hli.below.size
      have HLI := Lib.hid hli
      have HOW := Lib.hid hown
      have HRW := Lib.hid hrow
      clear hli hrow hown
      have hBs : w.heap.size + 2 ≤ ((wr.alloc (.cells #[.int .i64 0, .string Y, .int .i64 (b : Int)] 57)).alloc (.cells #[.string Y] 9)).heap.size := by rw [World.size_alloc, World.size_alloc]; omega
      have hlen : ((WS).take 1).length + [Y].length ≤ 8796093022208 := by rw [List.length_take]; first | (simp; done) | (simp; omega)
      go_wp2_with (at_builtin; go_loud (refine append_strs _ rfl (.tmp 81) (.tmp 84) rfl (w.heap.size + 2) _ _ [Y] rfl ((HOW.out.alloc _).alloc _) ⟨wr.heap.size + 1, 0, none⟩ 1 rfl (new_strs2 wr _ [Y] _) hlen hBs ?_); go_loud (intro v' w' hown' hg'; rw [HW1.out] at hown'; obtain ⟨g', cap', hv', hgB, hgl⟩ := hown'.form (by rw [HL1.out]; omega); rw [HL1.out] at hv'; subst hv'; have hrw := gb_heap hg' (heap_alloc_keep (heap_alloc_keep HRW.out _) _) (fun e => by have := (HOW.out.lt _ e.symm).1; omega); obtain ⟨s0, s1, s2, u0, u1, u2⟩ := rows3 hrw))
      go_roundw
      case rel => exact ⟨2, by omega, by go_num, LI.next (HLI.out.alloc _ |>.alloc _).below (HLI.out.alloc _ |>.alloc _).res (heap_alloc_keep (heap_alloc_keep HRW.out _) _) ((HOW.out.alloc _).alloc _) hg' hown' hgB⟩
      case measure => first | (simp [intOf]; done) | (simp [intOf]; omega)
    · obtain ⟨wv, hrow, hown⟩ := hli.row
      rw [show WS.take 2 = WS from by rw [HWS.out]; rfl] at hown
      obtain ⟨g', cap', hv', hgB, hgl⟩ := hown.form (by rw [HWS.out]; simp)
      subst hv'
      rw [show WS.length = 2 from by rw [HWS.out]; rfl] at hown hrow
      obtain ⟨r0, r1, r2, g0, g1, g2⟩ := rows3 hrow
      obtain ⟨y0, y1, y2, z0, z1, z2⟩ := rows3 hli.res
      have HLI := Lib.hid hli
      have HOW := Lib.hid hown
      have hne1 : ¬ w.heap.size = w.heap.size + 1 := by omega
      clear hli hown hrow
      go_wp2
      have h9 := LI.fin (verb := vb) (ws := [x, y]) HLI.out.below HLI.out.res (g := g') (cap := cap') (by have h8 := HOW.out; rw [HWS.out, HX.out, HY.out] at h8; exact h8) hgB hgl
      rw [← HV.out] at h9
      exact line_leaf (R := LineP (.dir vb [x, y]) w) (s := .string ⟨#[]⟩) (put3_row HLI.out.res _ _ _) h9 _ rfl rfl rfl


set_option maxRecDepth 100000 in
set_option maxHeartbeats 3000000 in
theorem line_alone (vb x y : List UInt8) (a b g cap : Nat) (w : World) (h : TokAt w g 0 ⟨0, x, a⟩) (h2 : TokAt w g 3 ⟨0, y, b⟩) (hg : g < w.heap.size) (hc : 2 ≤ cap) (hx : x ≠ []) : Calls Tryd.prog 21 #[.slice (some ⟨g, 0, none⟩) 2 cap, .string (tx vb), .bool false] w (fun e w' => LineP (.dir x [y]) w e w') := by
  have HT0 := Lib.hid h
  have HT1 := Lib.hid h2
  have HG := Lib.hid hg
  obtain ⟨k0, k1, k2⟩ := h
  obtain ⟨k3, k4, k5⟩ := h2
  dsimp only at k0 k1 k2 k3 k4 k5
  have q1 : (tx x).toList.isEmpty = false := by rw [tx_toList]; exact emp hx
  obtain ⟨X, hX⟩ : ∃ X, X = tx x := ⟨_, rfl⟩
  obtain ⟨Y, hY⟩ : ∃ Y, Y = tx y := ⟨_, rfl⟩
  obtain ⟨V, hV⟩ : ∃ V, V = tx vb := ⟨_, rfl⟩
  rw [← hV]
  have HX := Lib.hid hX
  have HY := Lib.hid hY
  have HV := Lib.hid hV
  rw [← hX] at k1 q1
  rw [← hY] at k4
  obtain ⟨WS, hWS⟩ : ∃ WS, WS = [Y] := ⟨_, rfl⟩
  have HWS := Lib.hid hWS
  have hw2 : WS.length ≤ 2 := by rw [hWS]; simp
  have HW0 : Hid (WS.take 0 ++ [Y] = WS.take 1) := Lib.hid (by rw [hWS]; rfl)
  have HL0 : Hid ((WS.take 1).length = 1) := Lib.hid (by rw [hWS]; rfl)
  clear hX hY hV hWS
  go_enter Tryd.func21, Tryd.ntmps21
  go_wp2
  go_region
  go_wp2
  go_loopw [72] (fun iv W => ∃ k : Nat, k ≤ 1 ∧ iv = .int .i64 (k : Int) ∧ LI w W X WS k) (fun iv _ => 1 - (intOf iv).toNat)
  case atStart => exact ⟨0, by omega, rfl, ⟨((((Below.refl _ w).alloc (Nat.le_refl _) _).alloc ((Below.refl _ w).alloc (Nat.le_refl _) _).size _).drew), heap_drew (heap_alloc_keep (heap_alloc_same w _) _), _, heap_drew (heap_alloc_two w _ _), ownsS_nil _ _⟩⟩
  case round =>
    obtain ⟨k, hk, rfl, hli⟩ := hrel
    clear k0 k1 k2 k3 k4 k5
    have hcs : k = 0 ∨ k = 1 := by omega
    rcases hcs with rfl | rfl
    · have ht := below_tok HT1.out (hli.below) HG.out
      obtain ⟨m0, m1, m2⟩ := ht
      dsimp only at m0 m1 m2
      rw [← HY.out] at m1
      obtain ⟨wv, hrow, hown⟩ := hli.row
      obtain ⟨r0, r1, r2, g0, g1, g2⟩ := rows3 hrow
      have hlt1 := lt_of_block hrow
      have hgW : g < wr.heap.size := Nat.lt_of_lt_of_le HG.out hli.below.size
      have HLI := Lib.hid hli
      have HOW := Lib.hid hown
      have HRW := Lib.hid hrow
      clear hli hrow hown
      have hBs : w.heap.size + 2 ≤ ((wr.alloc (.cells #[.int .i64 0, .string Y, .int .i64 (b : Int)] 57)).alloc (.cells #[.string Y] 9)).heap.size := by rw [World.size_alloc, World.size_alloc]; omega
      have hlen : ((WS).take 0).length + [Y].length ≤ 8796093022208 := by rw [List.length_take]; first | (simp; done) | (simp; omega)
      go_wp2_with (at_builtin; go_loud (refine append_strs _ rfl (.tmp 81) (.tmp 84) rfl (w.heap.size + 2) _ _ [Y] rfl ((HOW.out.alloc _).alloc _) ⟨wr.heap.size + 1, 0, none⟩ 1 rfl (new_strs2 wr _ [Y] _) hlen hBs ?_); go_loud (intro v' w' hown' hg'; rw [HW0.out] at hown'; obtain ⟨g', cap', hv', hgB, hgl⟩ := hown'.form (by rw [HL0.out]; omega); rw [HL0.out] at hv'; subst hv'; have hrw := gb_heap hg' (heap_alloc_keep (heap_alloc_keep HRW.out _) _) (fun e => by have := (HOW.out.lt _ e.symm).1; omega); obtain ⟨s0, s1, s2, u0, u1, u2⟩ := rows3 hrw))
      go_roundw
      case rel => exact ⟨1, by omega, by go_num, LI.next (HLI.out.alloc _ |>.alloc _).below (HLI.out.alloc _ |>.alloc _).res (heap_alloc_keep (heap_alloc_keep HRW.out _) _) ((HOW.out.alloc _).alloc _) hg' hown' hgB⟩
      case measure => first | (simp [intOf]; done) | (simp [intOf]; omega)
    · obtain ⟨wv, hrow, hown⟩ := hli.row
      rw [show WS.take 1 = WS from by rw [HWS.out]; rfl] at hown
      obtain ⟨g', cap', hv', hgB, hgl⟩ := hown.form (by rw [HWS.out]; simp)
      subst hv'
      rw [show WS.length = 1 from by rw [HWS.out]; rfl] at hown hrow
      obtain ⟨r0, r1, r2, g0, g1, g2⟩ := rows3 hrow
      obtain ⟨y0, y1, y2, z0, z1, z2⟩ := rows3 hli.res
      have HLI := Lib.hid hli
      have HOW := Lib.hid hown
      have hne1 : ¬ w.heap.size = w.heap.size + 1 := by omega
      clear hli hown hrow
      go_wp2
      have h9 := LI.fin (verb := x) (ws := [y]) HLI.out.below HLI.out.res (g := g') (cap := cap') (by have h8 := HOW.out; rw [HWS.out, HY.out] at h8; exact h8) hgB hgl
      rw [← HX.out] at h9
      exact line_leaf (R := LineP (.dir x [y]) w) (s := .string ⟨#[]⟩) (put3_row HLI.out.res _ _ _) h9 _ rfl rfl rfl

end Go.Proofs.YtgojmckfabhkaaaDoor.Sem
