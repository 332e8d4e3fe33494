/- THE WALK of Make's flush: the plain bytes go out in pieces. Conditions: the two variables lie in blocks of the call's own. -/
import Derived.Test.YtilfdeboeohnbaaDeltaSized
import Derived.Test.YtilfdeboeohnbaaDeltaMap
import Derived.Deep.RegionHeld3
namespace Go.Proofs.Ytilfdeboeohnbaa
open Go.RowKit Delta
set_option linter.unusedVariables false

/-- A variable of the call's own, of one slice of bytes. -/
def sl1 (w : World) (b : Nat) (v : Value) : Prop := w.heap[b]? = some (.cells #[v] 44 (0, 0))
theorem sl1.cell {w : World} {b : Nat} {v : Value} (h : sl1 w b v) : w.cell? ⟨b, 0, none⟩ = some v ∧ w.frozen? ⟨b, 0, none⟩ = false := ⟨(cell_at h 0).trans rfl, free_at h 0⟩
theorem sl1.gb {w w' : World} {b : Nat} {v : Value} {r : Option Nat} (h : sl1 w b v) (hg : w.grownBy w' r) (hr : some b ≠ r) : sl1 w' b v := gb_heap hg h hr
theorem sl1.set_ {w : World} {b : Nat} {v : Value} (h : sl1 w b v) (y : Value) : sl1 (w.setCell ⟨b, 0, none⟩ y) b y := heap_set h 0 _
theorem sl1.off {w : World} {b : Nat} {v : Value} (h : sl1 w b v) (c : Nat) (hp : b ≠ c) (u : Value) : sl1 (w.setCell ⟨c, 0, none⟩ u) b v := (Below.heap_setCell w _ u b hp).trans h

/-- Where a new slice lies: in the old one's row, or behind all blocks that there were. -/
def Loc (w : World) (v v' : Value) : Prop := v'.ownBlock = v.ownBlock ∨ ∃ k, v'.ownBlock = some k ∧ w.heap.size ≤ k

/-- The state of Make: the two variables, what they hold, the map. -/
structure MkSt (w : World) (B P O M N : Nat) (pv ov : Value) (pl L : List UInt8) : Prop where
  cp : sl1 w P pv
  co : sl1 w O ov
  q : ownsQ w B pv pl
  o : ownsB w B ov L
  dis : pv.ownBlock = none ∨ pv.ownBlock ≠ ov.ownBlock
  m : places w M N
  ne : P ≠ O
  hP : B ≤ P
  hO : B ≤ O
  hB : B ≤ w.heap.size

theorem types_ne : 5 ≠ 44 := by decide

section
variable {w w' : World} {B P O M N : Nat} {pv ov v' : Value} {pl L news : List UInt8}
theorem MkSt.P_ne_o (h : MkSt w B P O M N pv ov pl L) : some P ≠ ov.ownBlock := fun e => by
  obtain ⟨cur, hc⟩ := h.o.heap e.symm
  have := h.cp
  unfold sl1 at this
  rw [this] at hc
  injection hc with hc
  injection hc with _ hc
  exact types_ne hc.symm
theorem MkSt.O_ne_o (h : MkSt w B P O M N pv ov pl L) : some O ≠ ov.ownBlock := fun e => by
  obtain ⟨cur, hc⟩ := h.o.heap e.symm
  have := h.co
  unfold sl1 at this
  rw [this] at hc
  injection hc with hc
  injection hc with _ hc
  exact types_ne hc.symm
theorem MkSt.P_ne_q (h : MkSt w B P O M N pv ov pl L) : some P ≠ pv.ownBlock := fun e => by
  obtain ⟨cur, hc⟩ := h.q.heap e.symm
  have := h.cp
  unfold sl1 at this
  rw [this] at hc
  injection hc with hc
  injection hc with _ hc
  exact types_ne hc.symm
theorem MkSt.O_ne_q (h : MkSt w B P O M N pv ov pl L) : some O ≠ pv.ownBlock := fun e => by
  obtain ⟨cur, hc⟩ := h.q.heap e.symm
  have := h.co
  unfold sl1 at this
  rw [this] at hc
  injection hc with hc
  injection hc with _ hc
  exact types_ne hc.symm
theorem MkSt.M_ne_o (h : MkSt w B P O M N pv ov pl L) : some M ≠ ov.ownBlock := fun e => by
  obtain ⟨cur, hc⟩ := h.o.heap e.symm
  obtain ⟨es, clock, h1, _⟩ := h.m
  rw [h1] at hc
  injection hc with hc
  cases hc
theorem MkSt.M_ne_q (h : MkSt w B P O M N pv ov pl L) : some M ≠ pv.ownBlock := fun e => by
  obtain ⟨cur, hc⟩ := h.q.heap e.symm
  obtain ⟨es, clock, h1, _⟩ := h.m
  rw [h1] at hc
  injection hc with hc
  cases hc
theorem MkSt.M_ne (h : MkSt w B P O M N pv ov pl L) : M ≠ P ∧ M ≠ O := by
  obtain ⟨es, clock, h1, _⟩ := h.m
  refine ⟨fun e => ?_, fun e => ?_⟩
  · have := h.cp
    unfold sl1 at this
    rw [← e, h1] at this
    injection this with this
    cases this
  · have := h.co
    unfold sl1 at this
    rw [← e, h1] at this
    injection this with this
    cases this
theorem MkSt.drewN (h : MkSt w B P O M N pv ov pl L) (n : Nat) : MkSt (w.drewN n) B P O M N pv ov pl L := ⟨h.cp, h.co, h.q, h.o, h.dis, h.m, h.ne, h.hP, h.hO, h.hB⟩
theorem MkSt.drew (h : MkSt w B P O M N pv ov pl L) : MkSt w.drew B P O M N pv ov pl L := ⟨h.cp, h.co, h.q, h.o, h.dis, h.m, h.ne, h.hP, h.hO, h.hB⟩
/-- What is done elsewhere. -/
theorem MkSt.gb (h : MkSt w B P O M N pv ov pl L) (hg : w.grownBy w' none) : MkSt w' B P O M N pv ov pl L :=
  ⟨h.cp.gb hg (by simp), h.co.gb hg (by simp), h.q.kept hg (by cases pv.ownBlock <;> simp), h.o.kept hg (by cases ov.ownBlock <;> simp), h.dis, h.m.gb hg (by simp), h.ne, h.hP, h.hO, Nat.le_trans h.hB hg.size⟩
theorem MkSt.alloc (h : MkSt w B P O M N pv ov pl L) (o : Obj) : MkSt (w.alloc o) B P O M N pv ov pl L := h.gb (gb_alloc (gb_refl _ _) o)
/-- The out slice has grown and is laid back. -/
theorem MkSt.put_o (h : MkSt w B P O M N pv ov pl L) (hg : w.grownBy w' ov.ownBlock) (ho : ownsB w' B v' (L ++ news)) (hl : Loc w ov v') : MkSt (w'.setCell ⟨O, 0, none⟩ v') B P O M N pv v' pl (L ++ news) := by
  have cp := h.cp.gb hg h.P_ne_o
  have co := h.co.gb hg h.O_ne_o
  have q := h.q.kept hg h.dis
  have m := h.m.gb hg h.M_ne_o
  have hs : w'.grownBy (w'.setCell ⟨O, 0, none⟩ v') (some O) := gb_set (gb_refl _ _) _ _
  have hne : v'.ownBlock ≠ some O := fun e => by
    obtain ⟨cur, hc⟩ := ho.heap e
    unfold sl1 at co
    rw [co] at hc
    injection hc with hc
    injection hc with _ hc
    exact types_ne hc.symm
  refine ⟨cp.off O h.ne _, co.set_ _, q.kept hs (.inr (fun e => h.O_ne_q e.symm)), ho.kept hs (.inr hne), ?_, m.gb hs (fun e => h.M_ne.2 (by injection e)), h.ne, h.hP, h.hO, Nat.le_trans h.hB (Nat.le_trans hg.size hs.size)⟩
  rcases hl with hl | ⟨k, hk, hks⟩
  · rw [hl]; exact h.dis
  · rw [hk]
    cases hp : pv.ownBlock with
    | none => exact .inl rfl
    | some j => exact .inr (fun e => by have := (h.q.lt j hp).2; injection e with e; omega)
/-- The plain slice has grown and is laid back. -/
theorem MkSt.put_q (h : MkSt w B P O M N pv ov pl L) (hg : w.grownBy w' pv.ownBlock) {pl' : List UInt8} (ho : ownsQ w' B v' pl') (hl : Loc w pv v') : MkSt (w'.setCell ⟨P, 0, none⟩ v') B P O M N v' ov pl' L := by
  have cp := h.cp.gb hg h.P_ne_q
  have co := h.co.gb hg h.O_ne_q
  have o := h.o.kept hg (by rcases h.dis with e | e; · rw [e]; cases ov.ownBlock <;> simp
                            · exact .inr (Ne.symm e))
  have m := h.m.gb hg h.M_ne_q
  have hs : w'.grownBy (w'.setCell ⟨P, 0, none⟩ v') (some P) := gb_set (gb_refl _ _) _ _
  have hne : v'.ownBlock ≠ some P := fun e => by
    obtain ⟨cur, hc⟩ := ho.heap e
    unfold sl1 at cp
    rw [cp] at hc
    injection hc with hc
    injection hc with _ hc
    exact types_ne hc.symm
  refine ⟨cp.set_ _, co.off P (Ne.symm h.ne) _, ho.kept hs (.inr hne), o.kept hs (.inr (fun e => h.P_ne_o e.symm)), ?_, m.gb hs (fun e => h.M_ne.1 (by injection e)), h.ne, h.hP, h.hO, Nat.le_trans h.hB (Nat.le_trans hg.size hs.size)⟩
  rcases hl with hl | ⟨k, hk, hks⟩
  · rw [hl]; exact h.dis
  · rw [hk]
    refine .inr (fun e => ?_)
    have := (h.o.lt k e.symm).2
    omega
end

theorem Loc.trans {w w1 : World} {v v1 v2 : Value} (hs : w.heap.size ≤ w1.heap.size) (h1 : Loc w v v1) (h2 : Loc w1 v1 v2) : Loc w v v2 := by
  rcases h2 with e | ⟨k, e, hk⟩
  · rcases h1 with e1 | ⟨k, e1, hk⟩
    · exact .inl (e.trans e1)
    · exact .inr ⟨k, e.trans e1, hk⟩
  · exact .inr ⟨k, e, by omega⟩
theorem gb_two {w w1 w2 : World} {v v1 : Value} (g1 : w.grownBy w1 v.ownBlock) (l1 : Loc w v v1) (g2 : w1.grownBy w2 v1.ownBlock) : w.grownBy w2 v.ownBlock :=
  ⟨g2.os.trans g1.os, g2.tape.trans g1.tape, g2.output.trans g1.output, Nat.le_trans g1.size g2.size, fun k hk hr => (g2.block k (Nat.lt_of_lt_of_le hk g1.size) (fun e => by
    rcases l1 with e1 | ⟨j, e1, hj⟩
    · exact hr (e.trans e1)
    · rw [e1] at e; injection e with e; omega)).trans (g1.block k hk hr)⟩
theorem loc_w {w : World} {o : Obj} {v v' : Value} (h : Loc ((w.alloc o).drew) v v') : Loc w v v' := by
  rcases h with e | ⟨k, e, hk⟩
  · exact .inl e
  · refine .inr ⟨k, e, ?_⟩
    have : (w.alloc o).drew.heap.size = w.heap.size + 1 := World.size_alloc w o
    omega
theorem loc_of {w : World} {v v' : Value} (h : v'.ownBlock = v.ownBlock ∨ v'.ownBlock = some w.heap.size) : Loc w v v' := h.imp id (fun e => ⟨_, e, Nat.le_refl _⟩)

/-- An append as one step of a region that draws its order, with the place of the new slice. -/
theorem step_append_at {ops : Array Oper} {o : Oper} {a : Act} {w : World} {K : Act → World → Prop} {Q : Exit → Act → World → Prop} {E : Prop}
    (hgd : o.guard = none) (s x : Operand) (ho : o.op = Op.call { callee := Callee.builtin Builtin.append, args := #[s, x], argTypes := #[44, 44] })
    (B : Nat) (v : Value) (l news : List UInt8) (hs : a.eval s = v) (hown : ownsB w B v l)
    (ad : Addr) (m c : Nat) (hm : news.length = m) (hx : a.eval x = .slice (some ad) m c) (hnews : ∀ j u, (news.map bv)[j]? = some u → w.cell? (ad.add j) = some u)
    (hlen : l.length + news.length ≤ 140737488355328) (hB : B ≤ w.heap.size)
    (hK : ∀ v' w', ownsB w' B v' (l ++ news) → w.grownBy w' v.ownBlock → Loc w v v' → K (a.put o.dst v') w') :
    if Region.wanted o (yielded ops a.tmps) = true then Oper.wp Try.prog o a w K Q else E := by
  subst hm
  have hw : Region.wanted o (yielded ops a.tmps) = true := by simp [Region.wanted, hgd]
  rw [if_pos hw]
  obtain ⟨v', w', hrun, hown', hg, hl⟩ := run_append_bytes w o.type B v l news hown ad c hnews hlen hB
  have h := hK v' w' hown' hg (loc_of hl)
  unfold Oper.wp
  simp [execOp, ho, resolve, invoke, builtin, hs, hx, hrun, Result.andThen]
  exact h

theorem step_append_q {ops : Array Oper} {o : Oper} {a : Act} {w : World} {K : Act → World → Prop} {Q : Exit → Act → World → Prop} {E : Prop}
    (hgd : o.guard = none) (s x : Operand) (ho : o.op = Op.call { callee := Callee.builtin Builtin.append, args := #[s, x], argTypes := #[44, 44] })
    (B : Nat) (v : Value) (l news : List UInt8) (hs : a.eval s = v) (hown : ownsQ w B v l)
    (ad : Addr) (m c : Nat) (hm : news.length = m) (h0 : 0 < m) (hx : a.eval x = .slice (some ad) m c) (hnews : ∀ j u, (news.map bv)[j]? = some u → w.cell? (ad.add j) = some u)
    (hlen : l.length + news.length ≤ 140737488355328) (hB : B ≤ w.heap.size)
    (hK : ∀ v' w', ownsQ w' B v' (l ++ news) → w.grownBy w' v.ownBlock → Loc w v v' → K (a.put o.dst v') w') :
    if Region.wanted o (yielded ops a.tmps) = true then Oper.wp Try.prog o a w K Q else E := by
  subst hm
  have hw : Region.wanted o (yielded ops a.tmps) = true := by simp [Region.wanted, hgd]
  rw [if_pos hw]
  obtain ⟨v', w', hrun, hown', hg, hl⟩ := run_append_q w o.type B v l news hown ad c hnews h0 hlen hB
  have h := hK v' w' hown' hg (loc_of hl)
  unfold Oper.wp
  simp [execOp, ho, resolve, invoke, builtin, hs, hx, hrun, Result.andThen]
  exact h

theorem take_news (l : List UInt8) (n : Nat) : ∀ (j : Nat) (u : Value), ((l.take n).map bv)[j]? = some u → (l.map bv)[j]? = some u := by
  intro j u h
  rw [List.map_take, List.getElem?_take] at h
  split at h
  · exact h
  · cases h

def plen (w : World) (P : Nat) : Nat := match w.cell? ⟨P, 0, none⟩ with | some (.slice _ n _) => n | _ => 0

theorem plen_of {w : World} {P n c : Nat} {A : Option Addr} (h : sl1 w P (.slice A n c)) : plen w P = n := by unfold plen; rw [h.cell.1]

/-- How flush ends. -/
def FlushEnd (w : World) (B P O M N : Nat) (L pl : List UInt8) (e : Ending) (w' : World) : Prop :=
  e = .returned (.tuple #[]) ∧ (∃ pv' ov', MkSt w' B P O M N pv' ov' [] (L ++ chunks pl)) ∧ Below B w w'

set_option maxRecDepth 100000 in
set_option maxHeartbeats 8000000 in
theorem flush_any (P O M N B : Nat) (pv ov : Value) (pl L : List UInt8) (w : World) (h : MkSt w B P O M N pv ov pl L) (hp : pl.length ≤ 1000000) (hL : L.length ≤ 1000000000) :
    Calls Try.prog 22 #[.pointer (some ⟨P, 0, none⟩), .pointer (some ⟨O, 0, none⟩)] w (FlushEnd w B P O M N L pl) := by
  obtain ⟨T, hT⟩ : ∃ T, T = L ++ chunks pl := ⟨_, rfl⟩
  have HT := Lib.hid hT
  have HH := Lib.hid h
  clear hT h
  go_enter Try.func22, Try.ntmps22
  go_wp2_with fail
  go_loopw [2] (fun _ wr => ∃ (pv ov : Value) (pl L : List UInt8), MkSt wr B P O M N pv ov pl L ∧ T = L ++ chunks pl ∧ pl.length ≤ 1000000 ∧ L.length + pl.length + pl.length ≤ 1002000000 ∧ Below B w wr) (fun _ wr => plen wr P)
  case atStart => exact ⟨pv, ov, pl, L, HH.out, HT.out, hp, by omega, Below.refl _ _⟩
  case round =>
    obtain ⟨pv2, ov2, pl2, L2, hst, ht, hp2, hl, hb⟩ := hrel
    obtain ⟨A, cap, hpv, hc1, hc2⟩ := hst.q.shape
    subst hpv
    obtain ⟨kp, fp⟩ := hst.cp.cell
    obtain ⟨ko, fo⟩ := hst.co.cell
    have HST := Lib.hid hst
    have HT2 := Lib.hid ht
    have HB := Lib.hid hb
    clear ht hb HH
    by_cases h0 : pl2.length = 0
    · have hpl : pl2 = [] := List.eq_nil_of_length_eq_zero h0
      subst hpl
      have hTe : T = L2 ++ chunks [] := HT2.out
      rw [chunks_nil, List.append_nil] at hTe
      have HTE := Lib.hid hTe
      clear hTe HT2
      go_wp2
      refine bodyPost_end (results_none rfl _ _ _) rfl ?_
      have hfin := HST.out
      rw [← HTE.out, HT.out] at hfin
      exact ⟨rfl, ⟨_, _, hfin⟩, HB.out⟩
    · obtain ⟨g, off, hA⟩ : ∃ g off, A = some ⟨g, off, none⟩ := by
        rcases hst.q with ⟨e, e2⟩ | ⟨g, off, cap', cur, e, _⟩
        · exact absurd (by rw [e2]; rfl) h0
        · injection e with e; exact ⟨g, off, e⟩
      subst hA
      have hcells := ownsQ_cells hst.q
      by_cases hle : pl2.length ≤ 127
      · have hnl : pl2.length ≤ pl2.length ∧ pl2.length ≤ 127 ∧ 0 < pl2.length := by omega
        have hnc : pl2.length ≤ cap := by omega
        have hpos : (0 : Int) < (pl2.length : Int) := by omega
        have hc0 : ¬ cap = 0 := by omega
        have hc00 : ¬ (cap : Int) = 0 := by omega
        have hnI : (0 : Int) ≤ (pl2.length : Int) := by omega
        have hncI : (pl2.length : Int) ≤ (cap : Int) := by omega
        obtain ⟨C, hC⟩ : ∃ C : UInt8, C = UInt8.ofNat (pl2.length) := ⟨_, rfl⟩
        have hcv : (C.toNat : Int) = (pl2.length : Int) := by rw [hC, UInt8.toNat_ofNat']; omega
        have hwr : IntKind.u8.wrap (pl2.length : Int) = (pl2.length : Int) := by
          simp [IntKind.wrap, IntKind.bits, IntKind.signed]
          omega
        have htl : (pl2.take (pl2.length)).length = pl2.length := by rw [List.length_take]; omega
        have hnc1 := new_cells wr [C] 5
        have hmc : ([C].map bv).toArray = #[.int .u8 (pl2.length : Int)] := by show #[Value.int .u8 (C.toNat : Int)] = _; rw [hcv]
        rw [hmc] at hnc1
        have HNC := Lib.hid hnc1
        have HS : RowKit.Hid (∀ w', wr.grownBy w' ov2.ownBlock → (w'.cell? ⟨P, 0, none⟩ = some (.slice (some ⟨g, off, none⟩) pl2.length cap) ∧ w'.cell? ⟨O, 0, none⟩ = some ov2 ∧ w'.frozen? ⟨O, 0, none⟩ = false)) :=
          Lib.hid (fun w' hg => ⟨(hst.cp.gb hg hst.P_ne_o).cell.1, (hst.co.gb hg hst.O_ne_o).cell.1, (hst.co.gb hg hst.O_ne_o).cell.2⟩)
        obtain ⟨d1, d2, d3⟩ := HS.out _ (gb_alloc (gb_refl wr _) (.cells #[.int .u8 (pl2.length : Int)] 5))
        have hlen1 : L2.length + [C].length ≤ 140737488355328 := by simp; omega
        have hlen2 : (L2 ++ [C]).length + (pl2.take (pl2.length)).length ≤ 140737488355328 := by rw [htl, List.length_append]; simp; omega
        have hB1 : B ≤ ((wr.alloc (.cells #[.int .u8 (pl2.length : Int)] 5)).drew).heap.size := by have := HST.out.hB; show B ≤ (wr.alloc (.cells #[.int .u8 (pl2.length : Int)] 5)).heap.size; rw [World.size_alloc]; omega
        have HCV := Lib.hid hcv
        have HCC := Lib.hid hC
        have HTL := Lib.hid htl
        clear hst hcells hnc1 hmc hcv hC htl
        go_wp2_with fail
        go_region_law (first
            | (refine step_append_at (by rfl) (.tmp 9) (.tmp 12) (by rfl) B _ L2 [C] (by rfl) ((HST.out.o.alloc _).drew) ⟨wr.heap.size, 0, none⟩ 1 1 (by rfl) (by rfl) HNC.out hlen1 hB1 ?_
               intro v1 w1 hown1 hg1 hl1
               have G1 : wr.grownBy w1 ov2.ownBlock := gb_trans (gb_drew (gb_alloc (gb_refl _ _) _)) hg1
               obtain ⟨r1, r2, r3⟩ := HS.out _ G1)
            | (refine step_append_at (by rfl) (.tmp 13) (.tmp 16) (by rfl) B v1 (L2 ++ [C]) (pl2.take (pl2.length)) (by rfl) hown1 ⟨g, off, none⟩ (pl2.length) cap HTL.out (by rfl) (fun j u hj => ownsQ_cells (HST.out.q.kept G1 HST.out.dis) j u (take_news _ _ j u hj)) hlen2 (Nat.le_trans HST.out.hB G1.size) ?_
               intro v2 w2 hown2 hg2 hl2
               have G2 : wr.grownBy w2 ov2.ownBlock := gb_two G1 (loc_w hl1) hg2
               obtain ⟨A2, cp2, hv2, _, _⟩ := hown2.shape
               obtain ⟨m2, hm2⟩ : ∃ m2, m2 = ((L2 ++ [C]) ++ pl2.take (pl2.length)).length := ⟨_, rfl⟩
               rw [← hm2] at hv2
               subst hv2
               have HM2 := Lib.hid hm2
               clear hm2
               obtain ⟨s1, s2, s3⟩ := HS.out _ G2))
        all_goals
          have hown3 : ownsB w2 B (.slice A2 m2 cp2) (L2 ++ ([C] ++ pl2.take (pl2.length))) := by rw [← List.append_assoc]; exact hown2
          have st := HST.out.put_o G2 hown3 (Loc.trans G1.size (loc_w hl1) hl2)
          have hb3 : Below B w (w2.setCell ⟨O, 0, none⟩ (.slice A2 m2 cp2)) := (HB.out.grown G2 HST.out.hB (fun k hk => (HST.out.o.lt k hk).1)).setCell HST.out.hO _
          have ST := Lib.hid st
          have HB3 := Lib.hid hb3
          obtain ⟨x1, x2⟩ := st.cp.cell
          obtain ⟨x3, x4⟩ := st.co.cell
          clear st hb3 hown3 d1 d2 d3 r1 r2 r3 s1 s2 s3 kp fp ko fo
          generalize w2.setCell ⟨O, 0, none⟩ (.slice A2 m2 cp2) = W at ST HB3 x1 x2 x3 x4 ⊢
          go_wp2
          have hq0 := ownsQ.cut ST.out.q (pl2.length) (by omega)
          have hq : ownsQ W B (.slice (if cap = pl2.length then some ⟨g, off, none⟩ else some ⟨g, off + pl2.length, none⟩) (0) (cap - pl2.length)) (pl2.drop (pl2.length)) := by simpa [addr_off] using hq0
          have hloc : Loc W (.slice (some ⟨g, off, none⟩) pl2.length cap) (.slice (if cap = pl2.length then some ⟨g, off, none⟩ else some ⟨g, off + pl2.length, none⟩) (0) (cap - pl2.length)) := by refine .inl ?_; split <;> rfl
          have st2 := ST.out.put_q (gb_refl W _) hq hloc
          have hmn : min pl2.length 127 = pl2.length := by omega
          have ht3 := chunks_step pl2 h0
          rw [hmn, ← HCC.out] at ht3
          have hpl1 := plen_of st2.cp
          have hpl2 := plen_of HST.out.cp
          have htl := HTL.out
          refine ⟨⟨_, _, _, _, st2, ?_, ?_, ?_, HB3.out.setCell HST.out.hP _⟩, ?_⟩
          · rw [HT2.out, ht3]; simp
          · rw [List.length_drop]; omega
          · rw [List.length_append, List.length_append, List.length_drop, htl]; simp; omega
          · rw [hpl1, hpl2]; omega
      · have hnl : 127 ≤ pl2.length ∧ 127 ≤ 127 ∧ 0 < 127 := by omega
        have hnc : 127 ≤ cap := by omega
        have hpos : (0 : Int) < (pl2.length : Int) := by omega
        have hc0 : ¬ cap = 0 := by omega
        have hc00 : ¬ (cap : Int) = 0 := by omega
        have hnI : (0 : Int) ≤ 127 := by omega
        have hncI : 127 ≤ (cap : Int) := by omega
        obtain ⟨C, hC⟩ : ∃ C : UInt8, C = UInt8.ofNat (127) := ⟨_, rfl⟩
        have hcv : (C.toNat : Int) = 127 := by rw [hC, UInt8.toNat_ofNat']; omega
        have hwr : IntKind.u8.wrap 127 = 127 := by
          simp [IntKind.wrap, IntKind.bits, IntKind.signed]
        have htl : (pl2.take (127)).length = 127 := by rw [List.length_take]; omega
        have hnc1 := new_cells wr [C] 5
        have hmc : ([C].map bv).toArray = #[.int .u8 127] := by show #[Value.int .u8 (C.toNat : Int)] = _; rw [hcv]
        rw [hmc] at hnc1
        have HNC := Lib.hid hnc1
        have HS : RowKit.Hid (∀ w', wr.grownBy w' ov2.ownBlock → (w'.cell? ⟨P, 0, none⟩ = some (.slice (some ⟨g, off, none⟩) pl2.length cap) ∧ w'.cell? ⟨O, 0, none⟩ = some ov2 ∧ w'.frozen? ⟨O, 0, none⟩ = false)) :=
          Lib.hid (fun w' hg => ⟨(hst.cp.gb hg hst.P_ne_o).cell.1, (hst.co.gb hg hst.O_ne_o).cell.1, (hst.co.gb hg hst.O_ne_o).cell.2⟩)
        obtain ⟨d1, d2, d3⟩ := HS.out _ (gb_alloc (gb_refl wr _) (.cells #[.int .u8 127] 5))
        have hlen1 : L2.length + [C].length ≤ 140737488355328 := by simp; omega
        have hlen2 : (L2 ++ [C]).length + (pl2.take (127)).length ≤ 140737488355328 := by rw [htl, List.length_append]; simp; omega
        have hB1 : B ≤ ((wr.alloc (.cells #[.int .u8 127] 5)).drew).heap.size := by have := HST.out.hB; show B ≤ (wr.alloc (.cells #[.int .u8 127] 5)).heap.size; rw [World.size_alloc]; omega
        have HCV := Lib.hid hcv
        have HCC := Lib.hid hC
        have HTL := Lib.hid htl
        clear hst hcells hnc1 hmc hcv hC htl
        go_wp2_with fail
        go_region_law (first
            | (refine step_append_at (by rfl) (.tmp 9) (.tmp 12) (by rfl) B _ L2 [C] (by rfl) ((HST.out.o.alloc _).drew) ⟨wr.heap.size, 0, none⟩ 1 1 (by rfl) (by rfl) HNC.out hlen1 hB1 ?_
               intro v1 w1 hown1 hg1 hl1
               have G1 : wr.grownBy w1 ov2.ownBlock := gb_trans (gb_drew (gb_alloc (gb_refl _ _) _)) hg1
               obtain ⟨r1, r2, r3⟩ := HS.out _ G1)
            | (refine step_append_at (by rfl) (.tmp 13) (.tmp 16) (by rfl) B v1 (L2 ++ [C]) (pl2.take (127)) (by rfl) hown1 ⟨g, off, none⟩ (127) cap HTL.out (by rfl) (fun j u hj => ownsQ_cells (HST.out.q.kept G1 HST.out.dis) j u (take_news _ _ j u hj)) hlen2 (Nat.le_trans HST.out.hB G1.size) ?_
               intro v2 w2 hown2 hg2 hl2
               have G2 : wr.grownBy w2 ov2.ownBlock := gb_two G1 (loc_w hl1) hg2
               obtain ⟨A2, cp2, hv2, _, _⟩ := hown2.shape
               obtain ⟨m2, hm2⟩ : ∃ m2, m2 = ((L2 ++ [C]) ++ pl2.take (127)).length := ⟨_, rfl⟩
               rw [← hm2] at hv2
               subst hv2
               have HM2 := Lib.hid hm2
               clear hm2
               obtain ⟨s1, s2, s3⟩ := HS.out _ G2))
        all_goals
          have hown3 : ownsB w2 B (.slice A2 m2 cp2) (L2 ++ ([C] ++ pl2.take (127))) := by rw [← List.append_assoc]; exact hown2
          have st := HST.out.put_o G2 hown3 (Loc.trans G1.size (loc_w hl1) hl2)
          have hb3 : Below B w (w2.setCell ⟨O, 0, none⟩ (.slice A2 m2 cp2)) := (HB.out.grown G2 HST.out.hB (fun k hk => (HST.out.o.lt k hk).1)).setCell HST.out.hO _
          have ST := Lib.hid st
          have HB3 := Lib.hid hb3
          obtain ⟨x1, x2⟩ := st.cp.cell
          obtain ⟨x3, x4⟩ := st.co.cell
          clear st hb3 hown3 d1 d2 d3 r1 r2 r3 s1 s2 s3 kp fp ko fo
          generalize w2.setCell ⟨O, 0, none⟩ (.slice A2 m2 cp2) = W at ST HB3 x1 x2 x3 x4 ⊢
          go_wp2
          have hq0 := ownsQ.cut ST.out.q (127) (by omega)
          have hq : ownsQ W B (.slice (if cap = 127 then some ⟨g, off, none⟩ else some ⟨g, off + 127, none⟩) (pl2.length - 127) (cap - 127)) (pl2.drop (127)) := by simpa [addr_off] using hq0
          have hloc : Loc W (.slice (some ⟨g, off, none⟩) pl2.length cap) (.slice (if cap = 127 then some ⟨g, off, none⟩ else some ⟨g, off + 127, none⟩) (pl2.length - 127) (cap - 127)) := by refine .inl ?_; split <;> rfl
          have st2 := ST.out.put_q (gb_refl W _) hq hloc
          rw [if_neg (show ¬ cap = 127 by omega)] at st2
          have hmn : min pl2.length 127 = 127 := by omega
          have ht3 := chunks_step pl2 h0
          rw [hmn, ← HCC.out] at ht3
          have hpl1 := plen_of st2.cp
          have hpl2 := plen_of HST.out.cp
          have htl := HTL.out
          refine ⟨⟨_, _, _, _, st2, ?_, ?_, ?_, HB3.out.setCell HST.out.hP _⟩, ?_⟩
          · rw [HT2.out, ht3]; simp
          · rw [List.length_drop]; omega
          · rw [List.length_append, List.length_append, List.length_drop, htl]; simp; omega
          · rw [hpl1, hpl2]; omega
end Go.Proofs.Ytilfdeboeohnbaa
