/- A STREAM THAT IS BEING READ, AS WHAT LIES IN MEMORY; the walk of put. Conditions: the numbers. -/
import Derived.Test.YtncdaohjjhcaaaaFrMath
import Derived.Test.YtncdaohjjhcaaaaCodRead
namespace Go.Proofs.Ytncdaohjjhcaaaa
open Go.RowKit Sums
set_option linter.unusedVariables false

/-- Of the blocks that stand below B, and of those that are no rows of e, nothing has turned, but of b and c. -/
structure Ks (e : TypeId) (b c B : Nat) (w w' : World) : Prop where
  os : w'.os = w.os
  tape : w'.tape = w.tape
  output : w'.output = w.output
  size : w.heap.size ≤ w'.heap.size
  block : ∀ k, k < w.heap.size → k ≠ b → k ≠ c → (k < B ∨ ¬ isT w e k) → w'.heap[k]? = w.heap[k]?
theorem ks_refl (e : TypeId) (b c B : Nat) (w : World) : Ks e b c B w w := ⟨rfl, rfl, rfl, Nat.le_refl _, fun _ _ _ _ _ => rfl⟩
theorem ks_trans {e : TypeId} {b c B : Nat} {w w1 w2 : World} (h : Ks e b c B w w1) (k : Ks e b c B w1 w2) : Ks e b c B w w2 :=
  ⟨k.os.trans h.os, k.tape.trans h.tape, k.output.trans h.output, Nat.le_trans h.size k.size, fun i hi hb hc hr => by
    have h1 := h.block i hi hb hc hr
    refine (k.block i (Nat.lt_of_lt_of_le hi h.size) hb hc (hr.imp id (fun hn ht => hn ?_))).trans h1
    obtain ⟨cur, f, ht⟩ := ht
    exact ⟨cur, f, h1.symm.trans ht⟩⟩
theorem ks_kt {e : TypeId} {b c B : Nat} {w w1 : World} (h : Kt e b B w w1) : Ks e b c B w w1 := ⟨h.os, h.tape, h.output, h.size, fun k hk hb _ hr => h.block k hk hb hr⟩
theorem ks_gb {e : TypeId} {b c B : Nat} {w w1 : World} (h : w.grownBy w1 (some c)) : Ks e b c B w w1 := ⟨h.os, h.tape, h.output, h.size, fun k hk _ hc _ => h.block k hk (fun e => hc (Option.some.inj e))⟩
theorem ks_heap {e : TypeId} {b c B k : Nat} {w w' : World} {o : Obj} (h : Ks e b c B w w') (hk : w.heap[k]? = some o) (hb : k ≠ b) (hc : k ≠ c) (ho : ∀ cur f, o ≠ .cells cur e f) : w'.heap[k]? = some o :=
  (h.block k (lt_of_block hk) hb hc (.inr (fun ⟨cur, f, ht⟩ => ho cur f (by rw [hk] at ht; exact Option.some.inj ht)))).trans hk
theorem ks_to_below {e : TypeId} {b c B : Nat} {w w' : World} (h : Ks e b c B w w') (hb : B ≤ b) (hc : B ≤ c) (hs : B ≤ w.heap.size) : Below B w w' :=
  ⟨h.os, h.tape, h.output, h.size, fun i hi => h.block i (by omega) (by omega) (by omega) (.inl hi)⟩
theorem ks_row {e e2 : TypeId} {b c B B2 size n : Nat} {v : Value} {xs : List Value} {w w' : World} (h : Ks e b c B w w') (hr : w.ownsRow B2 e2 size v n xs) (he : e2 ≠ e) (hb : v.ownBlock ≠ some b) (hc : v.ownBlock ≠ some c) : w'.ownsRow B2 e2 size v n xs := by
  refine ⟨hr.1, ?_⟩
  rcases hr.2 with h0 | ⟨g, cap, cur, rfl, hB, hg, rest⟩
  · exact .inl h0
  · exact .inr ⟨g, cap, cur, rfl, hB, ks_heap h hg (fun e => hb (by rw [e]; rfl)) (fun e => hc (by rw [e]; rfl)) (fun c f e => by injection e with _ e _; exact he e), rest⟩

/-- The stream's state: its reader's block, what came out. -/
structure XAt (w : World) (b br B : Nat) (txt : ByteArray) (p : Nat) (fr : Int) (o : List UInt8) (most : Nat) (ov : Value) : Prop where
  cell : w.heap[b]? = some (.cells #[.pointer (some ⟨br, 0, none⟩), ov, .int .i64 (most : Int)] 67 (0, 0))
  own : ownsB w B ov o
  rd : RAt w br txt p fr
theorem XAt.ne {w : World} {b br B p most : Nat} {txt : ByteArray} {fr : Int} {o : List UInt8} {ov : Value} (h : XAt w b br B txt p fr o most ov) : b ≠ br := fun e => by
  obtain ⟨c, f, hc⟩ := h.rd.block
  have h1 := h.cell
  rw [e, hc] at h1
  injection h1 with h1
  injection h1 with _ h1 _
  exact absurd h1 (by decide)
theorem tat_ks {w w' : World} {b br B B2 bt p most : Nat} {txt : ByteArray} {fr : Int} {o : List UInt8} {ov : Value} {L : List Int} {LV SV : Value} (h : TAt w bt B2 L LV SV) (hx : XAt w b br B txt p fr o most ov) (hk : Ks 5 b br B w w') : TAt w' bt B2 L LV SV := by
  obtain ⟨c, f, hc⟩ := hx.rd.block
  have h1 : bt ≠ b := fun e => by
    have h1 := h.cell
    rw [e, hx.cell] at h1
    injection h1 with h1
    injection h1 with _ h1 _
    exact absurd h1 (by decide)
  have h2 : bt ≠ br := fun e => by
    have h1 := h.cell
    rw [e, hc] at h1
    injection h1 with h1
    injection h1 with _ h1 _
    exact absurd h1 (by decide)
  exact ⟨ks_heap hk h.cell h1 h2 (fun cur f e => by injection e with _ e _; exact absurd e (by decide)), ks_row hk h.len (by decide) (row_ne h.len hx.cell (by decide)) (row_ne h.len hc (by decide)), ks_row hk h.srt (by decide) (row_ne h.srt hx.cell (by decide)) (row_ne h.srt hc (by decide))⟩
/-- Behind a step of the reader. -/
theorem XAt.read {w w' : World} {b br B p p' most : Nat} {txt : ByteArray} {fr : Int} {o : List UInt8} {ov : Value} (h : XAt w b br B txt p fr o most ov) (hr : RAt w' br txt p' fr) (hg : w.grownBy w' (some br)) : XAt w' b br B txt p' fr o most ov := by
  obtain ⟨c, f, hc⟩ := h.rd.block
  exact ⟨gb_heap hg h.cell (fun e => h.ne (Option.some.inj e)), h.own.kept hg (.inr (row_ne h.own hc (by decide))), hr⟩

set_option maxRecDepth 100000 in
set_option maxHeartbeats 1000000 in
theorem put_any (b br B p most : Nat) (c : UInt8) (txt : ByteArray) (fr : Int) (o : List UInt8) (ov : Value) (w : World) (h : XAt w b br B txt p fr o most ov) (hB : B ≤ w.heap.size) (hm : o.length < most) (hm2 : most ≤ 1000000) :
    Calls Try.prog 43 #[.pointer (some ⟨b, 0, none⟩), .int .u8 (c.toNat : Int)] w fun e w' => e = .returned (.int .i64 0) ∧ (∃ ov', XAt w' b br B txt p fr (o ++ [c]) most ov') ∧ Ks 5 b br B w w' := by
  obtain ⟨A1, m1, p1, hov⟩ := row_shape h.own
  have hm1 : m1 = o.length := by
    have h2 := h.own
    rw [hov] at h2
    rcases h2.2 with ⟨e, e2⟩ | ⟨g, c, cur, e, _⟩
    · cases e; omega
    · cases e; rfl
  have HX := Lib.hid h
  have HOV := Lib.hid hov
  have c1 := cell_at h.cell 1
  have c2 := cell_at h.cell 2
  simp only [List.getElem?_toArray, List.getElem?_cons_zero, List.getElem?_cons_succ] at c1 c2
  rw [hov, hm1] at c1
  have hne : ((o.length : Int) == (most : Int)) = false := by rw [beq_eq_false_iff_ne]; omega
  clear h hov
  go_enter Try.func43, Try.ntmps43
  go_wp2_with fail
  go_quiet (fail)
  clear c1 c2
  have hcell : (w.drewN nq).heap[b]? = some (.cells #[.pointer (some ⟨br, 0, none⟩), ov, .int .i64 (most : Int)] 67 (0, 0)) := HX.out.cell
  have hown : ownsB (w.drewN nq) B ov o := HX.out.own
  have hsz : (w.drewN nq).heap.size = w.heap.size := rfl
  have HK0 := Lib.hid (kt_drewN (kt_refl 5 b B w) nq)
  have HRD := Lib.hid (show RAt (w.drewN nq) br txt p fr from by
    obtain ⟨a, hv, hr⟩ := HX.out.rd
    exact ⟨a, hv, rin_drewN hr nq⟩)
  generalize w.drewN nq = W at hcell hown hsz HK0 HRD ⊢
  have hB1 : B ≤ W.heap.size := by omega
  have c1 := cell_at hcell 1
  simp only [List.getElem?_toArray, List.getElem?_cons_zero, List.getElem?_cons_succ] at c1
  have HCELL := Lib.hid hcell
  have HOWN := Lib.hid hown
  have hlen : o.length + 1 ≤ 140737488355328 := by omega
  clear hcell hown hsz
  go_wp2_with (at_builtin; refine append_bytes _ rfl (.tmp 19) (.tmp 21) rfl B ov o [c] rfl (HOWN.out.alloc _) ⟨W.heap.size, 0, none⟩ 1 rfl (new_cells W _ _) hlen (by simp; omega) ?_; intro v2 w2 hown2 hg2; obtain ⟨A2, m2, p2, rfl⟩ := row_shape hown2; have hc2 := gb_heap hg2 (heap_alloc_keep HCELL.out _) (fun e => row_ne HOWN.out HCELL.out (by decide) e.symm); have r1 := cell_at hc2 1; simp only [List.getElem?_toArray, List.getElem?_cons_zero, List.getElem?_cons_succ] at r1; have s1 := free_at hc2 1)
  have hs1 := heap_set hc2 1 (.slice A2 m2 p2)
  simp only [List.setIfInBounds_toArray, List.set_cons_zero, List.set_cons_succ] at hs1
  have ho3 : ownsB (w2.setCell ⟨b, 1, none⟩ (.slice A2 m2 p2)) B (.slice A2 m2 p2) (o ++ [c]) := hown2.kept (row := some b) (gb_set (gb_refl w2 _) 1 _) (.inr (row_ne hown2 hc2 (by decide)))
  have k3 : Kt 5 b B w (w2.setCell ⟨b, 1, none⟩ (.slice A2 m2 p2)) := kt_set (kt_gb (kt_alloc HK0.out (.cells #[.int .u8 (c.toNat : Int)] 5)) (HOWN.out.alloc _) hg2) 1 _
  have hr3 : RAt (w2.setCell ⟨b, 1, none⟩ (.slice A2 m2 p2)) br txt p fr := by
    obtain ⟨cc, ff, hbr⟩ := HRD.out.block
    have h1 : RAt (W.alloc (.cells #[.int .u8 (c.toNat : Int)] 5)) br txt p fr := rat_gb HRD.out (gb_alloc (gb_refl W none) _) (by simp)
    have h2 := rat_gb h1 hg2 (fun e => row_ne HOWN.out hbr (by decide) e.symm)
    exact rat_gb h2 (gb_set (gb_refl w2 (some b)) 1 _) (fun e => HX.out.ne (Option.some.inj e).symm)
  go_ret
  exact ⟨rfl, ⟨_, hs1, ho3, hr3⟩, ks_kt k3⟩
end Go.Proofs.Ytncdaohjjhcaaaa
