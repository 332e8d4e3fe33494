/- THE WALK of Apply: what a delta makes of its base. -/
import Derived.Test.YtilfdeboeohnbaaDeltaAp0
import Derived.Test.YtilfdeboeohnbaaBytesStr
namespace Go.Proofs.Ytilfdeboeohnbaa
open Go.RowKit Delta
set_option linter.unusedVariables false

/-- A variable of the call's own, of one text. -/
def str1 (w : World) (b : Nat) (x : ByteArray) : Prop := w.heap[b]? = some (.cells #[.string x] 9 (0, 0))
theorem str1.cell {w : World} {b : Nat} {x : ByteArray} (h : str1 w b x) : w.cell? ⟨b, 0, none⟩ = some (.string x) ∧ w.frozen? ⟨b, 0, none⟩ = false := ⟨(cell_at h 0).trans rfl, free_at h 0⟩
theorem str1.gb {w w' : World} {b : Nat} {x : ByteArray} {r : Option Nat} (h : str1 w b x) (hg : w.grownBy w' r) (hr : some b ≠ r) : str1 w' b x := gb_heap hg h hr
theorem str1.set_ {w : World} {b : Nat} {x : ByteArray} (h : str1 w b x) (y : ByteArray) : str1 (w.setCell ⟨b, 0, none⟩ (.string y)) b y := heap_set h 0 _
theorem str1.off {w : World} {b : Nat} {x : ByteArray} (h : str1 w b x) (c : Nat) (hp : b ≠ c) (u : Value) : str1 (w.setCell ⟨c, 0, none⟩ u) b x := (Below.heap_setCell w _ u b hp).trans h
theorem str1.drew {w : World} {b : Nat} {x : ByteArray} (h : str1 w b x) : str1 w.drew b x := h
theorem str1.alloc {w : World} {b : Nat} {x : ByteArray} (h : str1 w b x) (o : Obj) : str1 (w.alloc o) b x := heap_alloc_keep h o
theorem num1.alloc {w : World} {b t : Nat} {x : Int} (h : num1 w b t x) (o : Obj) : num1 (w.alloc o) b t x := heap_alloc_keep h o

/-- The reader's place, read off its block. -/
def rdAt (w : World) (b : Nat) : Nat := match w.cell? ⟨b, 1, none⟩ with | some (.int _ a) => a.toNat | _ => 0
theorem rdAt_of {w : World} {b : Nat} {d : ByteArray} {l : List UInt8} (h : rdrL w b d l) : rdAt w b = d.size - l.length := by
  obtain ⟨a, ha, hr, hl⟩ := h
  have hlen := drop_len d a
  rw [hl] at hlen
  have hc := (rdr_cells hr).2.1
  simp only [rdAt, hc, Int.toNat_natCast]
  omega
theorem rdrL_at {w : World} {b : Nat} {d : ByteArray} {l : List UInt8} (h : rdrL w b d l) : ∃ a, a + l.length = d.size ∧ rdr w b d a ∧ d.data.toList.drop a = l := by
  obtain ⟨a, ha, hr, hl⟩ := h
  have hlen := drop_len d a
  rw [hl] at hlen
  exact ⟨a, by omega, hr, hl⟩
theorem own_ne {w : World} {R : Nat} {v : Value} {l : List UInt8} (h : ownsB w (R + 1) v l) : v.ownBlock = none ∨ v.ownBlock ≠ some R := by
  cases hv : v.ownBlock with
  | none => exact .inl rfl
  | some g => exact .inr fun e => by have := (h.lt g hv).1; injection e with e; omega
theorem own_off {w : World} {R : Nat} {v : Value} {l : List UInt8} (h : ownsB w (R + 1) v l) {k : Nat} (hk : k ≤ R) : some k ≠ v.ownBlock := by
  intro e
  have := (h.lt k e.symm).1
  omega

theorem ext_list (d : ByteArray) (a b : Nat) : (d.extract a b).data.toList = (d.data.toList.drop a).take (b - a) := by
  simp [ByteArray.data_extract, List.extract_eq_take_drop]

def applyV (r : List UInt8 × Nat) : Value := .tuple #[.string ⟨r.1.toArray⟩, .int .i64 (r.2 : Int)]

/-- Both results are laid: what the end reads. -/
theorem apply_end (w w1 : World) (B : Nat) (hb : Below B w w1) (x0 : ByteArray) (y1 : Int) (n0 : str1 w1 B x0) (n1 : num1 w1 (B + 1) 23 y1) (x : ByteArray) (y : Int) :
    ∃ W, W = (w1.setCell ⟨B, 0, none⟩ (.string x)).setCell ⟨B + 1, 0, none⟩ (.int .i64 y) ∧ W.cell? ⟨B, 0, none⟩ = some (.string x) ∧ W.cell? ⟨B + 1, 0, none⟩ = some (.int .i64 y) ∧ Below B w W :=
  ⟨_, rfl, ((n0.set_ x).off (B + 1) (by omega) _).cell.1, ((n1.off B (by omega) (.string x)).set_ y).cell.1, below_off (below_off hb B (Nat.le_refl _) _) (B + 1) (by omega) _⟩

set_option maxRecDepth 100000 in
set_option maxHeartbeats 8000000 in
theorem apply_any (base d : ByteArray) (most : Int) (w : World) (hbs : (base.size : Int) ≤ 1000000) (hd : (d.size : Int) ≤ 1000000) :
    Calls Try.prog 9 #[.string base, .string d, .int .i64 most] w fun e w' => e = .returned (applyV (applyS base.data.toList d.data.toList most)) ∧ Below w.heap.size w w' := by
  have hmf : ∀ (fn : Fn) (first cap : Array Value) (w : World), (Instr.makeFunc fn first cap).run Try.prog w = .ok (.func fn first cap) w := fun _ _ _ _ => rfl
  obtain ⟨fr, n, at_, er, hS⟩ : ∃ fr n at_ er, sizesS d.data.toList = (fr, n, at_, er) := ⟨_, _, _, _, rfl⟩
  have c1 : ∀ W, Calls Try.prog 11 #[.string d] W fun e w' => e = .returned (.tuple #[.int .i64 (fr : Int), .int .i64 (n : Int), .int .i64 (at_ : Int), .int .i64 (er : Int)]) ∧ Below W.heap.size W w' := by
    intro W
    have := sizes_any d W hd
    rw [hS] at this
    exact this
  have hA : applyS base.data.toList d.data.toList most = if er ≠ 0 then ([], er) else if fr ≠ base.size then ([], 4) else if most < (n : Int) then ([], 2) else ap base.data.toList n d.size (d.data.toList.drop at_) [] := by
    unfold applyS
    rw [hS]
    rfl
  obtain ⟨RES, hRES⟩ : ∃ RES, RES = applyS base.data.toList d.data.toList most := ⟨_, rfl⟩
  rw [← hRES] at hA ⊢
  clear hRES
  have C1 := Lib.hid c1
  have HA := Lib.hid hA
  have HS := Lib.hid hS
  clear c1 hA hS
  have b0 : str1 ((w.alloc (.cells #[.string ⟨#[]⟩] 9)).alloc (.cells #[.int .i64 0] 23)) w.heap.size ⟨#[]⟩ := heap_alloc_keep (heap_alloc_same w _) _
  have b1 : num1 ((w.alloc (.cells #[.string ⟨#[]⟩] 9)).alloc (.cells #[.int .i64 0] 23)) (w.heap.size + 1) 23 0 := heap_alloc_two w _ _
  have hbl : Below w.heap.size w ((w.alloc (.cells #[.string ⟨#[]⟩] 9)).alloc (.cells #[.int .i64 0] 23)) := ((Below.refl _ _).alloc (Nat.le_refl _) _).alloc (by simp) _
  have hsz : ((w.alloc (.cells #[.string ⟨#[]⟩] 9)).alloc (.cells #[.int .i64 0] 23)).heap.size = w.heap.size + 2 := by rw [World.size_alloc, World.size_alloc]
  have HB0 := Lib.hid b0
  have HB1 := Lib.hid b1
  have HBL := Lib.hid hbl
  have HSZ := Lib.hid hsz
  clear b0 b1 hbl hsz
  go_enter_defers Try.func9, Try.ntmps9
  go_wp2_with fail
  refine (C1.out _).mono ?_
  rintro e w1 ⟨rfl, hb1⟩
  rw [HSZ.out] at hb1
  have m0 : str1 w1 w.heap.size ⟨#[]⟩ := below_heap hb1 HB0.out (by omega)
  have m1 : num1 w1 (w.heap.size + 1) 23 0 := below_heap hb1 HB1.out (by omega)
  have hbw : Below w.heap.size w w1 := HBL.out.trans (hb1.mono (by omega))
  have hs1 : w.heap.size + 2 ≤ w1.heap.size := by have := hb1.size; rw [HSZ.out] at this; exact this
  clear hb1
  have m0' := m0.off (w.heap.size + 1) (by omega) (.int .i64 (er : Int))
  have m1' := m1.set_ (er : Int)
  have hbw' := below_off hbw (w.heap.size + 1) (by omega) (.int .i64 (er : Int))
  obtain ⟨p0, f0⟩ := m0.cell
  obtain ⟨p1, f1⟩ := m1.cell
  have M0 := Lib.hid m0'
  have M1 := Lib.hid m1'
  have HBW := Lib.hid hbw'
  clear m0 m1 hbw m0' m1' hbw'
  have hbd := sizesS_bounds d.data.toList
  rw [HS.out] at hbd
  obtain ⟨_, hn35, hat⟩ := hbd
  have hn35' : n < 34359738368 := hn35
  have hat' : at_ ≤ d.size := by rw [Array.length_toList] at hat; exact hat
  clear hn35 hat
  by_cases he0 : er = 0
  · have HE0 := Lib.hid he0
    have heq : ((er : Int) != 0) = false := by rw [bne_eq_false_iff_eq]; omega
    clear he0
    by_cases hfr : fr = base.size
    · have hfrb : ((fr : Int) != (base.size : Int)) = false := by rw [bne_eq_false_iff_eq]; omega
      have HFR := Lib.hid hfr
      clear hfr
      by_cases hmo : most < (n : Int)
      · obtain ⟨W, hW, k0, k1, hWb⟩ := apply_end w _ w.heap.size HBW.out _ _ M0.out M1.out ⟨#[]⟩ 2
        go_wp2
        rw [← hW]
        clear hW
        simp [bodyPostD, Leaves, settle, results, Try.results9, go_sem, k0, k1]
        refine ⟨?_, hWb⟩
        have e := HA.out
        rw [if_neg (by simp [HE0.out]), if_neg (by simp [HFR.out]), if_pos hmo] at e
        rw [e]; rfl
      · have hA2 : RES = ap base.data.toList n d.size (d.data.toList.drop at_) [] := by
          have e := HA.out
          rw [if_neg (by simp [HE0.out]), if_neg (by simp [HFR.out]), if_neg hmo] at e
          exact e
        have HRES := Lib.hid hA2
        have hx0 := M0.out.alloc (.cells #[.string d, .int .i64 (at_ : Int)] 43)
        have hx1 := M1.out.alloc (.cells #[.string d, .int .i64 (at_ : Int)] 43)
        have hxb := HBW.out.alloc HBW.out.size (.cells #[.string d, .int .i64 (at_ : Int)] 43)
        have hsame : (w1.setCell ⟨w.heap.size + 1, 0, none⟩ (.int .i64 (er : Int))).heap.size = w1.heap.size := by simp
        have hxr : rdr ((w1.setCell ⟨w.heap.size + 1, 0, none⟩ (.int .i64 (er : Int))).alloc (.cells #[.string d, .int .i64 (at_ : Int)] 43)) w1.heap.size d at_ := by
          have := heap_alloc_same (w1.setCell ⟨w.heap.size + 1, 0, none⟩ (.int .i64 (er : Int))) (.cells #[.string d, .int .i64 (at_ : Int)] 43)
          rw [hsame] at this
          exact this
        have hxs : ((w1.setCell ⟨w.heap.size + 1, 0, none⟩ (.int .i64 (er : Int))).alloc (.cells #[.string d, .int .i64 (at_ : Int)] 43)).heap.size = w1.heap.size + 1 := by rw [World.size_alloc, hsame]
        have HX0 := Lib.hid hx0
        have HX1 := Lib.hid hx1
        have HXB := Lib.hid hxb
        have HXR := Lib.hid hxr
        have HXS := Lib.hid hxs
        clear hx0 hx1 hxb hxr hxs hsame hA2
        go_wp2
        obtain ⟨R, hR⟩ : ∃ R, R = w1.heap.size := ⟨_, rfl⟩
        have HXR2 := HXR.out
        have HXS2 := HXS.out
        rw [← hR] at HXR2 HXS2 hs1 ⊢
        have HRR := Lib.hid hR
        have HXR3 := Lib.hid HXR2
        have HXS3 := Lib.hid HXS2
        clear hR HXR2 HXS2 HXR HXS p0 p1 f0 f1 heq
        go_loopw [12] (fun v wr => ∃ (f : Nat) (l out : List UInt8), l.length ≤ f ∧ f ≤ d.size ∧ rdrL wr R d l ∧ ownsB wr (R + 1) v out ∧ out.length ≤ n ∧ RES = ap base.data.toList n f l out ∧ str1 wr w.heap.size ⟨#[]⟩ ∧ num1 wr (w.heap.size + 1) 23 (er : Int) ∧ Below w.heap.size w wr ∧ R < wr.heap.size) (fun _ wr => d.size - rdAt wr R)
        case atStart =>
          refine ⟨d.size, d.data.toList.drop at_, [], by rw [List.length_drop, Array.length_toList]; exact Nat.sub_le _ _, Nat.le_refl _, ⟨at_, hat', HXR3.out, rfl⟩, ownsB_nil _ _, Nat.zero_le _, HRES.out, HX0.out, HX1.out, HXB.out, by rw [HXS3.out]; omega⟩
        case round =>
          obtain ⟨f, l, out, hlf, hfd, hrd, hown, hon, hres, hs0, hn1, hb, hRs⟩ := hrel
          obtain ⟨A, cap, hv, hlc, hcm⟩ := hown.shape
          unfold maxLen at hcm
          subst hv
          obtain ⟨m, hm⟩ : ∃ m, m = out.length := ⟨_, rfl⟩
          rw [← hm] at hown hon hlc
          rw [← hm]
          have HM := Lib.hid hm
          have HOWN := Lib.hid hown
          have HRS := Lib.hid hres
          clear hm hown hres
          cases l with
          | nil =>
            obtain ⟨a, hal, hra, hla⟩ := rdrL_at hrd
            obtain ⟨q0, q1, q2⟩ := rdr_cells hra
            have had : a = d.size := by simpa using hal
            have hlt' : ¬ (a : Int) < (d.size : Int) := by omega
            clear hal hra hla hrd had
            obtain ⟨z0, y0⟩ := hs0.cell
            obtain ⟨z1, y1⟩ := hn1.cell
            have he := ap_end base.data.toList n f out
            rw [← HRS.out, ← HM.out] at he
            by_cases hmn : m < n
            · rw [if_pos hmn] at he
              have HE := Lib.hid he
              obtain ⟨W, hW, k0, k1, hWb⟩ := apply_end w wr w.heap.size hb _ _ hs0 hn1 ⟨#[]⟩ 6
              clear he
              go_wp2
              refine leaves_cons (f := 15) (args := #[.pointer (some ⟨w.heap.size, 0, none⟩), .pointer (some ⟨w.heap.size + 1, 0, none⟩)]) (by simp) (by simp [go_sem]) ?_
              refine (apply_idle _ _).mono ?_
              rintro e u' w'' ⟨rfl, rfl, rfl⟩
              rw [← hW]
              clear hW
              simp [Leaves, settle, results, Try.results9, go_sem, k0, k1]
              exact ⟨by rw [HE.out]; rfl, hWb⟩
            · rw [if_neg hmn] at he
              have HE := Lib.hid he
              have hown2 : ownsB wr (R + 1) (.slice A m cap) out := HOWN.out
              have hcs := run_own_string wr _ _ _ hown2
              obtain ⟨W, hW, k0, k1, hWb⟩ := apply_end w wr w.heap.size hb _ _ hs0 hn1 ⟨out.toArray⟩ 0
              clear he hown2
              go_wp2
              refine leaves_cons (f := 15) (args := #[.pointer (some ⟨w.heap.size, 0, none⟩), .pointer (some ⟨w.heap.size + 1, 0, none⟩)]) (by simp) (by simp [go_sem]) ?_
              refine (apply_idle _ _).mono ?_
              rintro e u' w'' ⟨rfl, rfl, rfl⟩
              rw [← hW]
              clear hW
              simp [Leaves, settle, results, Try.results9, go_sem, k0, k1]
              exact ⟨by rw [HE.out]; rfl, hWb⟩
          | cons c r =>
            obtain ⟨a, hal, hra, hla⟩ := rdrL_at hrd
            obtain ⟨q0, q1, q2⟩ := rdr_cells hra
            have had : (a : Int) < (d.size : Int) := by simp at hal; omega
            have HRD := Lib.hid hrd
            have hcb := c.toNat_lt
            have hlf1 : (c :: r).length ≤ f := hlf
            have HLF := Lib.hid hlf1
            clear hal hra hla hrd hlf hlf1
            have HS0 := Lib.hid hs0
            have HN1 := Lib.hid hn1
            have HBB := Lib.hid hb
            clear hs0 hn1 hb
            go_wp2_with fail
            refine (byte_cons d c r R _ hd HRD.out).mono ?_
            rintro e w2 ⟨rfl, hr2, hg2⟩
            clear q0 q1 q2
            have hown2 : ownsB w2 (R + 1) (.slice A m cap) out := ownsB.kept HOWN.out hg2 (own_ne HOWN.out)
            have s02 := HS0.out.gb hg2 (by intro e; injection e with e; omega)
            have n12 := HN1.out.gb hg2 (by intro e; injection e with e; omega)
            have b2 := below_gb HBB.out hg2 HBB.out.size (by omega)
            have hR2 : R < w2.heap.size := Nat.lt_of_lt_of_le hRs hg2.size
            clear hg2
            have HO2 := Lib.hid hown2
            have HS2 := Lib.hid s02
            have HN2 := Lib.hid n12
            have HB2 := Lib.hid b2
            obtain ⟨z0, y0⟩ := s02.cell
            obtain ⟨z1, y1⟩ := n12.cell
            clear hown2 s02 n12 b2
            by_cases hc0 : c.toNat = 0
            · have hp : piece base.data.toList c r = .error 3 := by unfold piece; rw [if_pos hc0]
              have he := ap_error base.data.toList n f c r out 3 hp HLF.out
              rw [← HRS.out] at he
              have HE := Lib.hid he
              obtain ⟨W, hW, k0, k1, hWb⟩ := apply_end w w2 w.heap.size HB2.out _ _ HS2.out HN2.out ⟨#[]⟩ 3
              have hcb0 : ((c.toNat : Int) == 0) = true := by rw [beq_iff_eq]; omega
              clear he hp hc0 hr2
              go_wp2
              refine leaves_cons (f := 15) (args := #[.pointer (some ⟨w.heap.size, 0, none⟩), .pointer (some ⟨w.heap.size + 1, 0, none⟩)]) (by simp) (by simp [go_sem]) ?_
              refine (apply_idle _ _).mono ?_
              rintro e u' w'' ⟨rfl, rfl, rfl⟩
              rw [← hW]
              clear hW
              simp [Leaves, settle, results, Try.results9, go_sem, k0, k1]
              exact ⟨by rw [HE.out]; rfl, hWb⟩
            · have hcb0 : ((c.toNat : Int) == 0) = false := by rw [beq_eq_false_iff_ne]; omega
              by_cases hc128 : c.toNat < 128
              · obtain ⟨a2, hal2, hra2, hla2⟩ := rdrL_at hr2
                obtain ⟨q0, q1, q2⟩ := rdr_cells hra2
                have hw1 : IntKind.i64.wrap ((d.size : Int) - (a2 : Int)) = (d.size : Int) - (a2 : Int) := IntWalk.i64_in _ (by omega)
                by_cases hlt : r.length < c.toNat
                · have hp : piece base.data.toList c r = .error 6 := by unfold piece; rw [if_neg hc0, if_pos hc128, if_pos hlt]
                  have he := ap_error base.data.toList n f c r out 6 hp HLF.out
                  rw [← HRS.out] at he
                  have HE := Lib.hid he
                  obtain ⟨W, hW, k0, k1, hWb⟩ := apply_end w w2 w.heap.size HB2.out _ _ HS2.out HN2.out ⟨#[]⟩ 6
                  have hlt2 : (d.size : Int) - (a2 : Int) < (c.toNat : Int) := by omega
                  clear he hp hc0 hla2 hra2 hr2
                  go_wp2
                  refine leaves_cons (f := 15) (args := #[.pointer (some ⟨w.heap.size, 0, none⟩), .pointer (some ⟨w.heap.size + 1, 0, none⟩)]) (by simp) (by simp [go_sem]) ?_
                  refine (apply_idle _ _).mono ?_
                  rintro e u' w'' ⟨rfl, rfl, rfl⟩
                  rw [← hW]
                  clear hW
                  simp [Leaves, settle, results, Try.results9, go_sem, k0, k1]
                  exact ⟨by rw [HE.out]; rfl, hWb⟩
                · have hlt2 : ¬ (d.size : Int) - (a2 : Int) < (c.toNat : Int) := by omega
                  have hw2 : IntKind.i64.wrap ((a2 : Int) + (c.toNat : Int)) = (a2 : Int) + (c.toNat : Int) := IntWalk.i64_in _ (by omega)
                  have hw3 : IntKind.i64.wrap (a2 : Int) = (a2 : Int) := IntWalk.i64_in _ (by omega)
                  have hn1' : (0 : Int) ≤ (a2 : Int) := by omega
                  have hn2' : (0 : Int) ≤ (a2 : Int) + (c.toNat : Int) := by omega
                  have hn3' : (a2 : Int) ≤ (a2 : Int) + (c.toNat : Int) := by omega
                  have hn4' : (a2 : Int) + (c.toNat : Int) ≤ (d.size : Int) := by omega
                  have ht1 : ((a2 : Int) + (c.toNat : Int)).toNat = a2 + c.toNat := by omega
                  have ht2 : (a2 : Int).toNat = a2 := by omega
                  have hp : piece base.data.toList c r = .ok ((d.extract a2 (a2 + c.toNat)).data.toList, r.drop c.toNat) := by
                    unfold piece
                    rw [if_neg hc0, if_pos hc128, if_neg hlt, ext_list, hla2, show a2 + c.toNat - a2 = c.toNat by omega]
                  have hmin : min (a2 + c.toNat) d.size - a2 = c.toNat := by omega
                  have hps : (d.extract a2 (a2 + c.toNat)).data.toList.length = c.toNat := by rw [Array.length_toList]; exact ByteArray.size_extract.trans hmin
                  have hlen0 : out.length + (d.extract a2 (a2 + c.toNat)).size ≤ 140737488355328 := by rw [ByteArray.size_extract, hmin, ← HM.out]; omega
                  have HP := Lib.hid hp
                  have HPS := Lib.hid hps
                  have HLEN := Lib.hid hlen0
                  have HRA2 := Lib.hid hra2
                  have HLA2 := Lib.hid hla2
                  have had2 : a2 + c.toNat ≤ d.size := by omega
                  have HC0 := Lib.hid hc0
                  clear hp hps hlen0 hla2 hr2 hra2 hc0
                  go_wp2
                  go_quiet (fail)
                  have hr4 : rdrL ((w2.drewN nq).setCell ⟨R, 1, none⟩ (.int .i64 ((a2 : Int) + (c.toNat : Int)))) R d (r.drop c.toNat) := by
                    refine ⟨a2 + c.toNat, had2, ?_, by rw [← HLA2.out, List.drop_drop]⟩
                    have h1 := rdr_set HRA2.out nq (a2 + c.toNat)
                    rw [show ((a2 + c.toNat : Nat) : Int) = (a2 : Int) + (c.toNat : Int) by omega] at h1
                    exact h1
                  have hg4 : w2.grownBy ((w2.drewN nq).setCell ⟨R, 1, none⟩ (.int .i64 ((a2 : Int) + (c.toNat : Int)))) (some R) := gb_set (gb_drewN (gb_refl _ _) _) _ _
                  have s04 := HS2.out.gb hg4 (by intro e; injection e with e; omega)
                  have n14 := HN2.out.gb hg4 (by intro e; injection e with e; omega)
                  have b4 := below_gb HB2.out hg4 HB2.out.size (by omega)
                  have o4 : ownsB ((w2.drewN nq).setCell ⟨R, 1, none⟩ (.int .i64 ((a2 : Int) + (c.toNat : Int)))) (R + 1) (.slice A m cap) out := ownsB.kept HO2.out hg4 (own_ne HO2.out)
                  have hR4 : R + 1 ≤ ((w2.drewN nq).setCell ⟨R, 1, none⟩ (.int .i64 ((a2 : Int) + (c.toNat : Int)))).heap.size := Nat.lt_of_lt_of_le hR2 hg4.size
                  have HR4 := Lib.hid hr4
                  have HS4 := Lib.hid s04
                  have HN4 := Lib.hid n14
                  have HB4 := Lib.hid b4
                  have HO4 := Lib.hid o4
                  have HR4S := Lib.hid hR4
                  clear hr4 hg4 s04 n14 b4 o4 hR4
                  have hnm : IntKind.i64.wrap ((n : Int) - (m : Int)) = (n : Int) - (m : Int) := IntWalk.i64_in _ (by omega)
                  by_cases hov : n - m < c.toNat
                  · have he := ap_over base.data.toList n f c r out _ _ HP.out HLF.out (by rw [← HM.out, HPS.out]; exact hov)
                    rw [← HRS.out] at he
                    have HE := Lib.hid he
                    have hov2 : (n : Int) - (m : Int) < (c.toNat : Int) := by omega
                    obtain ⟨W, hW, k0, k1, hWb⟩ := apply_end w ((w2.drewN nq).setCell ⟨R, 1, none⟩ (.int .i64 ((a2 : Int) + (c.toNat : Int)))) w.heap.size HB4.out _ _ HS4.out HN4.out ⟨#[]⟩ 3
                    obtain ⟨z0, y0⟩ := HS4.out.cell
                    obtain ⟨z1, y1⟩ := HN4.out.cell
                    clear he hov
                    go_wp2
                    refine leaves_cons (f := 15) (args := #[.pointer (some ⟨w.heap.size, 0, none⟩), .pointer (some ⟨w.heap.size + 1, 0, none⟩)]) (by simp) (by simp [go_sem]) ?_
                    refine (apply_idle _ _).mono ?_
                    rintro e u' w'' ⟨rfl, rfl, rfl⟩
                    rw [← hW]
                    clear hW
                    simp [Leaves, settle, results, Try.results9, go_sem, k0, k1]
                    exact ⟨by rw [HE.out]; rfl, hWb⟩
                  · have hov2 : ¬ (n : Int) - (m : Int) < (c.toNat : Int) := by omega
                    obtain ⟨hst, hsl⟩ := ap_step base.data.toList n f c r out _ _ HP.out HLF.out (by rw [← HM.out, HPS.out]; exact hov)
                    rw [← HRS.out] at hst
                    have HST := Lib.hid hst
                    have HSL := Lib.hid hsl
                    have hlen := HLEN.out
                    have hBs : R + 1 ≤ ((w2.drewN nq).setCell ⟨R, 1, none⟩ (.int .i64 ((a2 : Int) + (c.toNat : Int)))).heap.size := HR4S.out
                    have hmn : m + c.toNat ≤ n := by omega
                    have HMN := Lib.hid hmn
                    clear hst hsl hov hmn
                    go_wp2_with (at_builtin; refine append_text _ rfl (.tmp 117) (.tmp 118) rfl (R + 1) _ _ rfl HO4.out _ rfl hlen hBs ?_; intro v' w' hown' hg')
                    go_roundw
                    case rel =>
                      have hr5 := HR4.out.gb hg' (own_off HO4.out (Nat.le_refl _))
                      refine ⟨f - 1, r.drop c.toNat, out ++ (d.extract a2 (a2 + c.toNat)).data.toList, HSL.out, by omega, hr5, hown', ?_, ?_, HS4.out.gb hg' (own_off HO4.out (by omega)), HN4.out.gb hg' (own_off HO4.out (by omega)), HB4.out.grown hg' (by omega) (fun k hk => by have := (HO4.out.lt k hk).1; omega), Nat.lt_of_lt_of_le hBs hg'.size⟩
                      · rw [List.length_append, ← HM.out, HPS.out]; exact HMN.out
                      · exact HST.out
                    case measure =>
                      have hr5 := HR4.out.gb hg' (own_off HO4.out (Nat.le_refl _))
                      rw [rdAt_of hr5, rdAt_of HRD.out]
                      have h1 := HSL.out
                      have h2 := piece_len _ _ _ _ _ HP.out
                      obtain ⟨a9, ha9, _, _⟩ := rdrL_at HRD.out
                      rw [List.length_cons] at ha9 ⊢
                      omega
              · go_wp2_with fail
                refine (copied_any d r R c.toNat _ hd hcb hr2).mono ?_
                intro e w3 he3
                cases hcp : cp c.toNat 7 r 0 0 with
                | error x =>
                  rw [hcp] at he3
                  obtain ⟨rfl, hg3⟩ := he3
                  have hp : piece base.data.toList c r = .error x := by unfold piece; rw [if_neg hc0, if_neg hc128, hcp]
                  have he := ap_error base.data.toList n f c r out x hp HLF.out
                  rw [← HRS.out] at he
                  have HE := Lib.hid he
                  have s03 := HS2.out.gb hg3 (by intro e; injection e with e; omega)
                  have n13 := HN2.out.gb hg3 (by intro e; injection e with e; omega)
                  have b3 := below_gb HB2.out hg3 HB2.out.size (by omega)
                  obtain ⟨W, hW, k0, k1, hWb⟩ := apply_end w w3 w.heap.size b3 _ _ s03 n13 ⟨#[]⟩ (x : Int)
                  obtain ⟨z0, y0⟩ := s03.cell
                  obtain ⟨z1, y1⟩ := n13.cell
                  go_wp2
                  refine leaves_cons (f := 15) (args := #[.pointer (some ⟨w.heap.size, 0, none⟩), .pointer (some ⟨w.heap.size + 1, 0, none⟩)]) (by simp) (by simp [go_sem]) ?_
                  refine (apply_catch _ (x : Int) _ _ [] _ z0 z1 y0 y1).mono ?_
                  rintro e u' w'' ⟨rfl, rfl, rfl⟩
                  rw [← hW]
                  clear hW
                  simp [Leaves, settle, results, Try.results9, go_sem, k0, k1]
                  exact ⟨by rw [HE.out]; rfl, hWb⟩
                | ok p =>
                  obtain ⟨o, k, r'⟩ := p
                  rw [hcp] at he3
                  obtain ⟨K, hK⟩ : ∃ K, K = kk k := ⟨_, rfl⟩
                  have he4 : (e = .returned (.tuple #[.int .i64 (o : Int), .int .i64 (K : Int)]) ∧ rdrL w3 R d r') ∧ w2.grownBy w3 (some R) := by rw [hK]; exact he3
                  clear he3
                  obtain ⟨⟨rfl, hr3⟩, hg3⟩ := he4
                  have HK := Lib.hid hK
                  have s03 := HS2.out.gb hg3 (by intro e; injection e with e; omega)
                  have n13 := HN2.out.gb hg3 (by intro e; injection e with e; omega)
                  have b3 := below_gb HB2.out hg3 HB2.out.size (by omega)
                  have o3 : ownsB w3 (R + 1) (.slice A m cap) out := ownsB.kept HO2.out hg3 (own_ne HO2.out)
                  have hR3 : R < w3.heap.size := Nat.lt_of_lt_of_le hR2 hg3.size
                  clear z0 y0 z1 y1
                  obtain ⟨z0, y0⟩ := s03.cell
                  obtain ⟨z1, y1⟩ := n13.cell
                  have HR4 := Lib.hid hr3
                  clear hr3 hr2 hg3
                  by_cases hbad : base.size < K ∨ base.size - K < o
                  · have hp : piece base.data.toList c r = .error 3 := by
                      unfold piece
                      rw [if_neg hc0, if_neg hc128, hcp]
                      simp only []
                      rw [if_pos (by rw [Array.length_toList, ← hK]; exact hbad)]
                    have he := ap_error base.data.toList n f c r out 3 hp HLF.out
                    rw [← HRS.out] at he
                    have HE := Lib.hid he
                    obtain ⟨W, hW, k0, k1, hWb⟩ := apply_end w w3 w.heap.size b3 _ _ s03 n13 ⟨#[]⟩ 3
                    clear he hp hcp hK s03 n13 b3 o3
                    by_cases hk1 : base.size < K
                    · have hk2 : (base.size : Int) < (K : Int) := by omega
                      clear hbad
                      go_wp2
                      refine leaves_cons (f := 15) (args := #[.pointer (some ⟨w.heap.size, 0, none⟩), .pointer (some ⟨w.heap.size + 1, 0, none⟩)]) (by simp) (by simp [go_sem]) ?_
                      refine (apply_idle _ _).mono ?_
                      rintro e u' w'' ⟨rfl, rfl, rfl⟩
                      rw [← hW]
                      clear hW
                      simp [Leaves, settle, results, Try.results9, go_sem, k0, k1]
                      exact ⟨by rw [HE.out]; rfl, hWb⟩
                    · have hk2 : ¬ (base.size : Int) < (K : Int) := by omega
                      have hw1 : IntKind.i64.wrap ((base.size : Int) - (K : Int)) = (base.size : Int) - (K : Int) := IntWalk.i64_in _ (by omega)
                      have ho2 : (base.size : Int) - (K : Int) < (o : Int) := by omega
                      clear hbad
                      go_wp2
                      refine leaves_cons (f := 15) (args := #[.pointer (some ⟨w.heap.size, 0, none⟩), .pointer (some ⟨w.heap.size + 1, 0, none⟩)]) (by simp) (by simp [go_sem]) ?_
                      refine (apply_idle _ _).mono ?_
                      rintro e u' w'' ⟨rfl, rfl, rfl⟩
                      rw [← hW]
                      clear hW
                      simp [Leaves, settle, results, Try.results9, go_sem, k0, k1]
                      exact ⟨by rw [HE.out]; rfl, hWb⟩
                  · have hk2 : ¬ (base.size : Int) < (K : Int) := by omega
                    have hw1 : IntKind.i64.wrap ((base.size : Int) - (K : Int)) = (base.size : Int) - (K : Int) := IntWalk.i64_in _ (by omega)
                    have ho2 : ¬ (base.size : Int) - (K : Int) < (o : Int) := by omega
                    have hw2 : IntKind.i64.wrap ((o : Int) + (K : Int)) = (o : Int) + (K : Int) := IntWalk.i64_in _ (by omega)
                    have hn1' : (0 : Int) ≤ (o : Int) := by omega
                    have hn2' : (0 : Int) ≤ (o : Int) + (K : Int) := by omega
                    have hn3' : (o : Int) ≤ (o : Int) + (K : Int) := by omega
                    have hn4' : (o : Int) + (K : Int) ≤ (base.size : Int) := by omega
                    have ht1 : ((o : Int) + (K : Int)).toNat = o + K := by omega
                    have ht2 : (o : Int).toNat = o := by omega
                    have hp : piece base.data.toList c r = .ok ((base.extract o (o + K)).data.toList, r') := by
                      unfold piece
                      rw [if_neg hc0, if_neg hc128, hcp]
                      simp only []
                      rw [if_neg (by rw [Array.length_toList, ← HK.out]; exact hbad), ext_list, ← HK.out, show o + K - o = K by omega]
                    have hmin : min (o + K) base.size - o = K := by omega
                    have hps : (base.extract o (o + K)).data.toList.length = K := by rw [Array.length_toList]; exact ByteArray.size_extract.trans hmin
                    have hlen0 : out.length + (base.extract o (o + K)).size ≤ 140737488355328 := by rw [ByteArray.size_extract, hmin, ← HM.out]; omega
                    have HP := Lib.hid hp
                    have HPS := Lib.hid hps
                    have HLEN := Lib.hid hlen0
                    have HS4 := Lib.hid s03
                    have HN4 := Lib.hid n13
                    have HB4 := Lib.hid b3
                    have HO4 := Lib.hid o3
                    have hR3' : R + 1 ≤ w3.heap.size := hR3
                    have HR4S := Lib.hid hR3'
                    clear s03 n13 o3 b3 hp hps hlen0 hcp hK hR3' z0 y0 z1 y1 hbad
                    have hnm : IntKind.i64.wrap ((n : Int) - (m : Int)) = (n : Int) - (m : Int) := IntWalk.i64_in _ (by omega)
                    by_cases hov : n - m < K
                    · have he := ap_over base.data.toList n f c r out _ _ HP.out HLF.out (by rw [← HM.out, HPS.out]; exact hov)
                      rw [← HRS.out] at he
                      have HE := Lib.hid he
                      have hov2 : (n : Int) - (m : Int) < (K : Int) := by omega
                      obtain ⟨W, hW, k0, k1, hWb⟩ := apply_end w w3 w.heap.size HB4.out _ _ HS4.out HN4.out ⟨#[]⟩ 3
                      obtain ⟨z0, y0⟩ := HS4.out.cell
                      obtain ⟨z1, y1⟩ := HN4.out.cell
                      clear he hov
                      go_wp2
                      refine leaves_cons (f := 15) (args := #[.pointer (some ⟨w.heap.size, 0, none⟩), .pointer (some ⟨w.heap.size + 1, 0, none⟩)]) (by simp) (by simp [go_sem]) ?_
                      refine (apply_idle _ _).mono ?_
                      rintro e u' w'' ⟨rfl, rfl, rfl⟩
                      rw [← hW]
                      clear hW
                      simp [Leaves, settle, results, Try.results9, go_sem, k0, k1]
                      exact ⟨by rw [HE.out]; rfl, hWb⟩
                    · have hov2 : ¬ (n : Int) - (m : Int) < (K : Int) := by omega
                      obtain ⟨hst, hsl⟩ := ap_step base.data.toList n f c r out _ _ HP.out HLF.out (by rw [← HM.out, HPS.out]; exact hov)
                      rw [← HRS.out] at hst
                      have HST := Lib.hid hst
                      have HSL := Lib.hid hsl
                      have hlen := HLEN.out
                      have hBs : R + 1 ≤ w3.heap.size := HR4S.out
                      have hmn : m + K ≤ n := by omega
                      have HMN := Lib.hid hmn
                      clear hst hsl hov hmn
                      go_wp2_with (at_builtin; refine append_text _ rfl (.tmp 117) (.tmp 118) rfl (R + 1) _ _ rfl HO4.out _ rfl hlen hBs ?_; intro v' w' hown' hg')
                      go_roundw
                      case rel =>
                        have hr5 := HR4.out.gb hg' (own_off HO4.out (Nat.le_refl _))
                        refine ⟨f - 1, r', out ++ (base.extract o (o + K)).data.toList, HSL.out, by omega, hr5, hown', ?_, ?_, HS4.out.gb hg' (own_off HO4.out (by omega)), HN4.out.gb hg' (own_off HO4.out (by omega)), HB4.out.grown hg' (by omega) (fun k hk => by have := (HO4.out.lt k hk).1; omega), Nat.lt_of_lt_of_le hBs hg'.size⟩
                        · rw [List.length_append, ← HM.out, HPS.out]; exact HMN.out
                        · exact HST.out
                      case measure =>
                        have hr5 := HR4.out.gb hg' (own_off HO4.out (Nat.le_refl _))
                        rw [rdAt_of hr5, rdAt_of HRD.out]
                        have h1 := HSL.out
                        have h2 := piece_len _ _ _ _ _ HP.out
                        obtain ⟨a9, ha9, _, _⟩ := rdrL_at HRD.out
                        rw [List.length_cons] at ha9 ⊢
                        omega
    · have hfrb : ((fr : Int) != (base.size : Int)) = true := by rw [bne_iff_ne]; omega
      obtain ⟨W, hW, k0, k1, hWb⟩ := apply_end w _ w.heap.size HBW.out _ _ M0.out M1.out ⟨#[]⟩ 4
      have HFR := Lib.hid hfr
      clear hfr
      go_wp2
      rw [← hW]
      clear hW
      simp [bodyPostD, Leaves, settle, results, Try.results9, go_sem, k0, k1]
      refine ⟨?_, hWb⟩
      have e := HA.out
      rw [if_neg (by simp [HE0.out]), if_pos HFR.out] at e
      rw [e]; rfl
  · have hne : ((er : Int) != 0) = true := by rw [bne_iff_ne]; omega
    obtain ⟨W, hW, k0, k1, hWb⟩ := apply_end w _ w.heap.size HBW.out _ _ M0.out M1.out ⟨#[]⟩ (er : Int)
    have HE0 := Lib.hid he0
    clear he0
    go_wp2
    go_region
    go_wp2
    rw [← hW]
    clear hW
    simp [bodyPostD, Leaves, settle, results, Try.results9, go_sem, k0, k1]
    refine ⟨?_, hWb.drew⟩
    have e := HA.out
    rw [if_pos HE0.out] at e
    rw [e]; rfl
end Go.Proofs.Ytilfdeboeohnbaa
