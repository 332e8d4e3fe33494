/- THE WALK of semver.words: are these the words of a prerelease or a build? Conditions: a bound on the length. -/
import Derived.Test.YtgojmckfabhkaaaDoorSemC
import Derived.Test.YtgojmckfabhkaaaDoorSemRange
namespace Go.Proofs.YtgojmckfabhkaaaDoor.Sem
open Go Go.RowKit Go.Shelf
set_option linter.unusedVariables false

set_option maxRecDepth 100000 in
theorem splitSeq_any (s p : ByteArray) (w : World) :
    Calls Tryd.prog 62 #[.string s, .string p, .int .i64 0] w fun e w' => e = .returned (itV w.heap.size) ∧ itW s p w = w' := by
  go_enter Tryd.func62, Tryd.ntmps62
  go_wp2
  go_ret
  exact ⟨rfl, rfl⟩
set_option maxRecDepth 100000 in
theorem SplitSeq_any (s p : ByteArray) (w : World) :
    Calls Tryd.prog 51 #[.string s, .string p] w fun e w' => e = .returned (itV w.heap.size) ∧ itW s p w = w' := by
  go_enter Tryd.func51, Tryd.ntmps51
  go_wp2_with (go_at_call 62; refine (splitSeq_any s p w).mono ?_; rintro e w' ⟨rfl, rfl⟩)
  go_ret
  exact ⟨rfl, rfl⟩

/-- '[]byte(s)'. -/
theorem bytes_of (s : ByteArray) (l : List UInt8) (hs : s = tx l) (W : World) : ∃ (cap : Nat) (W2 : World), (convert 9 50 (.string s)).run Tryd.prog W = .ok (.slice (some ⟨W.heap.size, 0, none⟩) s.size cap) W2 ∧ Below W.heap.size W W2 ∧
    ∀ i (h : i < l.length), W2.cell? ⟨W.heap.size, i, none⟩ = some (.int .u8 (l[i].toNat : Int)) := by
  refine ⟨_, _, run_bytes_of_string W 9 50 5 s Tryd.underlying9 Tryd.underlying50 Tryd.underlying5, (Below.refl _ W).drew.alloc (Nat.le_refl _) _, fun i h => ?_⟩
  have hc := World.alloc_heap_new W.drew (.cells (bytesRow s (grownCap W s.size 0 5)) 5 ((bytesRow s (grownCap W s.size 0 5)).size, (bytesRow s (grownCap W s.size 0 5)).size + 1))
  have hb := cell_at hc i
  rw [show W.drew.heap.size = W.heap.size from rfl] at hb
  rw [hb, bytesRow_at s _ i (by rw [hs]; unfold tx; simpa using h)]
  subst hs
  rfl

/-- A byte that may stand in a word, by its number. -/
theorem okc_yes {c : UInt8} (h : okc c = true) : (48 ≤ (c.toNat : Int) ∧ (c.toNat : Int) ≤ 57) ∨ (97 ≤ (c.toNat : Int) ∧ (c.toNat : Int) ≤ 122) ∨ (65 ≤ (c.toNat : Int) ∧ (c.toNat : Int) ≤ 90) ∨ (c.toNat : Int) = 45 := by
  unfold okc isDig at h
  simp at h
  omega
theorem okc_no {c : UInt8} (h : ¬ okc c = true) : (c.toNat : Int) < 45 ∨ (45 < (c.toNat : Int) ∧ (c.toNat : Int) < 48) ∨ (57 < (c.toNat : Int) ∧ (c.toNat : Int) < 65) ∨ (90 < (c.toNat : Int) ∧ (c.toNat : Int) < 97) ∨ 122 < (c.toNat : Int) := by
  unfold okc isDig at h
  simp at h
  omega

theorem all_yes {x : List UInt8} (h : ∀ j (hj : j < x.length), j < x.length → okc x[j] = true) : x.all okc = true := by
  rw [List.all_eq_true]
  intro c hc
  obtain ⟨j, hj, rfl⟩ := List.getElem_of_mem hc
  exact h j hj hj
theorem all_no {x : List UInt8} {i : Nat} (h : i < x.length) (hk : ¬ okc x[i] = true) : x.all okc = false := by
  cases ha : x.all okc with
  | false => rfl
  | true => rw [List.all_eq_true] at ha; exact absurd (ha _ (List.getElem_mem h)) hk
theorem wordOk_f (x : List UInt8) (hx : ¬ x = []) : (x.all okc = true → wordOk false x = true) ∧ (x.all okc = false → wordOk false x = false) := by
  unfold wordOk
  cases x with
  | nil => exact absurd rfl hx
  | cons c x => constructor <;> (intro h; rw [h]; rfl)
theorem wordOk_t (x : List UInt8) (hx : ¬ x = []) (hd : digitsB x = true → 1 < x.length → x.head? ≠ some 48) : (x.all okc = true → wordOk true x = true) ∧ (x.all okc = false → wordOk true x = false) := by
  have h1 : (!(true && digitsB x && decide (1 < x.length) && decide (x.head? = some 48))) = true := by
    cases h2 : digitsB x with
    | false => simp
    | true =>
      by_cases h3 : 1 < x.length
      · have := hd h2 h3; simp [this]
      · simp [h3]
  unfold wordOk
  rw [h1]
  cases x with
  | nil => exact absurd rfl hx
  | cons c x => constructor <;> (intro h; rw [h]; rfl)
theorem wordOk_z (x : List UInt8) (h0 : 0 < x.length) (hd : digitsB x = true) (h1 : 1 < x.length) (hc : x[0].toNat = 48) : wordOk true x = false := by
  have hh : x.head? = some 48 := by
    cases x with
    | nil => simp at h0
    | cons c q => simp at hc ⊢; exact UInt8.toNat_inj.1 hc
  unfold wordOk
  rw [hd, hh]
  simp [h1]

/-- An operation that is not wanted, inside a round of the wide fence. -/
theorem wide_skip {k n : Nat} {P : Program} {ops : Array Oper} {Q : Exit → Act → World → Prop} {o : Oper} {rest : List Oper} {a : Act} {w : World}
    (hw : Region.wanted o (yielded ops a.tmps) = false) (h : wpListIn (Fence.wide.inRound k) n P ops Q rest (a.put o.dst undef) w) : wpListIn (Fence.wide.inRound k) n P ops Q (o :: rest) a w := by
  simp only [wpListIn, hw]
  exact ⟨fun f hf => trivial, h⟩

attribute [local go_sem] Oper.semAt_some

set_option maxRecDepth 100000 in
set_option maxHeartbeats 2000000 in
theorem words_raw (l : List UInt8) (pre : Bool) (w : World) (hz : l.length ≤ 1000000) :
    CallsIn Fence.wide 10 Tryd.prog 34 #[.string (tx l), .bool pre] w fun e w' => e = .returned (.bool (wordsB pre l)) ∧ Below w.heap.size w w' := by
  refine callsIn_of_wp_marks Tryd.func34 rfl trivial ?_ rfl
  simp only [Tryd.ntmps34, List.size_toArray, List.length_cons, List.length_nil, Nat.reduceAdd, Nat.reduceSub, Array.replicate_succ, Array.replicate_zero, List.push_toArray, List.append_toArray, List.nil_append, List.cons_append]
  gi_wp2_with (refine ⟨trivial, ?_⟩; gi_at_call 51; refine (callsIn_wide.2 (SplitSeq_any _ _ _)).mono ?_; rintro e w' ⟨rfl, rfl⟩)
  obtain ⟨W0, hW0⟩ : ∃ W0, (w.alloc (.cells #[.bool pre] 4)).alloc (.cells #[.bool false] 4) = W0 := ⟨_, rfl⟩
  have hs0 : W0.heap.size = w.heap.size + 2 := by rw [← hW0]; simp
  have hb0 : Below w.heap.size w W0 := by rw [← hW0]; exact ((Below.refl _ w).alloc (Nat.le_refl _) _).alloc (by simp) _
  have p0 : W0.heap[w.heap.size]? = some (.cells #[.bool pre] 4 (0, 0)) := by
    rw [← hW0, Below.heap_alloc _ _ _ (by simp)]; exact World.alloc_heap_new w _
  have p1 : W0.heap[w.heap.size + 1]? = some (.cells #[.bool false] 4 (0, 0)) := by
    rw [← hW0]; have := World.alloc_heap_new (w.alloc (.cells #[.bool pre] 4)) (.cells #[.bool false] 4); rwa [World.size_alloc] at this
  rw [hW0]
  clear hW0
  have q0 := itW_0 (tx l) ⟨#[46]⟩ W0
  have q1 := itW_1 (tx l) ⟨#[46]⟩ W0
  have q2 := itW_2 (tx l) ⟨#[46]⟩ W0
  have q3 := itW_below (tx l) ⟨#[46]⟩ W0
  have q4 := itW_size (tx l) ⟨#[46]⟩ W0
  rw [hs0] at q0 q1 q2 q4
  obtain ⟨V, hV⟩ : ∃ V, itW (tx l) ⟨#[46]⟩ W0 = V := ⟨_, rfl⟩
  rw [hV] at q0 q1 q2 q3 q4 ⊢
  have p0' : V.heap[w.heap.size]? = some (.cells #[.bool pre] 4 (0, 0)) := (q3.block _ (by omega)).trans p0
  have p1' : V.heap[w.heap.size + 1]? = some (.cells #[.bool false] 4 (0, 0)) := (q3.block _ (by omega)).trans p1
  have hbV : Below w.heap.size w V := hb0.trans (q3.mono hb0.size)
  refine range_split 10 (by omega) w.heap.size (w.heap.size + 2) (w.heap.size + 1) ?hg l hz (by omega) (by omega) (by omega) ?hrc q0 q1 q2 (wordOk pre)
    (fun x => { tmps := #[.string (tx l), .bool pre, undef, .pointer (some ⟨w.heap.size, 0, none⟩), .pointer (some ⟨w.heap.size + 1, 0, none⟩), .string (tx x), undef, undef, .string (tx l), itV (w.heap.size + 2), .string (tx x),
       undef, undef, undef, undef, undef, undef, undef, undef, undef, undef, undef, undef, undef, undef, undef, undef, undef, undef, undef, undef, undef, undef, undef, undef, undef, undef, undef, undef, undef, undef, undef, undef, undef, undef, undef, undef, undef, undef, undef, undef, undef, undef, undef, undef, undef, undef, undef, undef, undef, undef, undef, undef, undef, undef], defers := [] }) ?assign ?body ?done ?stop
  case hg => rfl
  case hrc => rw [(show Boxed V _ _ _ from p1').cell]; rfl
  case assign =>
    intro k x W K hK
    gi_wp2
    exact hK
  case body =>
    intro k x W hx hb hlt
    have c0 : W.cell? ⟨w.heap.size, 0, none⟩ = some (.bool pre) := by rw [hb.cell (p := ⟨w.heap.size, 0, none⟩) (by show w.heap.size < _; omega)]; exact (show Boxed V _ _ _ from p0').cell
    have c1 : W.cell? ⟨w.heap.size + 1, 0, none⟩ = some (.bool false) := by rw [hb.cell (p := ⟨w.heap.size + 1, 0, none⟩) (by show w.heap.size + 1 < _; omega)]; exact (show Boxed V _ _ _ from p1').cell
    have f1 : W.frozen? ⟨w.heap.size + 1, 0, none⟩ = false := by rw [hb.frozen (p := ⟨w.heap.size + 1, 0, none⟩) (by show w.heap.size + 1 < _; omega)]; exact (show Boxed V _ _ _ from p1').frozen
    have ht := tx_toList x
    have hsz := tx_size x
    have hdig := digits_any x W hx
    generalize w.heap.size = N at *
    clear hz hs0 hb0 p0 p1 q0 q1 q2 q3 q4 hV p0' p1' hbV
    by_cases hx0 : x = []
    · subst hx0
      have hok : wordOk pre [] = false := by cases pre <;> rfl
      rw [hok]
      clear hdig
      gi_wp2_with (refine wide_skip rfl ?_; simp only [Act.put])
      exact ⟨rfl, W, Below.refl _ _, rfl⟩
    · have hx1 : x.isEmpty = false := by cases x with | nil => exact absurd rfl hx0 | cons c x => rfl
      obtain ⟨S, hS'⟩ : ∃ S, S = tx x := ⟨_, rfl⟩
      rw [← hS'] at ht hsz hdig ⊢
      have hS := Lib.hid hS'
      have c1x := Lib.hid c1
      have f1x := Lib.hid f1
      clear hS' c1 f1
      obtain ⟨c1, f1⟩ : Hid (W.cell? ⟨N + 1, 0, none⟩ = some (.bool false)) ∧ Hid (W.frozen? ⟨N + 1, 0, none⟩ = false) := ⟨c1x, f1x⟩
      clear c1x f1x
      cases pre with
      | false =>
        have HW := Lib.hid (wordOk_f x hx0)
        have hb1 := Lib.hid (Below.refl W.heap.size W)
        obtain ⟨W1, hW1⟩ : ∃ W1, W1 = W := ⟨_, rfl⟩
        rw [← hW1] at c0
        have HC1 : Hid (W.cell? ⟨N + 1, 0, none⟩ = some (.bool false)) := c1
        subst hW1
        clear hdig
        obtain ⟨cap, W2, hcv, hb2, hcl⟩ := bytes_of S x hS.out W1
        have HCL := Lib.hid hcl
        have HB2 := Lib.hid (hb1.out.trans (hb2.mono hb1.out.size))
        have c2 : W2.cell? ⟨N + 1, 0, none⟩ = some (.bool false) := by rw [HB2.out.cell (p := ⟨N + 1, 0, none⟩) (by show N + 1 < _; omega)]; exact c1.out
        have f2 : W2.frozen? ⟨N + 1, 0, none⟩ = false := by rw [HB2.out.frozen (p := ⟨N + 1, 0, none⟩) (by show N + 1 < _; omega)]; exact f1.out
        clear hcl hb2
        gi_wp2_with (refine wide_skip rfl ?_; simp only [Act.put])
        gi_loop [33] (fun kv => ∃ i : Nat, i ≤ x.length ∧ kv = .int .i64 (i : Int) ∧ ∀ j (h : j < x.length), j < i → okc x[j] = true) (fun kv => x.length - (intOf kv).toNat)
        case atStart => exact ⟨0, by omega, rfl, fun j _ h => by omega⟩
        case round =>
          obtain ⟨i, hi, rfl, hn⟩ := hrel
          have HN := Lib.hid hn
          clear hn
          by_cases hil : i < x.length
          · have hci := HCL.out i hil
            by_cases hk : okc x[i] = true
            · have HK := Lib.hid hk
              have hy := okc_yes hk
              clear hk
              obtain ⟨c, hc⟩ : ∃ c, x[i] = c := ⟨_, rfl⟩
              rw [hc] at hci hy
              clear hc
              generalize c.toNat = cn at hci hy
              rcases hy with ⟨y1, y2⟩ | ⟨y1, y2⟩ | ⟨y1, y2⟩ | y1
              all_goals
                first | (have k1 : decide ((cn : Int) ≤ 57) = false := decide_eq_false (by omega)) | (have k1 : decide ((cn : Int) ≤ 57) = true := decide_eq_true (by omega)) | skip
                first | (have k2 : decide ((cn : Int) ≤ 90) = false := decide_eq_false (by omega)) | (have k2 : decide ((cn : Int) ≤ 90) = true := decide_eq_true (by omega)) | skip
                first | (have k3 : decide ((cn : Int) ≤ 122) = false := decide_eq_false (by omega)) | (have k3 : decide ((cn : Int) ≤ 122) = true := decide_eq_true (by omega)) | skip
                gi_wp2_with (refine wide_skip rfl ?_; simp only [Act.put])
              all_goals
                go_round
                case rel =>
                  refine ⟨i + 1, by omega, by go_num, fun j hj hji => ?_⟩
                  by_cases hji' : j < i
                  · exact HN.out j hj hji'
                  · obtain rfl : j = i := by omega
                    exact HK.out
                case measure => simp [intOf]; omega
            · have HK := Lib.hid hk
              have hy := okc_no hk
              clear hk
              obtain ⟨c, hc⟩ : ∃ c, x[i] = c := ⟨_, rfl⟩
              rw [hc] at hci hy
              clear hc
              generalize c.toNat = cn at hci hy
              rcases hy with y1 | ⟨y1, y2⟩ | ⟨y1, y2⟩ | ⟨y1, y2⟩ | y1
              all_goals
                have q45 : ((cn : Int) == 45) = false := by rw [beq_eq_false_iff_ne]; omega
                first | (have k1 : decide ((cn : Int) ≤ 57) = false := decide_eq_false (by omega)) | (have k1 : decide ((cn : Int) ≤ 57) = true := decide_eq_true (by omega)) | skip
                first | (have k2 : decide ((cn : Int) ≤ 90) = false := decide_eq_false (by omega)) | (have k2 : decide ((cn : Int) ≤ 90) = true := decide_eq_true (by omega)) | skip
                first | (have k3 : decide ((cn : Int) ≤ 122) = false := decide_eq_false (by omega)) | (have k3 : decide ((cn : Int) ≤ 122) = true := decide_eq_true (by omega)) | skip
                gi_wp2_with (refine wide_skip rfl ?_; simp only [Act.put])
                exact ⟨(HW.out).2 (all_no hil HK.out), _, HB2.out, rfl⟩
          · have hie : i = x.length := by omega
            subst hie
            gi_wp2_with (refine wide_skip rfl ?_; simp only [Act.put])
            exact ⟨(HW.out).1 (all_yes HN.out), HB2.out⟩
      | true =>
        have HD := Lib.hid hdig
        clear hdig
        gi_wp2_with (refine wide_skip rfl ?_; simp only [Act.put])
        refine ⟨trivial, ?_⟩
        refine (CallsIn.inRound k (callsIn_wide.2 HD.out)).mono ?_
        rintro e W1 ⟨rfl, hbx⟩
        have hb1 := Lib.hid hbx
        clear hbx HD
        cases hd : digitsB x with
        | false =>
          have HW := Lib.hid (wordOk_t x hx0 (by rw [hd]; exact fun h => by cases h))
          clear hd
          obtain ⟨cap, W2, hcv, hb2, hcl⟩ := bytes_of S x hS.out W1
          have HCL := Lib.hid hcl
          have HB2 := Lib.hid (hb1.out.trans (hb2.mono hb1.out.size))
          have c2 : W2.cell? ⟨N + 1, 0, none⟩ = some (.bool false) := by rw [HB2.out.cell (p := ⟨N + 1, 0, none⟩) (by show N + 1 < _; omega)]; exact c1.out
          have f2 : W2.frozen? ⟨N + 1, 0, none⟩ = false := by rw [HB2.out.frozen (p := ⟨N + 1, 0, none⟩) (by show N + 1 < _; omega)]; exact f1.out
          clear hcl hb2
          gi_wp2_with (refine wide_skip rfl ?_; simp only [Act.put])
          gi_loop [33] (fun kv => ∃ i : Nat, i ≤ x.length ∧ kv = .int .i64 (i : Int) ∧ ∀ j (h : j < x.length), j < i → okc x[j] = true) (fun kv => x.length - (intOf kv).toNat)
          case atStart => exact ⟨0, by omega, rfl, fun j _ h => by omega⟩
          case round =>
            obtain ⟨i, hi, rfl, hn⟩ := hrel
            have HN := Lib.hid hn
            clear hn
            by_cases hil : i < x.length
            · have hci := HCL.out i hil
              by_cases hk : okc x[i] = true
              · have HK := Lib.hid hk
                have hy := okc_yes hk
                clear hk
                obtain ⟨c, hc⟩ : ∃ c, x[i] = c := ⟨_, rfl⟩
                rw [hc] at hci hy
                clear hc
                generalize c.toNat = cn at hci hy
                rcases hy with ⟨y1, y2⟩ | ⟨y1, y2⟩ | ⟨y1, y2⟩ | y1
                all_goals
                  first | (have k1 : decide ((cn : Int) ≤ 57) = false := decide_eq_false (by omega)) | (have k1 : decide ((cn : Int) ≤ 57) = true := decide_eq_true (by omega)) | skip
                  first | (have k2 : decide ((cn : Int) ≤ 90) = false := decide_eq_false (by omega)) | (have k2 : decide ((cn : Int) ≤ 90) = true := decide_eq_true (by omega)) | skip
                  first | (have k3 : decide ((cn : Int) ≤ 122) = false := decide_eq_false (by omega)) | (have k3 : decide ((cn : Int) ≤ 122) = true := decide_eq_true (by omega)) | skip
                  gi_wp2_with (refine wide_skip rfl ?_; simp only [Act.put])
                all_goals
                  go_round
                  case rel =>
                    refine ⟨i + 1, by omega, by go_num, fun j hj hji => ?_⟩
                    by_cases hji' : j < i
                    · exact HN.out j hj hji'
                    · obtain rfl : j = i := by omega
                      exact HK.out
                  case measure => simp [intOf]; omega
              · have HK := Lib.hid hk
                have hy := okc_no hk
                clear hk
                obtain ⟨c, hc⟩ : ∃ c, x[i] = c := ⟨_, rfl⟩
                rw [hc] at hci hy
                clear hc
                generalize c.toNat = cn at hci hy
                rcases hy with y1 | ⟨y1, y2⟩ | ⟨y1, y2⟩ | ⟨y1, y2⟩ | y1
                all_goals
                  have q45 : ((cn : Int) == 45) = false := by rw [beq_eq_false_iff_ne]; omega
                  first | (have k1 : decide ((cn : Int) ≤ 57) = false := decide_eq_false (by omega)) | (have k1 : decide ((cn : Int) ≤ 57) = true := decide_eq_true (by omega)) | skip
                  first | (have k2 : decide ((cn : Int) ≤ 90) = false := decide_eq_false (by omega)) | (have k2 : decide ((cn : Int) ≤ 90) = true := decide_eq_true (by omega)) | skip
                  first | (have k3 : decide ((cn : Int) ≤ 122) = false := decide_eq_false (by omega)) | (have k3 : decide ((cn : Int) ≤ 122) = true := decide_eq_true (by omega)) | skip
                  gi_wp2_with (refine wide_skip rfl ?_; simp only [Act.put])
                  exact ⟨(HW.out).2 (all_no hil HK.out), _, HB2.out, rfl⟩
            · have hie : i = x.length := by omega
              subst hie
              gi_wp2_with (refine wide_skip rfl ?_; simp only [Act.put])
              exact ⟨(HW.out).1 (all_yes HN.out), HB2.out⟩
        | true =>
          by_cases hl1 : x.length ≤ 1
          · have HW := Lib.hid (wordOk_t x hx0 (fun _ h => by omega))
            have hs1 : S.size ≤ 1 := by omega
            clear hd
            obtain ⟨cap, W2, hcv, hb2, hcl⟩ := bytes_of S x hS.out W1
            have HCL := Lib.hid hcl
            have HB2 := Lib.hid (hb1.out.trans (hb2.mono hb1.out.size))
            have c2 : W2.cell? ⟨N + 1, 0, none⟩ = some (.bool false) := by rw [HB2.out.cell (p := ⟨N + 1, 0, none⟩) (by show N + 1 < _; omega)]; exact c1.out
            have f2 : W2.frozen? ⟨N + 1, 0, none⟩ = false := by rw [HB2.out.frozen (p := ⟨N + 1, 0, none⟩) (by show N + 1 < _; omega)]; exact f1.out
            clear hcl hb2
            gi_wp2_with (refine wide_skip rfl ?_; simp only [Act.put])
            gi_loop [33] (fun kv => ∃ i : Nat, i ≤ x.length ∧ kv = .int .i64 (i : Int) ∧ ∀ j (h : j < x.length), j < i → okc x[j] = true) (fun kv => x.length - (intOf kv).toNat)
            case atStart => exact ⟨0, by omega, rfl, fun j _ h => by omega⟩
            case round =>
              obtain ⟨i, hi, rfl, hn⟩ := hrel
              have HN := Lib.hid hn
              clear hn
              by_cases hil : i < x.length
              · have hci := HCL.out i hil
                by_cases hk : okc x[i] = true
                · have HK := Lib.hid hk
                  have hy := okc_yes hk
                  clear hk
                  obtain ⟨c, hc⟩ : ∃ c, x[i] = c := ⟨_, rfl⟩
                  rw [hc] at hci hy
                  clear hc
                  generalize c.toNat = cn at hci hy
                  rcases hy with ⟨y1, y2⟩ | ⟨y1, y2⟩ | ⟨y1, y2⟩ | y1
                  all_goals
                    first | (have k1 : decide ((cn : Int) ≤ 57) = false := decide_eq_false (by omega)) | (have k1 : decide ((cn : Int) ≤ 57) = true := decide_eq_true (by omega)) | skip
                    first | (have k2 : decide ((cn : Int) ≤ 90) = false := decide_eq_false (by omega)) | (have k2 : decide ((cn : Int) ≤ 90) = true := decide_eq_true (by omega)) | skip
                    first | (have k3 : decide ((cn : Int) ≤ 122) = false := decide_eq_false (by omega)) | (have k3 : decide ((cn : Int) ≤ 122) = true := decide_eq_true (by omega)) | skip
                    gi_wp2_with (refine wide_skip rfl ?_; simp only [Act.put])
                  all_goals
                    go_round
                    case rel =>
                      refine ⟨i + 1, by omega, by go_num, fun j hj hji => ?_⟩
                      by_cases hji' : j < i
                      · exact HN.out j hj hji'
                      · obtain rfl : j = i := by omega
                        exact HK.out
                    case measure => simp [intOf]; omega
                · have HK := Lib.hid hk
                  have hy := okc_no hk
                  clear hk
                  obtain ⟨c, hc⟩ : ∃ c, x[i] = c := ⟨_, rfl⟩
                  rw [hc] at hci hy
                  clear hc
                  generalize c.toNat = cn at hci hy
                  rcases hy with y1 | ⟨y1, y2⟩ | ⟨y1, y2⟩ | ⟨y1, y2⟩ | y1
                  all_goals
                    have q45 : ((cn : Int) == 45) = false := by rw [beq_eq_false_iff_ne]; omega
                    first | (have k1 : decide ((cn : Int) ≤ 57) = false := decide_eq_false (by omega)) | (have k1 : decide ((cn : Int) ≤ 57) = true := decide_eq_true (by omega)) | skip
                    first | (have k2 : decide ((cn : Int) ≤ 90) = false := decide_eq_false (by omega)) | (have k2 : decide ((cn : Int) ≤ 90) = true := decide_eq_true (by omega)) | skip
                    first | (have k3 : decide ((cn : Int) ≤ 122) = false := decide_eq_false (by omega)) | (have k3 : decide ((cn : Int) ≤ 122) = true := decide_eq_true (by omega)) | skip
                    gi_wp2_with (refine wide_skip rfl ?_; simp only [Act.put])
                    exact ⟨(HW.out).2 (all_no hil HK.out), _, HB2.out, rfl⟩
              · have hie : i = x.length := by omega
                subst hie
                gi_wp2_with (refine wide_skip rfl ?_; simp only [Act.put])
                exact ⟨(HW.out).1 (all_yes HN.out), HB2.out⟩
          · have h0 : 0 < x.length := by omega
            have h0' : 0 < S.size := by omega
            have hS0 : S[0] = x[0] := by have h1 := hS.out; subst h1; exact tx_at x 0 h0'
            have hs1 : 1 < S.size := by omega
            by_cases hc : x[0].toNat = 48
            · have hok := wordOk_z x h0 hd (by omega) hc
              have HOK := Lib.hid hok
              rw [← hS0] at hc
              have q : ((S[0].toNat : Int) == 48) = true := by rw [hc]; rfl
              have c1' : W1.cell? ⟨N + 1, 0, none⟩ = some (.bool false) := by rw [hb1.out.cell (p := ⟨N + 1, 0, none⟩) (by show N + 1 < _; omega)]; exact c1.out
              have f1' : W1.frozen? ⟨N + 1, 0, none⟩ = false := by rw [hb1.out.frozen (p := ⟨N + 1, 0, none⟩) (by show N + 1 < _; omega)]; exact f1.out
              clear hd hok hc hS0
              gi_wp2_with (refine wide_skip rfl ?_; simp only [Act.put])
              exact ⟨HOK.out, W1, hb1.out, rfl⟩
            · have HW := Lib.hid (wordOk_t x hx0 (fun _ h => fun e => hc (by cases x with | nil => exact absurd rfl hx0 | cons c q => simp at e ⊢; rw [e]; rfl)))
              have q : ((S[0].toNat : Int) == 48) = false := by rw [beq_eq_false_iff_ne, hS0]; omega
              clear hd hc hS0
              obtain ⟨cap, W2, hcv, hb2, hcl⟩ := bytes_of S x hS.out W1
              have HCL := Lib.hid hcl
              have HB2 := Lib.hid (hb1.out.trans (hb2.mono hb1.out.size))
              have c2 : W2.cell? ⟨N + 1, 0, none⟩ = some (.bool false) := by rw [HB2.out.cell (p := ⟨N + 1, 0, none⟩) (by show N + 1 < _; omega)]; exact c1.out
              have f2 : W2.frozen? ⟨N + 1, 0, none⟩ = false := by rw [HB2.out.frozen (p := ⟨N + 1, 0, none⟩) (by show N + 1 < _; omega)]; exact f1.out
              clear hcl hb2
              gi_wp2_with (refine wide_skip rfl ?_; simp only [Act.put])
              gi_loop [33] (fun kv => ∃ i : Nat, i ≤ x.length ∧ kv = .int .i64 (i : Int) ∧ ∀ j (h : j < x.length), j < i → okc x[j] = true) (fun kv => x.length - (intOf kv).toNat)
              case atStart => exact ⟨0, by omega, rfl, fun j _ h => by omega⟩
              case round =>
                obtain ⟨i, hi, rfl, hn⟩ := hrel
                have HN := Lib.hid hn
                clear hn
                by_cases hil : i < x.length
                · have hci := HCL.out i hil
                  by_cases hk : okc x[i] = true
                  · have HK := Lib.hid hk
                    have hy := okc_yes hk
                    clear hk
                    obtain ⟨c, hc⟩ : ∃ c, x[i] = c := ⟨_, rfl⟩
                    rw [hc] at hci hy
                    clear hc
                    generalize c.toNat = cn at hci hy
                    rcases hy with ⟨y1, y2⟩ | ⟨y1, y2⟩ | ⟨y1, y2⟩ | y1
                    all_goals
                      first | (have k1 : decide ((cn : Int) ≤ 57) = false := decide_eq_false (by omega)) | (have k1 : decide ((cn : Int) ≤ 57) = true := decide_eq_true (by omega)) | skip
                      first | (have k2 : decide ((cn : Int) ≤ 90) = false := decide_eq_false (by omega)) | (have k2 : decide ((cn : Int) ≤ 90) = true := decide_eq_true (by omega)) | skip
                      first | (have k3 : decide ((cn : Int) ≤ 122) = false := decide_eq_false (by omega)) | (have k3 : decide ((cn : Int) ≤ 122) = true := decide_eq_true (by omega)) | skip
                      gi_wp2_with (refine wide_skip rfl ?_; simp only [Act.put])
                    all_goals
                      go_round
                      case rel =>
                        refine ⟨i + 1, by omega, by go_num, fun j hj hji => ?_⟩
                        by_cases hji' : j < i
                        · exact HN.out j hj hji'
                        · obtain rfl : j = i := by omega
                          exact HK.out
                      case measure => simp [intOf]; omega
                  · have HK := Lib.hid hk
                    have hy := okc_no hk
                    clear hk
                    obtain ⟨c, hc⟩ : ∃ c, x[i] = c := ⟨_, rfl⟩
                    rw [hc] at hci hy
                    clear hc
                    generalize c.toNat = cn at hci hy
                    rcases hy with y1 | ⟨y1, y2⟩ | ⟨y1, y2⟩ | ⟨y1, y2⟩ | y1
                    all_goals
                      have q45 : ((cn : Int) == 45) = false := by rw [beq_eq_false_iff_ne]; omega
                      first | (have k1 : decide ((cn : Int) ≤ 57) = false := decide_eq_false (by omega)) | (have k1 : decide ((cn : Int) ≤ 57) = true := decide_eq_true (by omega)) | skip
                      first | (have k2 : decide ((cn : Int) ≤ 90) = false := decide_eq_false (by omega)) | (have k2 : decide ((cn : Int) ≤ 90) = true := decide_eq_true (by omega)) | skip
                      first | (have k3 : decide ((cn : Int) ≤ 122) = false := decide_eq_false (by omega)) | (have k3 : decide ((cn : Int) ≤ 122) = true := decide_eq_true (by omega)) | skip
                      gi_wp2_with (refine wide_skip rfl ?_; simp only [Act.put])
                      exact ⟨(HW.out).2 (all_no hil HK.out), _, HB2.out, rfl⟩
                · have hie : i = x.length := by omega
                  subst hie
                  gi_wp2_with (refine wide_skip rfl ?_; simp only [Act.put])
                  exact ⟨(HW.out).1 (all_yes HN.out), HB2.out⟩
  case done =>
    intro D W hD hall hb hK
    have hc : W.cell? ⟨w.heap.size + 1, 0, none⟩ = some (.bool false) := by rw [hb.cell (p := ⟨w.heap.size + 1, 0, none⟩) (by show w.heap.size + 1 < _; omega)]; exact (show Boxed V _ _ _ from p1').cell
    have hf : W.frozen? ⟨w.heap.size + 1, 0, none⟩ = false := by rw [hb.frozen (p := ⟨w.heap.size + 1, 0, none⟩) (by show w.heap.size + 1 < _; omega)]; exact (show Boxed V _ _ _ from p1').frozen
    have HBW := Lib.hid (hbV.trans (hb.mono (by omega)))
    have HD : Hid (w.heap.size ≤ D) := Lib.hid (by omega)
    have HA : Hid (wordsB pre l = true) := Lib.hid hall
    have HK := Lib.hid hK
    have HC := Lib.hid hc
    clear hz hs0 hb0 p0 p1 q0 q1 q2 q3 q4 hV p0' p1' hbV hD hall hb hK
    gi_wp2
    have hK' := (KeepsOthers.setCell W ⟨w.heap.size + 1, 0, none⟩ (.bool true)).same D _ HK.out rfl
    refine ⟨by simp, .inl ⟨_, _, rfl, run_takeDeferred hK', ?_⟩⟩
    have hc5 := cell_kept (World.cell?_setCell_same' W ⟨w.heap.size + 1, 0, none⟩ (.bool true) (by rw [HC.out]; rfl)) (grownBy_putObj' _ D (.deferred none)) (fun r e => by cases e; exact ⟨_, hK', rfl⟩)
    refine ⟨.bool true, ?_, by rw [HA.out], ?_⟩
    · simp [results, Tryd.f34, go_sem, hc5]
    · exact (HBW.out.setCell (p := ⟨w.heap.size + 1, 0, none⟩) (by show w.heap.size ≤ w.heap.size + 1; omega) _).trans (belowK_b (w := w) (Nat.le_refl _) _ D _ _ HD.out hK' rfl rfl)
  case stop =>
    intro D W hD hall hb hc hK
    have HBW := Lib.hid (hbV.trans hb)
    have HD : Hid (w.heap.size ≤ D) := Lib.hid (by omega)
    have HA : Hid (wordsB pre l = false) := Lib.hid hall
    have HK := Lib.hid hK
    have HC := Lib.hid hc
    clear hz hs0 hb0 p0 p1 q0 q1 q2 q3 q4 hV p0' p1' hbV hD hall hb hK hc
    gi_wp2
    refine ⟨by simp, .inl ⟨_, _, rfl, run_takeDeferred HK.out, ?_⟩⟩
    have hc5 := cell_kept HC.out (grownBy_putObj' _ D (.deferred none)) (fun r e => by cases e; exact ⟨_, HK.out, rfl⟩)
    refine ⟨.bool false, ?_, by rw [HA.out], ?_⟩
    · simp [results, Tryd.f34, go_sem, hc5]
    · exact HBW.out.trans (belowK_b (w := w) (Nat.le_refl _) _ D _ _ HD.out HK.out rfl rfl)

/-- 'words'. -/
theorem words_any (l : List UInt8) (pre : Bool) (w : World) (hz : l.length ≤ 1000000) :
    Calls Tryd.prog 34 #[.string (tx l), .bool pre] w fun e w' => e = .returned (.bool (wordsB pre l)) ∧ Below w.heap.size w w' :=
  callsIn_wide.1 (words_raw l pre w hz)
end Go.Proofs.YtgojmckfabhkaaaDoor.Sem
