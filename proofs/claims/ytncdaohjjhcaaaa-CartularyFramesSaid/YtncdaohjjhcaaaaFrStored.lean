/- THE WALK of stored, and of run over a stored block. Conditions: the stream's bits lie there; the text is short. -/
import Derived.Test.YtncdaohjjhcaaaaFrRun
import Derived.Test.YtncdaohjjhcaaaaFrSums
import Derived.Test.YtncdaohjjhcaaaaBytesStr
namespace Go.Proofs.Ytncdaohjjhcaaaa
open Go.RowKit Sums
set_option linter.unusedVariables false

theorem litN_app : ∀ x y : List UInt8, litN (x ++ y) = litN x + litN y * 256 ^ x.length
  | [], y => by simp [litN]
  | c :: x, y => by rw [List.cons_append, litN_cons, litN_cons, litN_app x y, List.length_cons, Nat.pow_succ, Nat.mul_add, Nat.add_assoc, Nat.mul_comm (256 ^ x.length) 256, Nat.mul_left_comm 256]
theorem up8_mul (n k : Nat) : up8 (up8 n + 8 * k) = up8 n + 8 * k := by unfold up8; omega
theorem encB_app (T1 T2 : List UInt8) (a : St) : encB (T1 ++ T2) a = encB T2 (encB T1 a) := by
  unfold encB
  simp only [up8_mul, litN_app, List.length_append, St.mk.injEq]
  refine ⟨by omega, ?_⟩
  rw [Nat.add_mul, Nat.mul_assoc (litN T2), show (256 : Nat) = 2 ^ 8 by decide, ← Nat.pow_mul, ← Nat.pow_add, Nat.add_comm (8 * T1.length), Nat.add_assoc]
/-- Whole bytes of a stream, read out of the longer text. -/
theorem src_bytes {txt : ByteArray} {P : Nat} {a b : St} {T : List UInt8} (hP : P % 8 = 0) (h : Src (num txt) P b) (ha : a.ok) (hp : Pre (encB T a) b) (hend : P + b.n ≤ 8 * txt.size) :
    (txt.extract (up8 (P + a.n) / 8) (up8 (P + a.n) / 8 + T.length)).data.toList = T ∧ up8 (P + a.n) / 8 + T.length ≤ txt.size ∧ up8 (P + a.n) + 8 * T.length = P + (encB T a).n := by
  obtain ⟨q, rfl⟩ : ∃ q, P = 8 * q := ⟨P / 8, by omega⟩
  have hu : up8 (8 * q + a.n) = 8 * q + up8 a.n := by unfold up8; omega
  have hm : up8 (8 * q + a.n) / 8 = q + up8 a.n / 8 := by rw [hu]; omega
  have hu8 : up8 a.n = 8 * (up8 a.n / 8) := by unfold up8; omega
  have hn : (encB T a).n = up8 a.n + 8 * T.length := rfl
  have hle := hp.1
  rw [hn] at hle
  have hfit : q + up8 a.n / 8 + T.length ≤ txt.size := by omega
  refine ⟨?_, by rw [hm]; exact hfit, by rw [hu, hn]; omega⟩
  have h0 : (a.put (up8 a.n - a.n) 0).ok := St.put_ok ha (Nat.two_pow_pos _)
  have h1 := h.take h0 (litN_lt' T) (by rw [← encB_put]; exact hp)
  have h3 : (a.put (up8 a.n - a.n) 0).n = up8 a.n := by show a.n + (up8 a.n - a.n) = _; unfold up8; omega
  rw [h3] at h1
  have hl : txt.data.toList.length = txt.size := by simp
  have h4 := lits_litN txt.data.toList
  have h5 : (txt.extract (q + up8 a.n / 8) (q + up8 a.n / 8 + T.length)).data.toList = (txt.data.toList.drop (q + up8 a.n / 8)).take T.length := by simp
  rw [hm, h5, ← h4, hl, lits_mid _ _ _ _ hfit]
  have h6 : num txt / 256 ^ (q + up8 a.n / 8) % 256 ^ T.length = litN T := by
    rw [← h1, show (256 : Nat) = 2 ^ 8 by decide, ← Nat.pow_mul, ← Nat.pow_mul]
    congr 3
    omega
  rw [← lits_mod _ _ T.length (Nat.le_refl _)]
  show lits (num txt / 256 ^ (q + up8 a.n / 8) % 256 ^ T.length) T.length = T
  rw [h6, lits_litN]
def stHdr (n : Nat) : List UInt8 := lits n 2 ++ lits (65535 - n) 2
theorem stHdr_len (n : Nat) : (stHdr n).length = 4 := by unfold stHdr; rw [List.length_append, lits_length, lits_length]
set_option maxRecDepth 100000 in
theorem xor_ffff (n : Nat) (h : n < 1000) : n ^^^ 65535 = 65535 - n := by
  have h0 : ∀ n : Fin 1000, n.val ^^^ 65535 = 65535 - n.val := by decide +kernel
  exact h0 ⟨n, h⟩
theorem i64_xor_nat (a b : Nat) (ha : a < 9223372036854775808) (hb : b < 9223372036854775808) : bits .xor .i64 (a : Int) (b : Int) = ((a ^^^ b : Nat) : Int) := by
  have hx : a ^^^ b < 2 ^ 63 := Nat.xor_lt_two_pow (by omega) (by omega)
  show IntKind.i64.wrap ((BitVec.ofInt 64 (a : Int) ^^^ BitVec.ofInt 64 (b : Int)).toNat : Int) = _
  rw [BitVec.toNat_xor, ofInt_u64 a (by omega), ofInt_u64 b (by omega)]
  exact wrap_i64_nat _ (by omega)
theorem xor_w (n : Nat) (h : n < 1000) : bits .xor .i64 (n : Int) 65535 = ((65535 - n : Nat) : Int) := by
  have h1 := i64_xor_nat n 65535 (by omega) (by decide)
  rw [xor_ffff n h] at h1
  exact h1
theorem num2 (n : Nat) (h : n < 65536) : litN ((lits n 2).take 8) = n := by
  rw [List.take_of_length_le (by rw [lits_length]; decide), litN_lits]
  omega

set_option maxRecDepth 100000 in
set_option maxHeartbeats 2000000 in
theorem stored_any (b br B most P : Nat) (s : ByteArray) (txt : ByteArray) (fr : Int) (o : List UInt8) (ov : Value) (w : World) (hx : XAt w b br B txt (P + 3) fr o most ov) (hB : B ≤ w.heap.size)
    (hP : P % 8 = 0) (hs : Src (num txt) P (encB (stHdr s.size ++ s.data.toList) ⟨3, 1⟩)) (hend : P + (encB (stHdr s.size ++ s.data.toList) ⟨3, 1⟩).n ≤ 8 * txt.size) (hsz : txt.size ≤ 1000000000) (hs1 : s.size < 1000) (hm : o.length + s.size ≤ most) (hm2 : most ≤ 1000000) :
    Calls Try.prog 41 #[.pointer (some ⟨b, 0, none⟩)] w fun e w' => e = .returned (.int .i64 0) ∧ (∃ ov', XAt w' b br B txt (P + (encB (stHdr s.size ++ s.data.toList) ⟨3, 1⟩).n) fr (o ++ s.data.toList) most ov') ∧ Ks 5 b br B w w' := by
  have hok1 : (⟨3, 1⟩ : St).ok := by show 1 < 2 ^ 3; decide
  rw [encB_app] at hs hend ⊢
  obtain ⟨hok2, _⟩ := encB_ok (T := stHdr s.size) hok1
  obtain ⟨hok3, hp3⟩ := encB_ok (T := s.data.toList) hok2
  obtain ⟨a1, a2, a3⟩ := src_bytes hP hs hok1 hp3 hend
  obtain ⟨b1, b2, b3⟩ := src_bytes hP hs hok2 (Pre.refl hok3) hend
  rw [stHdr_len] at a1 a2 a3
  have hsl : s.data.toList.length = s.size := by simp
  rw [hsl] at b1 b2 b3
  have C1 : RowKit.Hid (∀ W, RAt W br txt (P + 3) fr → Calls Try.prog 12 #[.pointer (some ⟨br, 0, none⟩), .int .i64 4] W fun e w' => e = .returned (.tuple #[.string (txt.extract (up8 (P + 3) / 8) (up8 (P + 3) / 8 + 4)), .bool true]) ∧ RAt w' br txt (P + (encB (stHdr s.size) ⟨3, 1⟩).n) fr ∧ W.grownBy w' (some br)) := Lib.hid (fun W hW => by
    have h := rbytes_any br 4 (P + 3) txt fr W hW hsz a2
    rw [a3] at h
    exact h)
  have hse : txt.extract (up8 (P + (encB (stHdr s.size) ⟨3, 1⟩).n) / 8) (up8 (P + (encB (stHdr s.size) ⟨3, 1⟩).n) / 8 + s.size) = s := by
    apply ByteArray.ext
    apply Array.ext'
    exact b1
  have C2 : RowKit.Hid (∀ W, RAt W br txt (P + (encB (stHdr s.size) ⟨3, 1⟩).n) fr → Calls Try.prog 12 #[.pointer (some ⟨br, 0, none⟩), .int .i64 (s.size : Int)] W fun e w' => e = .returned (.tuple #[.string s, .bool true]) ∧ RAt w' br txt (P + (encB s.data.toList (encB (stHdr s.size) ⟨3, 1⟩)).n) fr ∧ W.grownBy w' (some br)) := Lib.hid (fun W hW => by
    have h := rbytes_any br s.size (P + (encB (stHdr s.size) ⟨3, 1⟩).n) txt fr W hW hsz b2
    rw [hse, b3] at h
    exact h)
  obtain ⟨hd, hhd⟩ : ∃ hd, hd = txt.extract (up8 (P + 3) / 8) (up8 (P + 3) / 8 + 4) := ⟨_, rfl⟩
  rw [← hhd] at C1
  have hdl : hd.data.toList = stHdr s.size := by rw [hhd]; exact a1
  have hds : hd.size = 4 := by
    have h := congrArg List.length hdl
    rw [stHdr_len] at h
    simpa using h
  have d1 : (hd.extract 0 2).data.toList = lits s.size 2 := by
    have h : (hd.extract 0 2).data.toList = hd.data.toList.take 2 := by simp
    rw [h, hdl]
    unfold stHdr
    rw [List.take_left' (lits_length _ _)]
  have d2 : (hd.extract 2 hd.size).data.toList = lits (65535 - s.size) 2 := by
    have h : (hd.extract 2 hd.size).data.toList = hd.data.toList.drop 2 := by
      simp
      exact List.take_of_length_le (by simp)
    rw [h, hdl]
    unfold stHdr
    rw [List.drop_left' (lits_length _ _)]
  have F1 : RowKit.Hid (∀ W, Calls Try.prog 46 #[.string (hd.extract 0 2)] W fun e w' => e = .returned (.int .u64 (s.size : Int)) ∧ W = w') := Lib.hid (fun W => by
    have h := fromLittle_any (hd.extract 0 2) W (by rw [ByteArray.size_extract]; omega)
    rw [d1, num2 _ (by omega)] at h
    exact h)
  have F2 : RowKit.Hid (∀ W, Calls Try.prog 46 #[.string (hd.extract 2 hd.size)] W fun e w' => e = .returned (.int .u64 ((65535 - s.size : Nat) : Int)) ∧ W = w') := Lib.hid (fun W => by
    have h := fromLittle_any (hd.extract 2 hd.size) W (by rw [ByteArray.size_extract]; omega)
    rw [d2, num2 _ (by omega)] at h
    exact h)
  have hxo := xor_w s.size hs1
  obtain ⟨y, hy⟩ : ∃ y, y = 65535 - s.size := ⟨_, rfl⟩
  rw [← hy] at F2 hxo
  have hyl : y ≤ 65535 := by omega
  have hwy : IntKind.i64.wrap (y : Int) = (y : Int) := IntWalk.i64_in _ (by omega)
  have hws : IntKind.i64.wrap (s.size : Int) = (s.size : Int) := IntWalk.i64_in _ (by omega)
  generalize encB s.data.toList (encB (stHdr s.size) ⟨3, 1⟩) = A3 at C2 ⊢
  generalize encB (stHdr s.size) ⟨3, 1⟩ = A2 at C1 C2
  have HX := Lib.hid hx
  have c0 := cell_at hx.cell 0
  simp only [List.getElem?_toArray, List.getElem?_cons_zero, List.getElem?_cons_succ] at c0
  have h2h : (2 : Int) ≤ (hd.size : Int) := by omega
  have h2N : 2 ≤ hd.size := by omega
  have HDS := Lib.hid hds
  clear hx hok1 hs hend hok2 hok3 hp3 a1 a2 a3 b1 b2 b3 hsl hse hhd hdl d1 d2 hy hds
  go_enter Try.func41, Try.ntmps41
  go_wp2_with fail
  refine (C1.out _ HX.out.rd).mono ?_
  rintro e v1 ⟨rfl, hr1, hg1⟩
  have X1 := Lib.hid (HX.out.read hr1 hg1)
  have K1 := Lib.hid (ks_gb (e := 5) (b := b) (B := B) hg1)
  have hc1 := cell_at X1.out.cell 0
  simp only [List.getElem?_toArray, List.getElem?_cons_zero, List.getElem?_cons_succ] at hc1
  clear hr1 hg1 c0
  go_wp2_with fail
  refine (F1.out _).mono ?_
  rintro e v2 ⟨rfl, rfl⟩
  go_wp2_with fail
  refine (F2.out _).mono ?_
  rintro e v2 ⟨rfl, rfl⟩
  go_wp2_with fail
  refine (C2.out _ X1.out.rd).mono ?_
  rintro e v2 ⟨rfl, hr1, hg1⟩
  have X2 := Lib.hid (X1.out.read hr1 hg1)
  have K2 := Lib.hid (ks_trans K1.out (ks_gb (e := 5) (b := b) (B := B) hg1))
  obtain ⟨A1, m1, p1, hov⟩ := row_shape X2.out.own
  have hm1 : m1 = o.length := by
    have h2 := X2.out.own
    rw [hov] at h2
    rcases h2.2 with ⟨e, e2⟩ | ⟨g, c, cur, e, _⟩
    · cases e; omega
    · cases e; rfl
  have d1 := cell_at X2.out.cell 1
  have d2 := cell_at X2.out.cell 2
  simp only [List.getElem?_toArray, List.getElem?_cons_zero, List.getElem?_cons_succ] at d1 d2
  rw [hov, hm1] at d1
  have hsub : IntKind.i64.wrap ((most : Int) - (o.length : Int)) = (most : Int) - (o.length : Int) := IntWalk.i64_in _ (by omega)
  have hcmp : ¬ (most : Int) - (o.length : Int) < (s.size : Int) := by omega
  clear hr1 hg1 hc1 hov hm1
  go_wp2_with fail
  go_quiet (fail)
  clear d1 d2
  have hcell : (v2.drewN nq).heap[b]? = some (.cells #[.pointer (some ⟨br, 0, none⟩), ov, .int .i64 (most : Int)] 67 (0, 0)) := X2.out.cell
  have hown : ownsB (v2.drewN nq) B ov o := X2.out.own
  have hszq : (v2.drewN nq).heap.size = v2.heap.size := rfl
  have HK0 := Lib.hid (kt_drewN (kt_refl 5 b B v2) nq)
  have HRD := Lib.hid (show RAt (v2.drewN nq) br txt (P + A3.n) fr from by
    obtain ⟨a, hv, hr⟩ := X2.out.rd
    exact ⟨a, hv, rin_drewN hr nq⟩)
  have hBv : B ≤ v2.heap.size := Nat.le_trans hB K2.out.size
  generalize v2.drewN nq = W at hcell hown hszq HK0 HRD ⊢
  have hB1 : B ≤ W.heap.size := by omega
  have c1 := cell_at hcell 1
  simp only [List.getElem?_toArray, List.getElem?_cons_zero, List.getElem?_cons_succ] at c1
  have HCELL := Lib.hid hcell
  have HOWN := Lib.hid hown
  have hlen : o.length + s.size ≤ 140737488355328 := by omega
  clear hcell hown hszq
  go_wp2_with (at_builtin; refine append_text _ rfl (.tmp 70) (.tmp 71) rfl B ov o rfl HOWN.out s rfl hlen hB1 ?_; intro v4 w4 hown4 hg4; obtain ⟨A2, m2, p2, rfl⟩ := row_shape hown4; have hc4 := gb_heap hg4 HCELL.out (fun e => row_ne HOWN.out HCELL.out (by decide) e.symm); have r1 := cell_at hc4 1; simp only [List.getElem?_toArray, List.getElem?_cons_zero, List.getElem?_cons_succ] at r1; have s1 := free_at hc4 1)
  have hs1 := heap_set hc4 1 (.slice A2 m2 p2)
  simp only [List.setIfInBounds_toArray, List.set_cons_zero, List.set_cons_succ] at hs1
  have ho3 : ownsB (w4.setCell ⟨b, 1, none⟩ (.slice A2 m2 p2)) B (.slice A2 m2 p2) (o ++ s.data.toList) := hown4.kept (row := some b) (gb_set (gb_refl w4 _) 1 _) (.inr (row_ne hown4 hc4 (by decide)))
  have k3 : Kt 5 b B v2 (w4.setCell ⟨b, 1, none⟩ (.slice A2 m2 p2)) := kt_set (kt_gb HK0.out HOWN.out hg4) 1 _
  have hr3 : RAt (w4.setCell ⟨b, 1, none⟩ (.slice A2 m2 p2)) br txt (P + A3.n) fr := by
    obtain ⟨cc, ff, hbr⟩ := HRD.out.block
    have h2 := rat_gb HRD.out hg4 (fun e => row_ne HOWN.out hbr (by decide) e.symm)
    exact rat_gb h2 (gb_set (gb_refl w4 (some b)) 1 _) (fun e => HX.out.ne (Option.some.inj e).symm)

  go_ret
  exact ⟨rfl, ⟨_, hs1, ho3, hr3⟩, ks_trans K2.out (ks_kt k3)⟩

set_option maxRecDepth 100000 in
set_option maxHeartbeats 4000000 in
theorem run_stored (b br B most P : Nat) (s txt : ByteArray) (fr : Int) (ov : Value) (w : World) (hx : XAt w b br B txt P fr [] most ov) (hB : B ≤ w.heap.size)
    (hP : P % 8 = 0) (hs : Src (num txt) P (encB (stHdr s.size ++ s.data.toList) ⟨3, 1⟩)) (hend : P + (encB (stHdr s.size ++ s.data.toList) ⟨3, 1⟩).n ≤ 8 * txt.size) (hsz : txt.size ≤ 1000000000) (hs1 : s.size < 1000) (hm : s.size ≤ most) (hm2 : most ≤ 1000000) :
    Calls Try.prog 29 #[.pointer (some ⟨b, 0, none⟩)] w fun e w' => e = .returned (.int .i64 0) ∧ (∃ ov', XAt w' b br B txt (P + (encB (stHdr s.size ++ s.data.toList) ⟨3, 1⟩).n) fr s.data.toList most ov') ∧ Ks 5 b br B w w' := by
  have hok1 : (⟨3, 1⟩ : St).ok := by show 1 < 2 ^ 3; decide
  have hpre0 := (encB_ok (T := stHdr s.size ++ s.data.toList) hok1).2
  have hd : num txt / 2 ^ P % 2 ^ 3 = 1 := hs.pre hpre0
  have n0 : P + 3 ≤ 8 * txt.size := Src.len (S := 0) hpre0 hend
  have C0 := rbits_any br 3 P txt fr w hx.rd (by decide) hsz n0
  rw [hd] at C0
  have HC0 := Lib.hid C0
  have D0 := Lib.hid (fun W ov' (hX : XAt W b br B txt (P + 3) fr [] most ov') hBW => stored_any b br B most P s txt fr [] ov' W hX hBW hP hs hend hsz hs1 (by simpa using hm) hm2)
  have HX := Lib.hid hx
  have c0 := cell_at hx.cell 0
  simp only [List.getElem?_toArray, List.getElem?_cons_zero, List.getElem?_cons_succ] at c0
  clear hx hs hend hpre0 hd n0 C0 hok1
  generalize (encB (stHdr s.size ++ s.data.toList) ⟨3, 1⟩).n = nn at D0 ⊢
  go_enter Try.func29, Try.ntmps29
  go_wp2
  refine wp_scope_labels (fun l a' w' => l = 1 ∧ (a'.tmps.size = 75 ∧ a'.defers = [] ∧ a'.tmps.getD 0 undef = .pointer (some ⟨b, 0, none⟩) ∧ a'.tmps.getD 3 undef = .int .u32 1) ∧ (∃ ov', XAt w' b br B txt (P + nn) fr s.data.toList most ov') ∧ Ks 5 b br B w w') (fun _ _ _ => 0) ?_ ?_
  · go_wp2_with fail
    go_step3
    go_wp2_with fail
    refine (HC0.out).mono ?_
    rintro e v1 ⟨rfl, hr1, hg1⟩
    have X1 := Lib.hid (HX.out.read hr1 hg1)
    have K1 := Lib.hid (ks_gb (e := 5) (b := b) (B := B) hg1)
    have hB1 : B ≤ v1.heap.size := Nat.le_trans hB hg1.size
    clear hr1 hg1 c0
    go_wp2_with fail
    refine (D0.out v1 _ X1.out hB1).mono ?_
    rintro e v2 ⟨rfl, ⟨ov2, hx2⟩, hk2⟩
    have X2 := Lib.hid hx2
    have K2 := Lib.hid (ks_trans K1.out hk2)
    clear hx2 hk2
    go_wp2
    go_step3
    exact ⟨rfl, ⟨rfl, rfl, rfl, rfl⟩, ⟨ov2, X2.out⟩, K2.out⟩
  · intro l a1 w1 hJ
    obtain ⟨rfl, ⟨hsz75, hdf, g0, g3⟩, hx1, hk1⟩ := hJ
    refine ⟨_, rfl, ?_⟩
    obtain ⟨u, hu, rfl⟩ := frame75 a1 hsz75 hdf
    rw [← hu] at g0 g3
    simp only [g0, g3]
    clear hsz75 hdf hu g0 g3
    have E := Lib.hid (And.intro hx1 hk1)
    clear hx1 hk1
    go_hide hQ
    have HQ := Lib.hid hQ
    clear hQ
    go_wp2
    rw [← HQ.out]
    simp only [jumpsE]
    go_ret
    exact ⟨rfl, E.out.1, E.out.2⟩
end Go.Proofs.Ytncdaohjjhcaaaa
