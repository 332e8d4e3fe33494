/- THE WALK of repeat: bytes that were there before. Conditions: the stream's bits lie there; the numbers. -/
import Derived.Test.YtncdaohjjhcaaaaFrState
import Derived.Test.YtncdaohjjhcaaaaFrBase
import Derived.StillTailTactics
namespace Go.Proofs.Ytncdaohjjhcaaaa
open Go.RowKit Sums
set_option linter.unusedVariables false

theorem ownsB_at {w : World} {B : Nat} {v : Value} {l : List UInt8} (h : ownsB w B v l) (hl : 0 < l.length) : ∃ g cap, v = .slice (some ⟨g, 0, none⟩) l.length cap ∧ ∀ j, j < l.length → w.cell? ⟨g, j, none⟩ = some (.int .u8 ((l.getD j 0).toNat : Int)) := by
  rcases h.2 with ⟨_, h0⟩ | ⟨g, cap, cur, rfl, hB, hg, _⟩
  · omega
  · refine ⟨g, cap, rfl, fun j hj => ?_⟩
    have h1 := World.ownsRow.cellAt h j (by omega)
    rw [h1, List.getElem?_map, List.getElem?_eq_getElem hj, List.getD_eq_getElem?_getD, List.getElem?_eq_getElem hj]
    rfl
theorem ks_drew0 (e : TypeId) (b c B : Nat) (w : World) : Ks e b c B w w.drew := ⟨rfl, rfl, rfl, Nat.le_refl _, fun _ _ _ _ _ => rfl⟩
theorem encC_n (L : List Int) (s : Nat) (a : St) : (encC L s a).n = a.n + lenOf L s := rfl
theorem put_n (a : St) (k x : Nat) : (a.put k x).n = a.n + k := rfl

set_option maxRecDepth 100000 in
set_option maxHeartbeats 2000000 in
theorem repeat_any (b br B bt B2 most n k P : Nat) (a z : St) (txt : ByteArray) (fr : Int) (o : List UInt8) (ov LV SV : Value) (w : World) (hx : XAt w b br B txt (P + a.n) fr o most ov) (ht : TAt w bt B2 distL LV SV) (hB : B ≤ w.heap.size)
    (hok : a.ok) (hn : 3 ≤ n) (hn2 : n ≤ 258) (hk : 1 ≤ k) (hk2 : k ≤ 600) (hko : k ≤ o.length) (hm : o.length + n ≤ most) (hm2 : most ≤ 1000000)
    (hs : Src (num txt) P z) (hp : Pre ((encC distL (dsym k) (a.put (lbits n) (lmore n))).put (dbits k) (dmore k)) z) (hend : P + z.n ≤ 8 * txt.size) (hsz : txt.size ≤ 1000000000) :
    Calls Try.prog 44 #[.pointer (some ⟨b, 0, none⟩), .int .i64 ((257 + lsym n : Nat) : Int), .pointer (some ⟨bt, 0, none⟩)] w fun e w' => e = .returned (.int .i64 0) ∧
      (∃ ov', XAt w' b br B txt (P + ((encC distL (dsym k) (a.put (lbits n) (lmore n))).put (dbits k) (dmore k)).n) fr (cp o k n) most ov') ∧ Ks 5 b br B w w' := by
  obtain ⟨hl1, hl2⟩ := lmore_lt n hn2
  obtain ⟨hd1, hd2⟩ := dmore_lt k hk2
  have hlb := lsym_base n hn
  have hdb := dsym_base k hk
  have hls := lsym_lt n
  have hds := dsym_lt k
  have hok1 := St.put_ok hok hl1
  have hok2 := (encC_ok (L := distL) (s := dsym k) hok1).1
  have hp2 := (Pre.put hok2 (dbits k) (dmore k)).trans hp
  have hp1 := (encC_ok (L := distL) (s := dsym k) hok1).2.trans hp2
  have t1 := hs.take hok hl1 hp1
  have t2 := fun t ht => hs.code hok1 hp2 t ht
  have t3 := hs.take hok2 hd1 hp
  have e1 : P + (a.put (lbits n) (lmore n)).n = P + a.n + lbits n := by rw [put_n, Nat.add_assoc]
  have e2 : P + (encC distL (dsym k) (a.put (lbits n) (lmore n))).n = P + (a.put (lbits n) (lmore n)).n + lenOf distL (dsym k) := by rw [encC_n, Nat.add_assoc]
  have e3 : P + ((encC distL (dsym k) (a.put (lbits n) (lmore n))).put (dbits k) (dmore k)).n = P + (encC distL (dsym k) (a.put (lbits n) (lmore n))).n + dbits k := by rw [put_n, Nat.add_assoc]
  have n1 : P + a.n + lbits n ≤ 8 * txt.size := by rw [← e1]; exact Src.len (S := 0) hp1 hend
  have n2 : P + (a.put (lbits n) (lmore n)).n + lenOf distL (dsym k) ≤ 8 * txt.size := by rw [← e2]; exact Src.len (S := 0) hp2 hend
  have n3 : P + (encC distL (dsym k) (a.put (lbits n) (lmore n))).n + dbits k ≤ 8 * txt.size := by rw [← e3]; exact Src.len (S := 0) hp hend
  have C1 : RowKit.Hid (∀ W, RAt W br txt (P + a.n) fr → Calls Try.prog 22 #[.pointer (some ⟨br, 0, none⟩), .int .i64 ((lbits n : Nat) : Int)] W fun e w' => e = .returned (.tuple #[.int .u32 ((lmore n : Nat) : Int), .bool true]) ∧ RAt w' br txt (P + (a.put (lbits n) (lmore n)).n) fr ∧ W.grownBy w' (some br)) := Lib.hid (fun W hW => by
    have h := rbits_any br (lbits n) (P + a.n) txt fr W hW (by omega) hsz n1
    rw [t1, ← e1] at h
    exact h)
  have C2 : RowKit.Hid (∀ W, TAt W bt B2 distL LV SV → RAt W br txt (P + (a.put (lbits n) (lmore n)).n) fr → Calls Try.prog 13 #[.pointer (some ⟨bt, 0, none⟩), .pointer (some ⟨br, 0, none⟩)] W fun e w' => e = .returned (.tuple #[.int .i64 ((dsym k : Nat) : Int), .int .i64 0]) ∧ RAt w' br txt (P + (encC distL (dsym k) (a.put (lbits n) (lmore n))).n) fr ∧ W.grownBy w' (some br)) := Lib.hid (fun W hT hW => by
    have h := read_any bt B2 br (dsym k) (P + (a.put (lbits n) (lmore n)).n) distL LV SV txt fr W hT hW good_dist (has_dist _ (by omega)) hsz t2 n2
    rw [← e2] at h
    exact h)
  have C3 : RowKit.Hid (∀ W, RAt W br txt (P + (encC distL (dsym k) (a.put (lbits n) (lmore n))).n) fr → Calls Try.prog 22 #[.pointer (some ⟨br, 0, none⟩), .int .i64 ((dbits k : Nat) : Int)] W fun e w' => e = .returned (.tuple #[.int .u32 ((dmore k : Nat) : Int), .bool true]) ∧ RAt w' br txt (P + ((encC distL (dsym k) (a.put (lbits n) (lmore n))).put (dbits k) (dmore k)).n) fr ∧ W.grownBy w' (some br)) := Lib.hid (fun W hW => by
    have h := rbits_any br (dbits k) (P + (encC distL (dsym k) (a.put (lbits n) (lmore n))).n) txt fr W hW (by omega) hsz n3
    rw [t3, ← e3] at h
    exact h)
  have D1 := Lib.hid (fun W => lbase_any (lsym n) hls W)
  have D2 := Lib.hid (fun W => dbase_any (dsym k) hds W)
  generalize (encC distL (dsym k) (a.put (lbits n) (lmore n))).put (dbits k) (dmore k) = A3 at C3 ⊢
  generalize encC distL (dsym k) (a.put (lbits n) (lmore n)) = A2 at C2 C3
  generalize a.put (lbits n) (lmore n) = A1 at C1 C2
  have hlm : lmore n ≤ 258 := by omega
  have hdm : dmore k ≤ 600 := by omega
  have hl2' : (lbase (lsym n)).2 = lbits n := rfl
  have hd2' : (dbase (dsym k)).2 = dbits k := rfl
  rw [hl2'] at D1
  rw [hd2'] at D2
  obtain ⟨lb, hlbe⟩ : ∃ x, x = (lbase (lsym n)).1 := ⟨_, rfl⟩
  obtain ⟨db, hdbe⟩ : ∃ x, x = (dbase (dsym k)).1 := ⟨_, rfl⟩
  rw [← hlbe] at D1 hlb
  rw [← hdbe] at D2 hdb
  obtain ⟨ls, hlse⟩ : ∃ x, x = lsym n := ⟨_, rfl⟩
  obtain ⟨ds, hdse⟩ : ∃ x, x = dsym k := ⟨_, rfl⟩
  rw [← hlse] at D1 hls ⊢
  rw [← hdse] at D2 C2 hds
  obtain ⟨lt, hlte⟩ : ∃ x, x = lbits n := ⟨_, rfl⟩
  obtain ⟨dt, hdte⟩ : ∃ x, x = dbits k := ⟨_, rfl⟩
  rw [← hlte] at D1 C1
  rw [← hdte] at D2 C3
  obtain ⟨lm, hlme⟩ : ∃ x, x = lmore n := ⟨_, rfl⟩
  obtain ⟨dm, hdme⟩ : ∃ x, x = dmore k := ⟨_, rfl⟩
  rw [← hlme] at C1 hlm hlb
  rw [← hdme] at C3 hdm hdb
  clear e1 e2 e3 hl1 hl2 hd1 hd2 hok1 hok2 hp2 hp1 t1 t2 t3 n1 n2 n3 hs hp hend hl2' hd2' hlbe hdbe hlse hdse hlte hdte hlme hdme hok
  have HX := Lib.hid hx
  have HT := Lib.hid ht
  have c0 := cell_at hx.cell 0
  simp only [List.getElem?_toArray, List.getElem?_cons_zero, List.getElem?_cons_succ] at c0
  have w1 : IntKind.i64.wrap (((257 + ls : Nat) : Int) - 257) = (ls : Int) := by rw [IntWalk.i64_in _ (by omega)]; omega
  have h285 : ¬ (285 : Int) < ((257 + ls : Nat) : Int) := by omega
  obtain ⟨sy, hsy⟩ : ∃ x, x = 257 + ls := ⟨_, rfl⟩
  rw [← hsy] at w1 h285 ⊢
  have w2 : IntKind.i64.wrap ((lb : Int) + (lm : Int)) = (n : Int) := by rw [IntWalk.i64_in _ (by omega)]; omega
  have w2b : IntKind.i64.wrap (lm : Int) = (lm : Int) := IntWalk.i64_in _ (by omega)
  have w3 : IntKind.i64.wrap ((db : Int) + (dm : Int)) = (k : Int) := by rw [IntWalk.i64_in _ (by omega)]; omega
  have w3b : IntKind.i64.wrap (dm : Int) = (dm : Int) := IntWalk.i64_in _ (by omega)
  have hkoN : ¬ o.length < k := by omega
  have hkoD : decide (o.length < k) = false := decide_eq_false hkoN
  have h29 : ¬ (29 : Int) < (ds : Int) := by omega
  have h29N : ¬ 29 < ds := by omega
  have h29D : decide ((29 : Int) < (ds : Int)) = false := decide_eq_false h29
  have hkoI : ¬ (o.length : Int) < (k : Int) := by omega
  clear hx ht hsy hlb hdb hlm hdm
  go_enter Try.func44, Try.ntmps44
  go_wp2_with fail
  refine (D1.out _).mono ?_
  rintro e v1 ⟨rfl, hv1⟩
  obtain rfl := hv1.symm
  go_wp2_with fail
  refine (C1.out _ HX.out.rd).mono ?_
  rintro e v1 ⟨rfl, hr1, hg1⟩
  have X1 := Lib.hid (HX.out.read hr1 hg1)
  have K1 := Lib.hid (ks_gb (e := 5) (b := b) (B := B) hg1)
  have T1 : RowKit.Hid (TAt v1 bt B2 distL LV SV) := Lib.hid (tat_ks HT.out HX.out K1.out)
  have hc1 := cell_at X1.out.cell 0
  simp only [List.getElem?_toArray, List.getElem?_cons_zero, List.getElem?_cons_succ] at hc1
  clear hr1 hg1 c0
  go_wp2_with fail
  refine (C2.out _ T1.out X1.out.rd).mono ?_
  rintro e v2 ⟨rfl, hr1, hg1⟩
  have X2 := Lib.hid (X1.out.read hr1 hg1)
  have K2 := Lib.hid (ks_trans K1.out (ks_gb (e := 5) (b := b) (B := B) hg1))
  have hc2 := cell_at X2.out.cell 0
  simp only [List.getElem?_toArray, List.getElem?_cons_zero, List.getElem?_cons_succ] at hc2
  clear hr1 hg1 hc1 K1 T1 X1 HX HT
  go_wp2_with fail
  refine (D2.out _).mono ?_
  rintro e v3 ⟨rfl, hv3⟩
  obtain rfl := hv3.symm
  go_wp2_with fail
  refine (C3.out _ X2.out.rd).mono ?_
  rintro e v3 ⟨rfl, hr1, hg1⟩
  have X3 := Lib.hid (X2.out.read hr1 hg1)
  have K3 := Lib.hid (ks_trans K2.out (ks_gb (e := 5) (b := b) (B := B) hg1))
  obtain ⟨g0, cap0, hov, _⟩ := ownsB_at X3.out.own (by omega)
  have hc3 := cell_at X3.out.cell 1
  simp only [List.getElem?_toArray, List.getElem?_cons_zero, List.getElem?_cons_succ] at hc3
  rw [hov] at hc3
  clear hr1 hg1 hc2 K2 X2 hov
  have HB3 := Lib.hid (Nat.le_trans hB K3.out.size)
  go_wp2_with fail
  clear w1 w2 w2b w3 w3b h285 h29 h29N h29D hkoI hkoN hkoD hc3
  go_loopw [80] (fun l80 wr => ∃ (i : Nat) (ov1 : Value), i ≤ n ∧ l80 = .int .i64 (i : Int) ∧ XAt wr b br B txt (P + A3.n) fr (cp o k i) most ov1 ∧ B ≤ wr.heap.size ∧ Ks 5 b br B w wr) (fun l80 _ => n - (intOf l80).toNat)
  case atStart => exact ⟨0, _, Nat.zero_le _, rfl, X3.out, HB3.out, K3.out⟩
  case round =>
    obtain ⟨i, ov1, hi, rfl, hxr, hBr, hkr⟩ := hrel
    have HXR := Lib.hid hxr
    have HKR := Lib.hid hkr
    have hlen := cp_len o k i
    by_cases hin : i < n
    · obtain ⟨g1, cap1, hov1, hat⟩ := ownsB_at hxr.own (by omega)
      have hc1 := cell_at hxr.cell 1
      simp only [List.getElem?_toArray, List.getElem?_cons_zero, List.getElem?_cons_succ] at hc1
      rw [hov1] at hc1
      obtain ⟨len, hle⟩ : ∃ x, x = (cp o k i).length := ⟨_, rfl⟩
      rw [← hle] at hc1 hlen hat
      have hcell := hat (len - k) (by omega)
      obtain ⟨c, hc⟩ : ∃ c, c = (cp o k i).getD (len - k) 0 := ⟨_, rfl⟩
      rw [← hc] at hcell
      have hcp : cp o k (i + 1) = cp o k i ++ [c] := by rw [cp, hc, hle]
      obtain ⟨j, hj⟩ : ∃ j, j = len - k := ⟨_, rfl⟩
      rw [← hj] at hcell
      have hws : IntKind.i64.wrap ((len : Int) - (k : Int)) = (j : Int) := by rw [IntWalk.i64_in _ (by omega)]; omega
      have hjl : (j : Int) < (len : Int) := by omega
      have hj0 : (0 : Int) ≤ (j : Int) := by omega
      have D := Lib.hid (put_any b br B (P + A3.n) most c txt fr (cp o k i) ov1 wr.drew ⟨hxr.cell, hxr.own, by
        obtain ⟨a9, h9, hr9⟩ := hxr.rd
        exact ⟨a9, h9, hr9.eq, hr9.le, hr9.small, hr9.cell⟩⟩ hBr (by omega) hm2)
      rw [← hcp] at D
      have hiI : (i : Int) < (n : Int) := by omega
      clear hxr hkr hov1 hat hle hc hcp hj hlen
      go_wp2_with fail
      refine wp_region_still_tail 14 (by kernel_rfl) (by kernel_rfl) ?_
      simp only [List.take_succ_cons, List.take_zero, List.drop_succ_cons, List.drop_zero]
      repeat still_step
      refine wpStill_nil ?_
      change wpList _ _ _ _ _ wr.drew
      clear hc1 hcell
      go_wp2_with fail
      refine (D.out).mono ?_
      rintro e v5 ⟨rfl, ⟨ov2, hx5⟩, hk5⟩
      have X5 := Lib.hid hx5
      have HB5 := Lib.hid (Nat.le_trans hBr hk5.size)
      have K5 := Lib.hid (ks_trans HKR.out (ks_trans (ks_drew0 _ _ _ _ wr) hk5))
      clear hx5 hk5 D
      go_wp2
      refine ⟨⟨i + 1, ov2, by omega, by go_num, X5.out, HB5.out, K5.out⟩, by simp [intOf]; omega⟩
    · obtain rfl : i = n := by omega
      clear hxr hkr
      go_wp2
      go_ret
      exact ⟨rfl, ⟨ov1, HXR.out⟩, HKR.out⟩
end Go.Proofs.Ytncdaohjjhcaaaa
