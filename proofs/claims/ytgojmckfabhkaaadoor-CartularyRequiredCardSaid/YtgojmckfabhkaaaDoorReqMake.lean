/- THE WALK of pseudo.Make at the major version v0. Conditions: bounds on lengths; the table of powers of ten. -/
import Derived.Test.YtgojmckfabhkaaaDoorReqLaw
import Derived.Test.YtgojmckfabhkaaaDoorSemK
import Derived.Test.YtgojmckfabhkaaaDoorCalStamp
namespace Go.Proofs.YtgojmckfabhkaaaDoor.Sem
open Go Go.RowKit Sums
set_option linter.unusedVariables false

/-- What 'Make' makes; none: an error. -/
def makeR (base id : List UInt8) (t : Int) : Option (List UInt8) :=
  if (-62135596800 ≤ t ∧ t ≤ 253402300799) ∧ revB id = true then
    match frontD base with
    | none => none
    | some fb => if (madeL fb t id).length ≤ 100 then some (madeL fb t id) else none
  else none
def MakeP (base id : List UInt8) (t : Int) (w : World) (e : Ending) (w' : World) : Prop :=
  (match makeR base id t with
    | some l => e = .returned (.tuple #[.string (tx l), .int .i64 0])
    | none => ∃ c : Int, c ≠ 0 ∧ e = .returned (.tuple #[.string ⟨#[]⟩, .int .i64 c])) ∧ Below w.heap.size w w'
theorem MakeP.none {base id : List UInt8} {t : Int} {w w' : World} {e : Ending} (h : makeR base id t = none) (c : Int) (hc : c ≠ 0) (he : e = .returned (.tuple #[.string ⟨#[]⟩, .int .i64 c])) (hb : Below w.heap.size w w') : MakeP base id t w e w' := by
  unfold MakeP; rw [h]; exact ⟨⟨c, hc, he⟩, hb⟩
theorem MakeP.some {base id l : List UInt8} {t : Int} {w w' : World} {e : Ending} (h : makeR base id t = some l) (he : e = .returned (.tuple #[.string (tx l), .int .i64 0])) (hb : Below w.heap.size w w') : MakeP base id t w e w' := by
  unfold MakeP; rw [h]; exact ⟨he, hb⟩

theorem stamp_tx (t : Int) (h1 : -62135596800 ≤ t) (h2 : t ≤ 253402300799) (w : World) (ht : tabOk w) :
    Calls Tryd.prog 11 #[.int .i64 t] w fun e w' => e = .returned (.tuple #[.string (tx (stampOf t)), .int .i64 0]) ∧ Below w.heap.size w w' := stamp_in t w h1 h2 ht

set_option maxRecDepth 100000 in
set_option maxHeartbeats 4000000 in
theorem make_out (base id : List UInt8) (t : Int) (V B I : ByteArray) (w : World) (h : t < -62135596800 ∨ 253402300799 < t) :
    Calls Tryd.prog 4 #[.string V, .string B, .int .i64 t, .string I] w (fun e w9 => MakeP base id t w e w9) := by
  have hn : makeR base id t = none := by unfold makeR; rw [if_neg (by omega)]
  have HN := Lib.hid hn
  have HC := Lib.hid (stamp_out t w h)
  clear h hn
  go_enter Tryd.func4, Tryd.ntmps4
  go_wp2_with fail
  refine HC.out.mono ?_
  rintro e w1 ⟨rfl, hb1⟩
  go_wp2
  go_returns
  exact MakeP.none HN.out 1 (by decide) rfl hb1

set_option maxRecDepth 100000 in
set_option maxHeartbeats 4000000 in
theorem make_id (base id : List UInt8) (t : Int) (V B : ByteArray) (w : World) (ht : tabOk w) (h1 : -62135596800 ≤ t) (h2 : t ≤ 253402300799) (hi : id.length ≤ 140737488355328) (h : revB id = false) :
    Calls Tryd.prog 4 #[.string V, .string B, .int .i64 t, .string (tx id)] w (fun e w9 => MakeP base id t w e w9) := by
  have hn : makeR base id t = none := by unfold makeR; rw [if_neg (by rw [h]; simp)]
  have HN := Lib.hid hn
  have HC := Lib.hid (stamp_tx t h1 h2 w ht)
  have hr := fun W => rev_any id W hi
  rw [h] at hr
  have HR := Lib.hid hr
  obtain ⟨I, hI⟩ : ∃ I, I = tx id := ⟨_, rfl⟩
  rw [← hI] at HR ⊢
  clear h hn h1 h2 hr hI hi
  go_enter Tryd.func4, Tryd.ntmps4
  go_wp2_with fail
  refine HC.out.mono ?_
  rintro e w1 ⟨rfl, hb1⟩
  go_wp2_with fail
  refine (HR.out _).mono ?_
  rintro e w2 ⟨rfl, hb2⟩
  have HB := Lib.hid (below_next hb1 hb2 hb1.size)
  clear hb1 hb2
  go_wp2
  go_returns
  exact MakeP.none HN.out 1 (by decide) rfl HB.out

theorem parse_none2 (l : List UInt8) (w : World) (hz : l.length ≤ 140737488355328) (h : pparse l = none) :
    Calls Tryd.prog 14 #[.string (tx l)] w fun e w' => e = .returned (.tuple #[.agg zerA, .bool false]) ∧ Below w.heap.size w w' := by
  have h1 := parse_any l w hz
  unfold ParseV at h1
  rw [h] at h1
  exact h1
theorem parse_some2 (l : List UInt8) (v : Ver) (w : World) (hz : l.length ≤ 140737488355328) (h : pparse l = some v) :
    Calls Tryd.prog 14 #[.string (tx l)] w fun e w' => e = .returned (.tuple #[.agg #[.string (tx v.maj), .string (tx v.mnr), .string (tx v.pat), .string (tx v.pre), .string (tx v.bld), .int .i64 (v.short : Int)], .bool true]) ∧ Below w.heap.size w w' := by
  have h1 := parse_any l w hz
  unfold ParseV at h1
  rw [h] at h1
  exact h1
theorem pparse_v0 : pparse [118, 48] = some ⟨[48], [48], [48], [], [], 2⟩ := by rfl

set_option maxRecDepth 100000 in
set_option maxHeartbeats 4000000 in
theorem make_empty (id : List UInt8) (t : Int) (w : World) (ht : tabOk w) (h1 : -62135596800 ≤ t) (h2 : t ≤ 253402300799) (hi : id.length ≤ 140737488355328) (h : revB id = true) :
    Calls Tryd.prog 4 #[.string (tx [118, 48]), .string (tx []), .int .i64 t, .string (tx id)] w (fun e w9 => MakeP [] id t w e w9) := by
  obtain ⟨a1, a2, -⟩ := stampOf_is t h1 h2
  obtain ⟨b1, b2⟩ := rev_is h
  have hlen : (madeL ([118, 48, 46, 48, 46, 48, 45], []) t id).length = 34 := by unfold madeL segD; simp [a2, b1]
  have hn : makeR [] id t = some (madeL ([118, 48, 46, 48, 46, 48, 45], []) t id) := by
    unfold makeR
    rw [if_pos ⟨⟨h1, h2⟩, h⟩]
    show (if (madeL ([118, 48, 46, 48, 46, 48, 45], []) t id).length ≤ 100 then _ else _) = _
    rw [if_pos (by omega)]
  have HN := Lib.hid hn
  have HC := Lib.hid (stamp_tx t h1 h2 w ht)
  have hr := fun W => rev_any id W hi
  rw [h] at hr
  have HR := Lib.hid hr
  have HP := Lib.hid (fun W => parse_some [118, 48] _ W (by simp) pparse_v0)
  have hz : (tx [118, 48] ++ (⟨#[46, 48, 46, 48, 45]⟩ : ByteArray)) ++ ((tx (stampOf t) ++ ⟨#[45]⟩) ++ tx id) = tx (madeL ([118, 48, 46, 48, 46, 48, 45], []) t id) := by
    rw [show (⟨#[46, 48, 46, 48, 45]⟩ : ByteArray) = tx [46, 48, 46, 48, 45] from rfl, show (⟨#[45]⟩ : ByteArray) = tx [45] from rfl]
    simp only [tx_append]
    unfold madeL segD
    simp
  have hs := tx_size (madeL ([118, 48, 46, 48, 46, 48, 45], []) t id)
  rw [hlen] at hs
  have s1 := tx_size (stampOf t)
  rw [a2] at s1
  have s2 := tx_size id
  rw [b1] at s2
  have q1 : (tx ([] : List UInt8)).toList.isEmpty = true := by rw [tx_toList]; rfl
  have q2 : ((⟨#[118]⟩ : ByteArray) ++ tx [48]) = tx [118, 48] := tx_append [118] [48]
  have s3 : (tx [118, 48]).size = 2 := tx_size _
  have s4 : (tx [48]).size = 1 := tx_size _
  obtain ⟨Z, hZ⟩ : ∃ Z, Z = tx (madeL ([118, 48, 46, 48, 46, 48, 45], []) t id) := ⟨_, rfl⟩
  have HZ := Lib.hid hZ
  rw [← hZ] at hz hs
  obtain ⟨I, hI⟩ : ∃ I, I = tx id := ⟨_, rfl⟩
  rw [← hI] at HR hz s2 ⊢
  obtain ⟨G, hG⟩ : ∃ G, G = tx (stampOf t) := ⟨_, rfl⟩
  rw [← hG] at HC hz s1
  obtain ⟨E, hE⟩ : ∃ E, E = tx ([] : List UInt8) := ⟨_, rfl⟩
  rw [← hE] at q1 HP ⊢
  obtain ⟨V, hV⟩ : ∃ V, V = tx [118, 48] := ⟨_, rfl⟩
  rw [← hV] at HP hz q2 s3 ⊢
  obtain ⟨S, hS⟩ : ∃ S, S = tx [48] := ⟨_, rfl⟩
  rw [← hS] at HP q2 s4
  clear h hn h1 h2 hr hI hG hi hZ hE hV hS a1 a2 b1 b2 hlen
  go_enter Tryd.func4, Tryd.ntmps4
  go_wp2_with fail
  refine HC.out.mono ?_
  rintro e w1 ⟨rfl, hb1⟩
  have HB1 := Lib.hid hb1
  clear hb1
  go_wp2_with fail
  refine (HR.out _).mono ?_
  rintro e w2 ⟨rfl, hb2⟩
  have HB2 := Lib.hid (below_next HB1.out hb2 HB1.out.size)
  clear hb2
  go_wp2_with fail
  refine (HP.out _).mono ?_
  rintro e w3 ⟨rfl, hb3⟩
  have hb4 := below_next HB2.out hb3 HB2.out.size
  have HB3 := Lib.hid (hb4.alloc hb4.size (.cells #[.string S, .string S, .string S, .string E, .string E, .int .i64 (2 : Nat)] 44))
  clear hb3 hb4
  go_wp2
  go_returns
  exact MakeP.some HN.out (by rw [← HZ.out]; first | rfl | rw [hz]) HB3.out

set_option maxRecDepth 100000 in
set_option maxHeartbeats 4000000 in
theorem make_form (base id : List UInt8) (t : Int) (V : ByteArray) (w : World) (ht : tabOk w) (h1 : -62135596800 ≤ t) (h2 : t ≤ 253402300799) (hi : id.length ≤ 140737488355328) (hbz : base.length ≤ 140737488355328) (h : revB id = true) (hne : base ≠ []) (hp : pparse base = none) :
    Calls Tryd.prog 4 #[.string V, .string (tx base), .int .i64 t, .string (tx id)] w (fun e w9 => MakeP base id t w e w9) := by
  obtain ⟨a1, a2, -⟩ := stampOf_is t h1 h2
  obtain ⟨b1, b2⟩ := rev_is h
  have hn : makeR base id t = none := by
    unfold makeR frontD
    rw [if_pos ⟨⟨h1, h2⟩, h⟩, if_neg hne, hp]
  have HN := Lib.hid hn
  have HC := Lib.hid (stamp_tx t h1 h2 w ht)
  have hr := fun W => rev_any id W hi
  rw [h] at hr
  have HR := Lib.hid hr
  have HP := Lib.hid (fun W => parse_none2 base W hbz hp)
  have s1 := tx_size (stampOf t)
  rw [a2] at s1
  have s2 := tx_size id
  rw [b1] at s2
  have q1 : (tx base).toList.isEmpty = false := by rw [tx_toList]; exact emp hne
  obtain ⟨I, hI⟩ : ∃ I, I = tx id := ⟨_, rfl⟩
  rw [← hI] at HR s2 ⊢
  obtain ⟨G, hG⟩ : ∃ G, G = tx (stampOf t) := ⟨_, rfl⟩
  rw [← hG] at HC s1
  obtain ⟨E, hE⟩ : ∃ E, E = tx base := ⟨_, rfl⟩
  rw [← hE] at q1 HP ⊢
  unfold zerA at HP
  clear h hn h1 h2 hr hI hG hi hE hbz hne hp a1 a2 b1 b2
  go_enter Tryd.func4, Tryd.ntmps4
  go_wp2_with fail
  refine HC.out.mono ?_
  rintro e w1 ⟨rfl, hb1⟩
  have HB1 := Lib.hid hb1
  clear hb1
  go_wp2_with fail
  refine (HR.out _).mono ?_
  rintro e w2 ⟨rfl, hb2⟩
  have HB2 := Lib.hid (below_next HB1.out hb2 HB1.out.size)
  clear hb2
  go_wp2_with fail
  refine (HP.out _).mono ?_
  rintro e w3 ⟨rfl, hb3⟩
  have hb4 := below_next HB2.out hb3 HB2.out.size
  have HB3 := Lib.hid (hb4.alloc hb4.size (.cells #[.string ⟨#[]⟩, .string ⟨#[]⟩, .string ⟨#[]⟩, .string ⟨#[]⟩, .string ⟨#[]⟩, .int .i64 0] 44))
  clear hb3 hb4
  go_wp2
  go_returns
  exact MakeP.none HN.out 4 (by decide) rfl HB3.out

set_option maxRecDepth 100000 in
set_option maxHeartbeats 8000000 in
theorem make_pre (base id : List UInt8) (t : Int) (v : Ver) (V : ByteArray) (w : World) (ht : tabOk w) (h1 : -62135596800 ≤ t) (h2 : t ≤ 253402300799) (hi : id.length ≤ 140737488355328) (hbz : base.length ≤ 140737488355328) (h : revB id = true) (hne : base ≠ []) (hp : pparse base = some v) (hpre : v.pre ≠ []) :
    Calls Tryd.prog 4 #[.string V, .string (tx base), .int .i64 t, .string (tx id)] w (fun e w9 => MakeP base id t w e w9) := by
  obtain ⟨a1, a2, -⟩ := stampOf_is t h1 h2
  obtain ⟨b1, b2⟩ := rev_is h
  obtain ⟨l0, l1, l2, l3, l4⟩ := pparse_len hp
  obtain ⟨fb, hfb⟩ : ∃ fb : List UInt8 × List UInt8, fb = (118 :: (v.maj ++ 46 :: (v.mnr ++ 46 :: (v.pat ++ 45 :: (v.pre ++ [46, 48, 46])))), plusD v.bld) := ⟨_, rfl⟩
  have hf : frontD base = some fb := by
    unfold frontD
    rw [if_neg hne, hp, hfb]
    exact if_neg hpre
  have hn : makeR base id t = if (madeL fb t id).length ≤ 100 then some (madeL fb t id) else none := by
    unfold makeR
    rw [if_pos ⟨⟨h1, h2⟩, h⟩, hf]
  have HN := Lib.hid hn
  have HC := Lib.hid (stamp_tx t h1 h2 w ht)
  have hr := fun W => rev_any id W hi
  rw [h] at hr
  have HR := Lib.hid hr
  have HP := Lib.hid (fun W => parse_some2 base v W hbz hp)
  have hbd := fun W => build_any v W (by omega)
  unfold verA at hbd
  have HBD := Lib.hid hbd
  have hz1 : (((((((((⟨#[118]⟩ ++ tx v.maj) ++ ⟨#[46]⟩) ++ tx v.mnr) ++ ⟨#[46]⟩) ++ tx v.pat) ++ ⟨#[45]⟩) ++ tx v.pre) ++ ⟨#[46, 48, 46]⟩) ++ ((tx (stampOf t) ++ ⟨#[45]⟩) ++ tx id)) = tx (fb.1 ++ segD t id) := by
    rw [show (⟨#[118]⟩ : ByteArray) = tx [118] from rfl, show (⟨#[46]⟩ : ByteArray) = tx [46] from rfl, show (⟨#[45]⟩ : ByteArray) = tx [45] from rfl, show (⟨#[46, 48, 46]⟩ : ByteArray) = tx [46, 48, 46] from rfl]
    simp only [tx_append]
    rw [hfb]
    unfold segD
    simp
  have hz2 : tx (fb.1 ++ segD t id) ++ tx (plusD v.bld) = tx (madeL fb t id) := by rw [tx_append]; unfold madeL; rw [hfb]
  have hsz := tx_size (madeL fb t id)
  have hs1 : (tx (fb.1 ++ segD t id)).size ≤ 1000 := by
    have hml := moreD_len v.pat
    rw [tx_size, hfb]; unfold segD; simp [a2, b1]; omega
  have hsB : (tx (plusD v.bld)).size ≤ 101 := by rw [tx_size]; have := plusD_len v.bld; omega
  have k0 := tx_size v.maj
  have k1 := tx_size v.mnr
  have k2 := tx_size v.pat
  have k3 := tx_size v.pre
  have k9 := tx_size (moreD v.pat)
  have s1 := tx_size (stampOf t)
  rw [a2] at s1
  have s2 := tx_size id
  rw [b1] at s2
  have k9b := moreD_len v.pat
  have q1 : (tx base).toList.isEmpty = false := by rw [tx_toList]; exact emp hne
  have q3 : (tx v.pre).toList.isEmpty = false := by rw [tx_toList]; exact emp hpre
  have S0l : (tx v.maj).size ≤ 1000 := by omega
  have S1l : (tx v.mnr).size ≤ 1000 := by omega
  have S2l : (tx v.pat).size ≤ 1000 := by omega
  have S3l : (tx v.pre).size ≤ 1000 := by omega
  have S9l : (tx (moreD v.pat)).size ≤ 1000 := by omega
  obtain ⟨L, hL⟩ : ∃ L, L = (madeL fb t id).length := ⟨_, rfl⟩
  rw [← hL] at hsz HN
  obtain ⟨I, hI⟩ : ∃ I, I = tx id := ⟨_, rfl⟩
  rw [← hI] at HR s2 hz1 ⊢
  obtain ⟨G, hG⟩ : ∃ G, G = tx (stampOf t) := ⟨_, rfl⟩
  rw [← hG] at HC s1 hz1
  obtain ⟨Z, hZ⟩ : ∃ Z, Z = tx (madeL fb t id) := ⟨_, rfl⟩
  rw [← hZ] at hz2 hsz
  obtain ⟨Z1, hZ1⟩ : ∃ Z1, Z1 = tx (fb.1 ++ segD t id) := ⟨_, rfl⟩
  rw [← hZ1] at hz1 hz2 hs1
  have HZ := Lib.hid hZ
  obtain ⟨E, hE⟩ : ∃ E, E = tx base := ⟨_, rfl⟩
  rw [← hE] at q1 HP ⊢
  obtain ⟨B, hB⟩ : ∃ B, B = tx (plusD v.bld) := ⟨_, rfl⟩
  rw [← hB] at HBD hz2 hsB
  generalize (v.short : Int) = sh at HP HBD
  generalize tx v.maj = S0 at *
  generalize tx v.mnr = S1 at *
  generalize tx v.pat = S2 at *
  generalize tx v.pre = S3 at *
  generalize tx v.bld = S4 at *
  generalize tx (moreD v.pat) = S9 at *
  have HZ1 := Lib.hid hz1
  clear h hn h1 h2 hr hI hG hi hE hB hZ hZ1 hbz hne hp a1 a2 b1 b2 hf hfb k0 k1 k2 k3 k9 k9b hL hpre l0 l1 l2 l3 l4 hbd hz1
  go_enter Tryd.func4, Tryd.ntmps4
  go_wp2_with fail
  refine HC.out.mono ?_
  rintro e w1 ⟨rfl, hb1⟩
  have HB1 := Lib.hid hb1
  clear hb1
  go_wp2_with fail
  refine (HR.out _).mono ?_
  rintro e w2 ⟨rfl, hb2⟩
  have HB2 := Lib.hid (below_next HB1.out hb2 HB1.out.size)
  clear hb2
  go_wp2_with fail
  refine (HP.out _).mono ?_
  rintro e w3 ⟨rfl, hb3⟩
  have hb4 := below_next HB2.out hb3 HB2.out.size
  have HB3 := Lib.hid (hb4.alloc hb4.size (.cells #[.string S0, .string S1, .string S2, .string S3, .string S4, .int .i64 sh] 44))
  have hrow := heap_alloc_same w3 (.cells #[.string S0, .string S1, .string S2, .string S3, .string S4, .int .i64 sh] 44)
  clear hb3 hb4
  go_wp2_with fail
  rw [HZ1.out]
  refine (HBD.out _).mono ?_
  rintro e w5 ⟨rfl, hb5⟩
  have HB5 := Lib.hid (below_next HB3.out hb5 HB3.out.size)
  clear hb5 hrow
  by_cases hL : L ≤ 100
  · rw [if_pos hL] at HN
    go_wp2
    go_returns
    exact MakeP.some HN.out (by rw [← HZ.out]; first | rfl | rw [hz2]) HB5.out
  · rw [if_neg hL] at HN
    go_wp2
    go_returns
    exact MakeP.none HN.out 2 (by decide) rfl HB5.out

set_option maxRecDepth 100000 in
set_option maxHeartbeats 8000000 in
theorem make_rel (base id : List UInt8) (t : Int) (v : Ver) (V : ByteArray) (w : World) (ht : tabOk w) (h1 : -62135596800 ≤ t) (h2 : t ≤ 253402300799) (hi : id.length ≤ 140737488355328) (hbz : base.length ≤ 140737488355328) (h : revB id = true) (hne : base ≠ []) (hp : pparse base = some v) (hpre : v.pre = []) :
    Calls Tryd.prog 4 #[.string V, .string (tx base), .int .i64 t, .string (tx id)] w (fun e w9 => MakeP base id t w e w9) := by
  obtain ⟨a1, a2, -⟩ := stampOf_is t h1 h2
  obtain ⟨b1, b2⟩ := rev_is h
  obtain ⟨l0, l1, l2, l3, l4⟩ := pparse_len hp
  obtain ⟨fb, hfb⟩ : ∃ fb : List UInt8 × List UInt8, fb = (118 :: (v.maj ++ 46 :: (v.mnr ++ 46 :: (moreD v.pat ++ 45 :: [48, 46]))), plusD v.bld) := ⟨_, rfl⟩
  have hf : frontD base = some fb := by
    unfold frontD
    rw [if_neg hne, hp, hfb]
    exact if_pos hpre
  have hn : makeR base id t = if (madeL fb t id).length ≤ 100 then some (madeL fb t id) else none := by
    unfold makeR
    rw [if_pos ⟨⟨h1, h2⟩, h⟩, hf]
  have HN := Lib.hid hn
  have HC := Lib.hid (stamp_tx t h1 h2 w ht)
  have hr := fun W => rev_any id W hi
  rw [h] at hr
  have HR := Lib.hid hr
  have HP := Lib.hid (fun W => parse_some2 base v W hbz hp)
  have hbd := fun W => build_any v W (by omega)
  unfold verA at hbd
  have HBD := Lib.hid hbd
  have HMR := Lib.hid (fun W => more_any v.pat W (by omega))
  have hz1 : (((((((⟨#[118]⟩ ++ tx v.maj) ++ ⟨#[46]⟩) ++ tx v.mnr) ++ ⟨#[46]⟩) ++ tx (moreD v.pat)) ++ ⟨#[45, 48, 46]⟩) ++ ((tx (stampOf t) ++ ⟨#[45]⟩) ++ tx id)) = tx (fb.1 ++ segD t id) := by
    rw [show (⟨#[118]⟩ : ByteArray) = tx [118] from rfl, show (⟨#[46]⟩ : ByteArray) = tx [46] from rfl, show (⟨#[45]⟩ : ByteArray) = tx [45] from rfl, show (⟨#[45, 48, 46]⟩ : ByteArray) = tx [45, 48, 46] from rfl]
    simp only [tx_append]
    rw [hfb]
    unfold segD
    simp
  have hz2 : tx (fb.1 ++ segD t id) ++ tx (plusD v.bld) = tx (madeL fb t id) := by rw [tx_append]; unfold madeL; rw [hfb]
  have hsz := tx_size (madeL fb t id)
  have hs1 : (tx (fb.1 ++ segD t id)).size ≤ 1000 := by
    have hml := moreD_len v.pat
    rw [tx_size, hfb]; unfold segD; simp [a2, b1]; omega
  have hsB : (tx (plusD v.bld)).size ≤ 101 := by rw [tx_size]; have := plusD_len v.bld; omega
  have k0 := tx_size v.maj
  have k1 := tx_size v.mnr
  have k2 := tx_size v.pat
  have k3 := tx_size v.pre
  have k9 := tx_size (moreD v.pat)
  have s1 := tx_size (stampOf t)
  rw [a2] at s1
  have s2 := tx_size id
  rw [b1] at s2
  have k9b := moreD_len v.pat
  have q1 : (tx base).toList.isEmpty = false := by rw [tx_toList]; exact emp hne
  have q3 : (tx v.pre).toList.isEmpty = true := by rw [tx_toList]; rw [hpre]; rfl
  have S0l : (tx v.maj).size ≤ 1000 := by omega
  have S1l : (tx v.mnr).size ≤ 1000 := by omega
  have S2l : (tx v.pat).size ≤ 1000 := by omega
  have S3l : (tx v.pre).size ≤ 1000 := by omega
  have S9l : (tx (moreD v.pat)).size ≤ 1000 := by omega
  obtain ⟨L, hL⟩ : ∃ L, L = (madeL fb t id).length := ⟨_, rfl⟩
  rw [← hL] at hsz HN
  obtain ⟨I, hI⟩ : ∃ I, I = tx id := ⟨_, rfl⟩
  rw [← hI] at HR s2 hz1 ⊢
  obtain ⟨G, hG⟩ : ∃ G, G = tx (stampOf t) := ⟨_, rfl⟩
  rw [← hG] at HC s1 hz1
  obtain ⟨Z, hZ⟩ : ∃ Z, Z = tx (madeL fb t id) := ⟨_, rfl⟩
  rw [← hZ] at hz2 hsz
  obtain ⟨Z1, hZ1⟩ : ∃ Z1, Z1 = tx (fb.1 ++ segD t id) := ⟨_, rfl⟩
  rw [← hZ1] at hz1 hz2 hs1
  have HZ := Lib.hid hZ
  obtain ⟨E, hE⟩ : ∃ E, E = tx base := ⟨_, rfl⟩
  rw [← hE] at q1 HP ⊢
  obtain ⟨B, hB⟩ : ∃ B, B = tx (plusD v.bld) := ⟨_, rfl⟩
  rw [← hB] at HBD hz2 hsB
  generalize (v.short : Int) = sh at HP HBD
  generalize tx v.maj = S0 at *
  generalize tx v.mnr = S1 at *
  generalize tx v.pat = S2 at *
  generalize tx v.pre = S3 at *
  generalize tx v.bld = S4 at *
  generalize tx (moreD v.pat) = S9 at *
  have HZ1 := Lib.hid hz1
  clear h hn h1 h2 hr hI hG hi hE hB hZ hZ1 hbz hne hp a1 a2 b1 b2 hf hfb k0 k1 k2 k3 k9 k9b hL hpre l0 l1 l2 l3 l4 hbd hz1
  go_enter Tryd.func4, Tryd.ntmps4
  go_wp2_with fail
  refine HC.out.mono ?_
  rintro e w1 ⟨rfl, hb1⟩
  have HB1 := Lib.hid hb1
  clear hb1
  go_wp2_with fail
  refine (HR.out _).mono ?_
  rintro e w2 ⟨rfl, hb2⟩
  have HB2 := Lib.hid (below_next HB1.out hb2 HB1.out.size)
  clear hb2
  go_wp2_with fail
  refine (HP.out _).mono ?_
  rintro e w3 ⟨rfl, hb3⟩
  have hb4 := below_next HB2.out hb3 HB2.out.size
  have HB3 := Lib.hid (hb4.alloc hb4.size (.cells #[.string S0, .string S1, .string S2, .string S3, .string S4, .int .i64 sh] 44))
  have hrow := heap_alloc_same w3 (.cells #[.string S0, .string S1, .string S2, .string S3, .string S4, .int .i64 sh] 44)
  clear hb3 hb4
  go_wp2_with fail
  refine (HMR.out _).mono ?_
  rintro e w4 ⟨rfl, hb4⟩
  have hrow2 := below_heap hb4 hrow (lt_of_block hrow)
  have HB4 := Lib.hid (below_next HB3.out hb4 HB3.out.size)
  obtain ⟨c0, c1, c2, c3, c4, c5, f0, f1, f2, f3, f4, f5⟩ := rows6 hrow2
  clear hb4 hrow hrow2
  go_wp2_with fail
  rw [HZ1.out]
  refine (HBD.out _).mono ?_
  rintro e w5 ⟨rfl, hb5⟩
  have HB5 := Lib.hid (below_next HB4.out hb5 HB4.out.size)
  clear hb5
  by_cases hL : L ≤ 100
  · rw [if_pos hL] at HN
    go_wp2
    go_returns
    exact MakeP.some HN.out (by rw [← HZ.out]; first | rfl | rw [hz2]) HB5.out
  · rw [if_neg hL] at HN
    go_wp2
    go_returns
    exact MakeP.none HN.out 2 (by decide) rfl HB5.out

theorem make_any (base id : List UInt8) (t : Int) (w : World) (ht : tabOk w) (hi : id.length ≤ 140737488355328) (hbz : base.length ≤ 140737488355328) :
    Calls Tryd.prog 4 #[.string (tx [118, 48]), .string (tx base), .int .i64 t, .string (tx id)] w (fun e w9 => MakeP base id t w e w9) := by
  by_cases h1 : -62135596800 ≤ t
  · by_cases h2 : t ≤ 253402300799
    · cases h : revB id with
      | false => exact make_id base id t _ _ w ht h1 h2 hi h
      | true =>
        by_cases hb : base = []
        · subst hb
          exact make_empty id t w ht h1 h2 hi h
        · cases hp : pparse base with
          | none => exact make_form base id t _ w ht h1 h2 hi hbz h hb hp
          | some v =>
            by_cases hq : v.pre = []
            · exact make_rel base id t v _ w ht h1 h2 hi hbz h hb hp hq
            · exact make_pre base id t v _ w ht h1 h2 hi hbz h hb hp hq
    · exact make_out base id t _ _ _ w (Or.inr (by omega))
  · exact make_out base id t _ _ _ w (Or.inl (by omega))
end Go.Proofs.YtgojmckfabhkaaaDoor.Sem
