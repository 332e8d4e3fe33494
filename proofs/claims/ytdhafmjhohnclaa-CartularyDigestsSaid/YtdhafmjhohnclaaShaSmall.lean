/- THE WALKS of SHA's small functions: turning left, a word of four bytes, the words at the beginning, the table. Conditions: none. -/
import Derived.Test.YtdhafmjhohnclaaSumsW2
import Derived.Test.YtdhafmjhohnclaaBytes
import Derived.Deep.QuietTactic
import Derived.BigQuiet
namespace Go.Proofs.Ytdhafmjhohnclaa
open Go.RowKit Sums
set_option linter.unusedVariables false

def rotl (x : BitVec 32) (s : Nat) : BitVec 32 := (x <<< s) ||| (x >>> (32 - s))
theorem shl_w (X : BitVec 32) (s : Nat) : (X.toNat : Int) * ((2 ^ s : Nat) : Int) % 4294967296 = ((X <<< s).toNat : Int) := by
  rw [BitVec.toNat_shiftLeft, Nat.shiftLeft_eq, Int.natCast_emod, Int.natCast_mul]
  rfl
theorem shr_w (X : BitVec 32) (s : Nat) : (X.toNat : Int) / ((2 ^ s : Nat) : Int) = ((X >>> s).toNat : Int) := by
  rw [BitVec.toNat_ushiftRight, Nat.shiftRight_eq_div_pow, Int.natCast_ediv]
theorem orW (A B : BitVec 32) : bits .or .u32 (A.toNat : Int) (B.toNat : Int) = ((A ||| B).toNat : Int) := by
  rw [u32_or_nat _ _ A.isLt B.isLt, BitVec.toNat_or]
theorem andW (A B : BitVec 32) : bits .and .u32 (A.toNat : Int) (B.toNat : Int) = ((A &&& B).toNat : Int) := by
  rw [u32_and_nat _ _ A.isLt B.isLt, BitVec.toNat_and]
theorem xorW (A B : BitVec 32) : bits .xor .u32 (A.toNat : Int) (B.toNat : Int) = ((A ^^^ B).toNat : Int) := by
  rw [u32_xor_nat _ _ A.isLt B.isLt, BitVec.toNat_xor]
theorem addW (A B : BitVec 32) : ((A.toNat : Int) + (B.toNat : Int)) % 4294967296 = ((A + B).toNat : Int) := by
  rw [BitVec.toNat_add, Int.natCast_emod, Int.natCast_add]
  rfl
theorem rot_law (X : BitVec 32) (s : Nat) : bits .or .u32 ((X.toNat : Int) * ((2 ^ s : Nat) : Int) % 4294967296) ((X.toNat : Int) / ((2 ^ (32 - s) : Nat) : Int)) = ((rotl X s).toNat : Int) := by
  rw [shl_w, shr_w, orW]
  rfl
theorem rot_1 (X : BitVec 32) (w : World) :
    Calls Try.prog 50 #[.int .u32 X.toNat, .int .i64 1] w fun e w' => e = .returned (.int .u32 (rotl X 1).toNat) ∧ w' = w := by
  have hr := Lib.hid (rot_law X 1)
  have hb : bits BinOp.and IntKind.u64 1 31 = 1 := by decide +kernel
  go_enter Try.func50, Try.ntmps50
  go_wp2
  go_ret
  refine ⟨?_, rfl⟩
  rw [← hr.out]
  rfl
theorem rot_5 (X : BitVec 32) (w : World) :
    Calls Try.prog 50 #[.int .u32 X.toNat, .int .i64 5] w fun e w' => e = .returned (.int .u32 (rotl X 5).toNat) ∧ w' = w := by
  have hr := Lib.hid (rot_law X 5)
  have hb : bits BinOp.and IntKind.u64 5 31 = 5 := by decide +kernel
  go_enter Try.func50, Try.ntmps50
  go_wp2
  go_ret
  refine ⟨?_, rfl⟩
  rw [← hr.out]
  rfl
theorem rot_30 (X : BitVec 32) (w : World) :
    Calls Try.prog 50 #[.int .u32 X.toNat, .int .i64 30] w fun e w' => e = .returned (.int .u32 (rotl X 30).toNat) ∧ w' = w := by
  have hr := Lib.hid (rot_law X 30)
  have hb : bits BinOp.and IntKind.u64 30 31 = 30 := by decide +kernel
  go_enter Try.func50, Try.ntmps50
  go_wp2
  go_ret
  refine ⟨?_, rfl⟩
  rw [← hr.out]
  rfl
theorem rot_m7 (X : BitVec 32) (w : World) :
    Calls Try.prog 50 #[.int .u32 X.toNat, .int .i64 (-7)] w fun e w' => e = .returned (.int .u32 (rotl X 25).toNat) ∧ w' = w := by
  have hr := Lib.hid (rot_law X 25)
  have hw : IntKind.u64.wrap (-7) = 18446744073709551609 := by decide +kernel
  have hb : bits BinOp.and IntKind.u64 18446744073709551609 31 = 25 := by decide +kernel
  go_enter Try.func50, Try.ntmps50
  go_wp2
  go_ret
  refine ⟨?_, rfl⟩
  rw [← hr.out]
  rfl
theorem rot_m18 (X : BitVec 32) (w : World) :
    Calls Try.prog 50 #[.int .u32 X.toNat, .int .i64 (-18)] w fun e w' => e = .returned (.int .u32 (rotl X 14).toNat) ∧ w' = w := by
  have hr := Lib.hid (rot_law X 14)
  have hw : IntKind.u64.wrap (-18) = 18446744073709551598 := by decide +kernel
  have hb : bits BinOp.and IntKind.u64 18446744073709551598 31 = 14 := by decide +kernel
  go_enter Try.func50, Try.ntmps50
  go_wp2
  go_ret
  refine ⟨?_, rfl⟩
  rw [← hr.out]
  rfl
theorem rot_m17 (X : BitVec 32) (w : World) :
    Calls Try.prog 50 #[.int .u32 X.toNat, .int .i64 (-17)] w fun e w' => e = .returned (.int .u32 (rotl X 15).toNat) ∧ w' = w := by
  have hr := Lib.hid (rot_law X 15)
  have hw : IntKind.u64.wrap (-17) = 18446744073709551599 := by decide +kernel
  have hb : bits BinOp.and IntKind.u64 18446744073709551599 31 = 15 := by decide +kernel
  go_enter Try.func50, Try.ntmps50
  go_wp2
  go_ret
  refine ⟨?_, rfl⟩
  rw [← hr.out]
  rfl
theorem rot_m19 (X : BitVec 32) (w : World) :
    Calls Try.prog 50 #[.int .u32 X.toNat, .int .i64 (-19)] w fun e w' => e = .returned (.int .u32 (rotl X 13).toNat) ∧ w' = w := by
  have hr := Lib.hid (rot_law X 13)
  have hw : IntKind.u64.wrap (-19) = 18446744073709551597 := by decide +kernel
  have hb : bits BinOp.and IntKind.u64 18446744073709551597 31 = 13 := by decide +kernel
  go_enter Try.func50, Try.ntmps50
  go_wp2
  go_ret
  refine ⟨?_, rfl⟩
  rw [← hr.out]
  rfl
theorem rot_m6 (X : BitVec 32) (w : World) :
    Calls Try.prog 50 #[.int .u32 X.toNat, .int .i64 (-6)] w fun e w' => e = .returned (.int .u32 (rotl X 26).toNat) ∧ w' = w := by
  have hr := Lib.hid (rot_law X 26)
  have hw : IntKind.u64.wrap (-6) = 18446744073709551610 := by decide +kernel
  have hb : bits BinOp.and IntKind.u64 18446744073709551610 31 = 26 := by decide +kernel
  go_enter Try.func50, Try.ntmps50
  go_wp2
  go_ret
  refine ⟨?_, rfl⟩
  rw [← hr.out]
  rfl
theorem rot_m11 (X : BitVec 32) (w : World) :
    Calls Try.prog 50 #[.int .u32 X.toNat, .int .i64 (-11)] w fun e w' => e = .returned (.int .u32 (rotl X 21).toNat) ∧ w' = w := by
  have hr := Lib.hid (rot_law X 21)
  have hw : IntKind.u64.wrap (-11) = 18446744073709551605 := by decide +kernel
  have hb : bits BinOp.and IntKind.u64 18446744073709551605 31 = 21 := by decide +kernel
  go_enter Try.func50, Try.ntmps50
  go_wp2
  go_ret
  refine ⟨?_, rfl⟩
  rw [← hr.out]
  rfl
theorem rot_m25 (X : BitVec 32) (w : World) :
    Calls Try.prog 50 #[.int .u32 X.toNat, .int .i64 (-25)] w fun e w' => e = .returned (.int .u32 (rotl X 7).toNat) ∧ w' = w := by
  have hr := Lib.hid (rot_law X 7)
  have hw : IntKind.u64.wrap (-25) = 18446744073709551591 := by decide +kernel
  have hb : bits BinOp.and IntKind.u64 18446744073709551591 31 = 7 := by decide +kernel
  go_enter Try.func50, Try.ntmps50
  go_wp2
  go_ret
  refine ⟨?_, rfl⟩
  rw [← hr.out]
  rfl
theorem rot_m2 (X : BitVec 32) (w : World) :
    Calls Try.prog 50 #[.int .u32 X.toNat, .int .i64 (-2)] w fun e w' => e = .returned (.int .u32 (rotl X 30).toNat) ∧ w' = w := by
  have hr := Lib.hid (rot_law X 30)
  have hw : IntKind.u64.wrap (-2) = 18446744073709551614 := by decide +kernel
  have hb : bits BinOp.and IntKind.u64 18446744073709551614 31 = 30 := by decide +kernel
  go_enter Try.func50, Try.ntmps50
  go_wp2
  go_ret
  refine ⟨?_, rfl⟩
  rw [← hr.out]
  rfl
theorem rot_m13 (X : BitVec 32) (w : World) :
    Calls Try.prog 50 #[.int .u32 X.toNat, .int .i64 (-13)] w fun e w' => e = .returned (.int .u32 (rotl X 19).toNat) ∧ w' = w := by
  have hr := Lib.hid (rot_law X 19)
  have hw : IntKind.u64.wrap (-13) = 18446744073709551603 := by decide +kernel
  have hb : bits BinOp.and IntKind.u64 18446744073709551603 31 = 19 := by decide +kernel
  go_enter Try.func50, Try.ntmps50
  go_wp2
  go_ret
  refine ⟨?_, rfl⟩
  rw [← hr.out]
  rfl
theorem rot_m22 (X : BitVec 32) (w : World) :
    Calls Try.prog 50 #[.int .u32 X.toNat, .int .i64 (-22)] w fun e w' => e = .returned (.int .u32 (rotl X 10).toNat) ∧ w' = w := by
  have hr := Lib.hid (rot_law X 10)
  have hw : IntKind.u64.wrap (-22) = 18446744073709551594 := by decide +kernel
  have hb : bits BinOp.and IntKind.u64 18446744073709551594 31 = 10 := by decide +kernel
  go_enter Try.func50, Try.ntmps50
  go_wp2
  go_ret
  refine ⟨?_, rfl⟩
  rw [← hr.out]
  rfl

/-- Four bytes as a word. -/
def word4 (a b c d : UInt8) : BitVec 32 := ((((byte32 a <<< 24) ||| (byte32 b <<< 16)) ||| (byte32 c <<< 8)) ||| byte32 d)
theorem byte_w (c : UInt8) : ((c.toNat : Nat) : Int) = ((byte32 c).toNat : Int) := by rw [byte32_nat]
theorem bmod (c : UInt8) : (c.toNat : Int) % 4294967296 = (c.toNat : Int) := by have := c.toNat_lt; omega
theorem word_law (a b c d : UInt8) : bits BinOp.or IntKind.u32 (bits BinOp.or IntKind.u32 (bits BinOp.or IntKind.u32 (IntKind.u32.wrap (IntKind.u32.wrap (a.toNat : Int) * 16777216)) (IntKind.u32.wrap (IntKind.u32.wrap (b.toNat : Int) * 65536))) (IntKind.u32.wrap (IntKind.u32.wrap (c.toNat : Int) * 256))) (IntKind.u32.wrap (d.toNat : Int)) = ((word4 a b c d).toNat : Int) := by
  simp only [IntKind.wrap_u32, bmod]
  have h1 := shl_w (byte32 a) 24
  have h2 := shl_w (byte32 b) 16
  have h3 := shl_w (byte32 c) 8
  rw [byte32_nat] at h1 h2 h3
  have e1 : (a.toNat : Int) * (16777216 : Int) % (4294967296 : Int) = ((byte32 a <<< 24).toNat : Int) := h1
  have e2 : (b.toNat : Int) * (65536 : Int) % (4294967296 : Int) = ((byte32 b <<< 16).toNat : Int) := h2
  have e3 : (c.toNat : Int) * (256 : Int) % (4294967296 : Int) = ((byte32 c <<< 8).toNat : Int) := h3
  rw [e1, e2, e3, byte_w d, orW, orW, orW]
  rfl
theorem word_any (s : ByteArray) (w : World) (h : 4 ≤ s.size) :
    Calls Try.prog 49 #[.string s] w fun e w' => e = .returned (.int .u32 (word4 s[0] s[1] s[2] s[3]).toNat) ∧ ∃ n, w' = w.drewN n := by
  have h0 : 0 < s.size := by omega
  have i1 : (1 : Int) < (s.size : Int) := by omega
  have i2 : (2 : Int) < (s.size : Int) := by omega
  have i3 : (3 : Int) < (s.size : Int) := by omega
  go_enter Try.func49, Try.ntmps49
  go_wp2_with fail
  go_quiet (fail)
  go_wp2
  go_ret
  refine ⟨?_, _, rfl⟩
  rw [← word_law]
  rfl
end Go.Proofs.Ytdhafmjhohnclaa
