/- THE DEFERRED CLOSURE of Apply. -/
import Derived.Test.YtilfdeboeohnbaaDeltaSizes2
namespace Go.Proofs.Ytilfdeboeohnbaa
open Go.RowKit Delta
set_option linter.unusedVariables false

set_option maxRecDepth 100000 in
set_option maxHeartbeats 2000000 in
theorem apply_idle (B : Nat) (w : World) :
    CallsD Try.prog 15 #[.pointer (some ⟨B, 0, none⟩), .pointer (some ⟨B + 1, 0, none⟩)] .returning w fun e u' w' => e = .returned (.tuple #[]) ∧ u' = .returning ∧ w' = w := by
  refine callsD_of_wpS Try.func15 rfl fun c₀ cs hu => ?_
  have hr : recoverD (c₀ :: cs) = none := by simp [recoverD, hu]
  rw [Try.ntmps15]
  show Code.wpS _ _ _ { tmps := #[.pointer (some ⟨B, 0, none⟩), .pointer (some ⟨B + 1, 0, none⟩), undef, undef, undef, undef, undef, undef, undef, undef, undef], defers := [] } _ _
  apply wpS_seq
  apply wpS_region
  show wpOpsS _ _ _ [0, 1, 2, 3, 4, 5, 6] _ _ _
  refine opsS_idle rfl rfl rfl hr ?_
  refine opsS_step (v := .tuple #[.int .i64 0, .bool false]) (w' := w) rfl rfl (by simp [execOp, Act.eval, Act.put, ta_none]) ?_
  refine opsS_step (v := .tuple #[.int .i64 0, .bool false]) (w' := w) rfl rfl rfl ?_
  refine opsS_step (v := .int .i64 0) (w' := w) rfl rfl rfl ?_
  refine opsS_step (v := .bool false) (w' := w) rfl rfl rfl ?_
  refine opsS_step (v := .int .i64 0) (w' := w) rfl rfl rfl ?_
  refine opsS_step (v := .bool false) (w' := w) rfl rfl rfl ?_
  show Code.wpS _ _ _ { tmps := #[.pointer (some ⟨B, 0, none⟩), .pointer (some ⟨B + 1, 0, none⟩), .int .i64 0, .bool false, .tuple #[.int .i64 0, .bool false], .nilIface, .tuple #[.int .i64 0, .bool false], .int .i64 0, .bool false, undef, undef], defers := [] } _ _
  refine wpS_of_wp ?_
  go_wp2
  cases c₀
  simp_all [bodyPostS, results, Try.results15]

set_option maxRecDepth 100000 in
set_option maxHeartbeats 2000000 in
theorem apply_catch (B : Nat) (x y1 : Int) (y0 : ByteArray) (older : List PanicEntry) (w : World)
    (h0 : w.cell? ⟨B, 0, none⟩ = some (.string y0)) (h1 : w.cell? ⟨B + 1, 0, none⟩ = some (.int .i64 y1)) (f0 : w.frozen? ⟨B, 0, none⟩ = false) (f1 : w.frozen? ⟨B + 1, 0, none⟩ = false) :
    CallsD Try.prog 15 #[.pointer (some ⟨B, 0, none⟩), .pointer (some ⟨B + 1, 0, none⟩)] (.panicking ({ v := .iface 39 (.int .i64 x), recovered := false } :: older)) w fun e u' w' =>
      e = .returned (.tuple #[]) ∧ u' = .panicking ({ v := .iface 39 (.int .i64 x), recovered := true } :: older) ∧
      w' = (w.setCell ⟨B, 0, none⟩ (.string ⟨#[]⟩)).setCell ⟨B + 1, 0, none⟩ (.int .i64 x) := by
  refine callsD_of_wpS Try.func15 rfl fun c₀ cs hu => ?_
  have hr : recoverD (c₀ :: cs) = some (.iface 39 (.int .i64 x), { c₀ with mode := .panicking ({ v := .iface 39 (.int .i64 x), recovered := true } :: older) } :: cs) := by simp [recoverD, hu]
  rw [Try.ntmps15]
  show Code.wpS _ _ _ { tmps := #[.pointer (some ⟨B, 0, none⟩), .pointer (some ⟨B + 1, 0, none⟩), undef, undef, undef, undef, undef, undef, undef, undef, undef], defers := [] } _ _
  apply wpS_seq
  apply wpS_region
  show wpOpsS _ _ _ [0, 1, 2, 3, 4, 5, 6] _ _ _
  refine opsS_recover rfl rfl rfl hr ?_
  refine opsS_step (v := .tuple #[.int .i64 x, .bool true]) (w' := w) rfl rfl (by simp [execOp, Act.eval, Act.put, ta_some]) ?_
  refine opsS_step (v := .tuple #[.int .i64 x, .bool true]) (w' := w) rfl rfl rfl ?_
  refine opsS_step (v := .int .i64 x) (w' := w) rfl rfl rfl ?_
  refine opsS_step (v := .bool true) (w' := w) rfl rfl rfl ?_
  refine opsS_step (v := .int .i64 x) (w' := w) rfl rfl rfl ?_
  refine opsS_step (v := .bool true) (w' := w) rfl rfl rfl ?_
  show Code.wpS _ _ _ { tmps := #[.pointer (some ⟨B, 0, none⟩), .pointer (some ⟨B + 1, 0, none⟩), .int .i64 x, .bool true, .tuple #[.int .i64 x, .bool true], .iface 39 (.int .i64 x), .tuple #[.int .i64 x, .bool true], .int .i64 x, .bool true, undef, undef], defers := [] } _ _
  clear hr
  refine wpS_of_wp ?_
  go_wp2
  cases c₀
  simp_all [bodyPostS, results, Try.results15]
end Go.Proofs.Ytilfdeboeohnbaa
