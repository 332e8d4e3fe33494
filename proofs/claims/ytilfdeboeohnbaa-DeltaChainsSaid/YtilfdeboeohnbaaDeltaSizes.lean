/- THE WALK of Sizes: both lengths, or the error that the reader panics with. -/
import Derived.Test.YtilfdeboeohnbaaDeltaCp
import Derived.Defers
import Derived.Recover
import Derived.Laws.Pointers
import Derived.RegionTactic
import Derived.BigRegion
namespace Go.Proofs.Ytilfdeboeohnbaa
open Go.RowKit Delta
set_option linter.unusedVariables false

theorem ta_some (x : Int) (w : World) : (Instr.typeAssert (.iface 39 (.int .i64 x)) 20 39 true).run Try.prog w = .ok (.tuple #[.int .i64 x, .bool true]) w := by kernel_rfl
theorem ta_none (w : World) : (Instr.typeAssert .nilIface 20 39 true).run Try.prog w = .ok (.tuple #[.int .i64 0, .bool false]) w := by kernel_rfl

/-! A deferred closure's region, an operation at a time. -/
section
variable {P : Program} {ops : Array Oper} {Q : Exit → Act → List Frame → World → Prop} {i : Nat} {rest : List Nat} {a : Act} {cs cs' : List Frame} {w w' : World} {o : Oper} {v : Value}
theorem opsS_step (ho : ops[i]? = some o) (hg : o.guard = none) (hrun : (execOp a.eval o).run P w = .ok (.value v) w') (h : wpOpsS P ops Q rest (a.put o.dst v) cs w') : wpOpsS P ops Q (i :: rest) a cs w := by
  have hw : Region.wanted o (yielded ops a.tmps) = true := by simp [Region.wanted, hg]
  simp only [wpOpsS, ho, hw, if_true, hrun, Oper.upon]
  exact h
theorem opsS_recover (ho : ops[i]? = some o) (hg : o.guard = none) (hrun : (execOp a.eval o).run P w = .ok .recover w') (hr : recoverD cs = some (v, cs')) (h : wpOpsS P ops Q rest (a.put o.dst v) cs' w') : wpOpsS P ops Q (i :: rest) a cs w := by
  have hw : Region.wanted o (yielded ops a.tmps) = true := by simp [Region.wanted, hg]
  simp only [wpOpsS, ho, hw, if_true, hrun, hr]
  exact h
theorem opsS_idle (ho : ops[i]? = some o) (hg : o.guard = none) (hrun : (execOp a.eval o).run P w = .ok .recover w') (hr : recoverD cs = none) (h : wpOpsS P ops Q rest (a.put o.dst .nilIface) cs w') : wpOpsS P ops Q (i :: rest) a cs w := by
  have hw : Region.wanted o (yielded ops a.tmps) = true := by simp [Region.wanted, hg]
  simp only [wpOpsS, ho, hw, if_true, hrun, hr]
  exact h
end

set_option maxRecDepth 100000 in
set_option maxHeartbeats 2000000 in
theorem sizes_idle (p0 p1 p2 p3 : Addr) (w : World) :
    CallsD Try.prog 18 #[.pointer (some p0), .pointer (some p1), .pointer (some p2), .pointer (some p3)] .returning w fun e u' w' => e = .returned (.tuple #[]) ∧ u' = .returning ∧ w' = w := by
  refine callsD_of_wpS Try.func18 rfl fun c₀ cs hu => ?_
  have hr : recoverD (c₀ :: cs) = none := by simp [recoverD, hu]
  rw [Try.ntmps18]
  show Code.wpS _ _ _ { tmps := #[.pointer (some p0), .pointer (some p1), .pointer (some p2), .pointer (some p3), undef, undef, undef, undef, undef, undef, undef, undef, undef], defers := [] } _ _
  apply wpS_seq
  apply wpS_region
  show wpOpsS _ _ _ [0, 1, 2, 3, 4, 5, 6] _ _ _
  refine opsS_idle rfl rfl rfl hr ?_
  refine opsS_step (v := .tuple #[.int .i64 0, .bool false]) (w' := w) rfl rfl (by simp [execOp, Act.eval, Act.put, ta_none]) ?_
  refine opsS_step (v := .tuple #[.int .i64 0, .bool false]) (w' := w) rfl rfl rfl ?_
  refine opsS_step (v := .int .i64 0) (w' := w) rfl rfl rfl ?_
  refine opsS_step (v := .bool false) (w' := w) rfl rfl rfl ?_
  refine opsS_step (v := .int .i64 0) (w' := w) rfl rfl rfl ?_
  refine opsS_step (v := .bool false) (w' := w) rfl rfl rfl ?_
  show Code.wpS _ _ _ { tmps := #[.pointer (some p0), .pointer (some p1), .pointer (some p2), .pointer (some p3), .int .i64 0, .bool false, .tuple #[.int .i64 0, .bool false], .nilIface, .tuple #[.int .i64 0, .bool false], .int .i64 0, .bool false, undef, undef], defers := [] } _ _
  refine wpS_of_wp ?_
  go_wp2
  cases c₀
  simp_all [bodyPostS, results, Try.results18]

set_option maxRecDepth 100000 in
set_option maxHeartbeats 2000000 in
theorem sizes_catch (B : Nat) (x y0 y1 y2 y3 : Int) (older : List PanicEntry) (w : World)
    (h0 : w.cell? ⟨B, 0, none⟩ = some (.int .i64 y0)) (h1 : w.cell? ⟨B + 1, 0, none⟩ = some (.int .i64 y1)) (h2 : w.cell? ⟨B + 2, 0, none⟩ = some (.int .i64 y2)) (h3 : w.cell? ⟨B + 3, 0, none⟩ = some (.int .i64 y3))
    (f0 : w.frozen? ⟨B, 0, none⟩ = false) (f1 : w.frozen? ⟨B + 1, 0, none⟩ = false) (f2 : w.frozen? ⟨B + 2, 0, none⟩ = false) (f3 : w.frozen? ⟨B + 3, 0, none⟩ = false) :
    CallsD Try.prog 18 #[.pointer (some ⟨B, 0, none⟩), .pointer (some ⟨B + 1, 0, none⟩), .pointer (some ⟨B + 2, 0, none⟩), .pointer (some ⟨B + 3, 0, none⟩)] (.panicking ({ v := .iface 39 (.int .i64 x), recovered := false } :: older)) w fun e u' w' =>
      e = .returned (.tuple #[]) ∧ u' = .panicking ({ v := .iface 39 (.int .i64 x), recovered := true } :: older) ∧
      w' = (((w.setCell ⟨B, 0, none⟩ (.int .i64 0)).setCell ⟨B + 1, 0, none⟩ (.int .i64 0)).setCell ⟨B + 2, 0, none⟩ (.int .i64 0)).setCell ⟨B + 3, 0, none⟩ (.int .i64 x) := by
  refine callsD_of_wpS Try.func18 rfl fun c₀ cs hu => ?_
  have hr : recoverD (c₀ :: cs) = some (.iface 39 (.int .i64 x), { c₀ with mode := .panicking ({ v := .iface 39 (.int .i64 x), recovered := true } :: older) } :: cs) := by simp [recoverD, hu]
  rw [Try.ntmps18]
  show Code.wpS _ _ _ { tmps := #[.pointer (some ⟨B, 0, none⟩), .pointer (some ⟨B + 1, 0, none⟩), .pointer (some ⟨B + 2, 0, none⟩), .pointer (some ⟨B + 3, 0, none⟩), undef, undef, undef, undef, undef, undef, undef, undef, undef], defers := [] } _ _
  apply wpS_seq
  apply wpS_region
  show wpOpsS _ _ _ [0, 1, 2, 3, 4, 5, 6] _ _ _
  refine opsS_recover rfl rfl rfl hr ?_
  refine opsS_step (v := .tuple #[.int .i64 x, .bool true]) (w' := w) rfl rfl (by simp [execOp, Act.eval, Act.put, ta_some]) ?_
  refine opsS_step (v := .tuple #[.int .i64 x, .bool true]) (w' := w) rfl rfl rfl ?_
  refine opsS_step (v := .int .i64 x) (w' := w) rfl rfl rfl ?_
  refine opsS_step (v := .bool true) (w' := w) rfl rfl rfl ?_
  refine opsS_step (v := .int .i64 x) (w' := w) rfl rfl rfl ?_
  refine opsS_step (v := .bool true) (w' := w) rfl rfl rfl ?_
  show Code.wpS _ _ _ { tmps := #[.pointer (some ⟨B, 0, none⟩), .pointer (some ⟨B + 1, 0, none⟩), .pointer (some ⟨B + 2, 0, none⟩), .pointer (some ⟨B + 3, 0, none⟩), .int .i64 x, .bool true, .tuple #[.int .i64 x, .bool true], .iface 39 (.int .i64 x), .tuple #[.int .i64 x, .bool true], .int .i64 x, .bool true, undef, undef], defers := [] } _ _
  clear hr
  refine wpS_of_wp ?_
  go_wp2
  cases c₀
  simp_all [bodyPostS, results, Try.results18]
end Go.Proofs.Ytilfdeboeohnbaa
