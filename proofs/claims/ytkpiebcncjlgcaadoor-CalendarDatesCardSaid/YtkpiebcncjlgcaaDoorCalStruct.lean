/- A STRUCT OF SEVEN INTS BY VALUE, opened and shut. No program in sight. No conditions. -/
import Derived.Lib.SmallJoins
namespace Go.Proofs.YtkpiebcncjlgcaaDoor
open Go Go.Joins Go.ChangeShapes Go.WideShapes Go.RowKit Go.Deep
set_option linter.unusedVariables false

section
variable {H : Type} {enc : TypeId × Value → H} {P : Program} {w : World} {base : Nat} {spare : Nat → Bool} {held : Bool}
theorem open_ints7 {r : Reach} {b0 : Nat} {t i : TypeId} {f0 f1 f2 f3 f4 f5 f6 : Field} {v : Value} {d : DataW H} {p : List MemPlace} (hs : P.underlying t = some (.struct #[f0, f1, f2, f3, f4, f5, f6])) (hone : oneCellFields P #[f0, f1, f2, f3, f4, f5, f6] = true) (hC : P.cellsOf t = 7)
    (hi : P.underlying i = some (.int .i64)) (ht : f0.type = i ∧ f1.type = i ∧ f2.type = i ∧ f3.type = i ∧ f4.type = i ∧ f5.type = i ∧ f6.type = i) (hv : Value.okWide P w r b0 t v) (h : DataW.Trod enc P w base spare held t v d p) :
    ∃ a0 a1 a2 a3 a4 a5 a6 : Int, v = .agg #[.int .i64 a0, .int .i64 a1, .int .i64 a2, .int .i64 a3, .int .i64 a4, .int .i64 a5, .int .i64 a6] ∧ d = .agg [.lit (.int .i64 a0), .lit (.int .i64 a1), .lit (.int .i64 a2), .lit (.int .i64 a3), .lit (.int .i64 a4), .lit (.int .i64 a5), .lit (.int .i64 a6)] ∧ p = [] ∧ (Lit.int .i64 a0).wf = true ∧ (Lit.int .i64 a1).wf = true ∧ (Lit.int .i64 a2).wf = true ∧ (Lit.int .i64 a3).wf = true ∧ (Lit.int .i64 a4).wf = true ∧ (Lit.int .i64 a5).wf = true ∧ (Lit.int .i64 a6).wf = true := by
  obtain ⟨t0, t1, t2, t3, t4, t5, t6⟩ := ht
  obtain ⟨cs, rfl, hsz⟩ := okWide_struct hs hv
  obtain ⟨l⟩ := cs
  match l, hsz.trans hC with
  | [c0, c1, c2, c3, c4, c5, c6], _ =>
    obtain ⟨fuel, hf⟩ := h
    obtain ⟨xs, n, _, hx, _, hlen, hg⟩ := DataW.trod_struct hs hf
    obtain ⟨o0, k0⟩ := hone_of hone 0 f0 rfl
    obtain ⟨o1, k1⟩ := hone_of hone 1 f1 rfl
    obtain ⟨o2, k2⟩ := hone_of hone 2 f2 rfl
    obtain ⟨o3, k3⟩ := hone_of hone 3 f3 rfl
    obtain ⟨o4, k4⟩ := hone_of hone 4 f4 rfl
    obtain ⟨o5, k5⟩ := hone_of hone 5 f5 rfl
    obtain ⟨o6, k6⟩ := hone_of hone 6 f6 rfl
    match xs, hlen with
    | [y0, y1, y2, y3, y4, y5, y6], _ =>
      simp only [Prod.mk.injEq] at hx
      have g0 : DataW.trod enc P w base spare held n i [c0] = some y0 := by rw [← t0]; simpa [Value.cells, o0, k0] using hg 0 f0 rfl
      have g1 : DataW.trod enc P w base spare held n i [c1] = some y1 := by rw [← t1]; simpa [Value.cells, o1, k1] using hg 1 f1 rfl
      have g2 : DataW.trod enc P w base spare held n i [c2] = some y2 := by rw [← t2]; simpa [Value.cells, o2, k2] using hg 2 f2 rfl
      have g3 : DataW.trod enc P w base spare held n i [c3] = some y3 := by rw [← t3]; simpa [Value.cells, o3, k3] using hg 3 f3 rfl
      have g4 : DataW.trod enc P w base spare held n i [c4] = some y4 := by rw [← t4]; simpa [Value.cells, o4, k4] using hg 4 f4 rfl
      have g5 : DataW.trod enc P w base spare held n i [c5] = some y5 := by rw [← t5]; simpa [Value.cells, o5, k5] using hg 5 f5 rfl
      have g6 : DataW.trod enc P w base spare held n i [c6] = some y6 := by rw [← t6]; simpa [Value.cells, o6, k6] using hg 6 f6 rfl
      obtain ⟨a0, e0, hy0, w0⟩ := DataW.trod_int hi g0
      simp at e0
      subst e0 hy0
      obtain ⟨a1, e1, hy1, w1⟩ := DataW.trod_int hi g1
      simp at e1
      subst e1 hy1
      obtain ⟨a2, e2, hy2, w2⟩ := DataW.trod_int hi g2
      simp at e2
      subst e2 hy2
      obtain ⟨a3, e3, hy3, w3⟩ := DataW.trod_int hi g3
      simp at e3
      subst e3 hy3
      obtain ⟨a4, e4, hy4, w4⟩ := DataW.trod_int hi g4
      simp at e4
      subst e4 hy4
      obtain ⟨a5, e5, hy5, w5⟩ := DataW.trod_int hi g5
      simp at e5
      subst e5 hy5
      obtain ⟨a6, e6, hy6, w6⟩ := DataW.trod_int hi g6
      simp at e6
      subst e6 hy6
      exact ⟨a0, a1, a2, a3, a4, a5, a6, rfl, by simpa using hx.1, by simpa using hx.2, w0, w1, w2, w3, w4, w5, w6⟩
theorem shut_ints7 {t i : TypeId} {f0 f1 f2 f3 f4 f5 f6 : Field} {a0 a1 a2 a3 a4 a5 a6 : Int} (hs : P.underlying t = some (.struct #[f0, f1, f2, f3, f4, f5, f6])) (hone : oneCellFields P #[f0, f1, f2, f3, f4, f5, f6] = true) (hC : P.cellsOf t = 7)
    (hi : P.underlying i = some (.int .i64)) (ht : f0.type = i ∧ f1.type = i ∧ f2.type = i ∧ f3.type = i ∧ f4.type = i ∧ f5.type = i ∧ f6.type = i) (w0 : (Lit.int .i64 a0).wf = true) (w1 : (Lit.int .i64 a1).wf = true) (w2 : (Lit.int .i64 a2).wf = true) (w3 : (Lit.int .i64 a3).wf = true) (w4 : (Lit.int .i64 a4).wf = true) (w5 : (Lit.int .i64 a5).wf = true) (w6 : (Lit.int .i64 a6).wf = true) :
    DataW.Trod enc P w base spare held t (.agg #[.int .i64 a0, .int .i64 a1, .int .i64 a2, .int .i64 a3, .int .i64 a4, .int .i64 a5, .int .i64 a6]) (.agg [.lit (.int .i64 a0), .lit (.int .i64 a1), .lit (.int .i64 a2), .lit (.int .i64 a3), .lit (.int .i64 a4), .lit (.int .i64 a5), .lit (.int .i64 a6)]) [] := by
  obtain ⟨t0, t1, t2, t3, t4, t5, t6⟩ := ht
  obtain ⟨o0, k0⟩ := hone_of hone 0 f0 rfl
  obtain ⟨o1, k1⟩ := hone_of hone 1 f1 rfl
  obtain ⟨o2, k2⟩ := hone_of hone 2 f2 rfl
  obtain ⟨o3, k3⟩ := hone_of hone 3 f3 rfl
  obtain ⟨o4, k4⟩ := hone_of hone 4 f4 rfl
  obtain ⟨o5, k5⟩ := hone_of hone 5 f5 rfl
  obtain ⟨o6, k6⟩ := hone_of hone 6 f6 rfl
  have g0 : DataW.trod enc P w base spare held 1 f0.type [.int .i64 a0] = some (.lit (.int .i64 a0), []) := by rw [t0]; exact trod_int_mk 0 hi w0
  have g1 : DataW.trod enc P w base spare held 1 f1.type [.int .i64 a1] = some (.lit (.int .i64 a1), []) := by rw [t1]; exact trod_int_mk 0 hi w1
  have g2 : DataW.trod enc P w base spare held 1 f2.type [.int .i64 a2] = some (.lit (.int .i64 a2), []) := by rw [t2]; exact trod_int_mk 0 hi w2
  have g3 : DataW.trod enc P w base spare held 1 f3.type [.int .i64 a3] = some (.lit (.int .i64 a3), []) := by rw [t3]; exact trod_int_mk 0 hi w3
  have g4 : DataW.trod enc P w base spare held 1 f4.type [.int .i64 a4] = some (.lit (.int .i64 a4), []) := by rw [t4]; exact trod_int_mk 0 hi w4
  have g5 : DataW.trod enc P w base spare held 1 f5.type [.int .i64 a5] = some (.lit (.int .i64 a5), []) := by rw [t5]; exact trod_int_mk 0 hi w5
  have g6 : DataW.trod enc P w base spare held 1 f6.type [.int .i64 a6] = some (.lit (.int .i64 a6), []) := by rw [t6]; exact trod_int_mk 0 hi w6
  have := trod_struct_mk (enc := enc) (w := w) (base := base) (spare := spare) (held := held) (n := 1) (cs := [.int .i64 a0, .int .i64 a1, .int .i64 a2, .int .i64 a3, .int .i64 a4, .int .i64 a5, .int .i64 a6]) (xs := [(.lit (.int .i64 a0), []), (.lit (.int .i64 a1), []), (.lit (.int .i64 a2), []), (.lit (.int .i64 a3), []), (.lit (.int .i64 a4), []), (.lit (.int .i64 a5), []), (.lit (.int .i64 a6), [])]) hs (by simp [hC]) (by simp [o0, k0, g0, o1, k1, g1, o2, k2, g2, o3, k3, g3, o4, k4, g4, o5, k5, g5, o6, k6, g6])
  exact ⟨_, by simpa [Value.cells] using this⟩
end
end Go.Proofs.YtkpiebcncjlgcaaDoor
