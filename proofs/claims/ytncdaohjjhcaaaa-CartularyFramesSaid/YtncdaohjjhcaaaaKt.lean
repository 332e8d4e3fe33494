/- ONE BLOCK AND ROWS OF ONE KIND ALONE ARE WRITTEN: the others stay. No program walked. No conditions. -/
import Derived.Test.YtncdaohjjhcaaaaBytes
namespace Go.Proofs.Ytncdaohjjhcaaaa
open Go Go.RowKit
set_option linter.unusedVariables false

def isT (w : World) (e : TypeId) (k : Nat) : Prop := ∃ cur f, w.heap[k]? = some (.cells cur e f)
/-- Of the blocks that stand below B, and of those that are no rows of e, nothing has turned, but of b. -/
structure Kt (e : TypeId) (b B : Nat) (w w' : World) : Prop where
  os : w'.os = w.os
  tape : w'.tape = w.tape
  output : w'.output = w.output
  size : w.heap.size ≤ w'.heap.size
  block : ∀ k, k < w.heap.size → k ≠ b → (k < B ∨ ¬ isT w e k) → w'.heap[k]? = w.heap[k]?
theorem kt_refl (e : TypeId) (b B : Nat) (w : World) : Kt e b B w w := ⟨rfl, rfl, rfl, Nat.le_refl _, fun _ _ _ _ => rfl⟩
theorem kt_trans {e : TypeId} {b B : Nat} {w w1 w2 : World} (h : Kt e b B w w1) (k : Kt e b B w1 w2) : Kt e b B w w2 :=
  ⟨k.os.trans h.os, k.tape.trans h.tape, k.output.trans h.output, Nat.le_trans h.size k.size, fun i hi hb hr => by
    have h1 := h.block i hi hb hr
    refine (k.block i (Nat.lt_of_lt_of_le hi h.size) hb (hr.imp id (fun hn ht => hn ?_))).trans h1
    obtain ⟨cur, f, ht⟩ := ht
    exact ⟨cur, f, h1.symm.trans ht⟩⟩
theorem kt_drew {e : TypeId} {b B : Nat} {w w1 : World} (h : Kt e b B w w1) : Kt e b B w w1.drew := ⟨h.os, h.tape, h.output, h.size, h.block⟩
theorem kt_drewN {e : TypeId} {b B : Nat} {w w1 : World} (h : Kt e b B w w1) (n : Nat) : Kt e b B w (w1.drewN n) := ⟨h.os, h.tape, h.output, h.size, h.block⟩
theorem kt_set {e : TypeId} {b B : Nat} {w w1 : World} (h : Kt e b B w w1) (o : Nat) (v : Value) : Kt e b B w (w1.setCell ⟨b, o, none⟩ v) :=
  ⟨h.os, h.tape, h.output, by simpa [World.setCell] using h.size, fun k hk hb hr => (Below.heap_setCell _ _ _ _ hb).trans (h.block k hk hb hr)⟩
theorem kt_alloc {e : TypeId} {b B : Nat} {w w1 : World} (h : Kt e b B w w1) (o : Obj) : Kt e b B w (w1.alloc o) :=
  kt_trans h ⟨rfl, rfl, rfl, by simp, fun k hk _ _ => Below.heap_alloc _ _ _ hk⟩
theorem kt_below {e : TypeId} {b B : Nat} {w w1 w2 : World} (h : Kt e b B w w1) (k : Below w1.heap.size w1 w2) : Kt e b B w w2 :=
  kt_trans h ⟨k.os, k.tape, k.output, k.size, fun i hi _ _ => k.block i hi⟩
/-- An append to a row of e of the call's own. -/
theorem kt_gb {e : TypeId} {b B size n : Nat} {v : Value} {xs : List Value} {w w1 w2 : World} (h : Kt e b B w w1) (hown : w1.ownsRow B e size v n xs) (k : w1.grownBy w2 v.ownBlock) : Kt e b B w w2 :=
  kt_trans h ⟨k.os, k.tape, k.output, k.size, fun i hi _ hr => k.block i hi (fun he => by
    rcases hown.2 with ⟨rfl, _⟩ | ⟨g, cap, cur, rfl, hB, hg, _⟩
    · cases he
    · have e9 : i = g := Option.some.inj he
      subst e9
      rcases hr with hr | hr
      · omega
      · exact hr ⟨cur, (0, 0), hg⟩)⟩
theorem kt_heap {e : TypeId} {b B k : Nat} {w w' : World} {o : Obj} (h : Kt e b B w w') (hk : w.heap[k]? = some o) (hb : k ≠ b) (ho : ∀ cur f, o ≠ .cells cur e f) : w'.heap[k]? = some o :=
  (h.block k (lt_of_block hk) hb (.inr (fun ⟨cur, f, ht⟩ => ho cur f (by rw [hk] at ht; exact Option.some.inj ht)))).trans hk
theorem kt_to_below {e : TypeId} {b B : Nat} {w w' : World} (h : Kt e b B w w') (hb : B ≤ b) (hs : B ≤ w.heap.size) : Below B w w' :=
  ⟨h.os, h.tape, h.output, h.size, fun i hi => h.block i (by omega) (by omega) (.inl hi)⟩
/-- A row of another kind is as it was. -/
theorem kt_row {e e2 : TypeId} {b B B2 size n : Nat} {v : Value} {xs : List Value} {w w' : World} (h : Kt e b B w w') (hr : w.ownsRow B2 e2 size v n xs) (he : e2 ≠ e) (hb : v.ownBlock ≠ some b) : w'.ownsRow B2 e2 size v n xs := by
  refine ⟨hr.1, ?_⟩
  rcases hr.2 with h0 | ⟨g, cap, cur, rfl, hB, hg, rest⟩
  · exact .inl h0
  · exact .inr ⟨g, cap, cur, rfl, hB, kt_heap h hg (fun e => hb (by rw [e]; rfl)) (fun c f e => by injection e with _ e _; exact he e), rest⟩
/-- A row is another block than one that holds something else. -/
theorem row_ne {e e2 : TypeId} {b B size n : Nat} {v : Value} {xs : List Value} {w : World} {c : Array Value} {f : Nat × Nat} (hr : w.ownsRow B e size v n xs) (hb : w.heap[b]? = some (.cells c e2 f)) (he : e ≠ e2) : v.ownBlock ≠ some b := by
  rcases hr.2 with ⟨rfl, _⟩ | ⟨g, cap, cur, rfl, hB, hg, _⟩
  · intro h; cases h
  · intro h
    cases h
    have hb' : w.heap[g]? = some (.cells c e2 f) := hb
    rw [hg] at hb'
    injection hb' with h
    injection h with _ h _
    exact he h
theorem row_shape {e : TypeId} {B size n : Nat} {v : Value} {xs : List Value} {w : World} (hr : w.ownsRow B e size v n xs) : ∃ A m c, v = .slice A m c := by
  rcases hr.2 with ⟨rfl, _⟩ | ⟨g, cap, cur, rfl, _⟩ <;> exact ⟨_, _, _, rfl⟩
end Go.Proofs.Ytncdaohjjhcaaaa
