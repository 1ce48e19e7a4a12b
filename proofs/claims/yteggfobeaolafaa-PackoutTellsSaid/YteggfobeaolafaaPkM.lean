/-
  The reference's May and Tidy.
-/
import Derived.Test.YteggfobeaolafaaPkK
namespace Go.Proofs.Yteggfobeaolafaa
open Go.RowKit

set_option maxRecDepth 100000 in
theorem refmay_any (e : EvM) (w : World) (b : Bool) (hb : b = e.part.isSome) :
    Calls Try.prog 16 #[.agg e.cells] w fun r w' => r = .returned (.bool b) ∧ Below w.heap.size w w' := by
  obtain ⟨k, y, m, l, c⟩ := e
  simp only [EvM.cells, evV, EvM.part] at hb ⊢
  have HB := hide hb
  clear hb
  go_enter Try.func16, Try.ntmps16
  go_wp2_with fail
  all_goals
    go_ret
    refine ⟨congrArg (fun b => Ending.returned (Value.bool b)) (?_ : _ = b), Below.more (Below.refl _ _) (Nat.le_refl _) _⟩
    rw [HB.out]
    unfold partOf
    (repeat' split) <;> simp <;> omega
end Go.Proofs.Yteggfobeaolafaa
