/-
  The reference's Tidy (the result lies in a heap cell: bodyPost_ret with results@f).
-/
import Derived.Test.YteggfobeaolafaaPkM
namespace Go.Proofs.Yteggfobeaolafaa
open Go.RowKit

def EvM.tidy (e : EvM) : EvM :=
  if e.k = 1 then ⟨e.k, e.y, 0, [], 0⟩
  else if e.k = 2 then ⟨e.k, e.y, e.m, [], 0⟩
  else if e.k = 3 ∨ e.k = 4 then ⟨e.k, false, 0, e.l, 0⟩
  else if e.k = 5 ∨ e.k = 6 then ⟨e.k, false, 0, [], e.c⟩
  else ⟨e.k, false, 0, [], 0⟩
set_option maxRecDepth 100000 in
theorem reftidy_any (e : EvM) (w : World) :
    Calls Try.prog 14 #[.agg e.cells] w fun r w' => r = .returned (.agg e.tidy.cells) ∧ Below w.heap.size w w' := by
  obtain ⟨k, y, m, l, c⟩ := e
  simp only [EvM.cells, evV]
  have HE : S [] = ⟨#[]⟩ := rfl
  go_enter Try.func14, Try.ntmps14
  go_wp2_with fail
  all_goals
    refine bodyPost_ret (v := .agg (EvM.tidy ⟨k, y, m, l, c⟩).cells) (by simp_all [results, Try.results14, go_sem, EvM.tidy, EvM.cells, evV]; try rfl) rfl ⟨rfl, ?_⟩
    repeat refine Below.more ?_ (Nat.le_refl _) _
    exact Below.refl _ _
end Go.Proofs.Yteggfobeaolafaa
