/-
  PackoutTells: every list of Evs.
-/
import Derived.Test.YteggfobeaolafaaPkY
import Derived.Test.YteggfobeaolafaaPkOps
namespace Go.Proofs.Yteggfobeaolafaa
open Go.RowKit
set_option maxRecDepth 100000 in
theorem tells_no {w : World} {a : Option Addr} {len cap : Nat} (h : 100 < len) (hl : len ≤ 9223372036854775807) :
    Calls Try.prog 3 #[.slice a len cap] w fun e w' => e = .returned (.bool true) ∧ Below w.heap.size w w' := by
  have HA := hide (alive_any w)
  have h2 : (100 : Int) < len := by omega
  have hl2 := Lib.hid hl
  clear hl h
  go_enter Try.func3, Try.ntmps3
  go_wp2_with fail
  (with_reducible refine (unhide HA).mono ?_)
  rintro e w1 ⟨rfl, hb⟩
  go_wp2_with fail
  go_ret
  exact ⟨rfl, hb⟩
theorem tells_any {w : World} {a : Option Addr} {len cap : Nat} {z : List Row34} (h : IsRows34 w a len cap z) :
    Calls Try.prog 3 #[.slice a len cap] w fun e w' => e = .returned (.bool true) ∧ Below w.heap.size w w' := by
  by_cases h1 : 100 < len
  · exact tells_no h1 h.2.1
  · refine tells_yes h.evs (by rw [List.length_map, h.1]; omega) (fun e he => ?_)
    obtain ⟨r, hr, rfl⟩ := List.mem_map.1 he
    obtain ⟨_, h3, h4, _⟩ := h.2.2.1 r hr
    exact ⟨(wf_bounds_u64 h3).1, (wf_bounds_u64 h3).2, (wf_bounds h4).2⟩
end Go.Proofs.Yteggfobeaolafaa
