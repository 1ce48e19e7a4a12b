/-
  alive; a row of api.Whole.
-/
import Derived.Test.YteggfobeaolafaaPkJ
import Derived.Test.YteggfobeaolafaaPkHr
import Derived.Lib.SmallJoins
import Derived.Test.YteggfobeaolafaaArgs
namespace Go.Proofs.Yteggfobeaolafaa
open Go.RowKit

def evsV (E : List EvM) : List Value := E.flatMap (fun e => e.cells.toList)
theorem evsV_get : ∀ (E : List EvM) (i : Nat) (hi : i < E.length) (j : Nat) (u : Value), E[i].cells[j]? = some u → (evsV E)[i * 5 + j]? = some u
  | [], i, hi, _, _, _ => by simp at hi
  | e :: E, 0, hi, j, u, h => by
    have hl : e.cells.toList.length = 5 := rfl
    have hj : j < 5 := by
      obtain ⟨h1, _⟩ := Array.getElem?_eq_some_iff.1 h
      exact h1
    rw [show evsV (e :: E) = e.cells.toList ++ evsV E from by simp [evsV], List.getElem?_append_left (by omega), Nat.zero_mul, Nat.zero_add, Array.getElem?_toList]
    exact h
  | e :: E, i + 1, hi, j, u, h => by
    have hl : e.cells.toList.length = 5 := rfl
    rw [show evsV (e :: E) = e.cells.toList ++ evsV E from by simp [evsV], List.getElem?_append_right (by omega), hl, show (i + 1) * 5 + j - 5 = i * 5 + j by omega]
    exact evsV_get E i (by simpa using hi) j u h
theorem evs_built (w : World) (E : List EvM) (n : Nat) (hn : n = E.length) (cs : Array Value) (hc : cs = (evsV E).toArray) (B : Nat) (hB : B = w.heap.size) : EvsAt (w.alloc (.cells cs 34)) (.slice (some ⟨B, 0, none⟩) n n) E := by
  subst hn hc hB
  refine ⟨_, _, rfl, fun _ => ⟨w.heap.size, 0, rfl, by simp, fun i hi j u hu => ?_⟩⟩
  have h := (Blk.new w 34 (evsV E).toArray).cellv (i * 5 + j) u (by simpa using evsV_get E i hi j u hu)
  rw [show 0 + i * 5 + j = i * 5 + j by omega]
  exact h

set_option maxRecDepth 100000 in
theorem alive_any (w : World) : Calls Try.prog 10 #[] w fun e w' => e = .returned (.bool true) ∧ Below w.heap.size w w' := by
  have H := fun W B hB => all_any (evs_built W [⟨5, false, 0, [], 1⟩, ⟨1, true, 0, [], 0⟩, ⟨7, false, 0, [], 0⟩] 3 rfl #[.int .i64 5, .bool false, .int .u64 0, .string ⟨#[]⟩, .int .i64 1, .int .i64 1, .bool true, .int .u64 0, .string ⟨#[]⟩, .int .i64 0, .int .i64 7, .bool false, .int .u64 0, .string ⟨#[]⟩, .int .i64 0] rfl B hB) (by intro e he; simp at he; rcases he with rfl | rfl | rfl <;> exact ⟨by decide, by decide, by decide, by decide⟩) (by decide) [145, 195] 0 (by kernel_rfl)
  have HS : S [145, 195] = ⟨#[145, 195]⟩ := rfl
  rw [HS] at H
  have HH := fun W B hB => hide (H W B hB)
  clear H HS
  go_enter Try.func10, Try.ntmps10
  go_wp2_with fail
  (with_reducible refine (unhide (HH _ _ rfl)).mono ?_)
  rintro e w1 ⟨rfl, hb1⟩
  go_wp2_with fail
  go_ret
  exact ⟨rfl, (Below.more (Below.refl _ _) (Nat.le_refl _) _).trans (hb1.mono (by simp))⟩

/-- A whole number. -/
structure Row53 where
  g : Bool
  m : Int
def Row53.val (r : Row53) : Value := .agg #[.bool r.g, .int .u64 r.m]
def Row53.ok (r : Row53) : Prop := (Lit.int .u64 r.m).wf = true
set_option maxRecDepth 100000 in
theorem row53_of_trod {H : Type} {enc : TypeId × Value → H} {r : Reach} {b0 : Nat} {W : World} {v : Value} {d : DataW H} {p : List MemPlace} (hv : Value.okWide Try.prog W r b0 53 v)
    (h : DataW.Trod enc Try.prog W 0 (fun _ => true) true 53 v d p) : ∃ r : Row53, v = r.val ∧ r.ok := by
  obtain ⟨v0, v1, y0, y1, n, rfl, rfl, rfl, h0, h1⟩ := Go.Joins.open_agg2 Try.underlying53 (by kernel_rfl) (by kernel_rfl) hv h
  obtain ⟨b, e0, _⟩ := DataW.trod_bool Try.underlying4 h0
  obtain ⟨k, e1, _, wk⟩ := DataW.trod_int Try.underlying32 h1
  simp only [List.cons.injEq, and_true] at e0 e1
  subst e0 e1
  exact ⟨⟨b, k⟩, rfl, wk⟩
end Go.Proofs.Yteggfobeaolafaa
