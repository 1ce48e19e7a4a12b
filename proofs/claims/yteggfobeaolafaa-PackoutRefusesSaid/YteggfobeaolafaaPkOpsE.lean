/-
  An Ev that came in by value.
-/
import Derived.Test.YteggfobeaolafaaPkOps
import Derived.Lib.SmallJoins
namespace Go.Proofs.Yteggfobeaolafaa
open Go.ChangeShapes Go.WideShapes Go.ChangeAt Go.RowKit Go.Deep

set_option maxRecDepth 100000 in
theorem row34_of_trod {H : Type} {enc : TypeId × Value → H} {r : Reach} {b0 : Nat} {W : World} {v : Value} {d : DataW H} {p : List MemPlace} (hv : Value.okWide Try.prog W r b0 34 v)
    (h : DataW.Trod enc Try.prog W 0 (fun _ => true) true 34 v d p) : ∃ r : Row34, v = r.val ∧ r.ok := by
  obtain ⟨cs, rfl, hsz⟩ := okWide_struct Try.underlying34 hv
  obtain ⟨l⟩ := cs
  have hl : l.length = 5 := by
    have h5 : Try.prog.cellsOf 34 = 5 := by kernel_rfl
    simpa [h5] using hsz
  have ki : Try.prog.cellsOf 3 = 1 := by kernel_rfl
  have kb : Try.prog.cellsOf 4 = 1 := by kernel_rfl
  have ku : Try.prog.cellsOf 32 = 1 := by kernel_rfl
  have ks : Try.prog.cellsOf 9 = 1 := by kernel_rfl
  match l, hl with
  | [c0, c1, c2, c3, c4], _ =>
    obtain ⟨fuel, hf⟩ := h
    obtain ⟨xs, n, _, _, _, hlen, hg⟩ := DataW.trod_struct Try.underlying34 hf
    match xs, hlen with
    | [y0, y1, y2, y3, y4], _ =>
      have g0 : DataW.trod enc Try.prog W 0 (fun _ => true) true n 3 [c0] = some y0 := by simpa [Value.cells, ki] using hg 0 _ rfl
      have g1 : DataW.trod enc Try.prog W 0 (fun _ => true) true n 4 [c1] = some y1 := by simpa [Value.cells, kb] using hg 1 _ rfl
      have g2 : DataW.trod enc Try.prog W 0 (fun _ => true) true n 32 [c2] = some y2 := by simpa [Value.cells, ku] using hg 2 _ rfl
      have g3 : DataW.trod enc Try.prog W 0 (fun _ => true) true n 9 [c3] = some y3 := by simpa [Value.cells, ks] using hg 3 _ rfl
      have g4 : DataW.trod enc Try.prog W 0 (fun _ => true) true n 3 [c4] = some y4 := by simpa [Value.cells, ki] using hg 4 _ rfl
      obtain ⟨k, e0, _, wk⟩ := DataW.trod_int Try.underlying3 g0
      obtain ⟨b, e1, _⟩ := DataW.trod_bool Try.underlying4 g1
      obtain ⟨m, e2, _, wm⟩ := DataW.trod_int Try.underlying32 g2
      obtain ⟨s, e3, _, ws⟩ := DataW.trod_string Try.underlying9 g3
      obtain ⟨c, e4, _, wc⟩ := DataW.trod_int Try.underlying3 g4
      simp only [List.cons.injEq, and_true] at e0 e1 e2 e3 e4
      subst e0; subst e1; subst e2; subst e3; subst e4
      exact ⟨⟨k, b, m, s, c⟩, rfl, wk, wm, wc, ws⟩
end Go.Proofs.Yteggfobeaolafaa
