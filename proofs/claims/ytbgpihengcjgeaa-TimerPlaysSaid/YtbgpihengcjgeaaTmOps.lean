/-
  A slice of Ops that came in.
-/
import Derived.Test.YtbgpihengcjgeaaRows
import Derived.Test.YtbgpihengcjgeaaArgs
namespace Go.Proofs.Ytbgpihengcjgeaa
open Go.ChangeShapes Go.WideShapes Go.ChangeAt Go.RowKit

/-- An Op. -/
structure Row43 where
  K : Int
  I : Int
  N : Int
instance : Inhabited Row43 := ⟨⟨0, 0, 0⟩⟩

def IsRows43 (w : World) (a : Option Addr) (len _cap : Nat) (z : List Row43) : Prop :=
  z.length = len ∧ len ≤ 9223372036854775807 ∧ (0 < len → ∃ b off, a = some ⟨b, off, none⟩ ∧ b < w.heap.size ∧ ∀ i (hi : i < z.length),
    w.cell? ⟨b, off + i * 3, none⟩ = some (.int .i64 z[i].K) ∧ w.cell? ⟨b, off + i * 3 + 1, none⟩ = some (.int .i64 z[i].I) ∧ w.cell? ⟨b, off + i * 3 + 2, none⟩ = some (.int .i64 z[i].N) ∧
    (Lit.int .i64 z[i].K).wf = true ∧ (Lit.int .i64 z[i].I).wf = true ∧ (Lit.int .i64 z[i].N).wf = true)

theorem isRows43_of_trod {H : Type} {enc : TypeId × Value → H} {W : World} {a : Option Addr} {len cap : Nat} {d : DataW H} {p : List MemPlace}
    (h : DataW.Trod enc Try.prog W 0 (fun _ => true) true 34 (.slice a len cap) d p) : ∃ z, IsRows43 W a len cap z := by
  rcases isFields_of_trod Try.underlying34 Try.underlying43 (by kernel_rfl) (by kernel_rfl) h with ⟨rfl, rfl, rfl⟩ | ⟨x, rfl, hl, hm, hi⟩
  · exact ⟨[], rfl, by omega, fun h => absurd h (by omega)⟩
  · obtain ⟨z, hz, hQ⟩ := list_of_each (α := Row43) len (fun i r => W.cell? (x.add (i * 3 + 0)) = some (.int .i64 r.K) ∧ W.cell? (x.add (i * 3 + 1)) = some (.int .i64 r.I) ∧ W.cell? (x.add (i * 3 + 2)) = some (.int .i64 r.N) ∧
      (Lit.int .i64 r.K).wf = true ∧ (Lit.int .i64 r.I).wf = true ∧ (Lit.int .i64 r.N).wf = true) (fun i him => by
        obtain ⟨n, hf⟩ := hi i him
        obtain ⟨v0, y0, c0, t0⟩ := hf 0 _ rfl
        obtain ⟨v1, y1, c1, t1⟩ := hf 1 _ rfl
        obtain ⟨v2, y2, c2, t2⟩ := hf 2 _ rfl
        obtain ⟨k, e0, _, wk⟩ := DataW.trod_int Try.underlying3 t0
        obtain ⟨m, e1, _, wm⟩ := DataW.trod_int Try.underlying3 t1
        obtain ⟨s, e2, _, ws⟩ := DataW.trod_int Try.underlying3 t2
        simp only [List.cons.injEq, and_true] at e0 e1 e2
        subst e0; subst e1; subst e2
        exact ⟨⟨k, m, s⟩, c0, c1, c2, wk, wm, ws⟩)
    refine ⟨z, hz, by unfold maxLen at hm; omega, fun h0 => ?_⟩
    obtain ⟨b, off, spot⟩ := x
    have h00 := (hQ 0 (by omega)).1
    have hspot : spot = none := by simpa [Addr.add] using World.cell?_spot h00
    subst hspot
    refine ⟨b, off, rfl, block_lt_of_cell (a := ⟨b, off, none⟩) (by simpa [Addr.add] using h00), fun i hi => ?_⟩
    have := hQ i hi
    simp only [add_plain, ← Nat.add_assoc, Nat.add_zero] at this
    exact this
end Go.Proofs.Ytbgpihengcjgeaa
