/-
  A slice of Evs that came in.
-/
import Derived.Test.YteggfobeaolafaaPkX
import Derived.Test.YteggfobeaolafaaArgs
namespace Go.Proofs.Yteggfobeaolafaa
open Go.ChangeShapes Go.WideShapes Go.ChangeAt Go.RowKit

/-- An Ev. -/
structure Row34 where
  K : Int
  Y : Bool
  M : Int
  s : ByteArray
  C : Int
instance : Inhabited Row34 := ⟨⟨0, false, 0, ByteArray.empty, 0⟩⟩
def Row34.ev (r : Row34) : EvM := ⟨r.K, r.Y, r.M, r.s.data.toList, r.C⟩
def Row34.okR (r : Row34) : Prop := (Lit.int .i64 r.K).wf = true ∧ (Lit.int .u64 r.M).wf = true ∧ (Lit.int .i64 r.C).wf = true ∧ r.s.size ≤ maxLen
def Row34.val (r : Row34) : Value := .agg r.ev.cells
def Row34.ok (r : Row34) : Prop := r.okR

def IsRows34 (w : World) (a : Option Addr) (len _cap : Nat) (z : List Row34) : Prop :=
  z.length = len ∧ len ≤ 9223372036854775807 ∧ (∀ r ∈ z, r.okR) ∧ (0 < len → ∃ b off, a = some ⟨b, off, none⟩ ∧ b < w.heap.size ∧ ∀ i (hi : i < z.length),
    w.cell? ⟨b, off + i * 5, none⟩ = some (.int .i64 z[i].K) ∧ w.cell? ⟨b, off + i * 5 + 1, none⟩ = some (.bool z[i].Y) ∧ w.cell? ⟨b, off + i * 5 + 2, none⟩ = some (.int .u64 z[i].M) ∧ w.cell? ⟨b, off + i * 5 + 3, none⟩ = some (.string z[i].s) ∧ w.cell? ⟨b, off + i * 5 + 4, none⟩ = some (.int .i64 z[i].C))

theorem isRows34_of_trod {H : Type} {enc : TypeId × Value → H} {W : World} {a : Option Addr} {len cap : Nat} {d : DataW H} {p : List MemPlace}
    (h : DataW.Trod enc Try.prog W 0 (fun _ => true) true 22 (.slice a len cap) d p) : ∃ z, IsRows34 W a len cap z := by
  rcases isFields_of_trod Try.underlying22 Try.underlying34 (by kernel_rfl) (by kernel_rfl) h with ⟨rfl, rfl, rfl⟩ | ⟨x, rfl, hl, hm, hi⟩
  · exact ⟨[], rfl, by omega, (fun r hr => by cases hr), fun h => absurd h (by omega)⟩
  · obtain ⟨z, hz, hQ⟩ := list_of_each (α := Row34) len (fun i r => W.cell? (x.add (i * 5 + 0)) = some (.int .i64 r.K) ∧ W.cell? (x.add (i * 5 + 1)) = some (.bool r.Y) ∧ W.cell? (x.add (i * 5 + 2)) = some (.int .u64 r.M) ∧ W.cell? (x.add (i * 5 + 3)) = some (.string r.s) ∧ W.cell? (x.add (i * 5 + 4)) = some (.int .i64 r.C) ∧ r.okR) (fun i him => by
        obtain ⟨n, hf⟩ := hi i him
        obtain ⟨v0, y0, c0, t0⟩ := hf 0 _ rfl
        obtain ⟨v1, y1, c1, t1⟩ := hf 1 _ rfl
        obtain ⟨v2, y2, c2, t2⟩ := hf 2 _ rfl
        obtain ⟨v3, y3, c3, t3⟩ := hf 3 _ rfl
        obtain ⟨v4, y4, c4, t4⟩ := hf 4 _ rfl
        obtain ⟨k, e0, _, wk⟩ := DataW.trod_int Try.underlying3 t0
        obtain ⟨b, e1, _⟩ := DataW.trod_bool Try.underlying4 t1
        obtain ⟨m, e2, _, wm⟩ := DataW.trod_int Try.underlying32 t2
        obtain ⟨s, e3, _, ws⟩ := DataW.trod_string Try.underlying9 t3
        obtain ⟨c, e4, _, wc⟩ := DataW.trod_int Try.underlying3 t4
        simp only [List.cons.injEq, and_true] at e0 e1 e2 e3 e4
        subst e0; subst e1; subst e2; subst e3; subst e4
        exact ⟨⟨k, b, m, s, c⟩, c0, c1, c2, c3, c4, wk, wm, wc, ws⟩)
    refine ⟨z, hz, by unfold maxLen at hm; omega, fun r hr => ?_, fun h0 => ?_⟩
    · obtain ⟨i, hi, rfl⟩ := List.getElem_of_mem hr
      exact (hQ i hi).2.2.2.2.2
    obtain ⟨b, off, spot⟩ := x
    have h00 := (hQ 0 (by omega)).1
    have hspot : spot = none := by simpa [Addr.add] using World.cell?_spot h00
    subst hspot
    refine ⟨b, off, rfl, block_lt_of_cell (a := ⟨b, off, none⟩) (by simpa [Addr.add] using h00), fun i hi => ?_⟩
    obtain ⟨h0, h1, h2, h3, h4, _⟩ := hQ i hi
    simp only [add_plain, ← Nat.add_assoc, Nat.add_zero] at h0 h1 h2 h3 h4
    exact ⟨h0, h1, h2, h3, h4⟩
/-- .. as a list of Evs. -/
theorem IsRows34.evs {w : World} {a : Option Addr} {len cap : Nat} {z : List Row34} (h : IsRows34 w a len cap z) : EvsAt w (.slice a len cap) (z.map Row34.ev) := by
  obtain ⟨h1, _, _, h3⟩ := h
  refine ⟨a, cap, by rw [List.length_map, h1], fun hne => ?_⟩
  have h0 : 0 < len := by
    rcases Nat.eq_zero_or_pos len with h | h
    · exact absurd (by rw [List.eq_nil_of_length_eq_zero (h1.trans h)]; rfl) hne
    · exact h
  obtain ⟨b, off, ha, hb, hc⟩ := h3 h0
  refine ⟨b, off, ha, hb, fun i hi j u hu => ?_⟩
  rw [List.length_map] at hi
  obtain ⟨c0, c1, c2, c3, c4⟩ := hc i hi
  simp only [List.getElem_map] at hu
  have hj : j < 5 := (Array.getElem?_eq_some_iff.1 hu).1
  have hj5 : j = 0 ∨ j = 1 ∨ j = 2 ∨ j = 3 ∨ j = 4 := by omega
  rcases hj5 with rfl | rfl | rfl | rfl | rfl
  all_goals
    simp [EvM.cells, evV, Row34.ev] at hu
    subst hu
    first | exact c0 | exact c1 | exact c2 | exact c3 | exact c4
end Go.Proofs.Yteggfobeaolafaa
