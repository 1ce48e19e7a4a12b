/-
  A slice of Ops (whoever comes, goes, is ready) that came in.
-/
import Derived.Test.YtlkedcdhboahbaaArgs2
import Derived.Test.YtlkedcdhboahbaaWheelC
namespace Go.Proofs.Ytlkedcdhboahbaa
open Go.ChangeShapes Go.WideShapes Go.ChangeAt Go.RowKit

/-- An Op. -/
structure Row36 where
  K : Int
  I : Int
  a : Option Addr
  len : Nat
  cap : Nat
  z : List Bool
instance : Inhabited Row36 := ⟨⟨0, 0, none, 0, 0, []⟩⟩
def Row36.rdy (r : Row36) (w : World) : Prop := r.z.length = r.len ∧ r.len ≤ 9223372036854775807 ∧ IsRdy w r.a r.z

def IsRows36 (w : World) (a : Option Addr) (len _cap : Nat) (z : List Row36) : Prop :=
  z.length = len ∧ len ≤ 9223372036854775807 ∧ (0 < len → ∃ b off, a = some ⟨b, off, none⟩ ∧ b < w.heap.size ∧ ∀ i (hi : i < z.length),
    w.cell? ⟨b, off + i * 3, none⟩ = some (.int .i64 z[i].K) ∧ w.cell? ⟨b, off + i * 3 + 1, none⟩ = some (.int .i64 z[i].I) ∧ w.cell? ⟨b, off + i * 3 + 2, none⟩ = some (.slice z[i].a z[i].len z[i].cap) ∧ z[i].rdy w)

theorem isRdy_of_bools {w : World} {a : Option Addr} {len cap : Nat} {zs : List Bool} (h : IsBools w a len cap zs) : IsRdy w a (zs.take len) ∧ (zs.take len).length = len := by
  by_cases h0 : 0 < len
  · obtain ⟨b, off, rfl, _, hl, hm, hz, hc⟩ := isBools_at h h0
    refine ⟨fun j hj => ?_, by rw [List.length_take]; omega⟩
    rw [List.length_take] at hj
    exact ⟨b, off, rfl, by rw [hc j (by omega)]; simp⟩
  · obtain rfl : len = 0 := by omega
    exact ⟨fun j hj => by simp at hj, rfl⟩

theorem isRows36_of_trod {H : Type} {enc : TypeId × Value → H} {W : World} {a : Option Addr} {len cap : Nat} {d : DataW H} {p : List MemPlace}
    (h : DataW.Trod enc Try.prog W 0 (fun _ => true) true 22 (.slice a len cap) d p) : ∃ z, IsRows36 W a len cap z := by
  rcases isFields_of_trod Try.underlying22 Try.underlying36 (by kernel_rfl) (by kernel_rfl) h with ⟨rfl, rfl, rfl⟩ | ⟨x, rfl, hl, hm, hi⟩
  · exact ⟨[], rfl, by omega, fun h => absurd h (by omega)⟩
  · obtain ⟨z, hz, hQ⟩ := list_of_each (α := Row36) len (fun i r => W.cell? (x.add (i * 3 + 0)) = some (.int .i64 r.K) ∧ W.cell? (x.add (i * 3 + 1)) = some (.int .i64 r.I) ∧ W.cell? (x.add (i * 3 + 2)) = some (.slice r.a r.len r.cap) ∧ r.rdy W) (fun i him => by
        obtain ⟨n, hf⟩ := hi i him
        obtain ⟨v0, y0, c0, t0⟩ := hf 0 _ rfl
        obtain ⟨v1, y1, c1, t1⟩ := hf 1 _ rfl
        obtain ⟨v2, y2, c2, t2⟩ := hf 2 _ rfl
        obtain ⟨k, e0, _, wk⟩ := DataW.trod_int Try.underlying3 t0
        obtain ⟨m, e1, _, wm⟩ := DataW.trod_int Try.underlying3 t1
        simp only [List.cons.injEq, and_true] at e0 e1
        subst e0; subst e1
        have hcell : Try.prog.cellsOf 4 = 1 := by kernel_rfl
        rcases Go.Deep.open_bools Try.underlying34 Try.underlying4 hcell t2 with ⟨hcs, _⟩ | ⟨y, l, c, Bf, hcs, _, hl2, hm2, _, hcell2⟩
        · simp at hcs
          subst hcs
          exact ⟨⟨k, m, none, 0, 0, []⟩, c0, c1, c2, rfl, by simp, fun j hj => by simp at hj⟩
        · simp at hcs
          subst hcs
          have hb : IsBools W (some y) l c ((List.range c).map Bf) := .inr ⟨_, rfl, hl2, hm2, by simp, fun i hi => by simpa using hcell2 i (by simpa using hi)⟩
          have hr := isRdy_of_bools hb
          exact ⟨⟨k, m, some y, l, c, ((List.range c).map Bf).take l⟩, c0, c1, c2, hr.2, by unfold maxLen at hm2; simp only; omega, hr.1⟩)
    refine ⟨z, hz, by unfold maxLen at hm; omega, fun h0 => ?_⟩
    obtain ⟨b, off, spot⟩ := x
    have h00 := (hQ 0 (by omega)).1
    have hspot : spot = none := by simpa [Addr.add] using World.cell?_spot h00
    subst hspot
    refine ⟨b, off, rfl, block_lt_of_cell (a := ⟨b, off, none⟩) (by simpa [Addr.add] using h00), fun i hi => ?_⟩
    have := hQ i hi
    simp only [add_plain, ← Nat.add_assoc, Nat.add_zero] at this
    exact this
end Go.Proofs.Ytlkedcdhboahbaa
