/-
  Documents out of numbers: what the closures of truchmanbook.Doc hold; the next number; one more part.
-/
import Derived.Test.YteggfobeaolafaaPkDa
namespace Go.Proofs.Yteggfobeaolafaa
open Go.RowKit

/-- The blocks from B on: the numbers, the depth, the parts so far, how many numbers were taken, the two closures. -/
structure DocS (w0 w : World) (B : Nat) (a : Option Addr) (len cap : Nat) (depth : Int) (at_ : Nat) (outs : List EvM) (v : Value) : Prop where
  start : B = w0.heap.size
  below : Below B w0 w
  l : Blk w B 47 #[.slice a len cap]
  d : Blk w (B + 1) 3 #[.int .i64 depth]
  o : Blk w (B + 2) 22 #[v]
  n : Blk w (B + 3) 3 #[.int .i64 at_]
  nx : Blk w (B + 4) 81 #[.func (.func 33) #[] #[.pointer (some ⟨B + 3, 0, none⟩), .pointer (some ⟨B, 0, none⟩)]]
  it : Blk w (B + 5) 82 #[.func (.func 34) #[] #[.pointer (some ⟨B + 4, 0, none⟩), .pointer (some ⟨B + 2, 0, none⟩), .pointer (some ⟨B + 1, 0, none⟩), .pointer (some ⟨B + 5, 0, none⟩)]]
  s : SlN w (B + 6) 34 5 v outs.length (evsV outs)
section
variable {w0 w : World} {B : Nat} {a : Option Addr} {len cap : Nat} {depth : Int} {at_ : Nat} {outs : List EvM} {v : Value}
theorem DocS.size (h : DocS w0 w B a len cap depth at_ outs v) : B + 6 ≤ w.heap.size := h.it.lt
theorem DocS.only {w' : World} (h : DocS w0 w B a len cap depth at_ outs v) (ho : Below w.heap.size w w') : DocS w0 w' B a len cap depth at_ outs v :=
  ⟨h.start, h.below.trans (ho.mono (Nat.le_of_lt h.l.lt)), h.l.below ho h.l.lt, h.d.below ho h.d.lt, h.o.below ho h.o.lt, h.n.below ho h.n.lt, h.nx.below ho h.nx.lt, h.it.below ho h.it.lt, h.s.below ho (fun k hk => (h.s.lt k hk).2)⟩
theorem DocS.counted {w' : World} (h : DocS w0 w B a len cap depth at_ outs v) (n : Nat) (hw : w' = w.setCell ⟨B + 3, 0, none⟩ (.int .i64 n)) : DocS w0 w' B a len cap depth n outs v := by
  subst hw
  have hs : B + 3 ∉ slB v := fun hk => by have := (h.s.lt _ hk).1; omega
  exact ⟨h.start, h.below.setCell (by simp) _, h.l.far (by simp) _, h.d.far (by simp) _, h.o.far (by simp) _, h.n.set_ 0 _, h.nx.far (by simp) _, h.it.far (by simp) _, h.s.far hs _⟩
theorem DocS.drew (h : DocS w0 w B a len cap depth at_ outs v) : DocS w0 w.drew B a len cap depth at_ outs v := ⟨h.start, h.below.drew, h.l, h.d, h.o, h.n, h.nx, h.it, h.s⟩
/-- One more part: append, then the store. -/
theorem DocS.push {W w' : World} {v' : Value} {x : EvM} (h : DocS w0 w B a len cap depth at_ outs v) (ho : Only (slB v) w W) (hf : ∀ k ∈ slB v', k ∈ slB v ∨ w.heap.size ≤ k) (hs : SlN W (B + 6) 34 5 v' (outs.length + 1) (evsV outs ++ x.cells.toList)) (hw : w' = W.setCell ⟨B + 2, 0, none⟩ v') :
    DocS w0 w' B a len cap depth at_ (outs ++ [x]) v' := by
  subst hw
  have hz := h.size
  have hn : ∀ k, k < B + 6 → k ∉ slB v := fun k hk hm => by have := (h.s.lt _ hm).1; omega
  have hn' : B + 2 ∉ slB v' := fun hk => by
    rcases hf _ hk with h1 | h1
    · exact hn _ (by omega) h1
    · omega
  have hb : Below B w W := ho.below (by omega) (fun k hk => by have := (h.s.lt _ hk).1; omega)
  refine ⟨h.start, (h.below.trans hb).setCell (by simp) _, (ho.blk h.l (hn _ (by omega))).far (by simp) _, (ho.blk h.d (hn _ (by omega))).far (by simp) _, (ho.blk h.o (hn _ (by omega))).set_ 0 _, (ho.blk h.n (hn _ (by omega))).far (by simp) _, (ho.blk h.nx (hn _ (by omega))).far (by simp) _, (ho.blk h.it (hn _ (by omega))).far (by simp) _, ?_⟩
  rw [List.length_append, evsV_append]
  simpa [evsV] using hs.far (p := ⟨B + 2, 0, none⟩) hn' v'

set_option maxRecDepth 100000 in
theorem next_any (h : DocS w0 w B a len cap depth at_ outs v) {z : List Int} (hr : IsRow .i64 w0 a len cap z) (hat : at_ ≤ 1000000) :
    Calls Try.prog 33 #[.pointer (some ⟨B + 3, 0, none⟩), .pointer (some ⟨B, 0, none⟩)] w fun e w' => ∃ x : Int, e = .returned (.int .i64 x) ∧ 0 ≤ x ∧ x ≤ 65535 ∧ DocS w0 w' B a len cap depth (at_ + 1) outs v ∧ Below B w w' := by
  have c0 := h.n.cellv 0 _ rfl
  have f0 := h.n.frozen 0
  have c1 := h.l.cellv 0 _ rfl
  have hz := h.size
  have hll := isRow_len hr
  have HD := hide h
  have hat2 : (at_ : Int) ≤ 1000000 := by omega
  by_cases hlt : at_ < len
  · obtain ⟨b, off, rfl, hb, hlc, hcm, hzl, hc, _⟩ := isRow_at hr (by omega)
    have hbB : b < B := by rw [h.start]; exact hb
    have c2 : w.cell? ⟨b, off + at_, none⟩ = some (.int .i64 (z.getD at_ 0)) := (h.below.cell (p := ⟨b, off + at_, none⟩) hbB).trans (hc at_ (by omega))
    obtain ⟨y, hy⟩ : ∃ y, y = z.getD at_ 0 := ⟨_, rfl⟩
    rw [← hy] at c2
    obtain ⟨x, hx, hxe0⟩ := i64_and_mask y 65535 (by decide)
    have hxe : bits .and .i64 y 65535 = (x : Int) := hxe0
    have hl2 : (at_ : Int) < len := by omega
    clear hxe0 hy hc hr h hll hlc hcm
    go_enter Try.func33, Try.ntmps33
    go_wp2_with fail
    go_ret
    exact ⟨x, rfl, by omega, by omega, HD.out.counted (at_ + 1) (by push_cast; rfl), (Below.refl _ _).setCell (by simp) _⟩
  · have hl2 : ¬ (at_ : Int) < len := by omega
    have hl3 : (len : Int) < at_ + 1 := by omega
    clear hr h
    go_enter Try.func33, Try.ntmps33
    go_wp2_with fail
    go_ret
    exact ⟨0, rfl, by omega, by omega, HD.out.counted (at_ + 1) (by push_cast; rfl), (Below.refl _ _).setCell (by simp) _⟩
end
end Go.Proofs.Yteggfobeaolafaa
