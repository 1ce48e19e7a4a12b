/-
  Containers, and the writer that holds them.
-/
import Derived.Test.YteggfobeaolafaaPkA
import Derived.Test.YteggfobeaolafaaSlN
import Derived.Test.YteggfobeaolafaaHeldOne
namespace Go.Proofs.Yteggfobeaolafaa
open Go.RowKit

/-- An open container. -/
structure Cont where
  pairs : Bool
  count : Int
  parts : Nat
def Cont.between (c : Cont) : Bool := c.pairs && decide (c.parts % 2 = 1)
def Cont.full (c : Cont) : Bool := if c.pairs then !c.between && decide (((c.parts / 2 : Nat) : Int) = c.count) else decide ((c.parts : Int) = c.count)
def Cont.cells (c : Cont) : List Value := [.bool c.pairs, .int .i64 c.count, .int .i64 c.parts]
def Cont.more (c : Cont) : Cont := { c with parts := c.parts + 1 }
def contV (L : List Cont) : List Value := L.flatMap Cont.cells
theorem contV_append (L M : List Cont) : contV (L ++ M) = contV L ++ contV M := by simp [contV]
theorem contV_length (L : List Cont) : (contV L).length = L.length * 3 := by
  induction L with
  | nil => rfl
  | cons c L ih =>
    have : contV (c :: L) = c.cells ++ contV L := by simp [contV]
    rw [this, List.length_append, ih]
    simp [Cont.cells]
    omega

/-- The writer at p: its open containers, whether it is done. -/
def Wr (w : World) (B p : Nat) (v : Value) (L : List Cont) (d : Bool) : Prop := B ≤ p ∧ Blk w p 27 #[v, .bool d] ∧ SlN w B 72 3 v L.length (contV L)
section
variable {w w' : World} {B p : Nat} {v : Value} {L M : List Cont} {d : Bool} {c : Cont}
theorem Wr.lt (h : Wr w B p v L d) : B ≤ w.heap.size := by have := h.2.1.lt; have := h.1; omega
theorem Wr.out (h : Wr w B p v L d) : p ∉ slB v := h.2.2.notBlk h.2.1 (by decide)
theorem Wr.below {C : World} (h : Wr w B p v L d) (hb : Below w.heap.size w C) : Wr C B p v L d := ⟨h.1, h.2.1.below hb h.2.1.lt, h.2.2.below hb (fun k hk => (h.2.2.lt k hk).2)⟩
theorem Wr.keep {T : List Nat} (h : Wr w B p v L d) (ho : Only T w w') (h1 : p ∉ T) (h2 : ∀ k ∈ slB v, k ∉ T) : Wr w' B p v L d := ⟨h.1, ho.blk h.2.1 h1, h.2.2.keep ho h2⟩
theorem SlN.oneN {base g : Nat} {t : TypeId} {s : Nat} {cs : Array Value} (hb : base ≤ g) (h : Blk w g t cs) (hl : cs.size = s) : SlN w base t s (.slice (some ⟨g, 0, none⟩) 1 1) 1 cs.toList :=
  .inr ⟨g, 0, 1, cs, rfl, hb, h, by omega, Nat.le_refl _, by unfold maxLen; omega, by simp [hl], fun j _ => by simp⟩
theorem SlN.cap_le {w : World} {base : Nat} {t : TypeId} {s : Nat} {a : Option Addr} {n cap n' : Nat} {xs : List Value} (h : SlN w base t s (.slice a n cap) n' xs) : n = n' ∧ n' ≤ cap ∧ cap ≤ maxLen := by
  rcases h with ⟨hv, rfl, _⟩ | ⟨g, off, cap', cs, hv, hb, hg, h1, h2, h3, _⟩
  · injection hv with _ e2 e3
    subst e2 e3
    exact ⟨rfl, Nat.le_refl _, by unfold maxLen; omega⟩
  · injection hv with _ e2 e3
    subst e2 e3
    exact ⟨rfl, h2, h3⟩
theorem slice_top {P : Program} {t : TypeId} {z : Nat} (hte : P.underlying t = some (.slice (P.elem t))) (hz : ∀ w, (sizeOf (P.elem t)).run P w = .ok z w) (g off len n cap : Nat) (hn : n ≤ cap) (ni : Int) (hni : ni = n) (W : World) :
    (Instr.slice t (.slice (some ⟨g, off, none⟩) len cap) none (some (.int .i64 ni)) none).run P W = .ok (.slice (some ⟨g, off, none⟩) n cap) W := by
  subst hni
  rw [run_slice_h W t _ _ _ hte .i64 (n : Int) (by omega) (by omega), hz]
  simp [Result.andThen, sliced, Addr.add]
theorem top_get (i : Nat) (u : Value) (hu : c.cells[i]? = some u) (hi : i < 3) : (contV (M ++ [c]))[M.length * 3 + i]? = some u := by
  rw [contV_append, List.getElem?_append_right (by rw [contV_length]; omega), contV_length, Nat.add_sub_cancel_left]
  simpa [contV] using hu
/-- What is at the top. -/
theorem top_some {t : TypeId} {B : Nat} (h : SlN w B t 3 v (M ++ [c]).length (contV (M ++ [c]))) (n : Nat) (hn : n = M.length) : ∃ g off cap, v = .slice (some ⟨g, off, none⟩) (n + 1) cap ∧ g < w.heap.size ∧
    w.cell? ⟨g, off + n * 3, none⟩ = some (.bool c.pairs) ∧ w.cell? ⟨g, off + n * 3 + 1, none⟩ = some (.int .i64 c.count) ∧ w.cell? ⟨g, off + n * 3 + 2, none⟩ = some (.int .i64 c.parts) ∧ w.frozen? ⟨g, off + n * 3 + 2, none⟩ = false ∧
    (∀ W, SlN W B t 3 v (M ++ [c]).length (contV (M ++ [c])) → SlN (W.setCell ⟨g, off + n * 3 + 2, none⟩ (.int .i64 ((c.parts + 1 : Nat) : Int))) B t 3 v (M ++ [c.more]).length (contV (M ++ [c.more]))) ∧
    (∀ W, SlN W B t 3 v (M ++ [c]).length (contV (M ++ [c])) → SlN W B t 3 (.slice (some ⟨g, off, none⟩) n cap) n (contV M)) := by
  subst hn
  rcases h with ⟨_, h, _⟩ | ⟨g, off, cap, cs, rfl, hb, hg, h1, h2, h3, h4, h5⟩
  · simp at h
  · have hl : (contV (M ++ [c])).length = M.length * 3 + 3 := by rw [contV_length]; simp; omega
    have get : ∀ i u, i < 3 → c.cells[i]? = some u → w.cell? ⟨g, off + M.length * 3 + i, none⟩ = some u := fun i u hi hu => by
      rw [hg.cell, show off + M.length * 3 + i = off + (M.length * 3 + i) by omega, h5 _ (by omega)]
      exact top_get i u hu hi
    refine ⟨g, off, cap, by simp, hg.lt, by simpa using get 0 _ (by omega) rfl, get 1 _ (by omega) rfl, get 2 _ (by omega) rfl, hg.frozen _, fun W hW => ?_, fun W hW => ?_⟩
    · rcases hW with ⟨hv, _⟩ | ⟨g', off', cap', cs', hv, hb', hg', h1', h2', h3', h4', h5'⟩
      · cases hv
      · injection hv with e1 e2 e3
        injection e1 with e1
        injection e1 with e4 e5
        subst e3 e4 e5
        refine .inr ⟨g, off, cap, _, by simp, hb', hg'.set_ _ _, by simpa using h1', by simpa using h2', h3', by rw [contV_length], fun j hj => ?_⟩
        rw [contV_length] at hj
        simp only [List.length_append, List.length_singleton] at hj
        rw [Array.getElem?_setIfInBounds]
        by_cases hj2 : off + M.length * 3 + 2 = off + j
        · have hj3 : j = M.length * 3 + 2 := by omega
          subst hj3
          have hs : off + M.length * 3 + 2 < cs'.size := by
            have := Nat.mul_le_mul_right 3 h2'
            simp at this
            omega
          rw [if_pos hj2, if_pos hs]
          exact (top_get (c := c.more) 2 _ rfl (by omega)).symm
        · rw [if_neg hj2, h5' j (by rw [hl]; omega)]
          by_cases hjm : j < M.length * 3
          · rw [contV_append, contV_append, List.getElem?_append_left (by rw [contV_length]; exact hjm), List.getElem?_append_left (by rw [contV_length]; exact hjm)]
          · obtain ⟨i, rfl⟩ : ∃ i, j = M.length * 3 + i := ⟨j - M.length * 3, by omega⟩
            have hi : i = 0 ∨ i = 1 := by omega
            rcases hi with rfl | rfl
            · rw [top_get (c := c) 0 _ rfl (by omega), top_get (c := c.more) 0 _ rfl (by omega)]; rfl
            · rw [top_get (c := c) 1 _ rfl (by omega), top_get (c := c.more) 1 _ rfl (by omega)]; rfl
    · rcases hW with ⟨hv, _⟩ | ⟨g', off', cap', cs', hv, hb', hg', h1', h2', h3', h4', h5'⟩
      · cases hv
      · injection hv with e1 e2 e3
        injection e1 with e1
        injection e1 with e4 e5
        subst e3 e4 e5
        simp only [List.length_append, List.length_singleton] at h2'
        refine .inr ⟨g, off, cap, cs', rfl, hb', hg', h1', by omega, h3', contV_length _, fun j hj => ?_⟩
        rw [h5' j (by rw [hl]; rw [contV_length] at hj; omega), contV_append, List.getElem?_append_left hj]
end

set_option maxRecDepth 100000 in
theorem between_any (c : Cont) (hp : c.parts ≤ 1000000) (w : World) (r : Bool) (hr : r = c.between) :
    Calls Try.prog 25 #[.agg #[.bool c.pairs, .int .i64 c.count, .int .i64 c.parts]] w fun e w' => e = .returned (.bool r) ∧ Below w.heap.size w w' := by
  obtain ⟨b, n, k⟩ := c
  simp only [Cont.between] at hr hp ⊢
  have hk : (k : Int) ≤ 1000000 := by omega
  cases b with
  | false =>
    simp at hr
    subst hr
    go_enter Try.func25, Try.ntmps25
    go_wp2_with fail
    go_ret
    exact ⟨rfl, (Below.refl _ _).alloc (Nat.le_refl _) _⟩
  | true =>
    have h2 : decide ((0 : Int) < (k : Int) % 2) = r := by rw [hr, Bool.true_and, decide_eq_decide]; omega
    clear hr
    go_enter Try.func25, Try.ntmps25
    go_wp2_with fail
    go_ret
    exact ⟨rfl, (Below.refl _ _).alloc (Nat.le_refl _) _⟩
set_option maxRecDepth 100000 in
theorem full_any (c : Cont) (hp : c.parts ≤ 1000000) (w : World) (r : Bool) (hr : r = c.full) :
    Calls Try.prog 24 #[.agg #[.bool c.pairs, .int .i64 c.count, .int .i64 c.parts]] w fun e w' => e = .returned (.bool r) ∧ Below w.heap.size w w' := by
  have HB := fun W r hr => hide (between_any c hp W r hr)
  obtain ⟨b, n, k⟩ := c
  simp only [Cont.full] at hr hp HB ⊢
  have hk : (k : Int) ≤ 1000000 := by omega
  cases b with
  | false =>
    have h2 : ((k : Int) == n) = r := by rw [hr, Bool.eq_iff_iff]; simp
    clear hr HB
    go_enter Try.func24, Try.ntmps24
    go_wp2_with fail
    go_ret
    exact ⟨rfl, (Below.refl _ _).alloc (Nat.le_refl _) _⟩
  | true =>
    rw [if_pos rfl] at hr
    cases hbt : (Cont.mk true n k).between with
    | true =>
      rw [hbt] at hr
      simp at hr
      subst hr
      have H := HB (w.alloc (.cells #[.bool true, .int .i64 n, .int .i64 k] 72)) true hbt.symm
      clear HB hbt
      go_enter Try.func24, Try.ntmps24
      go_wp2_with fail
      refine (unhide H).mono ?_
      rintro e w1 ⟨rfl, hb⟩
      go_wp2_with fail
      go_ret
      exact ⟨rfl, ((Below.refl _ _).alloc (Nat.le_refl _) _).trans (hb.mono (by simp))⟩
    | false =>
      rw [hbt] at hr
      have h2 : ((k : Int) / 2 == n) = r := by rw [hr, Bool.eq_iff_iff]; simp
      have H := HB (w.alloc (.cells #[.bool true, .int .i64 n, .int .i64 k] 72)) false hbt.symm
      have d1 : (w.alloc (.cells #[.bool true, .int .i64 n, .int .i64 k] 72)).cell? ⟨w.heap.size, 1, none⟩ = some (.int .i64 n) := (Blk.new w 72 #[.bool true, .int .i64 n, .int .i64 k]).cellv 1 _ rfl
      have d2 : (w.alloc (.cells #[.bool true, .int .i64 n, .int .i64 k] 72)).cell? ⟨w.heap.size, 2, none⟩ = some (.int .i64 k) := (Blk.new w 72 #[.bool true, .int .i64 n, .int .i64 k]).cellv 2 _ rfl
      clear HB hbt hr
      go_enter Try.func24, Try.ntmps24
      go_wp2_with fail
      refine (unhide H).mono ?_
      rintro e w1 ⟨rfl, hb⟩
      have d3 := (hb.cell (p := ⟨w.heap.size, 1, none⟩) (by simp)).trans d1
      have d4 := (hb.cell (p := ⟨w.heap.size, 2, none⟩) (by simp)).trans d2
      clear d1 d2
      go_wp2_with fail
      go_ret
      exact ⟨rfl, ((Below.refl _ _).alloc (Nat.le_refl _) _).trans (hb.mono (by simp))⟩
end Go.Proofs.Yteggfobeaolafaa
