/-
  Slices of integers, cut: the front, the rest.
-/
import Derived.Test.YtlkedcdhboahbaaBkB
namespace Go.Proofs.Ytlkedcdhboahbaa
open Go.RowKit

theorem size_int (w : World) : (sizeOf (Try.prog.elem 26)).run Try.prog w = .ok 1 w := by kernel_rfl
/-- What a slice of integers in hand tells of its form. -/
theorem LIs.cases {w : World} {B : Nat} {v : Value} {L : List Int} (h : LIs w B v L) : (v = .slice none 0 0 ∧ L = []) ∨ ∃ g off cap, v = .slice (some ⟨g, off, none⟩) L.length cap ∧ L.length ≤ cap ∧ ∀ W B', LIs W B' v L → ∀ j (hj : j < L.length), W.cell? ⟨g, off + j, none⟩ = some (.int .i64 L[j]) := by
  have h' := h
  rcases h with ⟨hv, hn, _⟩ | ⟨g, off, cap, cs, rfl, hb, hg, h1, h2, h3, h4, h5⟩
  · exact .inl ⟨hv, List.eq_nil_of_length_eq_zero hn⟩
  · refine .inr ⟨g, off, cap, rfl, h2, fun W B' hW j hj => ?_⟩
    rcases hW with ⟨hv, _⟩ | ⟨g', off', cap', cs', hv, hb', hg', _, _, _, _, h5'⟩
    · cases hv
    · injection hv with e1 e2 e3
      injection e1 with e1
      injection e1 with e4 e5
      subst e4 e5
      rw [hg'.cell, h5' j (by rw [intsL_length]; exact hj)]
      simp [intsL, hj]
theorem cut_to {w : World} {B : Nat} {v : Value} {L : List Int} (h : LIs w B v L) (k : Nat) (hk : k ≤ L.length) (ki : Int) (hki : ki = k) :
    ∃ v1, (∀ W, (Instr.slice 26 v none (some (.int .i64 ki)) none).run Try.prog W = .ok v1 W) ∧ ∀ W B', LIs W B' v L → Src W v1 k (intsL (L.take k)) := by
  subst hki
  rcases h.cases with ⟨rfl, rfl⟩ | ⟨g, off, cap, rfl, hcap, hc⟩
  · obtain rfl : k = 0 := by simpa using hk
    refine ⟨.slice none 0 0, fun W => ?_, fun W B' _ => ⟨none, 0, rfl, .inl ⟨rfl, rfl⟩⟩⟩
    rw [run_slice_h W 26 _ _ _ Try.underlying26 .i64 ((0 : Nat) : Int) (by omega) (by omega), size_int]
    rfl
  · refine ⟨.slice (some ⟨g, off, none⟩) k cap, fun W => ?_, fun W B' hW => ⟨_, _, rfl, .inr ⟨g, off, rfl, fun j hj => ?_⟩⟩⟩
    · rw [run_slice_h W 26 _ _ _ Try.underlying26 .i64 (k : Int) (by omega) (by omega), size_int]
      simp [Result.andThen, sliced, Addr.add]
    · rw [intsL_length, List.length_take] at hj
      rw [hc W B' hW j (by omega)]
      simp [intsL]
theorem cut_from {w : World} {B : Nat} {v : Value} {L : List Int} (h : LIs w B v L) (k : Nat) (hk : k ≤ L.length) (ki : Int) (hki : ki = k) :
    ∃ v1, (∀ W, (Instr.slice 26 v (some (.int .i64 ki)) none none).run Try.prog W = .ok v1 W) ∧ ∀ W B', LIs W B' v L → Src W v1 (L.length - k) (intsL (L.drop k)) := by
  subst hki
  rcases h.cases with ⟨rfl, rfl⟩ | ⟨g, off, cap, rfl, hcap, hc⟩
  · obtain rfl : k = 0 := by simpa using hk
    refine ⟨.slice none 0 0, fun W => ?_, fun W B' _ => ⟨none, 0, rfl, .inl ⟨rfl, rfl⟩⟩⟩
    rw [run_slice_l W 26 _ _ _ Try.underlying26 .i64 ((0 : Nat) : Int) (by omega) (by omega), size_int]
    rfl
  · refine ⟨sliced (some ⟨g, off, none⟩) k L.length cap 1, fun W => ?_, fun W B' hW => ?_⟩
    · rw [run_slice_l W 26 _ _ _ Try.underlying26 .i64 (k : Int) (by omega) (by omega), size_int]
      rfl
    · unfold sliced
      by_cases hck : cap = k
      · rw [if_pos hck]
        exact ⟨_, _, rfl, .inl ⟨by omega, by rw [List.drop_of_length_le (by omega)]; rfl⟩⟩
      · rw [if_neg hck]
        refine ⟨_, _, rfl, .inr ⟨g, off + k, ?_, fun j hj => ?_⟩⟩
        · cases k with
          | zero => simp [Addr.add]
          | succ k => simp [Addr.add]
        · rw [intsL_length, List.length_drop] at hj
          rw [Nat.add_assoc, hc W B' hW (k + j) (by omega)]
          simp [intsL]
end Go.Proofs.Ytlkedcdhboahbaa
