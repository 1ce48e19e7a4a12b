/-
  The reference's Step: a container opened (what all its ways share).
-/
import Derived.Test.YteggfobeaolafaaPkT
namespace Go.Proofs.Yteggfobeaolafaa
open Go.RowKit

theorem Only.drop {S T : List Nat} {a w : World} (h : Only T a w) (hT : ∀ k ∈ T, k ∈ S ∨ a.heap.size ≤ k) : Only S a w :=
  ⟨h.os, h.tape, h.output, h.size, fun k hk hn => h.block k hk (fun h2 => by
    rcases hT k h2 with h3 | h3
    · exact hn h3
    · omega)⟩
theorem headB_length (m : Bool) (n : Nat) : (headB m n).length ≤ 9 := by
  unfold headB
  split
  · simp
  · exact sizedL_length _ _ _ _ (by simp)
theorem begun_fin {W W2 : World} {B p : Nat} {vv v1 v2 : Value} {L : List Cont} {c : Cont} {d : Bool} (kw : RWr W B p vv L d) (hf1 : ∀ k ∈ slB v1, k ∈ slB (.slice none 0 0) ∨ W.heap.size ≤ k) (ho : Only (slB v1) W W2) (hf2 : ∀ k ∈ slB v2, k ∈ slB v1 ∨ W.heap.size ≤ k)
    (hs2 : SlN W2 W.heap.size 77 3 v2 (L.length + 1) (contV L ++ c.cells)) :
    RWr (W2.setCell ⟨p, 1, none⟩ v2) B p v2 (L ++ [c]) d ∧ Only [p] W (W2.setCell ⟨p, 1, none⟩ v2) ∧ ∀ k ∈ slB v2, W.heap.size ≤ k := by
  have h1 : ∀ k ∈ slB v1, W.heap.size ≤ k := fun k hk => by
    rcases hf1 k hk with h | h
    · simp [slB] at h
    · exact h
  have h2 : ∀ k ∈ slB v2, W.heap.size ≤ k := fun k hk => by
    rcases hf2 k hk with h | h
    · exact h1 k h
    · exact h
  have ho0 : Only [] W W2 := ho.drop (fun k hk => .inr (h1 k hk))
  have hpl := kw.2.1.lt
  have hs3 : SlN W2 B 77 3 v2 (L ++ [c]).length (contV (L ++ [c])) := by
    have := hs2.mono kw.lt
    rw [contV_append, List.length_append]
    simpa [contV] using this
  have hput := kw.put ho0 (by simp) hs3 (fun hk => by have := h2 p hk; omega)
  exact ⟨hput.1, hput.2, h2⟩

end Go.Proofs.Yteggfobeaolafaa
