/-
  Whose turn it is, as the law reckons it: the first place of one that is ready.
-/
import Derived.Test.YtlkedcdhboahbaaWheelF
namespace Go.Proofs.Ytlkedcdhboahbaa

def fI (z : List Bool) (L : List Int) : Int := match L.findIdx? (rdy z) with | some i => (i : Int) | none => -1
theorem turn_of_none {z : List Bool} : ∀ {L : List Int}, (∀ x ∈ L, rdy z x = false) → turn z L = none
  | [], _ => rfl
  | y :: L, h => by
    unfold turn
    rw [if_neg (by simp [h y (List.mem_cons_self ..)])]
    exact turn_of_none (fun x hx => h x (List.mem_cons_of_mem _ hx))
theorem turn_of_some {z : List Bool} : ∀ {L : List Int} (f : Nat) (hf : f < L.length), rdy z L[f] = true → (∀ j (hj : j < L.length), j < f → rdy z L[j] = false) → turn z L = some L[f]
  | y :: L, 0, _, h, _ => by
    have h' : rdy z y = true := h
    simp [turn, h']
  | y :: L, f + 1, hf, h, hn => by
    unfold turn
    have h0 : rdy z y = false := hn 0 (by simp) (by omega)
    rw [if_neg (by simp [h0])]
    exact turn_of_some f (by simpa using hf) (by simpa using h) (fun j hj hjf => hn (j + 1) (by simp; exact hj) (by omega))
theorem fI_neg {z : List Bool} {L : List Int} (h : fI z L < 0) : fI z L = -1 ∧ turn z L = none := by
  unfold fI at h ⊢
  cases hc : L.findIdx? (rdy z) with
  | some i => rw [hc] at h; simp only at h; omega
  | none =>
    refine ⟨rfl, turn_of_none (fun x hx => ?_)⟩
    have := List.findIdx?_eq_none_iff.1 hc x hx
    simpa using this
theorem fI_pos {z : List Bool} {L : List Int} (h : ¬ fI z L < 0) : ∃ f : Nat, fI z L = f ∧ ∃ hf : f < L.length, turn z L = some L[f] := by
  unfold fI at h ⊢
  cases hc : L.findIdx? (rdy z) with
  | some i =>
    obtain ⟨hi, h1, h2⟩ := List.findIdx?_eq_some_iff_getElem.1 hc
    exact ⟨i, rfl, hi, turn_of_some i hi h1 (fun j hj hji => by simpa using h2 j hji)⟩
  | none => rw [hc] at h; simp at h
theorem fI_step (z : List Bool) (L : List Int) (i : Nat) (hi : i < L.length) : fI z (L.take (i + 1)) = if fI z (L.take i) < 0 ∧ rdy z L[i] = true then (i : Int) else fI z (L.take i) := by
  have ht : L.take (i + 1) = L.take i ++ [L[i]] := by simp
  unfold fI
  rw [ht, List.findIdx?_append]
  cases hc : (L.take i).findIdx? (rdy z) with
  | some j => simp; intro h; omega
  | none =>
    by_cases hr : rdy z L[i] = true
    · simp [List.findIdx?_cons, hr]; omega
    · simp [List.findIdx?_cons, hr]
theorem erase_at {L : List Int} (hn : L.Nodup) (f : Nat) (hf : f < L.length) : L.erase L[f] = L.take f ++ L.drop (f + 1) := by
  have h1 : L = L.take f ++ L[f] :: L.drop (f + 1) := by rw [List.getElem_cons_drop, List.take_append_drop]
  have hx : L[f] ∉ L.take f := fun hm => by
    obtain ⟨j, hj, hje⟩ := List.getElem_of_mem hm
    rw [List.length_take] at hj
    rw [List.getElem_take] at hje
    have := (List.pairwise_iff_getElem.1 hn) j f (by omega) hf (by omega)
    exact this hje
  obtain ⟨x, hxe⟩ : ∃ x, x = L[f] := ⟨_, rfl⟩
  rw [← hxe] at h1 hx ⊢
  obtain ⟨A, hA⟩ : ∃ A, A = L.take f := ⟨_, rfl⟩
  obtain ⟨C, hC⟩ : ∃ C, C = L.drop (f + 1) := ⟨_, rfl⟩
  rw [← hA, ← hC] at h1 ⊢
  rw [← hA] at hx
  rw [h1, List.erase_append_right _ hx, List.erase_cons_head]
end Go.Proofs.Ytlkedcdhboahbaa
