/-
  The law's own list of chunks, in a variable that two closures hold: all of it in one, bytes dropped from its front.
-/
import Derived.Test.YtilfhanmokfhlaaQueueD
import Derived.Test.YtilfhanmokfhlaaSlN
import Derived.Test.YtilfhanmokfhlaaHeldOne
import Derived.Deep.QuietTactic
namespace Go.Proofs.Ytilfhanmokfhlaa
open Go.RowKit

/-- The variable at q holds the chunks M; its list is v. -/
structure Hv (w : World) (base q : Nat) (v : Value) (M : List (List UInt8)) : Prop where
  blk : Blk w q 25 #[v]
  sl : SlN w base 9 1 v M.length (strV M)
  ne : ∀ l ∈ M, l ≠ []
section
variable {w w' : World} {base q : Nat} {v : Value} {M : List (List UInt8)}
theorem Hv.out (h : Hv w base q v M) : q ∉ slB v := h.sl.notBlk h.blk (by decide)
theorem Hv.keep {B : List Nat} (h : Hv w base q v M) (ho : Only B w w') (h1 : q ∉ B) (h2 : ∀ k ∈ slB v, k ∉ B) : Hv w' base q v M := ⟨ho.blk h.blk h1, h.sl.keep ho h2, h.ne⟩
theorem Hv.drewN (h : Hv w base q v M) (n : Nat) : Hv (w.drewN n) base q v M := ⟨h.blk.drewN n, h.sl.drewN n, h.ne⟩
theorem Hv.cells (h : Hv w base q v M) (j : Nat) (hj : j < M.length) : ∃ g off cap, v = .slice (some ⟨g, off, none⟩) M.length cap ∧ w.cell? ⟨g, off + j, none⟩ = some (.string (S M[j])) := by
  obtain ⟨g, off, cap, hv, hc, _⟩ := h.sl.cell j (by rw [strV_length]; exact hj)
  exact ⟨g, off, cap, hv, by rw [hc]; simp [strV]⟩
end

theorem flatten_snoc {α : Type} (L : List (List α)) (j : Nat) (hj : j < L.length) : (L.take (j + 1)).flatten = (L.take j).flatten ++ L[j] := by
  rw [List.take_succ_eq_append_getElem hj, List.flatten_append]
  simp
theorem flatten_take_le {α : Type} (L : List (List α)) (j : Nat) : (L.take j).flatten.length ≤ L.flatten.length := by
  have := congrArg List.length (congrArg List.flatten (List.take_append_drop j L))
  rw [List.flatten_append, List.length_append] at this
  omega
theorem allc_any {w : World} {base q : Nat} {v : Value} {M : List (List UInt8)} (h : Hv w base q v M) (hsz : M.flatten.length ≤ 1000000) (l : List UInt8) (hl : l = M.flatten) :
    Calls Try.prog 15 #[.pointer (some ⟨q, 0, none⟩)] w fun e w' => e = .returned (.string (S l)) ∧ w' = w := by
  have c0 := h.blk.cellv 0 _ rfl
  have hC := hide (fun j (hj : j < M.length) => h.cells j hj)
  have hml := flat_le M h.ne
  have HL := hide hl
  obtain ⟨a, c, rfl⟩ := h.sl.form
  clear h hl
  go_enter Try.func15, Try.ntmps15
  go_wp2_with fail
  go_loopg [2, 4, 7] M.length (fun g s2 s4 s7 wr => ∃ (j : Nat) (r : List UInt8), s7 = .int .i64 j ∧ j + g = M.length ∧ s2 = .string (S r) ∧ Hid (r = (M.take j).flatten) ∧ wr = w)
  case atStart => exact ⟨0, [], rfl, by omega, rfl, rfl, rfl⟩
  case round =>
    obtain ⟨j, r, rfl, hj, rfl, hr, rfl⟩ := hrel
    by_cases hlt : j < M.length
    · obtain ⟨g, off, cap, hv, cz⟩ := hC.out j hlt
      injection hv with hv e2 e3
      subst hv
      obtain ⟨x, hx⟩ : ∃ x, x = M[j] := ⟨_, rfl⟩
      rw [← hx] at cz
      have hr2 : r ++ x = (M.take (j + 1)).flatten := by rw [flatten_snoc M j hlt, hr.out, hx]
      have hadd := run_add_S (P := Try.prog) r x (by
        have h1 := congrArg List.length hr2
        rw [List.length_append] at h1
        have h2 := flatten_take_le M (j + 1)
        omega)
      have HR2 := hide hr2
      clear hr2 hx e2 e3
      go_wp2_with fail
      go_roundg (gk - 1)
      case measure => omega
      case rel => exact ⟨j + 1, _, by go_num, by omega, rfl, HR2, rfl⟩
    · have hjl : j = M.length := by omega
      have hrl : r = l := by rw [HL.out, hr.out, hjl, List.take_length]
      subst hrl
      clear hjl
      go_wp2_with fail
      go_ret
      exact ⟨rfl, rfl⟩

theorem slice1_slN {P : Program} {t e : TypeId} (hte : P.underlying t = some (.slice (P.elem t))) (hz : ∀ w, (sizeOf (P.elem t)).run P w = .ok 1 w) {w : World} {base : Nat} {v : Value} {n : Nat} {xs : List Value} (h : SlN w base e 1 v n xs) (h0 : 0 < n) :
    ∃ v', (∀ W, (Instr.slice t v (some (.int .i64 1)) none none).run P W = .ok v' W) ∧ slB v' = slB v ∧ (∀ W ys, SlN W base e 1 v n ys → SlN W base e 1 v' (n - 1) ys.tail) := by
  have hl := h.len
  obtain ⟨v', h1, h2, h3⟩ := slice1_sl hte hz h.to_sl (by omega)
  refine ⟨v', h1, h2, fun W ys hW => ?_⟩
  have h4 := SlN.of_sl (h3 W ys hW.to_sl)
  have h5 := hW.len
  rw [List.length_tail, h5, Nat.mul_one] at h4
  exact h4
end Go.Proofs.Ytilfhanmokfhlaa
