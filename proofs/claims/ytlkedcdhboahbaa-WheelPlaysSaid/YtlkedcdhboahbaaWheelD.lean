/-
  Lists compared (truchmanbook.SameInts); alive.
-/
import Derived.Test.YtlkedcdhboahbaaWheelC
namespace Go.Proofs.Ytlkedcdhboahbaa
open Go.RowKit

/-- The elements of a slice of ints. -/
def IsInts (w : World) (a : Option Addr) (L : List Int) : Prop := ∀ j (hj : j < L.length), ∃ g off, a = some ⟨g, off, none⟩ ∧ w.cell? ⟨g, off + j, none⟩ = some (.int .i64 L[j])
theorem isInts_row {w : World} {base : Nat} {a : Option Addr} {c : Nat} {L : List Int} (h : w.ownsRow base 3 1 (.slice a L.length c) L.length (intL L)) : IsInts w a L := fun j hj => by
  obtain ⟨g, off, cap, hv, hc⟩ := (Sl.of_row h).cell j (by rw [intL_length]; exact hj)
  injection hv with hv
  exact ⟨g, off, hv, by rw [hc]; simp [intL]⟩
theorem isInts_blk {w : World} {g : Nat} {t : TypeId} {L : List Int} (h : Blk w g t (intsV L)) : IsInts w (some ⟨g, 0, none⟩) L := fun j hj =>
  ⟨g, 0, rfl, by rw [Nat.zero_add]; exact h.cellv j _ (by rw [intsV_get, List.getElem?_eq_getElem hj]; rfl)⟩
theorem isRdy_blk {w : World} {g : Nat} {t : TypeId} {z : List Bool} (h : Blk w g t (boolsV z)) : IsRdy w (some ⟨g, 0, none⟩) z := fun j hj =>
  ⟨g, 0, rfl, by rw [Nat.zero_add]; exact h.cellv j _ (by rw [boolsV_get, List.getElem?_eq_getElem hj]; rfl)⟩
theorem IsInts.below {w c : World} {a : Option Addr} {L : List Int} (h : IsInts w a L) (hb : Below w.heap.size w c) : IsInts c a L := fun j hj => by
  obtain ⟨g, off, rfl, hc⟩ := h j hj
  exact ⟨g, off, rfl, (hb.cell (p := ⟨g, off + j, none⟩) (block_lt_of_cell hc)).trans hc⟩

set_option maxRecDepth 100000 in
theorem same_ints {w : World} {a1 a2 : Option Addr} {c1 c2 : Nat} {A B : List Int} (h1 : IsInts w a1 A) (h2 : IsInts w a2 B) (hA : A.length ≤ 1000000) (hB : B.length ≤ 1000000) (r : Bool) (hr : r = decide (A = B)) :
    Calls Try.prog 17 #[.slice a1 A.length c1, .slice a2 B.length c2] w fun e w' => e = .returned (.bool r) ∧ ∃ n, w' = w.drewN n := by
  have HR := hide hr
  clear hr
  by_cases hl : A.length = B.length
  rotate_left
  · have hr2 : r = false := by rw [HR.out]; simp; rintro rfl; exact hl rfl
    have hb : ((A.length : Int) == B.length) = false := by simp; omega
    subst hr2
    clear hl
    go_enter Try.func17, Try.ntmps17
    go_wp2_with fail
    go_ret
    exact ⟨rfl, 0, rfl⟩
  obtain ⟨n, hn⟩ : ∃ n, n = A.length := ⟨_, rfl⟩
  have hnB : B.length = n := by omega
  have hbb : ((n : Int) == n) = true := by simp
  have H1 := hide h1
  have H2 := hide h2
  have HnA := hide hn
  have HnB := hide hnB
  rw [← hn] at hA ⊢
  rw [hnB]
  clear h1 h2 hl hn hnB hB
  go_enter Try.func17, Try.ntmps17
  go_wp2_with fail
  go_loopg [5] n (fun g s5 wr => ∃ j : Nat, s5 = .int .i64 j ∧ j + g = n ∧ (∃ m, wr = w.drewN m) ∧ Hid (∀ i (hi : i < A.length) (hi2 : i < B.length), i < j → A[i] = B[i]))
  case atStart => exact ⟨0, rfl, by omega, ⟨0, rfl⟩, fun i _ _ h => by omega⟩
  case round =>
    obtain ⟨j, rfl, hj, ⟨m, rfl⟩, heq⟩ := hrel
    by_cases hlt : j < n
    · have hjA : j < A.length := by have := HnA.out; omega
      have hjB : j < B.length := by have := HnB.out; omega
      obtain ⟨g1, o1, rfl, k1⟩ := H1.out j hjA
      obtain ⟨g2, o2, rfl, k2⟩ := H2.out j hjB
      obtain ⟨x, hx⟩ : ∃ x, x = A[j] := ⟨_, rfl⟩
      obtain ⟨y, hy⟩ : ∃ y, y = B[j] := ⟨_, rfl⟩
      rw [← hx] at k1
      rw [← hy] at k2
      have hjn : (j : Int) < n := by omega
      by_cases hxy : x = y
      · subst hxy
        have heq2 : Hid (∀ i (hi : i < A.length) (hi2 : i < B.length), i < j + 1 → A[i] = B[i]) := fun i hi hi2 h => by
          by_cases hij : i = j
          · subst hij; rw [← hx, ← hy]
          · exact heq.out i hi hi2 (by omega)
        clear hx hy
        go_wp2_with fail
        go_quiet (fail)
        go_wp2_with fail
        go_roundg (gk - 1)
        case measure => omega
        case rel => exact ⟨j + 1, by go_num, by omega, ⟨_, rfl⟩, heq2⟩
      · have hb : (x == y) = false := by simpa using hxy
        have hr2 : r = false := by
          rw [HR.out]; simp
          rintro rfl
          exact hxy (by rw [hx, hy])
        subst hr2
        clear hx hy hxy
        go_wp2_with fail
        go_quiet (fail)
        go_wp2_with fail
        go_ret
        exact ⟨rfl, _, World.drewN_drewN _ _ _⟩
    · have hr2 : r = true := by
        rw [HR.out]; simp
        have e1 := HnA.out
        have e2 := HnB.out
        exact List.ext_getElem (by omega) (fun i hi hi2 => heq.out i hi hi2 (by omega))
      subst hr2
      go_wp2_with fail
      go_ret
      exact ⟨rfl, _, rfl⟩

set_option maxRecDepth 100000 in
theorem alive_any (w : World) : Calls Try.prog 9 #[] w fun e w' => e = .returned (.bool true) ∧ Below w.heap.size w w' := by
  have H := hide (new_Wh (w := w) (B := w.heap.size) 3 3 (by decide) (Nat.le_refl _))
  go_enter Try.func9, Try.ntmps9
  go_wp2_with fail
  (with_reducible refine (unhide H).mono ?_)
  rintro e w1 ⟨p, rfl, hw, hb⟩
  have H := hide (add_Wh hw 0 true rfl [0] rfl)
  clear hw
  go_wp2_with fail
  (with_reducible refine (unhide H).mono ?_)
  rintro e w2 ⟨rfl, hw, hb1⟩
  have hb := hb.trans hb1
  have H := hide (add_Wh hw 1 true rfl [0, 1] rfl)
  clear hw hb1
  go_wp2_with fail
  (with_reducible refine (unhide H).mono ?_)
  rintro e w3 ⟨rfl, hw, hb1⟩
  have hb := hb.trans hb1
  have H := hide (add_Wh hw 2 true rfl [0, 1, 2] rfl)
  clear hw hb1
  go_wp2_with fail
  (with_reducible refine (unhide H).mono ?_)
  rintro e w4 ⟨rfl, hw, hb1⟩
  have hb := hb.trans hb1
  have H := hide (add_Wh hw 2 false rfl [0, 1, 2] rfl)
  clear hw hb1
  go_wp2_with fail
  (with_reducible refine (unhide H).mono ?_)
  rintro e w5 ⟨rfl, hw, hb1⟩
  have hb := hb.trans hb1
  have H := hide (add_Wh hw 3 false rfl [0, 1, 2] rfl)
  clear hw hb1
  go_wp2_with fail
  (with_reducible refine (unhide H).mono ?_)
  rintro e w6 ⟨rfl, hw, hb1⟩
  have hb := hb.trans hb1
  have H := hide (next_Wh (hw.alloc (.cells #[.bool false, .bool true, .bool true] 4)) (some ⟨w6.heap.size, 0, none⟩) 3 [false, true, true] (isRdy_blk (Blk.new w6 4 _)) 1 true (.inr ⟨rfl, rfl⟩) [0, 2, 1] rfl 3 rfl)
  have hb := hb.alloc hw.lt (.cells #[.bool false, .bool true, .bool true] 4)
  clear hw hb1
  go_wp2_with fail
  (with_reducible refine (unhide H).mono ?_)
  rintro e w7 ⟨rfl, hw, hb1⟩
  have hb := hb.trans hb1
  have H := hide (next_Wh (hw.alloc (.cells #[.bool true, .bool true, .bool true] 4)) (some ⟨w7.heap.size, 0, none⟩) 3 [true, true, true] (isRdy_blk (Blk.new w7 4 _)) 0 true (.inr ⟨rfl, rfl⟩) [2, 1, 0] rfl 3 rfl)
  have hb := hb.alloc hw.lt (.cells #[.bool true, .bool true, .bool true] 4)
  clear hw hb1
  go_wp2_with fail
  (with_reducible refine (unhide H).mono ?_)
  rintro e w8 ⟨rfl, hw, hb1⟩
  have hb := hb.trans hb1
  have H := hide (all_Wh hw)
  clear hb1
  go_wp2_with fail
  (with_reducible refine (unhide H).mono ?_)
  rintro e w9 ⟨a, c, rfl, hr, hw9, hb1⟩
  have hb := hb.trans (hb1.mono hw.lt)
  have h1 := (isInts_row hr).below ((Below.refl _ _).alloc (Nat.le_refl _) (.cells #[.int .i64 2, .int .i64 1, .int .i64 0] 3))
  have h2 := isInts_blk (L := [2, 1, 0]) (Blk.new w9 3 (intsV [2, 1, 0]))
  have H := hide (same_ints (c1 := c) (c2 := 3) h1 h2 (by simp) (by simp) true rfl)
  have hb := hb.alloc hw9.lt (.cells #[.int .i64 2, .int .i64 1, .int .i64 0] 3)
  clear hw hb1 hr h1 h2 hw9
  go_wp2_with fail
  refine (unhide H).mono ?_
  rintro e w10 ⟨rfl, m, rfl⟩
  go_wp2_with fail
  go_ret
  exact ⟨rfl, below_drewN hb _⟩
end Go.Proofs.Ytlkedcdhboahbaa
