/-
  The walk of WheelOrder.
-/
import Derived.Test.YtlkedcdhboahbaaWheelE
namespace Go.Proofs.Ytlkedcdhboahbaa
open Go.RowKit

/-- All are there; those that are not ready are in order. -/
def OrderI (z : List Bool) (n : Nat) (L : List Int) : Prop := L.length = n ∧ (L.filter fun x => !rdy z x).Pairwise (· < ·)
theorem order_upto (z : List Bool) (n : Nat) : OrderI z n (upto n) := by
  refine ⟨upto_length n, List.Pairwise.filter _ ?_⟩
  unfold upto
  rw [List.pairwise_map]
  exact (List.pairwise_lt_range (n := n)).imp fun h => by omega
theorem order_turn {z : List Bool} {n : Nat} {A B : List Int} {x : Int} (h : OrderI z n (A ++ x :: B)) (hx : rdy z x = true) : OrderI z n ((A ++ B) ++ [x]) := by
  refine ⟨by have := h.1; simp at this ⊢; omega, ?_⟩
  have h2 := h.2
  simp only [List.filter_append, List.filter_cons, hx, Bool.not_true, Bool.false_eq_true, if_false, List.filter_nil, List.append_nil] at h2 ⊢
  exact h2
theorem order_get {z : List Bool} {n : Nat} {L : List Int} (h : OrderI z n L) : ∀ i k (hi : i < L.length) (hk : k < L.length), i < k → rdy z L[i] = false → rdy z L[k] = false → L[i] < L[k] := by
  intro i k hi hk hik h1 h2
  have h3 := List.pairwise_filter.1 h.2
  have h4 := List.pairwise_iff_getElem.1 h3 i k hi hk hik
  exact h4 (by simpa using h1) (by simpa using h2)

set_option maxRecDepth 100000 in
theorem wheelOrder_no (n turns : Int) (a : Option Addr) (len cap : Nat) (w : World) (_hl : len ≤ 9223372036854775807) (h : n < 1 ∨ 20 < n ∨ (len : Int) ≠ n ∨ turns < 0 ∨ 60 < turns) :
    Calls Try.prog 5 #[.int .i64 n, .slice a len cap, .int .i64 turns] w fun e w' => e = .returned (.bool true) ∧ Below w.heap.size w w' := by
  have HA := hide (alive_any w)
  by_cases h1 : n < 1
  · clear h
    go_enter Try.func5, Try.ntmps5
    go_wp2_with fail
    (with_reducible refine (unhide HA).mono ?_)
    rintro e w1 ⟨rfl, hb⟩
    go_wp2_with fail
    go_ret
    exact ⟨rfl, hb⟩
  by_cases h2 : 20 < n
  · clear h
    go_enter Try.func5, Try.ntmps5
    go_wp2_with fail
    (with_reducible refine (unhide HA).mono ?_)
    rintro e w1 ⟨rfl, hb⟩
    go_wp2_with fail
    go_ret
    exact ⟨rfl, hb⟩
  by_cases h3 : (len : Int) = n
  rotate_left
  · have h3 : ((len : Int) != n) = true := by simpa using h3
    clear h
    go_enter Try.func5, Try.ntmps5
    go_wp2_with fail
    (with_reducible refine (unhide HA).mono ?_)
    rintro e w1 ⟨rfl, hb⟩
    go_wp2_with fail
    go_ret
    exact ⟨rfl, hb⟩
  have h3 : ((len : Int) != n) = false := by simpa using h3
  by_cases h4 : turns < 0
  · clear h
    go_enter Try.func5, Try.ntmps5
    go_wp2_with fail
    (with_reducible refine (unhide HA).mono ?_)
    rintro e w1 ⟨rfl, hb⟩
    go_wp2_with fail
    go_ret
    exact ⟨rfl, hb⟩
  have h5 : 60 < turns := by
    rcases h with h | h | h | h | h
    · omega
    · omega
    · simp at h3; omega
    · omega
    · exact h
  clear h
  go_enter Try.func5, Try.ntmps5
  go_wp2_with fail
  (with_reducible refine (unhide HA).mono ?_)
  rintro e w1 ⟨rfl, hb⟩
  go_wp2_with fail
  go_ret
  exact ⟨rfl, hb⟩

set_option maxRecDepth 100000 in
set_option maxHeartbeats 1000000 in
theorem wheelOrder_yes (n turns : Nat) (a : Option Addr) (cap : Nat) (z : List Bool) (w : World) (hn1 : 1 ≤ n) (hn20 : n ≤ 20) (ht : turns ≤ 60) (hzl : z.length = n) (hz : IsRdy w a z) :
    Calls Try.prog 5 #[.int .i64 n, .slice a n cap, .int .i64 turns] w fun e w' => e = .returned (.bool true) ∧ Below w.heap.size w w' := by
  have HA := hide (alive_any w)
  have HZ := hide hz
  have HZL := hide hzl
  have hnn : ((n : Int) != n) = false := by simp
  clear hz hzl
  go_enter Try.func5, Try.ntmps5
  go_wp2_with fail
  (with_reducible refine (unhide HA).mono ?_)
  rintro e w1 ⟨rfl, hb⟩
  have H := hide (new_Wh (w := w1) (B := w.heap.size) n n (by omega) hb.size)
  clear HA
  go_wp2_with fail
  (with_reducible refine (unhide H).mono ?_)
  rintro e w2 ⟨p, rfl, hw, hb1⟩
  have hb := hb.trans (hb1.mono hb.size)
  clear hb1
  go_wp2_with fail
  go_loopg [8] n (fun g s8 wr => ∃ (j : Nat), s8 = .int .i64 j ∧ j + g = n ∧ Wh wr w.heap.size p n (upto j) ∧ Below w.heap.size w wr)
  case atStart => exact ⟨0, rfl, by omega, hw, hb⟩
  case round =>
    obtain ⟨j, rfl, hj, hwr, hbb⟩ := hrel
    clear hw hb
    by_cases hlt : j < n
    · have hnin : (j : Int) ∉ upto j := fun hm => by have := (mem_upto.1 hm).2; omega
      have H := hide (add_K hwr j true (by
        have h1 : (0 : Int) ≤ j ∧ (j : Int) < n ∧ (j : Int) ∉ upto j := ⟨by omega, by omega, hnin⟩
        simpa using h1) (upto (j + 1)) (by rw [upto_succ]; rfl))
      clear hwr hnin
      go_wp2_with fail
      refine (unhide H).mono ?_
      rintro e w3 ⟨rfl, hw, hb1, hk⟩
      have hbb := hbb.trans hb1
      clear hb1 hk
      go_wp2_with fail
      go_roundg (gk - 1)
      case measure => omega
      case rel => exact ⟨j + 1, by go_num, by omega, hw, hbb⟩
    · have hjn : j = n := by omega
      subst hjn
      have hO := hide (order_upto z j)
      obtain ⟨L0, hL0⟩ : ∃ L0, L0 = upto j := ⟨_, rfl⟩
      rw [← hL0] at hwr hO
      clear hL0
      go_wp2_with fail
      obtain ⟨wo, rfl⟩ : ∃ wo : World, wo = wr := ⟨_, rfl⟩
      go_loopg [9, 10, 11, 12] turns (fun g s9 s10 s11 s12 wr => ∃ (t : Nat) (L : List Int), s9 = .int .i64 t ∧ t + g = turns ∧ Hid (OrderI z j L) ∧ Wh wr w.heap.size p j L ∧ Below w.heap.size w wr)
      case atStart => exact ⟨0, L0, rfl, by omega, hO, hwr, hbb⟩
      case round =>
        obtain ⟨t, L, rfl, hjt, hO2, hw3, hbb3⟩ := hrel
        clear hwr hO hbb
        by_cases hlt2 : t < turns
        · rcases hT : turn z L with _ | x
          · have H := hide (next_K hw3 a cap z (HZ.out.below hbb3) 0 false (.inl ⟨hT, rfl, rfl⟩) L (by rw [after, hT]) j HZL.out.symm)
            clear hT hw3
            go_wp2_with fail
            refine (unhide H).mono ?_
            rintro e w4 ⟨rfl, hw4, hb4, hk4⟩
            have hbb4 := hbb3.trans hb4
            have H := hide (all_Wh hw4)
            rw [hO2.out.1] at H
            clear hb4 hk4 hbb3
            go_wp2_with fail
            (with_reducible refine (unhide H).mono ?_)
            rintro e w5 ⟨a5, c5, rfl, hr5, hw5, hb5⟩
            have hbb5 := hbb4.trans (hb5.mono hbb4.size)
            clear hr5 hb5 hbb4 hw4
            go_wp2_with fail
            go_roundg (turns - t - 1)
            case measure => omega
            case rel => exact ⟨t + 1, L, by go_num, by omega, hO2, hw5, hbb5⟩
          · obtain ⟨A, C, hL, hA, hx⟩ := turn_some hT
            have hxA : x ∉ A := fun hm => by rw [hA x hm] at hx; cases hx
            have haf : after z L = (A ++ C) ++ [x] := by
              rw [after, hT]
              simp only
              rw [hL, List.erase_append_right _ hxA, List.erase_cons_head]
            have hO3 := order_turn (hL ▸ hO2.out) hx
            obtain ⟨L2, hL2⟩ : ∃ L2, L2 = (A ++ C) ++ [x] := ⟨_, rfl⟩
            rw [← hL2] at haf hO3
            have hlen2 := hO3.1
            have hlast : L2[j - 1]? = some x := by
              subst hL2
              simp only [List.length_append, List.length_singleton] at hlen2
              rw [List.getElem?_append_right (by simp; omega), List.length_append, show j - 1 - (A.length + C.length) = 0 by omega]
              rfl
            have HLAST := hide hlast
            have HLEN2 := hide hlen2
            have HO3 := hide hO3
            have H := hide (next_K hw3 a cap z (HZ.out.below hbb3) x true (.inr ⟨hT, rfl⟩) L2 haf.symm j HZL.out.symm)
            clear hT hw3 hL hA hx hxA haf hlast hO3 hL2 hlen2
            go_wp2_with fail
            refine (unhide H).mono ?_
            rintro e w4 ⟨rfl, hw4, hb4, hk4⟩
            have hbb4 := hbb3.trans hb4
            have H := hide (all_Wh hw4)
            rw [HLEN2.out] at H
            clear hb4 hk4 hbb3
            go_wp2_with fail
            (with_reducible refine (unhide H).mono ?_)
            rintro e w5 ⟨a5, c5, rfl, hr5, hw5, hb5⟩
            have hbb5 := hbb4.trans (hb5.mono hbb4.size)
            obtain ⟨g, off, cp, hv, hcz⟩ := (Sl.of_row hr5).cell (j - 1) (by rw [intL_length, HLEN2.out]; omega)
            injection hv with hv hve1 hve2
            clear hve1 hve2
            subst hv
            have hcz1 : w5.cell? ⟨g, off + (j - 1), none⟩ = some (.int .i64 x) := by
              have h1 : (intL L2)[j - 1]? = some (.int .i64 x) := by rw [intL, List.getElem?_map, HLAST.out]; rfl
              rw [hcz, ← h1]
              exact (List.getElem?_eq_getElem _).symm
            have hcz2 : w5.cell? ⟨g, off + ((j : Int) - 1).toNat, none⟩ = some (.int .i64 x) := by
              rw [show ((j : Int) - 1).toNat = j - 1 by omega, hcz1]
            clear hcz
            clear hr5 hb5 hbb4 hw4
            go_wp2_with fail
            go_roundg (turns - t - 1)
            case measure => omega
            case rel => exact ⟨t + 1, L2, by go_num, by omega, HO3, hw5, hbb5⟩
        · have hlen : L.length = j := hO2.out.1
          have HG := hide (order_get hO2.out)
          have HIN := hide hw3.inside
          have H := hide (all_Wh hw3)
          rw [hlen] at H
          have HLEN := hide hlen
          clear hlen
          go_wp2_with fail
          (with_reducible refine (unhide H).mono ?_)
          rintro e w4 ⟨a4, c4, rfl, hr4, hw4, hb4⟩
          have hbb4 := hbb3.trans (hb4.mono hbb3.size)
          have HI4 := hide (isInts_row (c := c4) (a := a4) (L := L) (by rw [HLEN.out]; exact hr4))
          clear hr4 hb4 hbb3 hw3
          go_wp2_with fail
          obtain ⟨wo, rfl⟩ : ∃ wo : World, wo = w4 := ⟨_, rfl⟩
          go_loopg [13, 15, 85] j (fun g s13 s15 s85 wr => ∃ (k : Nat) (last : Int), s13 = .int .i64 last ∧ s85 = .int .i64 k ∧ k + g = j ∧ Hid (∀ i (hi : i < L.length), k ≤ i → rdy z L[i] = false → last ≤ L[i]) ∧ wr = wo)
          case atStart => exact ⟨0, -1, rfl, rfl, by omega, fun i hi _ _ => by have := HIN.out _ (List.getElem_mem hi); omega, rfl⟩
          case round =>
            obtain ⟨k, last, rfl, rfl, hjk, hlast, rfl⟩ := hrel
            by_cases hlt3 : k < j
            · have hkL : k < L.length := by have := HLEN.out; omega
              obtain ⟨g, off, rfl, cz⟩ := HI4.out k hkL
              obtain ⟨x, hx⟩ : ∃ x, x = L[k] := ⟨_, rfl⟩
              have hxin := HIN.out _ (List.getElem_mem hkL)
              rw [← hx] at cz hxin
              have hx0 := hxin.1
              have hxj := hxin.2
              have hxz : x.toNat < z.length := by have := HZL.out; omega
              obtain ⟨g2, off2, rfl, cr⟩ := (HZ.out.below hbb4) x.toNat hxz
              have hrz : rdy z x = z[x.toNat] := by unfold rdy; rw [List.getD, List.getElem?_eq_getElem hxz]; rfl
              have HX := hide hx
              by_cases hr : z[x.toNat] = true
              · rw [hr] at cr
                have hl2 : Hid (∀ i (hi : i < L.length), k + 1 ≤ i → rdy z L[i] = false → last ≤ L[i]) := fun i hi h1 h2 => hlast.out i hi (by omega) h2
                clear hx hxin hrz hr
                go_wp2_with fail
                go_roundg (gk - 1)
                case measure => omega
                case rel => exact ⟨k + 1, last, rfl, by go_num, by omega, hl2, rfl⟩
              · have hr2 : z[x.toNat] = false := by simpa using hr
                rw [hr2] at cr
                have hxr : rdy z L[k] = false := by rw [← hx, hrz, hr2]
                have hge : last ≤ x := by rw [hx]; exact hlast.out k hkL (Nat.le_refl _) hxr
                have hl2 : Hid (∀ i (hi : i < L.length), k + 1 ≤ i → rdy z L[i] = false → x ≤ L[i]) := fun i hi h1 h2 => by
                  have := HG.out k i hkL hi (by omega) hxr h2
                  rw [hx]; omega
                clear hx hxin hrz hr hr2 hxr
                go_wp2_with fail
                go_roundg (gk - 1)
                case measure => omega
                case rel => exact ⟨k + 1, x, rfl, by go_num, by omega, hl2, rfl⟩
            · have H := hide (all_Wh hw4)
              rw [HLEN.out] at H
              go_wp2_with fail
              (with_reducible refine (unhide H).mono ?_)
              rintro e w5 ⟨a5, c5, rfl, hr5, hw5, hb5⟩
              have hbb5 := hbb4.trans (hb5.mono hbb4.size)
              go_wp2_with fail
              go_ret
              exact ⟨rfl, hbb5⟩
end Go.Proofs.Ytlkedcdhboahbaa
