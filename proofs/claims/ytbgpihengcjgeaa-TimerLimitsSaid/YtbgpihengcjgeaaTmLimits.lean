/-
  The walk of TimerLimits.
-/
import Derived.Test.YtbgpihengcjgeaaTmD
namespace Go.Proofs.Ytbgpihengcjgeaa
open Go.RowKit

set_option maxRecDepth 100000 in
theorem limits_out (a b c : Int) (w : World) (h : a < 0 ∨ 60 < a ∨ b < 0 ∨ 20 < b ∨ c < 0 ∨ 60 < c ∨ (0 < a ∧ a < b)) :
    Calls Try.prog 7 #[.int .i64 a, .int .i64 b, .int .i64 c] w fun e w' => e = .returned (.bool true) ∧ Below w.heap.size w w' := by
  by_cases h1 : a < 0
  · clear h
    have HA := fun W => hide (alive_any W)
    go_enter Try.func7, Try.ntmps7
    go_wp2_with fail
    (with_reducible refine (unhide (HA _)).mono ?_)
    rintro e w1 ⟨rfl, hb⟩
    go_wp2_with fail
    go_ret
    exact ⟨rfl, hb⟩
  have h1' : 0 ≤ a := by omega
  by_cases h2 : 60 < a
  · clear h h1
    have HA := fun W => hide (alive_any W)
    go_enter Try.func7, Try.ntmps7
    go_wp2_with fail
    (with_reducible refine (unhide (HA _)).mono ?_)
    rintro e w1 ⟨rfl, hb⟩
    go_wp2_with fail
    go_ret
    exact ⟨rfl, hb⟩
  have h2' : a ≤ 60 := by omega
  by_cases h3 : b < 0
  · clear h h1 h2
    have HA := fun W => hide (alive_any W)
    go_enter Try.func7, Try.ntmps7
    go_wp2_with fail
    (with_reducible refine (unhide (HA _)).mono ?_)
    rintro e w1 ⟨rfl, hb⟩
    go_wp2_with fail
    go_ret
    exact ⟨rfl, hb⟩
  have h3' : 0 ≤ b := by omega
  by_cases h4 : 20 < b
  · clear h h1 h2 h3
    have HA := fun W => hide (alive_any W)
    go_enter Try.func7, Try.ntmps7
    go_wp2_with fail
    (with_reducible refine (unhide (HA _)).mono ?_)
    rintro e w1 ⟨rfl, hb⟩
    go_wp2_with fail
    go_ret
    exact ⟨rfl, hb⟩
  have h4' : b ≤ 20 := by omega
  by_cases h5 : c < 0
  · clear h h1 h2 h3 h4
    have HA := fun W => hide (alive_any W)
    go_enter Try.func7, Try.ntmps7
    go_wp2_with fail
    (with_reducible refine (unhide (HA _)).mono ?_)
    rintro e w1 ⟨rfl, hb⟩
    go_wp2_with fail
    go_ret
    exact ⟨rfl, hb⟩
  have h5' : 0 ≤ c := by omega
  by_cases h6 : 60 < c
  · clear h h1 h2 h3 h4 h5
    have HA := fun W => hide (alive_any W)
    go_enter Try.func7, Try.ntmps7
    go_wp2_with fail
    (with_reducible refine (unhide (HA _)).mono ?_)
    rintro e w1 ⟨rfl, hb⟩
    go_wp2_with fail
    go_ret
    exact ⟨rfl, hb⟩
  have h6' : c ≤ 60 := by omega
  have h7 : 0 < a := by omega
  have h8 : a < b := by omega
  clear h h1 h2 h3 h4 h5 h6
  have HA := fun W => hide (alive_any W)
  go_enter Try.func7, Try.ntmps7
  go_wp2_with fail
  (with_reducible refine (unhide (HA _)).mono ?_)
  rintro e w1 ⟨rfl, hb⟩
  go_wp2_with fail
  go_ret
  exact ⟨rfl, hb⟩
theorem late_busy {now : Int} {l b k : Int} (h : now - k ≤ 30) (hl : l = 0 ∨ now - b ≤ l) : late now ⟨l, b, k⟩ = false := by
  unfold late
  simp
  omega
theorem late_limit {now : Int} {o : One} (h0 : 0 < o.limit) (h : o.limit < now - o.begun) : late now o = true := by
  unfold late
  simp [h0, h]
set_option maxRecDepth 100000 in
set_option maxHeartbeats 1000000 in
theorem limits_in (a b c : Nat) (w : World) (ha : a ≤ 60) (hb : b ≤ 20) (hc : c ≤ 60) (hab : a = 0 ∨ b ≤ a) :
    Calls Try.prog 7 #[.int .i64 a, .int .i64 b, .int .i64 c] w fun e w' => e = .returned (.bool true) ∧ Below w.heap.size w w' := by
  have hai : (a : Int) ≤ 60 := by omega
  have hbi : (b : Int) ≤ 20 := by omega
  have hci : (c : Int) ≤ 60 := by omega
  have HA := fun W => hide (alive_any W)
  have HG := hide hab
  by_cases h0 : a = 0
  · have d0 : ¬ (0 : Int) < a := by omega
    clear hab h0 ha hb hc
    go_enter Try.func7, Try.ntmps7
    go_wp2_with fail
    (with_reducible refine (unhide (HA _)).mono ?_)
    rintro e w1 ⟨rfl, hb1⟩
    have h0 := T1.new2 5 hb1
    obtain ⟨W, hW⟩ : ∃ W, W = w1.alloc (.cells #[.int .i64 0, .map none] 27) := ⟨_, rfl⟩
    obtain ⟨p, hp⟩ : ∃ p, p = w1.heap.size := ⟨_, rfl⟩
    rw [← hW, ← hp] at h0
    have HS := hide (t1_start (lim := a) h0 (by omega) (wf_of (by omega)) (by omega) (by omega) (by omega))
    have HW := hide hW
    have HP := hide hp
    clear HA hb1 hW hp h0
    go_wp2_with fail
    rw [← HW.out, ← HP.out]
    (with_reducible refine (unhide HS).mono ?_)
    rintro e w2 ⟨rfl, h2⟩
    have H2 := hide h2
    clear HS h2 HW HP
    go_wp2_with fail
    go_loopg [8] b (fun g s8 wr => ∃ k : Nat, s8 = .int .i64 k ∧ k + g = b ∧ Hid (T1 w wr w.heap.size p k 1 5 (some ⟨a, 0, k⟩)))
    case atStart => exact ⟨0, rfl, by omega, H2⟩
    case round =>
      clear H2
      obtain ⟨k, rfl, hk, h3⟩ := hrel
      by_cases hlt : k < b
      · have HT := hide (t1_stay (now2 := ((k + 1 : Nat) : Int)) h3.out (by omega) (by omega) (by omega) (by intro o ho; cases ho; exact late_busy (by omega) (by have := HG.out; omega)))
        clear h3
        go_wp2_with fail
        (with_reducible refine (unhide HT).mono ?_)
        rintro e w3 ⟨⟨a1, c1, rfl⟩, h4⟩
        have HT2 := hide (t1_touch h4)
        clear HT h4
        go_wp2_with fail
        (with_reducible refine (unhide HT2).mono ?_)
        rintro e w4 ⟨rfl, h5⟩
        have H5 := hide h5
        clear HT2 h5
        go_wp2_with fail
        go_roundg (gk - 1)
        case measure => omega
        case rel => exact ⟨k + 1, by go_num, by omega, H5⟩
      · obtain rfl : k = b := by omega
        have HT := hide (t1_limit (lim := c) h3.out (by omega) (by omega))
        clear h3
        go_wp2_with fail
        (with_reducible refine (unhide HT).mono ?_)
        rintro e w3 ⟨rfl, h4⟩
        have H4 := hide h4
        clear HT h4
        go_wp2_with fail
        go_loopg [9, 10, 11] (100 - k) (fun g s9 s10 s11 wr => ∃ j : Nat, s9 = .int .i64 (j + 1 : Nat) ∧ j + g = 100 ∧ k ≤ j ∧ (c = 0 ∨ j ≤ c ∨ j = k) ∧ Hid (T1 w wr w.heap.size p j 1 5 (some ⟨c, 0, j⟩)))
        case atStart => exact ⟨k, rfl, by omega, by omega, .inr (.inr rfl), H4⟩
        case round =>
          clear H4
          obtain ⟨j, rfl, hj, hkj, hcj, h7⟩ := hrel
          by_cases hlt : j < 100
          · by_cases hc0 : 0 < c
            · have c0 : decide (0 < (c : Int)) = true := decide_eq_true (by omega)
              by_cases hcl : c < j + 1
              · have c1 : decide ((c : Int) < (j : Int) + 1) = true := decide_eq_true (by omega)
                have HT := hide (t1_go (now2 := ((j + 1 : Nat) : Int)) h7.out (by omega) (by omega) (by omega) (late_limit (by simp only; omega) (by simp only; omega)))
                clear h7
                go_wp2_with fail
                (with_reducible refine (unhide HT).mono ?_)
                rintro e w5 ⟨⟨g, off, c1, rfl, _⟩, h8⟩
                have HT2 := hide (t1_touch_none h8 (wf_of (by omega)))
                have HT3 := hide (t1_stop_none h8 (wf_of (by omega)))
                have HB := hide h8.below
                clear HT h8
                go_wp2_with fail
                (with_reducible refine (unhide HT2).mono ?_)
                rintro e w6 ⟨rfl, hw6⟩
                subst hw6
                go_wp2_with fail
                (with_reducible refine (unhide HT3).mono ?_)
                rintro e w7 ⟨rfl, hw7⟩
                subst hw7
                go_wp2_with fail
                go_ret
                exact ⟨rfl, HB.out⟩
              · have c1 : decide ((c : Int) < (j : Int) + 1) = false := decide_eq_false (by omega)
                have HT := hide (t1_stay (now2 := ((j + 1 : Nat) : Int)) h7.out (by omega) (by omega) (by omega) (by intro o ho; cases ho; exact late_busy (by omega) (by omega)))
                clear h7
                go_wp2_with fail
                (with_reducible refine (unhide HT).mono ?_)
                rintro e w5 ⟨⟨a1, c1, rfl⟩, h8⟩
                have HT2 := hide (t1_touch h8)
                clear HT h8
                go_wp2_with fail
                (with_reducible refine (unhide HT2).mono ?_)
                rintro e w6 ⟨rfl, h9⟩
                have H9 := hide h9
                clear HT2 h9
                go_wp2_with fail
                go_roundg (gk - 1)
                case measure => omega
                case rel => exact ⟨j + 1, by go_num, by omega, by omega, by omega, H9⟩
            · have c0 : decide (0 < (c : Int)) = false := decide_eq_false (by omega)
              have HT := hide (t1_stay (now2 := ((j + 1 : Nat) : Int)) h7.out (by omega) (by omega) (by omega) (by intro o ho; cases ho; exact late_busy (by omega) (by omega)))
              clear h7
              go_wp2_with fail
              (with_reducible refine (unhide HT).mono ?_)
              rintro e w5 ⟨⟨a1, c1, rfl⟩, h8⟩
              have HT2 := hide (t1_touch h8)
              clear HT h8
              go_wp2_with fail
              (with_reducible refine (unhide HT2).mono ?_)
              rintro e w6 ⟨rfl, h9⟩
              have H9 := hide h9
              clear HT2 h9
              go_wp2_with fail
              go_roundg (gk - 1)
              case measure => omega
              case rel => exact ⟨j + 1, by go_num, by omega, by omega, by omega, H9⟩
          · obtain rfl : j = 100 := by omega
            obtain rfl : c = 0 := by omega
            have HB := hide h7.out.below
            clear h7
            go_wp2_with fail
            go_ret
            exact ⟨rfl, HB.out⟩
  · have d0 : (0 : Int) < a := by omega
    have d1 : (b : Int) ≤ a := by omega
    clear hab h0 ha hb hc
    go_enter Try.func7, Try.ntmps7
    go_wp2_with fail
    (with_reducible refine (unhide (HA _)).mono ?_)
    rintro e w1 ⟨rfl, hb1⟩
    have h0 := T1.new2 5 hb1
    obtain ⟨W, hW⟩ : ∃ W, W = w1.alloc (.cells #[.int .i64 0, .map none] 27) := ⟨_, rfl⟩
    obtain ⟨p, hp⟩ : ∃ p, p = w1.heap.size := ⟨_, rfl⟩
    rw [← hW, ← hp] at h0
    have HS := hide (t1_start (lim := a) h0 (by omega) (wf_of (by omega)) (by omega) (by omega) (by omega))
    have HW := hide hW
    have HP := hide hp
    clear HA hb1 hW hp h0
    go_wp2_with fail
    rw [← HW.out, ← HP.out]
    (with_reducible refine (unhide HS).mono ?_)
    rintro e w2 ⟨rfl, h2⟩
    have H2 := hide h2
    clear HS h2 HW HP
    go_wp2_with fail
    go_loopg [8] b (fun g s8 wr => ∃ k : Nat, s8 = .int .i64 k ∧ k + g = b ∧ Hid (T1 w wr w.heap.size p k 1 5 (some ⟨a, 0, k⟩)))
    case atStart => exact ⟨0, rfl, by omega, H2⟩
    case round =>
      clear H2
      obtain ⟨k, rfl, hk, h3⟩ := hrel
      by_cases hlt : k < b
      · have HT := hide (t1_stay (now2 := ((k + 1 : Nat) : Int)) h3.out (by omega) (by omega) (by omega) (by intro o ho; cases ho; exact late_busy (by omega) (by have := HG.out; omega)))
        clear h3
        go_wp2_with fail
        (with_reducible refine (unhide HT).mono ?_)
        rintro e w3 ⟨⟨a1, c1, rfl⟩, h4⟩
        have HT2 := hide (t1_touch h4)
        clear HT h4
        go_wp2_with fail
        (with_reducible refine (unhide HT2).mono ?_)
        rintro e w4 ⟨rfl, h5⟩
        have H5 := hide h5
        clear HT2 h5
        go_wp2_with fail
        go_roundg (gk - 1)
        case measure => omega
        case rel => exact ⟨k + 1, by go_num, by omega, H5⟩
      · obtain rfl : k = b := by omega
        have HT := hide (t1_limit (lim := c) h3.out (by omega) (by omega))
        clear h3
        go_wp2_with fail
        (with_reducible refine (unhide HT).mono ?_)
        rintro e w3 ⟨rfl, h4⟩
        have H4 := hide h4
        clear HT h4
        go_wp2_with fail
        go_loopg [9, 10, 11] (100 - k) (fun g s9 s10 s11 wr => ∃ j : Nat, s9 = .int .i64 (j + 1 : Nat) ∧ j + g = 100 ∧ k ≤ j ∧ (c = 0 ∨ j ≤ c ∨ j = k) ∧ Hid (T1 w wr w.heap.size p j 1 5 (some ⟨c, 0, j⟩)))
        case atStart => exact ⟨k, rfl, by omega, by omega, .inr (.inr rfl), H4⟩
        case round =>
          clear H4
          obtain ⟨j, rfl, hj, hkj, hcj, h7⟩ := hrel
          by_cases hlt : j < 100
          · by_cases hc0 : 0 < c
            · have c0 : decide (0 < (c : Int)) = true := decide_eq_true (by omega)
              by_cases hcl : c < j + 1
              · have c1 : decide ((c : Int) < (j : Int) + 1) = true := decide_eq_true (by omega)
                have HT := hide (t1_go (now2 := ((j + 1 : Nat) : Int)) h7.out (by omega) (by omega) (by omega) (late_limit (by simp only; omega) (by simp only; omega)))
                clear h7
                go_wp2_with fail
                (with_reducible refine (unhide HT).mono ?_)
                rintro e w5 ⟨⟨g, off, c1, rfl, _⟩, h8⟩
                have HT2 := hide (t1_touch_none h8 (wf_of (by omega)))
                have HT3 := hide (t1_stop_none h8 (wf_of (by omega)))
                have HB := hide h8.below
                clear HT h8
                go_wp2_with fail
                (with_reducible refine (unhide HT2).mono ?_)
                rintro e w6 ⟨rfl, hw6⟩
                subst hw6
                go_wp2_with fail
                (with_reducible refine (unhide HT3).mono ?_)
                rintro e w7 ⟨rfl, hw7⟩
                subst hw7
                go_wp2_with fail
                go_ret
                exact ⟨rfl, HB.out⟩
              · have c1 : decide ((c : Int) < (j : Int) + 1) = false := decide_eq_false (by omega)
                have HT := hide (t1_stay (now2 := ((j + 1 : Nat) : Int)) h7.out (by omega) (by omega) (by omega) (by intro o ho; cases ho; exact late_busy (by omega) (by omega)))
                clear h7
                go_wp2_with fail
                (with_reducible refine (unhide HT).mono ?_)
                rintro e w5 ⟨⟨a1, c1, rfl⟩, h8⟩
                have HT2 := hide (t1_touch h8)
                clear HT h8
                go_wp2_with fail
                (with_reducible refine (unhide HT2).mono ?_)
                rintro e w6 ⟨rfl, h9⟩
                have H9 := hide h9
                clear HT2 h9
                go_wp2_with fail
                go_roundg (gk - 1)
                case measure => omega
                case rel => exact ⟨j + 1, by go_num, by omega, by omega, by omega, H9⟩
            · have c0 : decide (0 < (c : Int)) = false := decide_eq_false (by omega)
              have HT := hide (t1_stay (now2 := ((j + 1 : Nat) : Int)) h7.out (by omega) (by omega) (by omega) (by intro o ho; cases ho; exact late_busy (by omega) (by omega)))
              clear h7
              go_wp2_with fail
              (with_reducible refine (unhide HT).mono ?_)
              rintro e w5 ⟨⟨a1, c1, rfl⟩, h8⟩
              have HT2 := hide (t1_touch h8)
              clear HT h8
              go_wp2_with fail
              (with_reducible refine (unhide HT2).mono ?_)
              rintro e w6 ⟨rfl, h9⟩
              have H9 := hide h9
              clear HT2 h9
              go_wp2_with fail
              go_roundg (gk - 1)
              case measure => omega
              case rel => exact ⟨j + 1, by go_num, by omega, by omega, by omega, H9⟩
          · obtain rfl : j = 100 := by omega
            obtain rfl : c = 0 := by omega
            have HB := hide h7.out.below
            clear h7
            go_wp2_with fail
            go_ret
            exact ⟨rfl, HB.out⟩
end Go.Proofs.Ytbgpihengcjgeaa
