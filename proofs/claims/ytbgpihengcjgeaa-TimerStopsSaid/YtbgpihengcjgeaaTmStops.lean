/-
  The walk of TimerStops.
-/
import Derived.Test.YtbgpihengcjgeaaTmD
namespace Go.Proofs.Ytbgpihengcjgeaa
open Go.RowKit

set_option maxRecDepth 100000 in
theorem stops_out (a b : Int) (w : World) (h : a < 0 ∨ 30 < a ∨ b < 0 ∨ 60 < b) :
    Calls Try.prog 5 #[.int .i64 a, .int .i64 b] w fun e w' => e = .returned (.bool true) ∧ Below w.heap.size w w' := by
  by_cases h1 : a < 0
  · clear h
    have HA := fun W => hide (alive_any W)
    go_enter Try.func5, Try.ntmps5
    go_wp2_with fail
    (with_reducible refine (unhide (HA _)).mono ?_)
    rintro e w1 ⟨rfl, hb⟩
    go_wp2_with fail
    go_ret
    exact ⟨rfl, hb⟩
  have h1' : 0 ≤ a := by omega
  by_cases h2 : 30 < a
  · clear h h1
    have HA := fun W => hide (alive_any W)
    go_enter Try.func5, Try.ntmps5
    go_wp2_with fail
    (with_reducible refine (unhide (HA _)).mono ?_)
    rintro e w1 ⟨rfl, hb⟩
    go_wp2_with fail
    go_ret
    exact ⟨rfl, hb⟩
  have h2' : a ≤ 30 := by omega
  by_cases h3 : b < 0
  · clear h h1 h2
    have HA := fun W => hide (alive_any W)
    go_enter Try.func5, Try.ntmps5
    go_wp2_with fail
    (with_reducible refine (unhide (HA _)).mono ?_)
    rintro e w1 ⟨rfl, hb⟩
    go_wp2_with fail
    go_ret
    exact ⟨rfl, hb⟩
  have h3' : 0 ≤ b := by omega
  have h4 : 60 < b := by omega
  clear h h1 h2 h3
  have HA := fun W => hide (alive_any W)
  go_enter Try.func5, Try.ntmps5
  go_wp2_with fail
  (with_reducible refine (unhide (HA _)).mono ?_)
  rintro e w1 ⟨rfl, hb⟩
  go_wp2_with fail
  go_ret
  exact ⟨rfl, hb⟩
theorem late_quiet {now k : Int} (lim : Int) (h : now - k ≤ 30) (hl : lim = 0) : late now ⟨lim, k, k⟩ = false := by
  subst hl
  unfold late
  simp
  omega
theorem late_idle {now : Int} {o : One} (h : 30 < now - o.active) : late now o = true := by
  unfold late
  simp [h]
set_option maxRecDepth 100000 in
set_option maxHeartbeats 1000000 in
theorem stops_in (a b : Nat) (w : World) (ha : a ≤ 30) (hb : b ≤ 60) :
    Calls Try.prog 5 #[.int .i64 a, .int .i64 b] w fun e w' => e = .returned (.bool true) ∧ Below w.heap.size w w' := by
  have hai : (a : Int) ≤ 30 := by omega
  have hbi : (b : Int) ≤ 60 := by omega
  have HA := fun W => hide (alive_any W)
  go_enter Try.func5, Try.ntmps5
  go_wp2_with fail
  (with_reducible refine (unhide (HA _)).mono ?_)
  rintro e w1 ⟨rfl, hb1⟩
  have h0 := T1.new2 1 hb1
  obtain ⟨W, hW⟩ : ∃ W, W = w1.alloc (.cells #[.int .i64 0, .map none] 27) := ⟨_, rfl⟩
  obtain ⟨p, hp⟩ : ∃ p, p = w1.heap.size := ⟨_, rfl⟩
  rw [← hW, ← hp] at h0
  have HS := hide (t1_start (lim := 0) h0 (by omega) (wf_of (by omega)) (by omega) (by omega) (by omega))
  have HW := hide hW
  have HP := hide hp
  clear HA hb1 hW hp h0
  go_wp2_with fail
  rw [← HW.out, ← HP.out]
  (with_reducible refine (unhide HS).mono ?_)
  rintro e w2 ⟨rfl, h2⟩
  have H2 := hide h2
  clear HS h2 HW HP
  go_wp2_with fail
  go_loopg [6] a (fun g s6 wr => ∃ k : Nat, s6 = .int .i64 k ∧ k + g = a ∧ Hid (T1 w wr w.heap.size p k 1 1 (some ⟨0, 0, 0⟩)))
  case atStart => exact ⟨0, rfl, by omega, H2⟩
  case round =>
    clear H2
    obtain ⟨k, rfl, hk, h3⟩ := hrel
    by_cases hlt : k < a
    · have HT := hide (t1_stay (now2 := ((k + 1 : Nat) : Int)) h3.out (by omega) (by omega) (by omega) (by intro o ho; cases ho; exact late_quiet 0 (by omega) rfl))
      clear h3
      go_wp2_with fail
      (with_reducible refine (unhide HT).mono ?_)
      rintro e w3 ⟨⟨a1, c1, rfl⟩, h4⟩
      have H4 := hide h4
      clear HT h4
      go_wp2_with fail
      go_roundg (gk - 1)
      case measure => omega
      case rel => exact ⟨k + 1, by go_num, by omega, H4⟩
    · obtain rfl : k = a := by omega
      have HT := hide (t1_stop h3.out)
      clear h3
      go_wp2_with fail
      (with_reducible refine (unhide HT).mono ?_)
      rintro e w3 ⟨rfl, h4⟩
      have HT2 := hide (t1_stop_none h4 (wf_of (by omega)))
      have HT3 := hide (t1_touch_none h4 (wf_of (by omega)))
      have HT4 := hide (t1_start (lim := 0) h4 (by omega) (wf_of (by omega)) (by omega) (by omega) (by omega))
      clear HT h4
      go_wp2_with fail
      (with_reducible refine (unhide HT2).mono ?_)
      rintro e w4 ⟨rfl, hw4⟩
      subst hw4
      go_wp2_with fail
      (with_reducible refine (unhide HT3).mono ?_)
      rintro e w5 ⟨rfl, hw5⟩
      subst hw5
      go_wp2_with fail
      (with_reducible refine (unhide HT4).mono ?_)
      rintro e w6 ⟨rfl, h6⟩
      have H6 := hide h6
      clear HT2 HT3 HT4 h6
      go_wp2_with fail
      go_loopg [7, 8] b (fun g s7 s8 wr => ∃ j : Nat, s8 = .int .i64 (j + 1 : Nat) ∧ j + g = b ∧ ((j ≤ 30 ∧ s7 = .int .i64 0 ∧ Hid (T1 w wr w.heap.size p ((k + j : Nat) : Int) 2 1 (some ⟨0, k, k⟩))) ∨ (30 < j ∧ s7 = .int .i64 31 ∧ Hid (T1 w wr w.heap.size p ((k + j : Nat) : Int) 2 1 none))))
      case atStart => exact ⟨0, rfl, by omega, .inl ⟨by omega, rfl, H6⟩⟩
      case round =>
        clear H6
        obtain ⟨j, rfl, hj, hrel⟩ := hrel
        rcases hrel with ⟨hj30, rfl, h7⟩ | ⟨hj30, rfl, h7⟩
        · by_cases hlt : j < b
          · by_cases h31 : j < 30
            · have HT := hide (t1_stay (now2 := ((k + (j + 1) : Nat) : Int)) h7.out (by omega) (by omega) (by omega) (by intro o ho; cases ho; exact late_quiet 0 (by omega) rfl))
              clear h7
              go_wp2_with fail
              (with_reducible refine (unhide HT).mono ?_)
              rintro e w3 ⟨⟨a1, c1, rfl⟩, h8⟩
              have H8 := hide h8
              clear HT h8
              go_wp2_with fail
              go_roundg (gk - 1)
              case measure => omega
              case rel => exact ⟨j + 1, by go_num, by omega, .inl ⟨by omega, rfl, H8⟩⟩
            · obtain rfl : j = 30 := by omega
              have HT := hide (t1_go (now2 := ((k + (30 + 1) : Nat) : Int)) h7.out (by omega) (by omega) (by omega) (late_idle (by simp only; omega)))
              clear h7
              go_wp2_with fail
              (with_reducible refine (unhide HT).mono ?_)
              rintro e w3 ⟨⟨g, off, c1, rfl, _⟩, h8⟩
              have H8 := hide h8
              clear HT h8
              go_wp2_with fail
              go_roundg (gk - 1)
              case measure => omega
              case rel => exact ⟨30 + 1, by go_num, by omega, .inr ⟨by omega, rfl, H8⟩⟩
          · obtain rfl : j = b := by omega
            have HB := hide h7.out.below
            have hj2 : (j : Int) ≤ 30 := by omega
            clear h7
            go_wp2_with fail
            go_ret
            exact ⟨rfl, HB.out⟩
        · by_cases hlt : j < b
          · have HT := hide (t1_stay (now2 := ((k + (j + 1) : Nat) : Int)) h7.out (by omega) (by omega) (by omega) (by intro o ho; cases ho))
            clear h7
            go_wp2_with fail
            (with_reducible refine (unhide HT).mono ?_)
            rintro e w3 ⟨⟨a1, c1, rfl⟩, h8⟩
            have H8 := hide h8
            clear HT h8
            go_wp2_with fail
            go_roundg (gk - 1)
            case measure => omega
            case rel => exact ⟨j + 1, by go_num, by omega, .inr ⟨by omega, rfl, H8⟩⟩
          · obtain rfl : j = b := by omega
            have HB := hide h7.out.below
            have hj2 : ¬ (j : Int) ≤ 30 := by omega
            clear h7
            go_wp2_with fail
            go_ret
            exact ⟨rfl, HB.out⟩
end Go.Proofs.Ytbgpihengcjgeaa
