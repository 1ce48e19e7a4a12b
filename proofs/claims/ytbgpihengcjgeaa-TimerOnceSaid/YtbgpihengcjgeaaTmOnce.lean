/-
  The walk of TimerOnce.
-/
import Derived.Test.YtbgpihengcjgeaaTmD
import Derived.Test.YtbgpihengcjgeaaArgs
namespace Go.Proofs.Ytbgpihengcjgeaa
open Go.RowKit

set_option maxRecDepth 100000 in
theorem once_out (a b : Int) (ad : Option Addr) (len cap : Nat) (w : World) (hl : len ≤ 9223372036854775807) (h : a < 0 ∨ 100 < a ∨ b < 0 ∨ 120 < b ∨ 60 < len) :
    Calls Try.prog 3 #[.int .i64 a, .int .i64 b, .slice ad len cap] w fun e w' => e = .returned (.bool true) ∧ Below w.heap.size w w' := by
  by_cases h1 : a < 0
  · clear h
    have HA := fun W => hide (alive_any W)
    go_enter Try.func3, Try.ntmps3
    go_wp2_with fail
    (with_reducible refine (unhide (HA _)).mono ?_)
    rintro e w1 ⟨rfl, hb⟩
    go_wp2_with fail
    go_ret
    exact ⟨rfl, hb⟩
  have h1' : 0 ≤ a := by omega
  by_cases h2 : 100 < a
  · clear h h1
    have HA := fun W => hide (alive_any W)
    go_enter Try.func3, Try.ntmps3
    go_wp2_with fail
    (with_reducible refine (unhide (HA _)).mono ?_)
    rintro e w1 ⟨rfl, hb⟩
    go_wp2_with fail
    go_ret
    exact ⟨rfl, hb⟩
  have h2' : a ≤ 100 := by omega
  by_cases h3 : b < 0
  · clear h h1 h2
    have HA := fun W => hide (alive_any W)
    go_enter Try.func3, Try.ntmps3
    go_wp2_with fail
    (with_reducible refine (unhide (HA _)).mono ?_)
    rintro e w1 ⟨rfl, hb⟩
    go_wp2_with fail
    go_ret
    exact ⟨rfl, hb⟩
  have h3' : 0 ≤ b := by omega
  by_cases h4 : 120 < b
  · clear h h1 h2 h3
    have HA := fun W => hide (alive_any W)
    go_enter Try.func3, Try.ntmps3
    go_wp2_with fail
    (with_reducible refine (unhide (HA _)).mono ?_)
    rintro e w1 ⟨rfl, hb⟩
    go_wp2_with fail
    go_ret
    exact ⟨rfl, hb⟩
  have h4' : b ≤ 120 := by omega
  have h5 : (60 : Int) < len := by omega
  clear h h1 h2 h3 h4
  have HA := fun W => hide (alive_any W)
  go_enter Try.func3, Try.ntmps3
  go_wp2_with fail
  (with_reducible refine (unhide (HA _)).mono ?_)
  rintro e w1 ⟨rfl, hb⟩
  go_wp2_with fail
  go_ret
  exact ⟨rfl, hb⟩
set_option maxRecDepth 100000 in
set_option maxHeartbeats 4000000 in
theorem once_in (a b : Nat) {ad : Option Addr} {len cap : Nat} {z : List Int} {w : World} (hr : IsRow .i64 w ad len cap z) (ha : a ≤ 100) (hb : b ≤ 120) (hc : len ≤ 60) :
    Calls Try.prog 3 #[.int .i64 a, .int .i64 b, .slice ad len cap] w fun e w' => e = .returned (.bool true) ∧ Below w.heap.size w w' := by
  have hai : (a : Int) ≤ 100 := by omega
  have hbi : (b : Int) ≤ 120 := by omega
  have hci : (len : Int) ≤ 60 := by omega
  have HA := fun W => hide (alive_any W)
  have HR := fun h0 => hide (isRow_at hr h0)
  clear hr
  go_enter Try.func3, Try.ntmps3
  go_wp2_with fail
  (with_reducible refine (unhide (HA _)).mono ?_)
  rintro e w1 ⟨rfl, hb1⟩
  have h0 := T1.new2 0 hb1
  obtain ⟨W, hW⟩ : ∃ W, W = w1.alloc (.cells #[.int .i64 0, .map none] 27) := ⟨_, rfl⟩
  obtain ⟨p, hp⟩ : ∃ p, p = w1.heap.size := ⟨_, rfl⟩
  rw [← hW, ← hp] at h0
  have HS := hide (t1_start (lim := a) h0 (by omega) (wf_of (by omega)) (by omega) (by omega) (by omega))
  have HW := hide hW
  have HP := hide hp
  clear HA hb1 hW hp h0
  go_wp2_with fail
  rw [← HW.out, ← HP.out]
  (with_reducible refine (unhide HS).mono ?_)
  rintro e w2 ⟨rfl, h2⟩
  have H2 := hide h2
  clear HS h2 HW HP
  go_wp2_with fail
  go_loopg [8, 9, 10] b (fun g s8 s9 s10 wr => ∃ j last : Nat, s10 = .int .i64 (j + 1 : Nat) ∧ j + g = b ∧ last ≤ j ∧ s8 = .int .i64 last ∧ ((s9 = .int .i64 0 ∧ Hid (T1 w wr w.heap.size p j 1 0 (some ⟨a, 0, last⟩))) ∨ ∃ gn : Nat, 1 ≤ gn ∧ gn ≤ j ∧ s9 = .int .i64 gn ∧ Hid (T1 w wr w.heap.size p j 1 0 none)))
  case atStart => exact ⟨0, 0, rfl, by omega, by omega, rfl, .inl ⟨rfl, H2⟩⟩
  case round =>
    clear H2
    obtain ⟨j, last, rfl, hj, hlast, rfl, hrel⟩ := hrel
    by_cases hlt : j < b
    · have hkl : IntKind.i64.wrap ((j : Int) + 1 - last) = (j : Int) + 1 - last := by rw [IntKind.wrap_i64]; omega
      have hkl2 : wrap64 ((j : Int) + 1 - last) = (j : Int) + 1 - last := by unfold wrap64; omega
      have e0 : ((j : Int) + 1 == 0) = false := by simp; omega
      obtain ⟨gk0, hgk0⟩ : ∃ gk0, gk0 = gk - 1 := ⟨_, rfl⟩
      have hj2 : j + 1 + gk0 = b := by omega
      have hgg : gk0 < gk := by omega
      clear hgk0
      rcases hrel with ⟨rfl, h3⟩ | ⟨gn, hg1, hg2, rfl, h3⟩
      · have HLA : Hid (late ((j + 1 : Nat) : Int) ⟨a, 0, last⟩ = (decide (30 < (j : Int) + 1 - last) || (decide (0 < (a : Int)) && decide ((a : Int) < (j : Int) + 1)))) := hide (by unfold late; simp)
        by_cases d1 : 30 < (j : Int) + 1 - last
        · have d1' : decide (30 < (j : Int) + 1 - last) = true := decide_eq_true d1
          have hlt2 : late ((j + 1 : Nat) : Int) ⟨a, 0, last⟩ = true := by rw [HLA.out]; rw [d1']; rfl
          have HT := hide (t1_go (now2 := ((j + 1 : Nat) : Int)) h3.out (by omega) (by omega) (by omega) hlt2)
          clear h3 hlt2 HLA
          go_wp2_with fail
          (with_reducible refine (unhide HT).mono ?_)
          rintro e w3 ⟨⟨g, off, c1, rfl, _⟩, h8⟩
          have H8 := hide h8
          clear HT h8
          go_wp2_with fail
          go_loopg [8, 14, 87] len (fun g s8 s14 s87 wr => ∃ i : Nat, s87 = .int .i64 i ∧ i + g = len ∧ s8 = .int .i64 last ∧ Hid (T1 w wr w.heap.size p (j + 1 : Nat) 1 0 none))
          case atStart => exact ⟨0, rfl, by omega, rfl, H8⟩
          case round =>
            clear H8
            obtain ⟨i, rfl, hi, rfl, h9⟩ := hrel
            by_cases hil : i < len
            · have hi0 : 0 < len := by omega
              obtain ⟨gb, off, rfl, hgb, _, _, hzl, hcell, _⟩ := (HR hi0).out
              have hcx := (h9.out.below.cell (p := ⟨gb, off + i, none⟩) hgb).trans (hcell i (by omega))
              obtain ⟨x, hx⟩ : ∃ x, x = z.getD i 0 := ⟨_, rfl⟩
              rw [← hx] at hcx
              clear hx hcell hzl
              by_cases hxk : x = (j : Int) + 1
              · have ex : (x == (j : Int) + 1) = true := by simp [hxk]
                clear hxk
                go_wp2_with fail
                go_roundg (gk - 1)
                case measure => omega
                case rel => exact ⟨i + 1, by go_num, by omega, rfl, h9⟩
              · have ex : (x == (j : Int) + 1) = false := by simp [hxk]
                clear hxk
                go_wp2_with fail
                go_roundg (gk - 1)
                case measure => omega
                case rel => exact ⟨i + 1, by go_num, by omega, rfl, h9⟩
            · obtain rfl : i = len := by omega
              go_wp2_with fail
              go_roundg gk0
              case measure => omega
              case rel => exact ⟨j + 1, last, by go_num, by omega, by omega, rfl, .inr ⟨j + 1, by omega, by omega, rfl, h9⟩⟩
        · have d1' : decide (30 < (j : Int) + 1 - last) = false := decide_eq_false d1
          by_cases d2 : 0 < (a : Int)
          · have d2' : decide (0 < (a : Int)) = true := decide_eq_true d2
            by_cases d3 : (a : Int) < (j : Int) + 1
            · have d3' : decide ((a : Int) < (j : Int) + 1) = true := decide_eq_true d3
              have hlt2 : late ((j + 1 : Nat) : Int) ⟨a, 0, last⟩ = true := by rw [HLA.out]; rw [d1', d2', d3']; rfl
              have HT := hide (t1_go (now2 := ((j + 1 : Nat) : Int)) h3.out (by omega) (by omega) (by omega) hlt2)
              clear h3 hlt2 HLA
              go_wp2_with fail
              (with_reducible refine (unhide HT).mono ?_)
              rintro e w3 ⟨⟨g, off, c1, rfl, _⟩, h8⟩
              have H8 := hide h8
              clear HT h8
              go_wp2_with fail
              go_loopg [8, 14, 87] len (fun g s8 s14 s87 wr => ∃ i : Nat, s87 = .int .i64 i ∧ i + g = len ∧ s8 = .int .i64 last ∧ Hid (T1 w wr w.heap.size p (j + 1 : Nat) 1 0 none))
              case atStart => exact ⟨0, rfl, by omega, rfl, H8⟩
              case round =>
                clear H8
                obtain ⟨i, rfl, hi, rfl, h9⟩ := hrel
                by_cases hil : i < len
                · have hi0 : 0 < len := by omega
                  obtain ⟨gb, off, rfl, hgb, _, _, hzl, hcell, _⟩ := (HR hi0).out
                  have hcx := (h9.out.below.cell (p := ⟨gb, off + i, none⟩) hgb).trans (hcell i (by omega))
                  obtain ⟨x, hx⟩ : ∃ x, x = z.getD i 0 := ⟨_, rfl⟩
                  rw [← hx] at hcx
                  clear hx hcell hzl
                  by_cases hxk : x = (j : Int) + 1
                  · have ex : (x == (j : Int) + 1) = true := by simp [hxk]
                    clear hxk
                    go_wp2_with fail
                    go_roundg (gk - 1)
                    case measure => omega
                    case rel => exact ⟨i + 1, by go_num, by omega, rfl, h9⟩
                  · have ex : (x == (j : Int) + 1) = false := by simp [hxk]
                    clear hxk
                    go_wp2_with fail
                    go_roundg (gk - 1)
                    case measure => omega
                    case rel => exact ⟨i + 1, by go_num, by omega, rfl, h9⟩
                · obtain rfl : i = len := by omega
                  go_wp2_with fail
                  go_roundg gk0
                  case measure => omega
                  case rel => exact ⟨j + 1, last, by go_num, by omega, by omega, rfl, .inr ⟨j + 1, by omega, by omega, rfl, h9⟩⟩
            · have d3' : decide ((a : Int) < (j : Int) + 1) = false := decide_eq_false d3
              have hlt2 : late ((j + 1 : Nat) : Int) ⟨a, 0, last⟩ = false := by rw [HLA.out]; rw [d1', d2', d3']; rfl
              have HT := hide (t1_stay (now2 := ((j + 1 : Nat) : Int)) h3.out (by omega) (by omega) (by omega) (by intro o ho; cases ho; exact hlt2))
              clear h3 hlt2 HLA
              go_wp2_with fail
              (with_reducible refine (unhide HT).mono ?_)
              rintro e w3 ⟨⟨a1, c1, rfl⟩, h8⟩
              have H8 := hide h8
              clear HT h8
              go_wp2_with fail
              clear hkl hkl2 d1 d1' d2 d2' d3 d3'
              go_loopg [8, 14, 87] len (fun g s8 s14 s87 wr => ∃ i l2 : Nat, s87 = .int .i64 i ∧ i + g = len ∧ l2 ≤ j + 1 ∧ s8 = .int .i64 l2 ∧ Hid (T1 w wr w.heap.size p (j + 1 : Nat) 1 0 (some ⟨a, 0, l2⟩)))
              case atStart => exact ⟨0, last, rfl, by omega, by omega, rfl, H8⟩
              case round =>
                clear H8
                obtain ⟨i, l2, rfl, hi, hl2, rfl, h9⟩ := hrel
                by_cases hil : i < len
                · have hi0 : 0 < len := by omega
                  obtain ⟨gb, off, rfl, hgb, _, _, hzl, hcell, _⟩ := (HR hi0).out
                  have hcx := (h9.out.below.cell (p := ⟨gb, off + i, none⟩) hgb).trans (hcell i (by omega))
                  obtain ⟨x, hx⟩ : ∃ x, x = z.getD i 0 := ⟨_, rfl⟩
                  rw [← hx] at hcx
                  clear hx hcell hzl
                  by_cases hxk : x = (j : Int) + 1
                  · have ex : (x == (j : Int) + 1) = true := by simp [hxk]
                    have HT := hide (t1_touch h9.out)
                    clear hxk h9
                    go_wp2_with fail
                    (with_reducible refine (unhide HT).mono ?_)
                    rintro e w4 ⟨rfl, h10⟩
                    have H10 := hide h10
                    clear HT h10
                    go_wp2_with fail
                    go_roundg (gk - 1)
                    case measure => omega
                    case rel => exact ⟨i + 1, j + 1, by go_num, by omega, by omega, by go_num, H10⟩
                  · have ex : (x == (j : Int) + 1) = false := by simp [hxk]
                    clear hxk
                    go_wp2_with fail
                    go_roundg (gk - 1)
                    case measure => omega
                    case rel => exact ⟨i + 1, l2, by go_num, by omega, by omega, rfl, h9⟩
                · obtain rfl : i = len := by omega
                  go_wp2_with fail
                  go_roundg gk0
                  case measure => omega
                  case rel => exact ⟨j + 1, l2, by go_num, by omega, by omega, rfl, .inl ⟨rfl, h9⟩⟩
          · have d2' : decide (0 < (a : Int)) = false := decide_eq_false d2
            have hlt2 : late ((j + 1 : Nat) : Int) ⟨a, 0, last⟩ = false := by rw [HLA.out]; rw [d1', d2']; rfl
            have HT := hide (t1_stay (now2 := ((j + 1 : Nat) : Int)) h3.out (by omega) (by omega) (by omega) (by intro o ho; cases ho; exact hlt2))
            clear h3 hlt2 HLA
            go_wp2_with fail
            (with_reducible refine (unhide HT).mono ?_)
            rintro e w3 ⟨⟨a1, c1, rfl⟩, h8⟩
            have H8 := hide h8
            clear HT h8
            go_wp2_with fail
            clear hkl hkl2 d1 d1' d2 d2'
            go_loopg [8, 14, 87] len (fun g s8 s14 s87 wr => ∃ i l2 : Nat, s87 = .int .i64 i ∧ i + g = len ∧ l2 ≤ j + 1 ∧ s8 = .int .i64 l2 ∧ Hid (T1 w wr w.heap.size p (j + 1 : Nat) 1 0 (some ⟨a, 0, l2⟩)))
            case atStart => exact ⟨0, last, rfl, by omega, by omega, rfl, H8⟩
            case round =>
              clear H8
              obtain ⟨i, l2, rfl, hi, hl2, rfl, h9⟩ := hrel
              by_cases hil : i < len
              · have hi0 : 0 < len := by omega
                obtain ⟨gb, off, rfl, hgb, _, _, hzl, hcell, _⟩ := (HR hi0).out
                have hcx := (h9.out.below.cell (p := ⟨gb, off + i, none⟩) hgb).trans (hcell i (by omega))
                obtain ⟨x, hx⟩ : ∃ x, x = z.getD i 0 := ⟨_, rfl⟩
                rw [← hx] at hcx
                clear hx hcell hzl
                by_cases hxk : x = (j : Int) + 1
                · have ex : (x == (j : Int) + 1) = true := by simp [hxk]
                  have HT := hide (t1_touch h9.out)
                  clear hxk h9
                  go_wp2_with fail
                  (with_reducible refine (unhide HT).mono ?_)
                  rintro e w4 ⟨rfl, h10⟩
                  have H10 := hide h10
                  clear HT h10
                  go_wp2_with fail
                  go_roundg (gk - 1)
                  case measure => omega
                  case rel => exact ⟨i + 1, j + 1, by go_num, by omega, by omega, by go_num, H10⟩
                · have ex : (x == (j : Int) + 1) = false := by simp [hxk]
                  clear hxk
                  go_wp2_with fail
                  go_roundg (gk - 1)
                  case measure => omega
                  case rel => exact ⟨i + 1, l2, by go_num, by omega, by omega, rfl, h9⟩
              · obtain rfl : i = len := by omega
                go_wp2_with fail
                go_roundg gk0
                case measure => omega
                case rel => exact ⟨j + 1, l2, by go_num, by omega, by omega, rfl, .inl ⟨rfl, h9⟩⟩
      · have e1 : ((gn : Int) == 0) = false := by simp; omega
        have e2 : ((gn : Int) == (j : Int) + 1) = false := by simp; omega
        have HT := hide (t1_stay (now2 := ((j + 1 : Nat) : Int)) h3.out (by omega) (by omega) (by omega) (by intro o ho; cases ho))
        clear h3
        by_cases d1 : 30 < (j : Int) + 1 - last
        · go_wp2_with fail
          (with_reducible refine (unhide HT).mono ?_)
          rintro e w3 ⟨⟨a1, c1, rfl⟩, h8⟩
          have H8 := hide h8
          clear HT h8
          go_wp2_with fail
          go_loopg [8, 14, 87] len (fun g s8 s14 s87 wr => ∃ i : Nat, s87 = .int .i64 i ∧ i + g = len ∧ s8 = .int .i64 last ∧ Hid (T1 w wr w.heap.size p (j + 1 : Nat) 1 0 none))
          case atStart => exact ⟨0, rfl, by omega, rfl, H8⟩
          case round =>
            clear H8
            obtain ⟨i, rfl, hi, rfl, h9⟩ := hrel
            by_cases hil : i < len
            · have hi0 : 0 < len := by omega
              obtain ⟨gb, off, rfl, hgb, _, _, hzl, hcell, _⟩ := (HR hi0).out
              have hcx := (h9.out.below.cell (p := ⟨gb, off + i, none⟩) hgb).trans (hcell i (by omega))
              obtain ⟨x, hx⟩ : ∃ x, x = z.getD i 0 := ⟨_, rfl⟩
              rw [← hx] at hcx
              clear hx hcell hzl
              by_cases hxk : x = (j : Int) + 1
              · have ex : (x == (j : Int) + 1) = true := by simp [hxk]
                clear hxk
                go_wp2_with fail
                go_roundg (gk - 1)
                case measure => omega
                case rel => exact ⟨i + 1, by go_num, by omega, rfl, h9⟩
              · have ex : (x == (j : Int) + 1) = false := by simp [hxk]
                clear hxk
                go_wp2_with fail
                go_roundg (gk - 1)
                case measure => omega
                case rel => exact ⟨i + 1, by go_num, by omega, rfl, h9⟩
            · obtain rfl : i = len := by omega
              go_wp2_with fail
              go_roundg gk0
              case measure => omega
              case rel => exact ⟨j + 1, last, by go_num, by omega, by omega, rfl, .inr ⟨gn, by omega, by omega, rfl, h9⟩⟩
        by_cases d2 : 0 < (a : Int)
        · by_cases d3 : (a : Int) < (j : Int) + 1
          · go_wp2_with fail
            (with_reducible refine (unhide HT).mono ?_)
            rintro e w3 ⟨⟨a1, c1, rfl⟩, h8⟩
            have H8 := hide h8
            clear HT h8
            go_wp2_with fail
            go_loopg [8, 14, 87] len (fun g s8 s14 s87 wr => ∃ i : Nat, s87 = .int .i64 i ∧ i + g = len ∧ s8 = .int .i64 last ∧ Hid (T1 w wr w.heap.size p (j + 1 : Nat) 1 0 none))
            case atStart => exact ⟨0, rfl, by omega, rfl, H8⟩
            case round =>
              clear H8
              obtain ⟨i, rfl, hi, rfl, h9⟩ := hrel
              by_cases hil : i < len
              · have hi0 : 0 < len := by omega
                obtain ⟨gb, off, rfl, hgb, _, _, hzl, hcell, _⟩ := (HR hi0).out
                have hcx := (h9.out.below.cell (p := ⟨gb, off + i, none⟩) hgb).trans (hcell i (by omega))
                obtain ⟨x, hx⟩ : ∃ x, x = z.getD i 0 := ⟨_, rfl⟩
                rw [← hx] at hcx
                clear hx hcell hzl
                by_cases hxk : x = (j : Int) + 1
                · have ex : (x == (j : Int) + 1) = true := by simp [hxk]
                  clear hxk
                  go_wp2_with fail
                  go_roundg (gk - 1)
                  case measure => omega
                  case rel => exact ⟨i + 1, by go_num, by omega, rfl, h9⟩
                · have ex : (x == (j : Int) + 1) = false := by simp [hxk]
                  clear hxk
                  go_wp2_with fail
                  go_roundg (gk - 1)
                  case measure => omega
                  case rel => exact ⟨i + 1, by go_num, by omega, rfl, h9⟩
              · obtain rfl : i = len := by omega
                go_wp2_with fail
                go_roundg gk0
                case measure => omega
                case rel => exact ⟨j + 1, last, by go_num, by omega, by omega, rfl, .inr ⟨gn, by omega, by omega, rfl, h9⟩⟩
          · go_wp2_with fail
            (with_reducible refine (unhide HT).mono ?_)
            rintro e w3 ⟨⟨a1, c1, rfl⟩, h8⟩
            have H8 := hide h8
            clear HT h8
            go_wp2_with fail
            go_loopg [8, 14, 87] len (fun g s8 s14 s87 wr => ∃ i : Nat, s87 = .int .i64 i ∧ i + g = len ∧ s8 = .int .i64 last ∧ Hid (T1 w wr w.heap.size p (j + 1 : Nat) 1 0 none))
            case atStart => exact ⟨0, rfl, by omega, rfl, H8⟩
            case round =>
              clear H8
              obtain ⟨i, rfl, hi, rfl, h9⟩ := hrel
              by_cases hil : i < len
              · have hi0 : 0 < len := by omega
                obtain ⟨gb, off, rfl, hgb, _, _, hzl, hcell, _⟩ := (HR hi0).out
                have hcx := (h9.out.below.cell (p := ⟨gb, off + i, none⟩) hgb).trans (hcell i (by omega))
                obtain ⟨x, hx⟩ : ∃ x, x = z.getD i 0 := ⟨_, rfl⟩
                rw [← hx] at hcx
                clear hx hcell hzl
                by_cases hxk : x = (j : Int) + 1
                · have ex : (x == (j : Int) + 1) = true := by simp [hxk]
                  clear hxk
                  go_wp2_with fail
                  go_roundg (gk - 1)
                  case measure => omega
                  case rel => exact ⟨i + 1, by go_num, by omega, rfl, h9⟩
                · have ex : (x == (j : Int) + 1) = false := by simp [hxk]
                  clear hxk
                  go_wp2_with fail
                  go_roundg (gk - 1)
                  case measure => omega
                  case rel => exact ⟨i + 1, by go_num, by omega, rfl, h9⟩
              · obtain rfl : i = len := by omega
                go_wp2_with fail
                go_roundg gk0
                case measure => omega
                case rel => exact ⟨j + 1, last, by go_num, by omega, by omega, rfl, .inr ⟨gn, by omega, by omega, rfl, h9⟩⟩
        · go_wp2_with fail
          (with_reducible refine (unhide HT).mono ?_)
          rintro e w3 ⟨⟨a1, c1, rfl⟩, h8⟩
          have H8 := hide h8
          clear HT h8
          go_wp2_with fail
          go_loopg [8, 14, 87] len (fun g s8 s14 s87 wr => ∃ i : Nat, s87 = .int .i64 i ∧ i + g = len ∧ s8 = .int .i64 last ∧ Hid (T1 w wr w.heap.size p (j + 1 : Nat) 1 0 none))
          case atStart => exact ⟨0, rfl, by omega, rfl, H8⟩
          case round =>
            clear H8
            obtain ⟨i, rfl, hi, rfl, h9⟩ := hrel
            by_cases hil : i < len
            · have hi0 : 0 < len := by omega
              obtain ⟨gb, off, rfl, hgb, _, _, hzl, hcell, _⟩ := (HR hi0).out
              have hcx := (h9.out.below.cell (p := ⟨gb, off + i, none⟩) hgb).trans (hcell i (by omega))
              obtain ⟨x, hx⟩ : ∃ x, x = z.getD i 0 := ⟨_, rfl⟩
              rw [← hx] at hcx
              clear hx hcell hzl
              by_cases hxk : x = (j : Int) + 1
              · have ex : (x == (j : Int) + 1) = true := by simp [hxk]
                clear hxk
                go_wp2_with fail
                go_roundg (gk - 1)
                case measure => omega
                case rel => exact ⟨i + 1, by go_num, by omega, rfl, h9⟩
              · have ex : (x == (j : Int) + 1) = false := by simp [hxk]
                clear hxk
                go_wp2_with fail
                go_roundg (gk - 1)
                case measure => omega
                case rel => exact ⟨i + 1, by go_num, by omega, rfl, h9⟩
            · obtain rfl : i = len := by omega
              go_wp2_with fail
              go_roundg gk0
              case measure => omega
              case rel => exact ⟨j + 1, last, by go_num, by omega, by omega, rfl, .inr ⟨gn, by omega, by omega, rfl, h9⟩⟩
    · obtain rfl : j = b := by omega
      have HB : Hid (Below w.heap.size w wr) := by
        rcases hrel with ⟨_, h3⟩ | ⟨gn, _, _, _, h3⟩
        · exact hide h3.out.below
        · exact hide h3.out.below
      clear hrel
      go_wp2_with fail
      go_ret
      exact ⟨rfl, HB.out⟩
end Go.Proofs.Ytbgpihengcjgeaa
