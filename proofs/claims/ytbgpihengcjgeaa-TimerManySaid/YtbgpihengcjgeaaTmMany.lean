/-
  The walk of TimerMany.
-/
import Derived.Test.YtbgpihengcjgeaaTmE
import Derived.Test.YtbgpihengcjgeaaArgs2
namespace Go.Proofs.Ytbgpihengcjgeaa
open Go.RowKit

set_option maxRecDepth 100000 in
theorem many_out (a b : Int) (ad : Option Addr) (len cap : Nat) (w : World) (hl : len ≤ 9223372036854775807) (h : a < 0 ∨ 20 < a ∨ (len : Int) ≠ a ∨ b < 0 ∨ 80 < b) :
    Calls Try.prog 4 #[.int .i64 a, .slice ad len cap, .int .i64 b] w fun e w' => e = .returned (.bool true) ∧ Below w.heap.size w w' := by
  by_cases h1 : a < 0
  · clear h
    have HA := fun W => hide (alive_any W)
    go_enter Try.func4, Try.ntmps4
    go_wp2_with fail
    (with_reducible refine (unhide (HA _)).mono ?_)
    rintro e w1 ⟨rfl, hb⟩
    go_wp2_with fail
    go_ret
    exact ⟨rfl, hb⟩
  have h1' : 0 ≤ a := by omega
  by_cases h2 : 20 < a
  · clear h h1
    have HA := fun W => hide (alive_any W)
    go_enter Try.func4, Try.ntmps4
    go_wp2_with fail
    (with_reducible refine (unhide (HA _)).mono ?_)
    rintro e w1 ⟨rfl, hb⟩
    go_wp2_with fail
    go_ret
    exact ⟨rfl, hb⟩
  have h2' : a ≤ 20 := by omega
  by_cases h3 : (len : Int) = a
  · subst h3
    by_cases h4 : b < 0
    · clear h h1 h2
      have HA := fun W => hide (alive_any W)
      go_enter Try.func4, Try.ntmps4
      go_wp2_with fail
      (with_reducible refine (unhide (HA _)).mono ?_)
      rintro e w1 ⟨rfl, hb⟩
      go_wp2_with fail
      go_ret
      exact ⟨rfl, hb⟩
    have h4' : 0 ≤ b := by omega
    have h5 : 80 < b := by omega
    clear h h1 h2 h4
    have HA := fun W => hide (alive_any W)
    go_enter Try.func4, Try.ntmps4
    go_wp2_with fail
    (with_reducible refine (unhide (HA _)).mono ?_)
    rintro e w1 ⟨rfl, hb⟩
    go_wp2_with fail
    go_ret
    exact ⟨rfl, hb⟩
  · have h3' : ((len : Int) != a) = true := by simp [h3]
    clear h h1 h2 h3
    have HA := fun W => hide (alive_any W)
    go_enter Try.func4, Try.ntmps4
    go_wp2_with fail
    (with_reducible refine (unhide (HA _)).mono ?_)
    rintro e w1 ⟨rfl, hb⟩
    go_wp2_with fail
    go_ret
    exact ⟨rfl, hb⟩
set_option maxRecDepth 100000 in
set_option maxHeartbeats 4000000 in
theorem many_in (n tk : Nat) {ad : Option Addr} {cap : Nat} {z : List Bool} {w : World} (hr : IsBools w ad n cap z) (hn : n ≤ 20) (ht : tk ≤ 80) :
    Calls Try.prog 4 #[.int .i64 n, .slice ad n cap, .int .i64 tk] w fun e w' => e = .returned (.bool true) ∧ Below w.heap.size w w' := by
  have hni : (n : Int) ≤ 20 := by omega
  have hti : (tk : Int) ≤ 80 := by omega
  have HA := fun W => hide (alive_any W)
  have HR := fun h0 => hide (isBools_at hr h0)
  have HBZ : Hid (∀ (i : Nat) W, i < n → Below w.heap.size w W → ∃ gb off, ad = some ⟨gb, off, none⟩ ∧ W.cell? ⟨gb, off + i, none⟩ = some (.bool (bzs z i))) := hide (fun i W hi hb => by
    obtain ⟨gb, off, h1, h2, h3, _, h4, h5⟩ := (HR (by omega)).out
    refine ⟨gb, off, h1, (hb.cell (p := ⟨gb, off + i, none⟩) h2).trans ?_⟩
    rw [h5 i (by omega)]
    unfold bzs
    rw [List.getD_eq_getElem?_getD, List.getElem?_eq_getElem (by omega)]
    rfl)
  clear hr HR
  go_enter Try.func4, Try.ntmps4
  go_wp2_with fail
  (with_reducible refine (unhide (HA _)).mono ?_)
  rintro e w1 ⟨rfl, hb1⟩
  have h0 := TA.new2 hb1
  obtain ⟨W, hW⟩ : ∃ W, W = w1.alloc (.cells #[.int .i64 0, .map none] 27) := ⟨_, rfl⟩
  obtain ⟨p, hp⟩ : ∃ p, p = w1.heap.size := ⟨_, rfl⟩
  rw [← hW, ← hp, ← fM_zero] at h0
  have H0 := hide h0
  have HW := hide hW
  have HP := hide hp
  clear HA hb1 hW hp h0
  go_wp2_with fail
  rw [← HW.out, ← HP.out]
  clear HW HP
  go_loopg [8] n (fun g s8 wr => ∃ i : Nat, s8 = .int .i64 i ∧ i + g = n ∧ Hid (TA w wr w.heap.size p 0 i (fM i)))
  case atStart => exact ⟨0, rfl, by omega, H0⟩
  case round =>
    clear H0
    obtain ⟨i, rfl, hi, h3⟩ := hrel
    by_cases hlt : i < n
    · have HT := hide (ta_start (id := i) (lim := 0) h3.out (fM_out i) (by omega) (wf_of (by omega)) (by omega) (by omega) (by omega))
      rw [fM_succ] at HT
      clear h3
      go_wp2_with fail
      (with_reducible refine (unhide HT).mono ?_)
      rintro e w3 ⟨rfl, h4⟩
      have H4 := hide h4
      clear HT h4
      go_wp2_with fail
      go_roundg (gk - 1)
      case measure => omega
      case rel => exact ⟨i + 1, by go_num, by omega, H4⟩
    · obtain rfl : i = n := by omega
      have h4 := h3.out
      rw [fM_all i z] at h4
      have H4 := hide h4
      clear h3 h4
      go_wp2_with fail
      go_loopg [9, 10] tk (fun g s9 s10 wr => ∃ (j gn : Nat) (d : Bool), s10 = .int .i64 (j + 1 : Nat) ∧ j + g = tk ∧ s9 = .int .i64 gn ∧ ((d = true ∧ j ≤ 30 ∧ gn = 0) ∨ (d = false ∧ 30 < j ∧ gn = quietN z i)) ∧ Hid (TA w wr w.heap.size p j i (gM i z (j + 1 : Nat) 0 d)))
      case atStart => exact ⟨0, 0, true, rfl, by omega, rfl, .inl ⟨rfl, by omega, rfl⟩, H4⟩
      case round =>
        clear H4
        obtain ⟨j, gn, d, rfl, hj, rfl, hd, h5⟩ := hrel
        by_cases hlt : j < tk
        · obtain ⟨gk0, hgk0⟩ : ∃ gk0, gk0 = gk - 1 := ⟨_, rfl⟩
          have hj2 : j + 1 + gk0 = tk := by omega
          have hgg : gk0 < gk := by omega
          clear hgk0
          rcases hd with ⟨rfl, hj30, rfl⟩ | ⟨rfl, hj30, rfl⟩
          · by_cases h30 : j = 30
            · have HT := hide (tickM_go h30 h5.out (by omega))
              have e31 : ((j : Int) + 1 != 31) = false := by rw [h30]; rfl
              clear h5
              go_wp2_with fail
              (with_reducible refine (unhide HT).mono ?_)
              rintro e w6 ⟨v, zs, rfl, hv, hz, hq, h6⟩
              obtain ⟨q, hqq⟩ : ∃ q, q = zs.length := ⟨_, rfl⟩
              have hv2 := hv
              unfold LIs at hv2
              rw [← hqq] at hv2
              obtain ⟨av, cv, hvf⟩ := hv2.form
              subst hvf
              have hqn : q ≤ i := by rw [hqq, hq]; exact quietN_le z i
              have H6 := hide h6
              have HV := hide hv2
              have HZ := hide hz
              have HQ := hide hqq
              have HQN := hide (hqq.trans hq)
              clear HT h6 hv hv2 hz hq hqq
              go_wp2_with fail
              go_loopg [9, 12, 61] q (fun g s9 s12 s61 wr => ∃ m : Nat, s61 = .int .i64 m ∧ m + g = q ∧ s9 = .int .i64 m ∧ w6 = wr)
              case atStart => exact ⟨0, rfl, by omega, rfl, rfl⟩
              case round =>
                obtain ⟨m, rfl, hm, rfl, hwr⟩ := hrel
                subst hwr
                by_cases hml : m < q
                · have hmz : m < zs.length := by rw [← HQ.out]; exact hml
                  obtain ⟨gv, ov, cap2, hvv, hcv, _⟩ := HV.out.cell m (by rw [intsL_length]; exact hmz)
                  injection hvv with e1 e2 e3
                  obtain ⟨x, hx⟩ : ∃ x, x = zs[m] := ⟨_, rfl⟩
                  have hcx : w6.cell? ⟨gv, ov + m, none⟩ = some (.int .i64 x) := by rw [hcv]; simp [intsL, hx]
                  obtain ⟨⟨x0, x1⟩, xb⟩ := (HZ.out x).1 (by rw [hx]; exact List.getElem_mem hmz)
                  obtain ⟨gb, off, hab, hc⟩ := HBZ.out x.toNat w6 (by omega) H6.out.below
                  rw [xb] at hc
                  subst hab
                  subst e1
                  clear hmz e2 e3 hx hcv xb
                  go_wp2_with fail
                  go_roundg (gk - 1)
                  case measure => omega
                  case rel => exact ⟨m + 1, by go_num, by omega, by go_num, rfl⟩
                · obtain rfl : q = m := by omega
                  go_wp2_with fail
                  go_loopg [13] i (fun g s13 wr => ∃ m : Nat, s13 = .int .i64 m ∧ m + g = i ∧ Hid (TA w wr w.heap.size p (j + 1 : Nat) i (gM i z (j + 1 : Nat) m false)))
                  case atStart => exact ⟨0, rfl, by omega, H6⟩
                  case round =>
                    clear H6
                    obtain ⟨m, rfl, hm, h7⟩ := hrel
                    by_cases hml : m < i
                    · obtain ⟨gb, off, hab, hc⟩ := HBZ.out m _ hml h7.out.below
                      by_cases hbz : bzs z m = true
                      · rw [hbz] at hc
                        have HT := hide (ta_touch (id := m) h7.out (gM_at hml hbz _ _))
                        simp only at HT
                        rw [gM_touch hml hbz] at HT
                        subst hab
                        clear hbz h7
                        go_wp2_with fail
                        (with_reducible refine (unhide HT).mono ?_)
                        rintro e w7 ⟨rfl, h8⟩
                        have H8 := hide h8
                        clear HT h8
                        go_wp2_with fail
                        go_roundg (gk - 1)
                        case measure => omega
                        case rel => exact ⟨m + 1, by go_num, by omega, H8⟩
                      · have hbz2 : bzs z m = false := by simpa using hbz
                        rw [hbz2] at hc
                        have h8 := h7.out
                        rw [gM_skip hbz2] at h8
                        have H8 := hide h8
                        subst hab
                        clear hbz hbz2 h7 h8
                        go_wp2_with fail
                        go_roundg (gk - 1)
                        case measure => omega
                        case rel => exact ⟨m + 1, by go_num, by omega, H8⟩
                    · obtain rfl : i = m := by omega
                      have h8 := h7.out
                      rw [gM_next] at h8
                      have H8 := hide h8
                      clear h7 h8
                      go_wp2_with fail
                      go_roundg gk0
                      case measure => omega
                      case rel => exact ⟨j + 1, q, false, by go_num, by omega, rfl, (.inr ⟨rfl, by omega, HQN.out⟩), H8⟩
            · have hj29 : j < 30 := by omega
              have HT := hide (tickM_stay h5.out (fun _ => hj29) (by omega) (by omega))
              clear h5
              go_wp2_with fail
              (with_reducible refine (unhide HT).mono ?_)
              rintro e w6 ⟨⟨a6, c6, rfl⟩, h6⟩
              have H6 := hide h6
              clear HT h6
              go_wp2_with fail
              refine wp_loop_rounds 1 ?_
              rw [rounds_succ]
              go_wp2_with fail
              go_loopg [13] i (fun g s13 wr => ∃ m : Nat, s13 = .int .i64 m ∧ m + g = i ∧ Hid (TA w wr w.heap.size p (j + 1 : Nat) i (gM i z (j + 1 : Nat) m true)))
              case atStart => exact ⟨0, rfl, by omega, H6⟩
              case round =>
                clear H6
                obtain ⟨m, rfl, hm, h7⟩ := hrel
                by_cases hml : m < i
                · obtain ⟨gb, off, hab, hc⟩ := HBZ.out m _ hml h7.out.below
                  by_cases hbz : bzs z m = true
                  · rw [hbz] at hc
                    have HT := hide (ta_touch (id := m) h7.out (gM_at hml hbz _ _))
                    simp only at HT
                    rw [gM_touch hml hbz] at HT
                    subst hab
                    clear hbz h7
                    go_wp2_with fail
                    (with_reducible refine (unhide HT).mono ?_)
                    rintro e w7 ⟨rfl, h8⟩
                    have H8 := hide h8
                    clear HT h8
                    go_wp2_with fail
                    go_roundg (gk - 1)
                    case measure => omega
                    case rel => exact ⟨m + 1, by go_num, by omega, H8⟩
                  · have hbz2 : bzs z m = false := by simpa using hbz
                    rw [hbz2] at hc
                    have h8 := h7.out
                    rw [gM_skip hbz2] at h8
                    have H8 := hide h8
                    subst hab
                    clear hbz hbz2 h7 h8
                    go_wp2_with fail
                    go_roundg (gk - 1)
                    case measure => omega
                    case rel => exact ⟨m + 1, by go_num, by omega, H8⟩
                · obtain rfl : i = m := by omega
                  have h8 := h7.out
                  rw [gM_next] at h8
                  have H8 := hide h8
                  clear h7 h8
                  go_wp2_with fail
                  go_roundg gk0
                  case measure => omega
                  case rel => exact ⟨j + 1, 0, true, by go_num, by omega, rfl, (.inl ⟨rfl, by omega, rfl⟩), H8⟩
          · skip
            have HT := hide (tickM_stay h5.out (fun h => (by cases h)) (by omega) (by omega))
            clear h5
            go_wp2_with fail
            (with_reducible refine (unhide HT).mono ?_)
            rintro e w6 ⟨⟨a6, c6, rfl⟩, h6⟩
            have H6 := hide h6
            clear HT h6
            go_wp2_with fail
            refine wp_loop_rounds 1 ?_
            rw [rounds_succ]
            go_wp2_with fail
            go_loopg [13] i (fun g s13 wr => ∃ m : Nat, s13 = .int .i64 m ∧ m + g = i ∧ Hid (TA w wr w.heap.size p (j + 1 : Nat) i (gM i z (j + 1 : Nat) m false)))
            case atStart => exact ⟨0, rfl, by omega, H6⟩
            case round =>
              clear H6
              obtain ⟨m, rfl, hm, h7⟩ := hrel
              by_cases hml : m < i
              · obtain ⟨gb, off, hab, hc⟩ := HBZ.out m _ hml h7.out.below
                by_cases hbz : bzs z m = true
                · rw [hbz] at hc
                  have HT := hide (ta_touch (id := m) h7.out (gM_at hml hbz _ _))
                  simp only at HT
                  rw [gM_touch hml hbz] at HT
                  subst hab
                  clear hbz h7
                  go_wp2_with fail
                  (with_reducible refine (unhide HT).mono ?_)
                  rintro e w7 ⟨rfl, h8⟩
                  have H8 := hide h8
                  clear HT h8
                  go_wp2_with fail
                  go_roundg (gk - 1)
                  case measure => omega
                  case rel => exact ⟨m + 1, by go_num, by omega, H8⟩
                · have hbz2 : bzs z m = false := by simpa using hbz
                  rw [hbz2] at hc
                  have h8 := h7.out
                  rw [gM_skip hbz2] at h8
                  have H8 := hide h8
                  subst hab
                  clear hbz hbz2 h7 h8
                  go_wp2_with fail
                  go_roundg (gk - 1)
                  case measure => omega
                  case rel => exact ⟨m + 1, by go_num, by omega, H8⟩
              · obtain rfl : i = m := by omega
                have h8 := h7.out
                rw [gM_next] at h8
                have H8 := hide h8
                clear h7 h8
                go_wp2_with fail
                go_roundg gk0
                case measure => omega
                case rel => exact ⟨j + 1, quietN z i, false, by go_num, by omega, rfl, (.inr ⟨rfl, by omega, rfl⟩), H8⟩
        · obtain rfl : j = tk := by omega
          have HB := hide h5.out.below
          clear h5
          go_wp2_with fail
          go_loopg [14, 16, 102] i (fun g s14 s16 s102 wx => ∃ m : Nat, s102 = .int .i64 m ∧ m + g = i ∧ s14 = .int .i64 (quietN z m : Nat) ∧ Hid (Below w.heap.size w wx))
          case atStart => exact ⟨0, rfl, by omega, rfl, HB⟩
          case round =>
            clear HB
            obtain ⟨m, rfl, hm, rfl, hbl⟩ := hrel
            by_cases hml : m < i
            · obtain ⟨gb, off, hab, hc⟩ := HBZ.out m _ hml hbl.out
              subst hab
              have hqm := quietN_le z m
              by_cases hbz : bzs z m = true
              · rw [hbz] at hc
                have HQM := hide (quietN_yes hbz)
                clear hbz
                go_wp2_with fail
                go_roundg (gk - 1)
                case measure => omega
                case rel => exact ⟨m + 1, by go_num, by omega, by rw [HQM.out], hbl⟩
              · have hbz2 : bzs z m = false := by simpa using hbz
                rw [hbz2] at hc
                have HQM := hide (quietN_no hbz2)
                clear hbz hbz2
                go_wp2_with fail
                go_roundg (gk - 1)
                case measure => omega
                case rel => exact ⟨m + 1, by go_num, by omega, by rw [HQM.out]; go_num, hbl⟩
            · obtain rfl : i = m := by omega
              obtain ⟨q, hq⟩ : ∃ q, q = quietN z i := ⟨_, rfl⟩
              rw [← hq] at hd ⊢
              clear hq
              rcases hd with ⟨rfl, hj30, rfl⟩ | ⟨rfl, hj30, rfl⟩
              · have hj3 : (j : Int) ≤ 30 := by omega
                go_wp2_with fail
                go_ret
                exact ⟨rfl, hbl.out⟩
              · have hj3 : ¬ (j : Int) ≤ 30 := by omega
                have hj4 : (30 : Int) < j := by omega
                by_cases hq0 : gn = 0
                · subst hq0
                  go_wp2_with fail
                  go_ret
                  exact ⟨rfl, hbl.out⟩
                · have eq0 : ((gn : Int) == 0) = false := by simp; omega
                  clear hq0
                  go_wp2_with fail
                  go_ret
                  exact ⟨rfl, hbl.out⟩
end Go.Proofs.Ytbgpihengcjgeaa
