/-
  The walk of RingPlays: it returns true and writes nothing that was there.
-/
import Derived.Test.YtaejefahmmickaaRingA
import Derived.Test.YtaejefahmmickaaRingOps
namespace Go.Proofs.Ytaejefahmmickaa
open Go.RowKit

theorem ringPlays_no (a0 : Int) (a1 : Option Addr) (len1 cap1 : Nat) (w : World) (hl : len1 ≤ 9223372036854775807) (h : 100 < len1) :
    Calls Try.prog 6 #[.int .i64 a0, .slice a1 len1 cap1] w fun e w' => e = .returned (.bool true) ∧ Below w.heap.size w w' := by
  go_enter Try.func6, Try.ntmps6
  go_wp2_with (go_at_call 8; refine (alive_any _).mono ?_; rintro e w' ⟨rfl, hb⟩)
  go_ret
  exact ⟨rfl, by assumption⟩

set_option maxRecDepth 100000 in
set_option maxHeartbeats 1600000 in
theorem ringPlays_yes (a0 : Int) (a1 : Option Addr) (len1 cap1 : Nat) (z : List Row35) (w : World) (h : len1 ≤ 100) (hrow : IsRows35 w a1 len1 cap1 z) :
    Calls Try.prog 6 #[.int .i64 a0, .slice a1 len1 cap1] w fun e w' => e = .returned (.bool true) ∧ Below w.heap.size w w' := by
  have HA := hide (alive_any w)
  obtain ⟨x, hx⟩ : ∃ x : Int, x = max a0 0 := ⟨_, rfl⟩
  obtain ⟨cap, hcap⟩ : ∃ cap : Nat, (cap : Int) = min x 10000 := ⟨(min x 10000).toNat, by omega⟩
  have hcap2 : cap ≤ 10000 := by omega
  have hmax := max_i64 (P := Try.prog) #[3, 3] 3 a0 0 x hx
  have hmin := min_i64 (P := Try.prog) #[3, 3] 3 x 10000 cap hcap
  have H0 := hide (And.intro hx hcap)
  have HR := hide hrow
  clear hx hcap hrow
  go_enter Try.func6, Try.ntmps6
  go_wp2_with fail
  (with_reducible refine (unhide HA).mono ?_)
  rintro e w1 ⟨rfl, hbl1⟩
  have HN := hide (new_any a0 w1)
  clear HA
  go_wp2_with fail
  (with_reducible refine (unhide HN).mono ?_)
  rintro e w2 ⟨p, rfl, hr2, hb2⟩
  have hr3 : Ring w.heap.size w2 p cap [] := by
    have h0 := H0.out
    rw [show (min (max a0 0) 10000).toNat = cap by omega] at hr2
    exact ring_mono hr2 hbl1.size
  have hb3 : Below w.heap.size w w2 := hbl1.trans (hb2.mono hbl1.size)
  clear HN hr2 hb2 hbl1
  go_wp2_with fail
  go_loopg [7, 30] len1 (fun g hv i wr => ∃ (j : Nat) (l : List UInt8), hv = .string (S l) ∧ i = .int .i64 j ∧ j + g = len1 ∧ Ring w.heap.size wr p cap l ∧ Below w.heap.size w wr)
  case atStart => exact ⟨0, [], rfl, rfl, by omega, hr3, hb3⟩
  case round =>
    obtain ⟨j, l, rfl, rfl, hj, hr, hb⟩ := hrel
    clear hr3 hb3
    by_cases hlt : j < len1
    · obtain ⟨b1, off1, rfl, hb1, hz⟩ := HR.out.2.2 (by omega)
      have hzl := HR.out.1
      obtain ⟨c0, c1, c2, wk, wn, ws⟩ := hz j (by omega)
      obtain ⟨⟨K, n, s⟩, hrow⟩ : ∃ r, r = z[j]'(by omega) := ⟨_, rfl⟩
      rw [← hrow] at c0 c1 c2 ws
      clear hrow hz hzl wk wn
      have d0 := (hb.cell (p := ⟨b1, off1 + j * 3, none⟩) hb1).trans c0
      have d1 := (hb.cell (p := ⟨b1, off1 + j * 3 + 1, none⟩) hb1).trans c1
      have d2 := (hb.cell (p := ⟨b1, off1 + j * 3 + 2, none⟩) hb1).trans c2
      clear c0 c1 c2
      obtain ⟨ls, rfl⟩ : ∃ ls, s = S ls := ⟨_, S_of s⟩
      rw [S_size] at ws
      have hlc := (ring_lt hr).2
      by_cases hbig : 500 < ls.length
      · unfold maxLen at ws
        go_wp2_with fail
        go_ret
        exact ⟨rfl, hb.alloc hb.size _⟩
      have hra := ring_alloc hr (.cells #[.int .i64 K, .int .i64 n, .string (S ls)] 35)
      have hba : Below w.heap.size w (wr.alloc (.cells #[.int .i64 K, .int .i64 n, .string (S ls)] 35)) := hb.alloc hb.size _
      have hlw := hb.size
      obtain ⟨y, hy⟩ : ∃ y : Int, y = max n 0 := ⟨_, rfl⟩
      have hmax2 := max_i64 (P := Try.prog) #[3, 3] 3 n 0 y hy
      obtain ⟨k, hk⟩ : ∃ k : Nat, (k : Int) = min y l.length := ⟨(min y l.length).toNat, by omega⟩
      have hmin2 := min_i64 (P := Try.prog) #[3, 3] 3 y l.length k hk
      have hkl : k ≤ l.length := by omega
      have hs1 := slice_to (P := Try.prog) Try.underlying9 l k hkl
      have hs2 := slice_from (P := Try.prog) Try.underlying9 l k hkl
      have H1 := hide (And.intro hy hk)
      have hkk : (k : Int) = min (max n 0) l.length := by omega
      have HKK := hide hkk
      clear hy hk hkk hr hb
      by_cases hK1 : K = 1
      · subst hK1
        obtain ⟨n1, hn1⟩ : ∃ n1 : Nat, n1 = min ls.length (cap - l.length) := ⟨_, rfl⟩
        have hmin3 := min_i64 (P := Try.prog) #[3, 3] 3 ls.length ((cap : Int) - l.length) n1 (by omega)
        have HP := hide (put_kt _ _ _ _ (S ls) _ hra (by rw [S_size]; omega) n1 (cap - l.length) (by omega) (by rw [S_size]; exact hn1))
        have hn1l : n1 ≤ ls.length := by omega
        have hn1c : n1 + l.length ≤ cap := by omega
        have hs3 := slice_to (P := Try.prog) Try.underlying9 ls n1 hn1l
        have hadd := run_add_S (P := Try.prog) l (ls.take n1) (by rw [List.length_take]; omega)
        clear hra hn1
        go_wp2_with fail
        (with_reducible refine (unhide HP).mono ?_)
        rintro e w5 ⟨rfl, hr5, hb5, hkt⟩
        have hblk : Blk w5 wr.heap.size 35 #[.int .i64 1, .int .i64 n, .string (S ls)] := hkt _ _ _ (by decide) (by decide) (Blk.new wr 35 _)
        have hb5 := hba.trans hb5
        have hr5 : Ring w.heap.size w5 p cap (l ++ ls.take n1) := hr5
        obtain ⟨l', hl'⟩ : ∃ l', l' = l ++ ls.take n1 := ⟨_, rfl⟩
        rw [← hl'] at hr5 hadd
        have cS := hblk.cellv 2 (.string (S ls)) rfl
        clear HP hba hkt hl'
        have hlc5 := (ring_lt hr5).2
        have HL := hide (len_any _ _ _ _ _ hr5)
        go_wp2_with fail
        (with_reducible refine (unhide HL).mono ?_)
        rintro e w7 ⟨rfl, rfl⟩
        have HM := hide (room_at _ _ _ _ _ hr5 _ rfl)
        clear HL
        go_wp2_with fail
        (with_reducible refine (unhide HM).mono ?_)
        rintro e w8 ⟨rfl, n8, rfl⟩
        have hr6 := ring_drewN hr5 n8
        have hb6 := below_drewN hb5 n8
        have HK := hide (peek_all _ _ _ _ _ hr6)
        clear HM hr5 hb5
        go_wp2_with fail
        (with_reducible refine (unhide HK).mono ?_)
        rintro e w9 ⟨rfl, hb9⟩
        have hr7 := ring_keep hr6 hb9
        have hb7 := hb6.trans (hb9.mono hb6.size)
        clear HK hr6 hb6 hb9
        go_wp2_with fail
        go_roundg (gk - 1)
        case measure => omega
        case rel => exact ⟨j + 1, _, rfl, by go_num, by omega, hr7, hb7⟩
      have e1 : (K == 1) = false := by simpa using hK1
      by_cases hK2 : K = 2
      · subst hK2
        have HT := take_any _ _ _ _ n _ (ring_drew hra) k HKK.out
        obtain ⟨l2, hl2⟩ : ∃ l2, l2 = l.drop k := ⟨_, rfl⟩
        rw [← hl2] at HT hs2
        have HT := hide HT
        clear hra hl2
        go_wp2_with fail
        refine wp_region_tbs [4, 5, 6] [0, 1, 2] [3, 7] (by kernel_rfl) (by kernel_rfl) (fun _ _ _ _ _ h => h) ?_
        simp only [opsAt, List.getElem?_cons_zero, List.getElem?_cons_succ]
        first | refine wpPure_move _ rfl rfl ?_ | (refine wpPure_step (v := ?_) rfl (fun w' => ?_) ?_; rotate_left; · (simp only [Act.put, List.setIfInBounds_toArray, List.set_cons_zero, List.set_cons_succ]; go_simp; with_reducible rfl))
        first | refine wpPure_move _ rfl rfl ?_ | (refine wpPure_step (v := ?_) rfl (fun w' => ?_) ?_; rotate_left; · (simp only [Act.put, List.setIfInBounds_toArray, List.set_cons_zero, List.set_cons_succ]; go_simp; with_reducible rfl))
        first | refine wpPure_move _ rfl rfl ?_ | (refine wpPure_step (v := ?_) rfl (fun w' => ?_) ?_; rotate_left; · (simp only [Act.put, List.setIfInBounds_toArray, List.set_cons_zero, List.set_cons_succ]; go_simp; with_reducible rfl))
        refine wpPure_nil ?_
        simp only [Act.put, Act.eval, List.setIfInBounds_toArray, List.set_cons_zero, List.set_cons_succ]
        repeat (refine wpStill_step (fun K hK => ?_); go_simp; (try go_bits); refine hK _ ?_; clear hK K)
        refine wpStill_nil ?_
        go_wp2_with fail
        (with_reducible refine (unhide HT).mono ?_)
        rintro e w5 ⟨rfl, hr5, hb5⟩
        have hb5 := (hba.drew).trans hb5
        clear HT hba
        have hlc5 := (ring_lt hr5).2
        have HL := hide (len_any _ _ _ _ _ hr5)
        go_wp2_with fail
        (with_reducible refine (unhide HL).mono ?_)
        rintro e w7 ⟨rfl, rfl⟩
        have HM := hide (room_at _ _ _ _ _ hr5 _ rfl)
        clear HL
        go_wp2_with fail
        (with_reducible refine (unhide HM).mono ?_)
        rintro e w8 ⟨rfl, n8, rfl⟩
        have hr6 := ring_drewN hr5 n8
        have hb6 := below_drewN hb5 n8
        have HK := hide (peek_all _ _ _ _ _ hr6)
        clear HM hr5 hb5
        go_wp2_with fail
        (with_reducible refine (unhide HK).mono ?_)
        rintro e w9 ⟨rfl, hb9⟩
        have hr7 := ring_keep hr6 hb9
        have hb7 := hb6.trans (hb9.mono hb6.size)
        clear HK hr6 hb6 hb9
        go_wp2_with fail
        go_roundg (gk - 1)
        case measure => omega
        case rel => exact ⟨j + 1, _, rfl, by go_num, by omega, hr7, hb7⟩
      have e2 : (K == 2) = false := by simpa using hK2
      by_cases hK3 : K = 3
      · subst hK3
        have HT := hide (peek_any _ _ _ _ n _ (ring_drew hra) k HKK.out)
        go_wp2_with fail
        refine wp_region_tbs [4, 5, 6] [0, 1, 2] [3, 7] (by kernel_rfl) (by kernel_rfl) (fun _ _ _ _ _ h => h) ?_
        simp only [opsAt, List.getElem?_cons_zero, List.getElem?_cons_succ]
        first | refine wpPure_move _ rfl rfl ?_ | (refine wpPure_step (v := ?_) rfl (fun w' => ?_) ?_; rotate_left; · (simp only [Act.put, List.setIfInBounds_toArray, List.set_cons_zero, List.set_cons_succ]; go_simp; with_reducible rfl))
        first | refine wpPure_move _ rfl rfl ?_ | (refine wpPure_step (v := ?_) rfl (fun w' => ?_) ?_; rotate_left; · (simp only [Act.put, List.setIfInBounds_toArray, List.set_cons_zero, List.set_cons_succ]; go_simp; with_reducible rfl))
        first | refine wpPure_move _ rfl rfl ?_ | (refine wpPure_step (v := ?_) rfl (fun w' => ?_) ?_; rotate_left; · (simp only [Act.put, List.setIfInBounds_toArray, List.set_cons_zero, List.set_cons_succ]; go_simp; with_reducible rfl))
        refine wpPure_nil ?_
        simp only [Act.put, Act.eval, List.setIfInBounds_toArray, List.set_cons_zero, List.set_cons_succ]
        repeat (refine wpStill_step (fun K hK => ?_); go_simp; (try go_bits); refine hK _ ?_; clear hK K)
        refine wpStill_nil ?_
        go_wp2_with fail
        (with_reducible refine (unhide HT).mono ?_)
        rintro e w5 ⟨rfl, hb5⟩
        have hr5 := ring_keep (ring_drew hra) hb5
        have hb5 := (hba.drew).trans (hb5.mono hba.size)
        clear HT hba hra
        have hlc5 := (ring_lt hr5).2
        have HL := hide (len_any _ _ _ _ _ hr5)
        go_wp2_with fail
        (with_reducible refine (unhide HL).mono ?_)
        rintro e w7 ⟨rfl, rfl⟩
        have HM := hide (room_at _ _ _ _ _ hr5 _ rfl)
        clear HL
        go_wp2_with fail
        (with_reducible refine (unhide HM).mono ?_)
        rintro e w8 ⟨rfl, n8, rfl⟩
        have hr6 := ring_drewN hr5 n8
        have hb6 := below_drewN hb5 n8
        have HK := hide (peek_all _ _ _ _ _ hr6)
        clear HM hr5 hb5
        go_wp2_with fail
        (with_reducible refine (unhide HK).mono ?_)
        rintro e w9 ⟨rfl, hb9⟩
        have hr7 := ring_keep hr6 hb9
        have hb7 := hb6.trans (hb9.mono hb6.size)
        clear HK hr6 hb6 hb9
        go_wp2_with fail
        go_roundg (gk - 1)
        case measure => omega
        case rel => exact ⟨j + 1, _, rfl, by go_num, by omega, hr7, hb7⟩
      have e3 : (K == 3) = false := by simpa using hK3
      by_cases hK4 : K = 4
      · subst hK4
        have HC := hide (clear_any _ _ _ _ _ hra)
        clear hra
        go_wp2_with fail
        (with_reducible refine (unhide HC).mono ?_)
        rintro e w5 ⟨rfl, hr5, hb5⟩
        have hb5 := hba.trans hb5
        clear HC hba
        have HL := hide (len_at _ _ _ _ _ hr5 0 rfl)
        go_wp2_with fail
        (with_reducible refine (unhide HL).mono ?_)
        rintro e w7 ⟨rfl, rfl⟩
        have HM := hide (room_at _ _ _ _ _ hr5 cap (by simp))
        clear HL
        go_wp2_with fail
        (with_reducible refine (unhide HM).mono ?_)
        rintro e w8 ⟨rfl, n8, rfl⟩
        have hr6 := ring_drewN hr5 n8
        have hb6 := below_drewN hb5 n8
        have HK := hide (peek_any _ _ _ _ 0 _ hr6 0 rfl)
        clear HM hr5 hb5
        go_wp2_with fail
        (with_reducible refine (unhide HK).mono ?_)
        rintro e w9 ⟨rfl, hb9⟩
        have hr7 := ring_keep hr6 hb9
        have hb7 := hb6.trans (hb9.mono hb6.size)
        clear HK hr6 hb6 hb9
        go_wp2_with fail
        go_roundg (gk - 1)
        case measure => omega
        case rel => exact ⟨j + 1, [], rfl, by go_num, by omega, hr7, hb7⟩
      have e4 : (K == 4) = false := by simpa using hK4
      have hr5 := hra
      have hb5 := hba
      clear hra hba
      have hlc5 := (ring_lt hr5).2
      have HL := hide (len_any _ _ _ _ _ hr5)
      go_wp2_with fail
      (with_reducible refine (unhide HL).mono ?_)
      rintro e w7 ⟨rfl, rfl⟩
      have HM := hide (room_at _ _ _ _ _ hr5 _ rfl)
      clear HL
      go_wp2_with fail
      (with_reducible refine (unhide HM).mono ?_)
      rintro e w8 ⟨rfl, n8, rfl⟩
      have hr6 := ring_drewN hr5 n8
      have hb6 := below_drewN hb5 n8
      have HK := hide (peek_all _ _ _ _ _ hr6)
      clear HM hr5 hb5
      go_wp2_with fail
      (with_reducible refine (unhide HK).mono ?_)
      rintro e w9 ⟨rfl, hb9⟩
      have hr7 := ring_keep hr6 hb9
      have hb7 := hb6.trans (hb9.mono hb6.size)
      clear HK hr6 hb6 hb9
      go_wp2_with fail
      go_roundg (gk - 1)
      case measure => omega
      case rel => exact ⟨j + 1, _, rfl, by go_num, by omega, hr7, hb7⟩
    · clear hr
      go_wp2_with (first | (go_at_call 11; refine (put_nil _ _).mono ?_; rintro e w' ⟨rfl, rfl⟩) | (go_at_call 12; refine (take_nil _ _).mono ?_; rintro e w' ⟨rfl, rfl⟩) | (go_at_call 14; refine (peek_nil _ _).mono ?_; rintro e w' ⟨rfl, rfl⟩) | (go_at_call 10; refine (len_nil _).mono ?_; rintro e w' ⟨rfl, rfl⟩) | (go_at_call 13; refine (room_nil _).mono ?_; rintro e w' ⟨rfl, rfl⟩) | (go_at_call 15; refine (clear_nil _).mono ?_; rintro e w' ⟨rfl, rfl⟩))
      go_ret
      exact ⟨rfl, hb⟩
end Go.Proofs.Ytaejefahmmickaa
