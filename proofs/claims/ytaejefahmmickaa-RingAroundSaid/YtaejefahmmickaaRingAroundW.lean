/-
  The walk of RingAround: it returns true and writes nothing that was there.
-/
import Derived.Test.YtaejefahmmickaaRingA
namespace Go.Proofs.Ytaejefahmmickaa
open Go.RowKit

theorem ringAround_no (a0 : Int) (lb : List UInt8) (a2 : Int) (w : World) (hb : lb.length ≤ 140737488351232) (h : a0 < 1 ∨ 60 < a0 ∨ lb.length < 1 ∨ a0 < lb.length ∨ a2 < 0 ∨ 60 < a2) :
    Calls Try.prog 5 #[.int .i64 a0, .string (S lb), .int .i64 a2] w fun e w' => e = .returned (.bool true) ∧ Below w.heap.size w w' := by
  by_cases h1 : a0 < 1
  · go_enter Try.func5, Try.ntmps5
    go_wp2_with (go_at_call 8; refine (alive_any _).mono ?_; rintro e w' ⟨rfl, hb⟩)
    go_ret
    exact ⟨rfl, by assumption⟩
  by_cases h2 : 60 < a0
  · go_enter Try.func5, Try.ntmps5
    go_wp2_with (go_at_call 8; refine (alive_any _).mono ?_; rintro e w' ⟨rfl, hb⟩)
    go_ret
    exact ⟨rfl, by assumption⟩
  by_cases h3 : lb.length < 1
  · go_enter Try.func5, Try.ntmps5
    go_wp2_with (go_at_call 8; refine (alive_any _).mono ?_; rintro e w' ⟨rfl, hb⟩)
    go_ret
    exact ⟨rfl, by assumption⟩
  by_cases h4 : a0 < lb.length
  · go_enter Try.func5, Try.ntmps5
    go_wp2_with (go_at_call 8; refine (alive_any _).mono ?_; rintro e w' ⟨rfl, hb⟩)
    go_ret
    exact ⟨rfl, by assumption⟩
  by_cases h5 : a2 < 0
  · go_enter Try.func5, Try.ntmps5
    go_wp2_with (go_at_call 8; refine (alive_any _).mono ?_; rintro e w' ⟨rfl, hb⟩)
    go_ret
    exact ⟨rfl, by assumption⟩
  have h6 : 60 < a2 := by omega
  go_enter Try.func5, Try.ntmps5
  go_wp2_with (go_at_call 8; refine (alive_any _).mono ?_; rintro e w' ⟨rfl, hb⟩)
  go_ret
  exact ⟨rfl, by assumption⟩

theorem ringAround_yes (r : Nat) (lb : List UInt8) (t : Nat) (w : World) (h1 : r ≤ 60) (h2 : 1 ≤ lb.length) (h3 : lb.length ≤ r) (h4 : t ≤ 60) :
    Calls Try.prog 5 #[.int .i64 (r : Int), .string (S lb), .int .i64 (t : Int)] w fun e w' => e = .returned (.bool true) ∧ Below w.heap.size w w' := by
  have HA := hide (alive_any w)
  go_enter Try.func5, Try.ntmps5
  go_wp2_with fail
  refine (unhide HA).mono ?_
  rintro e w1 ⟨rfl, hb1⟩
  have HN := hide (new_any r w1)
  clear HA
  go_wp2_with fail
  refine (unhide HN).mono ?_
  rintro e w2 ⟨p, rfl, hr2, hb2⟩
  have hr3 : Ring w.heap.size w2 p r [] := by rw [show (min (max (r : Int) 0) 10000).toNat = r by omega] at hr2; exact ring_mono hr2 hb1.size
  have hb3 : Below w.heap.size w w2 := hb1.trans (hb2.mono hb1.size)
  clear HN hr2 hb2 hb1
  go_wp2_with fail
  go_loopg [8] t (fun g i wr => ∃ j : Nat, i = .int .i64 j ∧ j + g = t ∧ Ring w.heap.size wr p r [] ∧ Below w.heap.size w wr)
  case atStart => exact ⟨0, rfl, by omega, hr3, hb3⟩
  case round =>
    obtain ⟨j, rfl, hjk, hr, hb⟩ := hrel
    clear hr3 hb3
    by_cases hlt : j < t
    · have HP := hide (put_any _ _ _ _ (S lb) _ hr (by rw [S_size]; omega) lb.length r (by simp) (by rw [S_size]; omega))
      go_wp2_with fail
      refine (unhide HP).mono ?_
      rintro e w3 ⟨rfl, hr4, hb4⟩
      have hr5 : Ring w.heap.size w3 p r lb := by rw [S_data, List.take_length, List.nil_append] at hr4; exact hr4
      have hb5 := hb.trans hb4
      have HL := hide (len_any _ _ _ _ _ hr5)
      clear HP hr4 hb4 hb hr
      go_wp2_with fail
      refine (unhide HL).mono ?_
      rintro e w4 ⟨rfl, rfl⟩
      have HK := hide (peek_any _ _ _ _ r _ hr5 lb.length (by omega))
      rw [List.take_length] at HK
      clear HL
      go_wp2_with fail
      refine (unhide HK).mono ?_
      rintro e w5 ⟨rfl, hb6⟩
      have hr7 := ring_keep hr5 hb6
      have hb7 := hb5.trans (hb6.mono hb5.size)
      have HT := hide (take_any _ _ _ _ lb.length _ hr7 lb.length (by omega))
      rw [List.take_length, List.drop_length] at HT
      clear HK hr5 hb6 hb5
      go_wp2_with fail
      refine (unhide HT).mono ?_
      rintro e w6 ⟨rfl, hr8, hb8⟩
      have hb9 := hb7.trans hb8
      have HR := hide (room_any _ _ _ _ _ hr8 r (by simp))
      clear HT hr7 hb7 hb8
      go_wp2_with fail
      refine (unhide HR).mono ?_
      rintro e w7 ⟨rfl, n, rfl⟩
      go_wp2_with fail
      go_roundg (gk - 1)
      case measure => omega
      case rel => exact ⟨j + 1, by go_num, by omega, ring_drewN hr8 n, below_drewN hb9 n⟩
    · have HL := hide (len_at _ _ _ _ _ hr 0 rfl)
      go_wp2_with fail
      refine (unhide HL).mono ?_
      rintro e w4 ⟨rfl, rfl⟩
      go_wp2_with fail
      go_ret
      exact ⟨rfl, hb⟩
end Go.Proofs.Ytaejefahmmickaa
