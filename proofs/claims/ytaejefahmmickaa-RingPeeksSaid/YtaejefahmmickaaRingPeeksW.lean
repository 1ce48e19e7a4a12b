/-
  The walk of RingPeeks: it returns true and writes nothing that was there.
-/
import Derived.Test.YtaejefahmmickaaRingA
namespace Go.Proofs.Ytaejefahmmickaa
open Go.RowKit

theorem ringPeeks_no (la lb : List UInt8) (a2 : Int) (w : World) (ha : la.length ≤ 140737488351232) (hb : lb.length ≤ 140737488351232) (h : 200 < la.length + lb.length) :
    Calls Try.prog 7 #[.string (S la), .string (S lb), .int .i64 a2] w fun e w' => e = .returned (.bool true) ∧ Below w.heap.size w w' := by
  go_enter Try.func7, Try.ntmps7
  go_wp2_with (go_at_call 8; refine (alive_any _).mono ?_; rintro e w' ⟨rfl, hb⟩)
  go_ret
  exact ⟨rfl, by assumption⟩

theorem ringPeeks_yes (la lb : List UInt8) (n : Int) (w : World) (h : la.length + lb.length ≤ 200) :
    Calls Try.prog 7 #[.string (S la), .string (S lb), .int .i64 n] w fun e w' => e = .returned (.bool true) ∧ Below w.heap.size w w' := by
  have HA := hide (alive_any w)
  have h' : ¬ (200 < (la.length : Int) + lb.length) := by omega
  go_enter Try.func7, Try.ntmps7
  go_wp2_with fail
  refine (unhide HA).mono ?_
  rintro e w1 ⟨rfl, hb1⟩
  have HN := hide (new_any 200 w1)
  clear HA
  go_wp2_with fail
  refine (unhide HN).mono ?_
  rintro e w2 ⟨p, rfl, hr2, hb2⟩
  have hr3 : Ring w.heap.size w2 p 200 [] := ring_mono hr2 hb1.size
  have hb3 : Below w.heap.size w w2 := hb1.trans (hb2.mono hb1.size)
  have HP := hide (put_any _ _ _ _ (S la) _ hr3 (by rw [S_size]; omega) la.length 200 rfl (by rw [S_size]; omega))
  clear HN hr2 hb2 hb1 hr3
  go_wp2_with fail
  refine (unhide HP).mono ?_
  rintro e w3 ⟨rfl, hr4, hb4⟩
  have hr5 : Ring w.heap.size w3 p 200 la := by rw [S_data, List.take_length, List.nil_append] at hr4; exact hr4
  have hb5 := hb3.trans hb4
  have HP2 := hide (put_any _ _ _ _ (S lb) _ hr5 (by rw [S_size]; omega) lb.length (200 - la.length) (by omega) (by rw [S_size]; omega))
  clear HP hr4 hb4 hb3 hr5
  go_wp2_with fail
  refine (unhide HP2).mono ?_
  rintro e w4 ⟨rfl, hr6, hb6⟩
  obtain ⟨l, hl, hr7⟩ : ∃ l : List UInt8, l.length = la.length + lb.length ∧ Ring w.heap.size w4 p 200 l := ⟨la ++ lb, by simp, by rw [S_data, List.take_length] at hr6; exact hr6⟩
  have hb7 := hb5.trans hb6
  obtain ⟨k, hk⟩ : ∃ k : Nat, (k : Int) = min (max n 0) l.length := ⟨(min (max n 0) l.length).toNat, by omega⟩
  obtain ⟨P, hP⟩ : ∃ P, P = l.take k := ⟨_, rfl⟩
  have hPl : P.length = k := by rw [hP, List.length_take]; omega
  have HK := hide (peek_any _ _ _ _ n _ hr7 k hk)
  have H1 := hide (And.intro hl (And.intro hk (And.intro hP hPl)))
  rw [← hP] at HK
  clear HP2 hr6 hb6 hb5 hl hk hP hPl
  go_wp2_with fail
  refine (unhide HK).mono ?_
  rintro e w5 ⟨rfl, hb8⟩
  have hr9 := ring_keep hr7 hb8
  have hb9 := hb7.trans (hb8.mono hb7.size)
  have HK2 := hide (peek_any _ _ _ _ n _ hr9 k H1.out.2.1)
  have hP := H1.out.2.2.1
  rw [← hP] at HK2
  clear HK hr7 hb7 hb8 hP
  go_wp2_with fail
  refine (unhide HK2).mono ?_
  rintro e w6 ⟨rfl, hb10⟩
  have hr11 := ring_keep hr9 hb10
  have hb11 := hb9.trans (hb10.mono hb9.size)
  have HL := hide (len_at _ _ _ _ _ hr11 ((la.length : Int) + lb.length) (by have := H1.out.1; omega))
  clear HK2 hr9 hb9 hb10
  go_wp2_with fail
  refine (unhide HL).mono ?_
  rintro e w7 ⟨rfl, rfl⟩
  have HT := hide (take_any _ _ _ _ n _ hr11 k H1.out.2.1)
  have hP := H1.out.2.2.1
  rw [← hP] at HT
  clear HL hr11 hP
  go_wp2_with fail
  refine (unhide HT).mono ?_
  rintro e w8 ⟨rfl, hr12, hb12⟩
  have hb13 := hb11.trans hb12
  have HL := hide (len_at _ _ _ _ _ hr12 ((la.length : Int) + lb.length - P.length) (by have h1 := H1.out; have h2 := h1.2.1; rw [List.length_drop]; omega))
  have hPl : P.length ≤ la.length + lb.length := by have h1 := H1.out; have h2 := h1.2.1; omega
  clear HT hb11 hb12
  go_wp2_with fail
  refine (unhide HL).mono ?_
  rintro e w9 ⟨rfl, rfl⟩
  have HC := hide (clear_at _ _ _ _ _ hr12 ((la.length : Int) + lb.length - P.length) (by have h1 := H1.out; have h2 := h1.2.1; rw [List.length_drop]; omega))
  clear HL hr12
  go_wp2_with fail
  refine (unhide HC).mono ?_
  rintro e w10 ⟨rfl, hr14, hb14⟩
  have hb15 := hb13.trans hb14
  have HK := hide (peek_any _ _ _ _ 9 _ hr14 0 rfl)
  clear HC hb13 hb14
  go_wp2_with fail
  refine (unhide HK).mono ?_
  rintro e w11 ⟨rfl, hb16⟩
  go_wp2_with fail
  go_ret
  exact ⟨rfl, hb15.trans (hb16.mono hb15.size)⟩
end Go.Proofs.Ytaejefahmmickaa
