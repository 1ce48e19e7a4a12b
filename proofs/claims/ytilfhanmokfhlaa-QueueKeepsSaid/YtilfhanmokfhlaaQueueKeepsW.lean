/-
  The walk of QueueKeeps.
-/
import Derived.Test.YtilfhanmokfhlaaQueueD
namespace Go.Proofs.Ytilfhanmokfhlaa
open Go.RowKit

theorem queueKeeps_no (a b : List UInt8) (n : Int) (w : World) (h : 200 < a.length + b.length) (ha : a.length ≤ 140737488355328) (hb : b.length ≤ 140737488355328) :
    Calls Try.prog 7 #[.string (S a), .string (S b), .int .i64 n] w fun e w' => e = .returned (.bool true) ∧ Below w.heap.size w w' := by
  have HA := hide (alive_any w)
  have h1 : 200 < (a.length : Int) + b.length := by omega
  clear h
  go_enter Try.func7, Try.ntmps7
  go_wp2_with fail
  (with_reducible refine (unhide HA).mono ?_)
  rintro e w1 ⟨rfl, hb⟩
  go_wp2_with fail
  go_ret
  exact ⟨rfl, hb⟩

set_option maxRecDepth 100000 in
theorem queueKeeps_yes (a b : List UInt8) (n : Int) (w : World) (h : a.length + b.length ≤ 200) :
    Calls Try.prog 7 #[.string (S a), .string (S b), .int .i64 n] w fun e w' => e = .returned (.bool true) ∧ Below w.heap.size w w' := by
  have HA := hide (alive_any w)
  have h1 : (a.length : Int) + b.length ≤ 200 := by omega
  obtain ⟨L1, hL1⟩ : ∃ L1, L1 = addL [] a := ⟨_, rfl⟩
  have hf1 : L1.flatten = a := by rw [hL1, addL_flat]; rfl
  obtain ⟨L2, hL2⟩ : ∃ L2, L2 = addL L1 b := ⟨_, rfl⟩
  have hf2 : L2.flatten = a ++ b := by rw [hL2, addL_flat, hf1]
  have hl2 : L2.flatten.length = a.length + b.length := by rw [hf2, List.length_append]
  obtain ⟨k, hk⟩ : ∃ k : Nat, (k : Int) = max (min n L2.flatten.length) 0 := ⟨(max (min n L2.flatten.length) 0).toNat, by omega⟩
  obtain ⟨t, ht⟩ : ∃ t, t = L2.flatten.take k := ⟨_, rfl⟩
  obtain ⟨r, hr⟩ : ∃ r, r = L2.flatten.drop k := ⟨_, rfl⟩
  have hf3 : (dropQ k L2).flatten = r := by rw [dropQ_flat, hr]
  have htr : t ++ r = a ++ b := by rw [ht, hr, List.take_append_drop, hf2]
  have hrl : r.length ≤ 200 := by have := congrArg List.length htr; simp at this; omega
  have htl : t.length ≤ 200 := by have := congrArg List.length htr; simp at this; omega
  have hadd1 := run_add_S (P := Try.prog) a b (by omega)
  have hadd2 := run_add_S (P := Try.prog) t r (by omega)
  rw [htr] at hadd2
  obtain ⟨ab, hab⟩ : ∃ ab, ab = a ++ b := ⟨_, rfl⟩
  rw [← hab] at hadd1 hadd2
  have X1 := hide hL1
  have X2 := hide hL2
  have Y1 := hide hf1
  have Y2 := hide hl2
  have Y3 := hide hf3
  have K := hide hk
  have T := hide ht
  clear hL1 hL2 hf1 hf2 hl2 hf3 hk ht hr htr hab
  go_enter Try.func7, Try.ntmps7
  go_wp2_with fail
  (with_reducible refine (unhide HA).mono ?_)
  rintro e w1 ⟨rfl, hb⟩
  have h0 := Q.new (B := w.heap.size) w1 hb.size
  have hb := hb.alloc hb.size (.cells #[.slice none 0 0, .int .i64 0] 27)
  have H := hide (add_Q h0 a (S a) rfl (by simp; omega))
  rw [← X1.out] at H
  clear h0 HA
  go_wp2_with fail
  (with_reducible refine (unhide H).mono ?_)
  rintro e w2 ⟨rfl, hq, hb1⟩
  have hb := hb.trans hb1
  have H := hide (all_Q hq (by rw [Y1.out]; omega) a Y1.out.symm)
  clear hq hb1
  go_wp2_with fail
  (with_reducible refine (unhide H).mono ?_)
  rintro e w3 ⟨rfl, hq, hb1⟩
  have hb := hb.trans (hb1.mono hb.size)
  have H := hide (add_Q hq b (S b) rfl (by rw [Y1.out]; omega))
  rw [← X2.out] at H
  clear hq hb1
  go_wp2_with fail
  (with_reducible refine (unhide H).mono ?_)
  rintro e w4 ⟨rfl, hq, hb1⟩
  have hb := hb.trans hb1
  have H := hide (take_Q hq n k K.out (by rw [Y2.out]; omega) t T.out)
  clear hq hb1
  go_wp2_with fail
  (with_reducible refine (unhide H).mono ?_)
  rintro e w5 ⟨rfl, hq, hb1⟩
  have hb := hb.trans hb1
  have H := hide (all_Q hq (by rw [Y3.out]; omega) r Y3.out.symm)
  clear hq hb1
  go_wp2_with fail
  (with_reducible refine (unhide H).mono ?_)
  rintro e w6 ⟨rfl, hq, hb1⟩
  have hb := hb.trans (hb1.mono hb.size)
  have H := hide (cut_Q hq 0 0 rfl (by rw [Y3.out]; omega) _ rfl)
  rw [cutQ_zero] at H
  clear hq hb1
  go_wp2_with fail
  (with_reducible refine (unhide H).mono ?_)
  rintro e w7 ⟨rfl, hq, hb1⟩
  have hb := hb.trans hb1
  have H := hide (len_Q hq 0 rfl)
  clear hb1
  go_wp2_with fail
  (with_reducible refine (unhide H).mono ?_)
  rintro e w7 ⟨rfl, rfl⟩
  have H := hide (all_Q hq (by simp) [] rfl)
  clear hq
  go_wp2_with fail
  (with_reducible refine (unhide H).mono ?_)
  rintro e w8 ⟨rfl, hq, hb1⟩
  have hb := hb.trans (hb1.mono hb.size)
  go_wp2_with fail
  go_ret
  exact ⟨rfl, hb⟩
end Go.Proofs.Ytilfhanmokfhlaa
