/-
  The walk of QueueCuts.
-/
import Derived.Test.YtilfhanmokfhlaaQueueD
import Derived.Test.YtilfhanmokfhlaaStage
namespace Go.Proofs.Ytilfhanmokfhlaa
open Go.RowKit

theorem flat_nil {L : List (List UInt8)} (h : ∀ l ∈ L, l ≠ []) (h0 : L.flatten = []) : L = [] := by
  have := flat_le L h
  rw [h0] at this
  exact List.eq_nil_of_length_eq_zero (by simpa using this)
theorem queueCuts_no (a b c : List UInt8) (n : Int) (w : World) (h : 300 < a.length + b.length + c.length) (ha : a.length ≤ 140737488355328) (hb : b.length ≤ 140737488355328) (hc : c.length ≤ 140737488355328) :
    Calls Try.prog 6 #[.string (S a), .string (S b), .string (S c), .int .i64 n] w fun e w' => e = .returned (.bool true) ∧ Below w.heap.size w w' := by
  have HA := hide (alive_any w)
  have h1 : 300 < (a.length : Int) + b.length + c.length := by omega
  clear h
  go_enter Try.func6, Try.ntmps6
  go_wp2_with fail
  (with_reducible refine (unhide HA).mono ?_)
  rintro e w1 ⟨rfl, hb⟩
  go_wp2_with fail
  go_ret
  exact ⟨rfl, hb⟩

set_option maxRecDepth 100000 in
theorem queueCuts_yes (a b c : List UInt8) (n : Int) (w : World) (h : a.length + b.length + c.length ≤ 300) :
    Calls Try.prog 6 #[.string (S a), .string (S b), .string (S c), .int .i64 n] w fun e w' => e = .returned (.bool true) ∧ Below w.heap.size w w' := by
  have HA := hide (alive_any w)
  have h1 : (a.length : Int) + b.length + c.length ≤ 300 := by omega
  obtain ⟨L1, hL1⟩ : ∃ L1, L1 = addL [] a := ⟨_, rfl⟩
  have hf1 : L1.flatten = a := by rw [hL1, addL_flat]; rfl
  obtain ⟨L2, hL2⟩ : ∃ L2, L2 = addL L1 b := ⟨_, rfl⟩
  have hf2 : L2.flatten = a ++ b := by rw [hL2, addL_flat, hf1]
  have hl2 : L2.flatten.length = a.length + b.length := by rw [hf2, List.length_append]
  obtain ⟨m, hm⟩ : ∃ m : Nat, (m : Int) = max n 0 := ⟨(max n 0).toNat, by omega⟩
  obtain ⟨k, hk⟩ : ∃ k : Nat, k = min m (a.length + b.length) := ⟨_, rfl⟩
  have hmax := max_i64 (P := Try.prog) #[3, 3] 3 n 0 m hm
  have hmin := min_i64 (P := Try.prog) #[3, 3] 3 m ((a.length : Int) + b.length) k (by omega)
  have hkl : k ≤ a.length + b.length := by omega
  have hadd1 := run_add_S (P := Try.prog) a b (by omega)
  obtain ⟨ab, hab⟩ : ∃ ab, ab = a ++ b := ⟨_, rfl⟩
  have habl : ab.length = a.length + b.length := by rw [hab, List.length_append]
  obtain ⟨t, ht⟩ : ∃ t, t = ab.take k := ⟨_, rfl⟩
  have hs1 := slice_to_at (P := Try.prog) Try.underlying9 ab k (by omega) k rfl t ht
  have htl : t.length = k := by rw [ht, List.length_take]; omega
  have hf3 : (cutQ m L2).flatten = t := by
    rw [cutQ_flat, hf2, ht, hk, hab]
    rcases Nat.le_total m (a.length + b.length) with h | h
    · rw [Nat.min_eq_left h]
    · rw [Nat.min_eq_right h, List.take_of_length_le (by simp; omega), List.take_of_length_le (by simp)]
  obtain ⟨tc, htc⟩ : ∃ tc, tc = t ++ c := ⟨_, rfl⟩
  have hadd2 := run_add_S (P := Try.prog) t c (by omega)
  rw [← htc] at hadd2
  rw [← hab] at hadd1
  obtain ⟨L4, hL4⟩ : ∃ L4, L4 = addL (cutQ m L2) c := ⟨_, rfl⟩
  have hf4 : L4.flatten = tc := by rw [hL4, addL_flat, hf3, htc]
  have htcl : tc.length ≤ 300 := by rw [htc, List.length_append]; omega
  have hr : ((a.length : Int) + b.length - k) = (L2.flatten.length : Int) - min m L2.flatten.length := by rw [hl2]; omega
  have X1 := hide hL1
  have X2 := hide hL2
  have X4 := hide hL4
  have Y1 := hide hf1
  have Y2 := hide hl2
  have Y3 := hide hf3
  have Y4 := hide hf4
  have M := hide hm
  have R := hide hr
  clear hL1 hL2 hf1 hf2 hl2 hf3 hf4 hL4 hm hk ht htc hab hr habl
  go_enter Try.func6, Try.ntmps6
  go_wp2_with fail
  (with_reducible refine (unhide HA).mono ?_)
  rintro e w1 ⟨rfl, hb⟩
  have h0 := Q.new (B := w.heap.size) w1 hb.size
  have hb := hb.alloc hb.size (.cells #[.slice none 0 0, .int .i64 0] 27)
  have H := hide (add_Q h0 a (S a) rfl (by simp; omega))
  rw [← X1.out] at H
  clear h0 HA
  go_wp2_with fail
  (with_reducible refine (unhide H).mono ?_)
  rintro e w2 ⟨rfl, hq, hb1⟩
  have hb := hb.trans hb1
  have H := hide (add_Q hq b (S b) rfl (by rw [Y1.out]; omega))
  rw [← X2.out] at H
  clear hq hb1
  go_wp2_with fail
  (with_reducible refine (unhide H).mono ?_)
  rintro e w3 ⟨rfl, hq, hb1⟩
  have hb := hb.trans hb1
  have H := hide (cut_Q hq n m M.out (by rw [Y2.out]; omega) _ R.out)
  clear hq hb1
  go_wp2_with fail
  (with_reducible refine (unhide H).mono ?_)
  rintro e w4 ⟨rfl, hq, hb1⟩
  have hb := hb.trans hb1
  have H := hide (add_Q hq c (S c) rfl (by rw [Y3.out]; omega))
  rw [← X4.out] at H
  clear hq hb1
  go_wp2_with fail
  (with_reducible refine (unhide H).mono ?_)
  rintro e w5 ⟨rfl, hq, hb1⟩
  have hb := hb.trans hb1
  clear hb1
  go_wp2_with fail
  have hq := hq.drew
  have hb := hb.trans (Below.refl _ _).drew
  have HAll := fun W (hW : Q W w.heap.size w1.heap.size L4) => hide (all_Q hW (by rw [Y4.out]; omega) tc Y4.out.symm)
  have HTake := fun W (hW : Q W w.heap.size w1.heap.size L4) => hide ((take_Q hW 1000 tc.length (by rw [Y4.out]; omega) (by rw [Y4.out]; omega) tc (by rw [Y4.out, List.take_length])).mono
    (fun e w' h => (⟨h.1, by have h2 := h.2.1; rw [flat_nil h2.ne (by rw [dropQ_flat, Y4.out, List.drop_length])] at h2; exact h2, h.2.2⟩ : e = Ending.returned (.string (S tc)) ∧ Q w' w.heap.size w1.heap.size [] ∧ Below w.heap.size W w')))
  have HLen := fun W (hW : Q W w.heap.size w1.heap.size []) => hide (len_Q hW 0 rfl)
  have HCh := fun W (hW : Q W w.heap.size w1.heap.size []) => hide (chunks_Q hW 0 rfl)
  clear H
  refine wp_region_stages [([0, 2, 3, 4, 5, 6, 7, 8], [], [1, 9, 10]), ([11, 13, 14, 15, 16, 17, 18, 19], [], [12, 20, 21, 22]), ([23, 25], [], [24, 26, 27, 28, 29, 30])] (by kernel_rfl) (by kernel_rfl) (by kernel_rfl) (by kernel_rfl) (fun _ _ _ _ _ h => h) ?_
  refine wpStages_cons ?_
  simp only [opsAt, List.getElem?_cons_zero, List.getElem?_cons_succ]
  refine wpPure_stage (fun K hK => ?_); go_simp; refine hK _ ?_; clear hK K
  refine wpPure_stage (fun K hK => ?_); go_simp; refine hK _ ?_; clear hK K
  refine wpPure_stage (fun K hK => ?_); go_simp; refine hK _ ?_; clear hK K
  refine wpPure_stage (fun K hK => ?_); go_simp; refine hK _ ?_; clear hK K
  refine wpPure_stage (fun K hK => ?_); go_simp; refine hK _ ?_; clear hK K
  refine wpPure_stage (fun K hK => ?_); go_simp; refine hK _ ?_; clear hK K
  refine wpPure_stage (fun K hK => ?_); go_simp; refine hK _ ?_; clear hK K
  refine wpPure_stage (fun K hK => ?_); go_simp; refine hK _ ?_; clear hK K
  refine wpPure_nil ?_
  repeat (refine wpStill_step (fun K hK => ?_); go_simp; (try go_bits); refine hK _ ?_; clear hK K)
  refine wpStill_nil ?_
  have H := HAll _ hq
  clear hq HAll
  go_wp2_with fail
  (with_reducible refine (unhide H).mono ?_)
  rintro e w6 ⟨rfl, hq, hb1⟩
  have hb := hb.trans (hb1.mono hb.size)
  go_wp2_with fail
  refine wpStages_cons ?_
  simp only [opsAt, List.getElem?_cons_zero, List.getElem?_cons_succ]
  refine wpPure_stage (fun K hK => ?_); go_simp; refine hK _ ?_; clear hK K
  refine wpPure_stage (fun K hK => ?_); go_simp; refine hK _ ?_; clear hK K
  refine wpPure_stage (fun K hK => ?_); go_simp; refine hK _ ?_; clear hK K
  refine wpPure_stage (fun K hK => ?_); go_simp; refine hK _ ?_; clear hK K
  refine wpPure_stage (fun K hK => ?_); go_simp; refine hK _ ?_; clear hK K
  refine wpPure_stage (fun K hK => ?_); go_simp; refine hK _ ?_; clear hK K
  refine wpPure_stage (fun K hK => ?_); go_simp; refine hK _ ?_; clear hK K
  refine wpPure_stage (fun K hK => ?_); go_simp; refine hK _ ?_; clear hK K
  refine wpPure_nil ?_
  repeat (refine wpStill_step (fun K hK => ?_); go_simp; (try go_bits); refine hK _ ?_; clear hK K)
  refine wpStill_nil ?_
  have H := HTake _ hq
  clear hq hb1 HTake
  go_wp2_with fail
  (with_reducible refine (unhide H).mono ?_)
  rintro e w7 ⟨rfl, hq, hb1⟩
  have hb := hb.trans hb1
  have H := HLen _ hq
  have H2 := HCh _ hq
  go_wp2_with fail
  refine wpStages_cons ?_
  simp only [opsAt, List.getElem?_cons_zero, List.getElem?_cons_succ]
  refine wpPure_stage (fun K hK => ?_); go_simp; refine hK _ ?_; clear hK K
  refine wpPure_stage (fun K hK => ?_); go_simp; refine hK _ ?_; clear hK K
  refine wpPure_nil ?_
  repeat (refine wpStill_step (fun K hK => ?_); go_simp; (try go_bits); refine hK _ ?_; clear hK K)
  refine wpStill_nil ?_
  clear hq hb1 HLen HCh
  go_wp2_with fail
  (with_reducible refine (unhide H).mono ?_)
  rintro e w7 ⟨rfl, rfl⟩
  go_wp2_with fail
  (with_reducible refine (unhide H2).mono ?_)
  rintro e w7 ⟨rfl, rfl⟩
  go_wp2_with fail
  refine wpStages_nil ?_
  go_wp2_with fail
  go_ret
  exact ⟨rfl, hb⟩
end Go.Proofs.Ytilfhanmokfhlaa
