/-
  The reference's heads of MessagePack, whole numbers, plain parts (truchmanref1.length, whole, plain to Pack).
-/
import Derived.Test.YteggfobeaolafaaPkN
namespace Go.Proofs.Yteggfobeaolafaa
open Go.RowKit Instr

def lenL (one two four v : Nat) : List UInt8 :=
  if 0 < one ∧ v < 256 then bigL one 1 ++ bigL v 1 else if v < 65536 then bigL two 1 ++ bigL v 2 else bigL four 1 ++ bigL v 4
theorem sized_len3 (f v : Nat) (hf : 0 < f) (hv : v < 4294967296) : sizedL f 0 [1, 2, 4] v = lenL f (f + 1) (f + 2) v := by
  unfold lenL
  by_cases h1 : v < 256
  · rw [sizedL_hit (.inr (by omega)), if_pos ⟨hf, h1⟩, Nat.add_zero]
  rw [sizedL_next (by omega), if_neg (by omega)]
  by_cases h2 : v < 65536
  · rw [sizedL_hit (.inr (by omega)), if_pos h2]
  · rw [sizedL_next (by omega), sizedL_hit (.inr (by omega)), if_neg h2]
theorem sized_len2 (f v : Nat) (hv : v < 4294967296) : sizedL f 0 [2, 4] v = lenL 0 f (f + 1) v := by
  unfold lenL
  rw [if_neg (by omega)]
  by_cases h2 : v < 65536
  · rw [sizedL_hit (.inr (by omega)), if_pos h2, Nat.add_zero]
  · rw [sizedL_next (by omega), sizedL_hit (.inr (by omega)), if_neg h2]

set_option maxRecDepth 100000 in
set_option maxHeartbeats 2000000 in
theorem reflen_any (one two four v : Nat) (ho : one < 256) (ht : two < 256) (hf : four < 256) (vi oi ti fi : Int) (hvi : vi = v) (hoi : oi = one) (hti : ti = two) (hfi : fi = four) (hv : Hid (v < 18446744073709551616)) (w : World) (r : List UInt8) (hr : r = lenL one two four v) :
    Calls Try.prog 29 #[.int .u64 vi, .int .u8 oi, .int .u8 ti, .int .u8 fi] w fun e w' => e = .returned (.string (S r)) ∧ Only [] w w' := by
  subst hvi
  have hcv := fun (x : Nat) (hx : x < 256) => run_string_one (P := Try.prog) Try.underlying59 Try.underlying5 Try.underlying9 x hx
  have HCV := hide hcv
  clear hcv
  unfold lenL at hr
  by_cases h1 : 0 < one ∧ v < 256
  · rw [if_pos h1] at hr
    have d1 : decide (0 < oi) = true := decide_eq_true (by omega)
    have d2 : decide ((v : Int) < 256) = true := decide_eq_true (by omega)
    have hcv := HCV.out one (by omega) oi hoi
    obtain ⟨l1, hl1⟩ : ∃ l1, l1 = bigL one 1 := ⟨_, rfl⟩
    obtain ⟨l2, hl2⟩ : ∃ l2, l2 = bigL v 1 := ⟨_, rfl⟩
    have hadd := run_add_S (P := Try.prog) l1 l2 (by rw [hl1, hl2, bigL_length, bigL_length]; omega)
    rw [← hl1] at hcv
    rw [← hl1, ← hl2] at hr
    have HB := fun W => hide (refbig_at v 1 v 1 rfl rfl (by omega) (by omega) hv l2 hl2 W)
    rw [← hr] at hadd
    clear hr hl1 hl2 ho ht hf hoi hti hfi
    (try clear h9)
    (try clear h1)
    (try clear h2)
    go_enter Try.func29, Try.ntmps29
    go_wp2_with fail
    go_region_with (go_at_call 42; refine (unhide (HB _)).mono ?_; rintro e w' ⟨rfl, ho⟩; obtain ⟨hkc, hkf⟩ := Only.rules ho)
    all_goals (go_wp2_with fail; go_ret; exact ⟨rfl, by first | exact (((Only.refl _ _).alloc _).drew).trans ho | exact ((Only.refl _ _).drew.trans ho).alloc _⟩)
  rw [if_neg h1] at hr
  by_cases h5 : 0 < one
  · have d1 : decide (0 < oi) = true := decide_eq_true (by omega)
    have d2 : decide ((v : Int) < 256) = false := decide_eq_false (by omega)
    clear h5
    by_cases h2 : v < 65536
    · rw [if_pos h2] at hr
      have d4 : decide ((v : Int) < 65536) = true := decide_eq_true (by omega)
      have hcv := HCV.out two (by omega) ti hti
      obtain ⟨l1, hl1⟩ : ∃ l1, l1 = bigL two 1 := ⟨_, rfl⟩
      obtain ⟨l2, hl2⟩ : ∃ l2, l2 = bigL v 2 := ⟨_, rfl⟩
      have hadd := run_add_S (P := Try.prog) l1 l2 (by rw [hl1, hl2, bigL_length, bigL_length]; omega)
      rw [← hl1] at hcv
      rw [← hl1, ← hl2] at hr
      have HB := fun W => hide (refbig_at v 2 v 2 rfl rfl (by omega) (by omega) hv l2 hl2 W)
      rw [← hr] at hadd
      clear hr hl1 hl2 ho ht hf hoi hti hfi
      (try clear h9)
      (try clear h1)
      (try clear h2)
      go_enter Try.func29, Try.ntmps29
      go_wp2_with fail
      go_region_with (go_at_call 42; refine (unhide (HB _)).mono ?_; rintro e w' ⟨rfl, ho⟩; obtain ⟨hkc, hkf⟩ := Only.rules ho)
      all_goals (go_wp2_with fail; go_ret; exact ⟨rfl, by first | exact (((Only.refl _ _).alloc _).drew).trans ho | exact ((Only.refl _ _).drew.trans ho).alloc _⟩)
    · rw [if_neg h2] at hr
      have d4 : decide ((v : Int) < 65536) = false := decide_eq_false (by omega)
      have hcv := HCV.out four (by omega) fi hfi
      obtain ⟨l1, hl1⟩ : ∃ l1, l1 = bigL four 1 := ⟨_, rfl⟩
      obtain ⟨l2, hl2⟩ : ∃ l2, l2 = bigL v 4 := ⟨_, rfl⟩
      have hadd := run_add_S (P := Try.prog) l1 l2 (by rw [hl1, hl2, bigL_length, bigL_length]; omega)
      rw [← hl1] at hcv
      rw [← hl1, ← hl2] at hr
      have HB := fun W => hide (refbig_at v 4 v 4 rfl rfl (by omega) (by omega) hv l2 hl2 W)
      rw [← hr] at hadd
      clear hr hl1 hl2 ho ht hf hoi hti hfi
      (try clear h9)
      (try clear h1)
      (try clear h2)
      go_enter Try.func29, Try.ntmps29
      go_wp2_with fail
      go_region_with (go_at_call 42; refine (unhide (HB _)).mono ?_; rintro e w' ⟨rfl, ho⟩; obtain ⟨hkc, hkf⟩ := Only.rules ho)
      all_goals (go_wp2_with fail; go_ret; exact ⟨rfl, by first | exact (((Only.refl _ _).alloc _).drew).trans ho | exact ((Only.refl _ _).drew.trans ho).alloc _⟩)
  · have d1 : decide (0 < oi) = false := decide_eq_false (by omega)
    clear h5
    by_cases h2 : v < 65536
    · rw [if_pos h2] at hr
      have d4 : decide ((v : Int) < 65536) = true := decide_eq_true (by omega)
      have hcv := HCV.out two (by omega) ti hti
      obtain ⟨l1, hl1⟩ : ∃ l1, l1 = bigL two 1 := ⟨_, rfl⟩
      obtain ⟨l2, hl2⟩ : ∃ l2, l2 = bigL v 2 := ⟨_, rfl⟩
      have hadd := run_add_S (P := Try.prog) l1 l2 (by rw [hl1, hl2, bigL_length, bigL_length]; omega)
      rw [← hl1] at hcv
      rw [← hl1, ← hl2] at hr
      have HB := fun W => hide (refbig_at v 2 v 2 rfl rfl (by omega) (by omega) hv l2 hl2 W)
      rw [← hr] at hadd
      clear hr hl1 hl2 ho ht hf hoi hti hfi
      (try clear h9)
      (try clear h1)
      (try clear h2)
      go_enter Try.func29, Try.ntmps29
      go_wp2_with fail
      go_region_with (go_at_call 42; refine (unhide (HB _)).mono ?_; rintro e w' ⟨rfl, ho⟩; obtain ⟨hkc, hkf⟩ := Only.rules ho)
      all_goals (go_wp2_with fail; go_ret; exact ⟨rfl, by first | exact (((Only.refl _ _).alloc _).drew).trans ho | exact ((Only.refl _ _).drew.trans ho).alloc _⟩)
    · rw [if_neg h2] at hr
      have d4 : decide ((v : Int) < 65536) = false := decide_eq_false (by omega)
      have hcv := HCV.out four (by omega) fi hfi
      obtain ⟨l1, hl1⟩ : ∃ l1, l1 = bigL four 1 := ⟨_, rfl⟩
      obtain ⟨l2, hl2⟩ : ∃ l2, l2 = bigL v 4 := ⟨_, rfl⟩
      have hadd := run_add_S (P := Try.prog) l1 l2 (by rw [hl1, hl2, bigL_length, bigL_length]; omega)
      rw [← hl1] at hcv
      rw [← hl1, ← hl2] at hr
      have HB := fun W => hide (refbig_at v 4 v 4 rfl rfl (by omega) (by omega) hv l2 hl2 W)
      rw [← hr] at hadd
      clear hr hl1 hl2 ho ht hf hoi hti hfi
      (try clear h9)
      (try clear h1)
      (try clear h2)
      go_enter Try.func29, Try.ntmps29
      go_wp2_with fail
      go_region_with (go_at_call 42; refine (unhide (HB _)).mono ?_; rintro e w' ⟨rfl, ho⟩; obtain ⟨hkc, hkf⟩ := Only.rules ho)
      all_goals (go_wp2_with fail; go_ret; exact ⟨rfl, by first | exact (((Only.refl _ _).alloc _).drew).trans ho | exact ((Only.refl _ _).drew.trans ho).alloc _⟩)
end Go.Proofs.Yteggfobeaolafaa
