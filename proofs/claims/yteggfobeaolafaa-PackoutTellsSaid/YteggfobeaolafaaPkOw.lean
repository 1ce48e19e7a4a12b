/-
  The reference's whole numbers of MessagePack.
-/
import Derived.Test.YteggfobeaolafaaPkO
namespace Go.Proofs.Yteggfobeaolafaa
open Go.RowKit Instr

set_option maxRecDepth 100000 in
set_option maxHeartbeats 2000000 in
theorem refwhole_any (k5 : Int) (y : Bool) (m : Int) (l : List UInt8) (c5 : Int) (c : Nat) (hc : m = c) (h64 : Hid (c < 18446744073709551616)) (r : List UInt8) (k : Int) (hr : (r, k) = plainR (.whole y m)) (w : World) :
    Calls Try.prog 46 #[.agg #[.int .i64 k5, .bool y, .int .u64 m, .string (S l), .int .i64 c5]] w fun e w' => e = .returned (.tuple #[.string (S r), .int .i64 k]) ∧ Below w.heap.size w w' := by
  subst hc
  simp only [plainR, Int.toNat_natCast] at hr
  have hc : c < 18446744073709551616 := h64.out
  cases y with
  | false =>
    rw [if_neg (by decide)] at hr
    by_cases h1 : (c : Int) < 128
    · rw [if_pos h1] at hr
      injection hr with e1 e2
      subst e2
      have d1 : decide ((c : Int) < 128) = true := decide_eq_true h1
      have hcc : c < 128 := by omega
      have hcv := run_string_one (P := Try.prog) Try.underlying59 Try.underlying5 Try.underlying9 c (by omega) (c : Int) rfl
      rw [← e1] at hcv
      have hw2 : IntKind.u8.wrap (c : Int) = (c : Int) := by rw [IntKind.wrap_u8]; omega
      clear e1 hc h64 h1 hcc
      go_enter Try.func46, Try.ntmps46
      go_wp2_with fail
      go_ret2
      exact ⟨rfl, by repeat refine Below.more ?_ (Nat.le_refl _) _
                     exact Below.refl _ _⟩
    have d1 : decide ((c : Int) < 128) = false := decide_eq_false h1
    rw [if_neg h1] at hr
    injection hr with e1 e2
    subst e2
    by_cases h2 : c < 256
    · rw [sizedL_hit (.inr (by omega))] at e1
      have d2 : decide ((c : Int) < 256) = true := decide_eq_true (by omega)
      obtain ⟨l2, hl2⟩ : ∃ l2, l2 = bigL c 1 := ⟨_, rfl⟩
      rw [← hl2] at e1
      have HB := fun W => hide (refbig_at (c : Int) 1 c 1 rfl rfl (by omega) (by omega) (hide (by have := h64.out; omega)) l2 hl2 W)
      have hadd := run_add_S (P := Try.prog) [0xcc] l2 (by rw [hl2, bigL_length]; simp)
      rw [show [0xcc] ++ l2 = r from e1.symm, show S [0xcc] = ⟨#[0xcc]⟩ from rfl] at hadd
      clear e1 hc h64 hl2 h1 h2
      go_enter Try.func46, Try.ntmps46
      go_wp2_with fail
      (with_reducible refine (unhide (HB _)).mono ?_)
      rintro e w1 ⟨rfl, ho1⟩
      go_wp2_with fail
      go_ret2
      exact ⟨rfl, (Below.more (Below.refl _ _) (Nat.le_refl _) _).trans (ho1.nil_below.mono (by simp))⟩
    have d2 : decide ((c : Int) < 256) = false := decide_eq_false (by omega)
    rw [sizedL_next (by omega)] at e1
    by_cases h3 : c < 65536
    · rw [sizedL_hit (.inr (by omega))] at e1
      have d3 : decide ((c : Int) < 65536) = true := decide_eq_true (by omega)
      obtain ⟨l2, hl2⟩ : ∃ l2, l2 = bigL c 2 := ⟨_, rfl⟩
      rw [← hl2] at e1
      have HB := fun W => hide (refbig_at (c : Int) 2 c 2 rfl rfl (by omega) (by omega) (hide (by have := h64.out; omega)) l2 hl2 W)
      have hadd := run_add_S (P := Try.prog) [0xcd] l2 (by rw [hl2, bigL_length]; simp)
      rw [show [0xcd] ++ l2 = r from e1.symm, show S [0xcd] = ⟨#[0xcd]⟩ from rfl] at hadd
      clear e1 hc h64 hl2 h1 h2 h3
      go_enter Try.func46, Try.ntmps46
      go_wp2_with fail
      (with_reducible refine (unhide (HB _)).mono ?_)
      rintro e w1 ⟨rfl, ho1⟩
      go_wp2_with fail
      go_ret2
      exact ⟨rfl, (Below.more (Below.refl _ _) (Nat.le_refl _) _).trans (ho1.nil_below.mono (by simp))⟩
    have d3 : decide ((c : Int) < 65536) = false := decide_eq_false (by omega)
    rw [sizedL_next (by omega)] at e1
    by_cases h4 : c < 4294967296
    · rw [sizedL_hit (.inr (by omega))] at e1
      have d4 : decide ((c : Int) < 4294967296) = true := decide_eq_true (by omega)
      obtain ⟨l2, hl2⟩ : ∃ l2, l2 = bigL c 4 := ⟨_, rfl⟩
      rw [← hl2] at e1
      have HB := fun W => hide (refbig_at (c : Int) 4 c 4 rfl rfl (by omega) (by omega) (hide (by have := h64.out; omega)) l2 hl2 W)
      have hadd := run_add_S (P := Try.prog) [0xce] l2 (by rw [hl2, bigL_length]; simp)
      rw [show [0xce] ++ l2 = r from e1.symm, show S [0xce] = ⟨#[0xce]⟩ from rfl] at hadd
      clear e1 hc h64 hl2 h1 h2 h3 h4
      go_enter Try.func46, Try.ntmps46
      go_wp2_with fail
      (with_reducible refine (unhide (HB _)).mono ?_)
      rintro e w1 ⟨rfl, ho1⟩
      go_wp2_with fail
      go_ret2
      exact ⟨rfl, (Below.more (Below.refl _ _) (Nat.le_refl _) _).trans (ho1.nil_below.mono (by simp))⟩
    have d4 : decide ((c : Int) < 4294967296) = false := decide_eq_false (by omega)
    rw [sizedL_next (by omega), sizedL_hit (.inl rfl)] at e1
    obtain ⟨l2, hl2⟩ : ∃ l2, l2 = bigL c 8 := ⟨_, rfl⟩
    rw [← hl2] at e1
    have HB := fun W => hide (refbig_at (c : Int) 8 c 8 rfl rfl (by omega) (by omega) (hide (by have := h64.out; omega)) l2 hl2 W)
    have hadd := run_add_S (P := Try.prog) [0xcf] l2 (by rw [hl2, bigL_length]; simp)
    rw [show [0xcf] ++ l2 = r from e1.symm, show S [0xcf] = ⟨#[0xcf]⟩ from rfl] at hadd
    clear e1 hc h64 hl2 h1 h2 h3 h4
    go_enter Try.func46, Try.ntmps46
    go_wp2_with fail
    (with_reducible refine (unhide (HB _)).mono ?_)
    rintro e w1 ⟨rfl, ho1⟩
    go_wp2_with fail
    go_ret2
    exact ⟨rfl, (Below.more (Below.refl _ _) (Nat.le_refl _) _).trans (ho1.nil_below.mono (by simp))⟩
  | true =>
    rw [if_pos rfl] at hr
    unfold belowR at hr
    obtain ⟨t, ht⟩ : ∃ t : Nat, t = 18446744073709551615 - c := ⟨_, rfl⟩
    have hti : IntKind.u64.wrap (18446744073709551615 - (c : Int)) = (t : Int) := by rw [IntKind.wrap_u64]; omega
    have htc : (18446744073709551615 - (c : Int)) = (t : Int) := by omega
    by_cases h0 : 9223372036854775807 < c
    · rw [if_pos h0] at hr
      injection hr with e1 e2
      subst e1 e2
      have d1 : decide ((c : Int) < 32) = false := decide_eq_false (by omega)
      have d2 : decide ((c : Int) < 128) = false := decide_eq_false (by omega)
      have d3 : decide ((c : Int) < 32768) = false := decide_eq_false (by omega)
      have d4 : decide ((c : Int) < 2147483648) = false := decide_eq_false (by omega)
      have d5 : decide ((c : Int) < 9223372036854775808) = false := decide_eq_false (by omega)
      clear hc h64 h0 ht
      go_enter Try.func46, Try.ntmps46
      go_wp2_with fail
      go_ret2
      exact ⟨rfl, Below.more (Below.refl _ _) (Nat.le_refl _) _⟩
    rw [if_neg h0] at hr
    injection hr with e1 e2
    subst e2
    unfold belowL at e1
    rw [← ht] at e1
    by_cases h1 : c < 32
    · rw [if_pos h1] at e1
      have d1 : decide ((c : Int) < 32) = true := decide_eq_true (by omega)
      have hb1 : bigL t 1 = bigL (t % 256) 1 := by
        simp only [bigL, Nat.mul_zero, Nat.pow_zero, Nat.div_one, List.cons.injEq, and_true]
        apply UInt8.toNat_inj.1
        simp
      rw [hb1] at e1
      have hw2 : IntKind.u8.wrap (t : Int) = ((t % 256 : Nat) : Int) := by rw [IntKind.wrap_u8]; omega
      have hcv := run_string_one (P := Try.prog) Try.underlying59 Try.underlying5 Try.underlying9 (t % 256) (by omega) ((t % 256 : Nat) : Int) rfl
      rw [← e1] at hcv
      obtain ⟨tm, htm⟩ : ∃ tm, tm = ((t % 256 : Nat) : Int) := ⟨_, rfl⟩
      rw [← htm] at hcv hw2
      clear e1 hb1 hc h64 h1 h0 ht htm
      go_enter Try.func46, Try.ntmps46
      go_wp2_with fail
      go_ret2
      exact ⟨rfl, by repeat refine Below.more ?_ (Nat.le_refl _) _
                     exact Below.refl _ _⟩
    have d1 : decide ((c : Int) < 32) = false := decide_eq_false (by omega)
    rw [if_neg h1] at e1
    by_cases h2 : c < 128
    · rw [if_pos h2] at e1
      have d2 : decide ((c : Int) < 128) = true := decide_eq_true (by omega)
      obtain ⟨l2, hl2⟩ : ∃ l2, l2 = bigL t 1 := ⟨_, rfl⟩
      rw [← hl2] at e1
      have HB := fun W => hide (refbig_at (t : Int) 1 t 1 rfl rfl (by omega) (by omega) (hide (by have := h64.out; omega)) l2 hl2 W)
      have hadd := run_add_S (P := Try.prog) [0xd0] l2 (by rw [hl2, bigL_length]; simp)
      rw [show [0xd0] ++ l2 = r from e1.symm, show S [0xd0] = ⟨#[0xd0]⟩ from rfl] at hadd
      clear e1 hc h64 hl2 h0 h1 h2 ht
      go_enter Try.func46, Try.ntmps46
      go_wp2_with fail
      (with_reducible refine (unhide (HB _)).mono ?_)
      rintro e w1 ⟨rfl, ho1⟩
      go_wp2_with fail
      go_ret2
      exact ⟨rfl, (Below.more (Below.refl _ _) (Nat.le_refl _) _).trans (ho1.nil_below.mono (by simp))⟩
    have d2 : decide ((c : Int) < 128) = false := decide_eq_false (by omega)
    rw [if_neg h2] at e1
    by_cases h3 : c < 32768
    · rw [if_pos h3] at e1
      have d3 : decide ((c : Int) < 32768) = true := decide_eq_true (by omega)
      obtain ⟨l2, hl2⟩ : ∃ l2, l2 = bigL t 2 := ⟨_, rfl⟩
      rw [← hl2] at e1
      have HB := fun W => hide (refbig_at (t : Int) 2 t 2 rfl rfl (by omega) (by omega) (hide (by have := h64.out; omega)) l2 hl2 W)
      have hadd := run_add_S (P := Try.prog) [0xd1] l2 (by rw [hl2, bigL_length]; simp)
      rw [show [0xd1] ++ l2 = r from e1.symm, show S [0xd1] = ⟨#[0xd1]⟩ from rfl] at hadd
      clear e1 hc h64 hl2 h0 h1 h2 h3 ht
      go_enter Try.func46, Try.ntmps46
      go_wp2_with fail
      (with_reducible refine (unhide (HB _)).mono ?_)
      rintro e w1 ⟨rfl, ho1⟩
      go_wp2_with fail
      go_ret2
      exact ⟨rfl, (Below.more (Below.refl _ _) (Nat.le_refl _) _).trans (ho1.nil_below.mono (by simp))⟩
    have d3 : decide ((c : Int) < 32768) = false := decide_eq_false (by omega)
    rw [if_neg h3] at e1
    by_cases h4 : c < 2147483648
    · rw [if_pos h4] at e1
      have d4 : decide ((c : Int) < 2147483648) = true := decide_eq_true (by omega)
      obtain ⟨l2, hl2⟩ : ∃ l2, l2 = bigL t 4 := ⟨_, rfl⟩
      rw [← hl2] at e1
      have HB := fun W => hide (refbig_at (t : Int) 4 t 4 rfl rfl (by omega) (by omega) (hide (by have := h64.out; omega)) l2 hl2 W)
      have hadd := run_add_S (P := Try.prog) [0xd2] l2 (by rw [hl2, bigL_length]; simp)
      rw [show [0xd2] ++ l2 = r from e1.symm, show S [0xd2] = ⟨#[0xd2]⟩ from rfl] at hadd
      clear e1 hc h64 hl2 h0 h1 h2 h3 h4 ht
      go_enter Try.func46, Try.ntmps46
      go_wp2_with fail
      (with_reducible refine (unhide (HB _)).mono ?_)
      rintro e w1 ⟨rfl, ho1⟩
      go_wp2_with fail
      go_ret2
      exact ⟨rfl, (Below.more (Below.refl _ _) (Nat.le_refl _) _).trans (ho1.nil_below.mono (by simp))⟩
    have d4 : decide ((c : Int) < 2147483648) = false := decide_eq_false (by omega)
    rw [if_neg h4] at e1
    have d5 : decide ((c : Int) < 9223372036854775808) = true := decide_eq_true (by omega)
    obtain ⟨l2, hl2⟩ : ∃ l2, l2 = bigL t 8 := ⟨_, rfl⟩
    rw [← hl2] at e1
    have HB := fun W => hide (refbig_at (t : Int) 8 t 8 rfl rfl (by omega) (by omega) (hide (by have := h64.out; omega)) l2 hl2 W)
    have hadd := run_add_S (P := Try.prog) [0xd3] l2 (by rw [hl2, bigL_length]; simp)
    rw [show [0xd3] ++ l2 = r from e1.symm, show S [0xd3] = ⟨#[0xd3]⟩ from rfl] at hadd
    clear e1 hc h64 hl2 h0 h1 h2 h3 h4 ht
    go_enter Try.func46, Try.ntmps46
    go_wp2_with fail
    (with_reducible refine (unhide (HB _)).mono ?_)
    rintro e w1 ⟨rfl, ho1⟩
    go_wp2_with fail
    go_ret2
    exact ⟨rfl, (Below.more (Below.refl _ _) (Nat.le_refl _) _).trans (ho1.nil_below.mono (by simp))⟩
end Go.Proofs.Yteggfobeaolafaa
