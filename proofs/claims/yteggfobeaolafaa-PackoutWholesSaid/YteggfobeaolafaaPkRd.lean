/-
  Whole numbers, written and read: the bytes, how many there are.
-/
import Derived.Test.YteggfobeaolafaaPkRc
namespace Go.Proofs.Yteggfobeaolafaa
open Go.RowKit

/-- The bytes of a whole number, and what reads them. -/
def Reads (r : List UInt8) (g : Bool) (m : Int) : Prop := ∀ (W : World) (p q : Nat), InS W p q r 0 (.slice none 0 0) false → Calls Try.prog 37 #[.pointer (some ⟨p, 0, none⟩)] W fun e w' => e = .returned (.bool true) ∧ Took W w' p q r g m
theorem all_whole (g : Bool) (M : Nat) : allC [⟨2, g, M, [], 0⟩] [] false [] = if (plainR (.whole g M)).2 = 0 then ((plainR (.whole g M)).1, 0) else ([], (plainR (.whole g M)).2) := by
  simp [allC, EvM.part, partOf, stepC, Part.may, Part.isClose, partR, Part.opens, Part.isBegin]
  split
  · simp_all
  · rename_i h
    rcases partR_two (Part.whole g M) with h1 | h1
    · exact absurd h1 h
    · have h2 : plainR (Part.whole g M) = ([], 7) := h1
      rw [h2]
      simp
theorem all_far (M : Nat) (h : 9223372036854775808 ≤ M) : allC [⟨2, true, M, [], 0⟩] [] false [] = ([], 7) := by
  rw [all_whole]
  have : plainR (.whole true M) = ([], 7) := by simp [plainR, belowR]; omega
  rw [this]
  simp
theorem all_up1 (M : Nat) (h : M < 128) : ∃ r, allC [⟨2, false, M, [], 0⟩] [] false [] = (r, 0) ∧ r.length = 1 ∧ Reads r false M := by
  refine ⟨[UInt8.ofNat M], ?_, rfl, fun W p q hi => pack_small _ hi M (by simp; omega) (by omega)⟩
  rw [all_whole]
  have : plainR (.whole false M) = ([UInt8.ofNat M], 0) := by simp [plainR, bigL]; omega
  rw [this]
  simp
theorem all_up2 (M : Nat) (h0 : 128 ≤ M) (h : M < 256) : ∃ r, allC [⟨2, false, M, [], 0⟩] [] false [] = (r, 0) ∧ r.length = 2 ∧ Reads r false M := by
  refine ⟨UInt8.ofNat 204 :: bigL M 1, ?_, by simp, fun W p q hi => pack_204 hi (by simp) M (by rw [ofL_big]; omega)⟩
  rw [all_whole]
  have : plainR (.whole false M) = (UInt8.ofNat 204 :: bigL M 1, 0) := by
    simp only [plainR, Int.toNat_natCast]
    rw [if_neg (by simp), if_neg (by omega), sizedL_hit (.inr (by omega))]
    rfl
  rw [this]
  simp
theorem all_up3 (M : Nat) (h0 : 256 ≤ M) (h : M < 65536) : ∃ r, allC [⟨2, false, M, [], 0⟩] [] false [] = (r, 0) ∧ r.length = 3 ∧ Reads r false M := by
  refine ⟨UInt8.ofNat 205 :: bigL M 2, ?_, by simp, fun W p q hi => pack_205 hi (by simp) M (by rw [ofL_big]; omega)⟩
  rw [all_whole]
  have : plainR (.whole false M) = (UInt8.ofNat 205 :: bigL M 2, 0) := by
    simp only [plainR, Int.toNat_natCast]
    rw [if_neg (by simp), if_neg (by omega), sizedL_next (by omega), sizedL_hit (.inr (by omega))]
    rfl
  rw [this]
  simp
theorem all_up5 (M : Nat) (h0 : 65536 ≤ M) (h : M < 4294967296) : ∃ r, allC [⟨2, false, M, [], 0⟩] [] false [] = (r, 0) ∧ r.length = 5 ∧ Reads r false M := by
  refine ⟨UInt8.ofNat 206 :: bigL M 4, ?_, by simp, fun W p q hi => pack_206 hi (by simp) M (by rw [ofL_big]; omega)⟩
  rw [all_whole]
  have : plainR (.whole false M) = (UInt8.ofNat 206 :: bigL M 4, 0) := by
    simp only [plainR, Int.toNat_natCast]
    rw [if_neg (by simp), if_neg (by omega), sizedL_next (by omega), sizedL_next (by omega), sizedL_hit (.inr (by omega))]
    rfl
  rw [this]
  simp
theorem all_up9 (M : Nat) (h0 : 4294967296 ≤ M) (h : M < 18446744073709551616) : ∃ r, allC [⟨2, false, M, [], 0⟩] [] false [] = (r, 0) ∧ r.length = 9 ∧ Reads r false M := by
  refine ⟨UInt8.ofNat 207 :: bigL M 8, ?_, by simp, fun W p q hi => pack_207 hi (by simp) M (by rw [ofL_big]; omega)⟩
  rw [all_whole]
  have : plainR (.whole false M) = (UInt8.ofNat 207 :: bigL M 8, 0) := by
    simp only [plainR, Int.toNat_natCast]
    rw [if_neg (by simp), if_neg (by omega), sizedL_next (by omega), sizedL_next (by omega), sizedL_next (by omega), sizedL_hit (.inl rfl)]
    rfl
  rw [this]
  simp
theorem all_down1 (M : Nat) (h : M < 32) : ∃ r, allC [⟨2, true, M, [], 0⟩] [] false [] = (r, 0) ∧ r.length = 1 ∧ Reads r true M := by
  refine ⟨[UInt8.ofNat (18446744073709551615 - M)], ?_, rfl, fun W p q hi => ?_⟩
  · rw [all_whole]
    have : plainR (.whole true M) = ([UInt8.ofNat (18446744073709551615 - M)], 0) := by
      simp only [plainR, Int.toNat_natCast, belowR, belowL]
      rw [if_pos trivial, if_neg (by omega), if_pos h]
      simp [bigL]
    rw [this]
    simp
  · have h9 := pack_minus _ hi (255 - (M : Int)) (by simp; omega) (by omega)
    rw [show (255 - (255 - (M : Int))) = M by omega] at h9
    exact h9
theorem all_down2 (M : Nat) (h0 : 32 ≤ M) (h : M < 128) : ∃ r, allC [⟨2, true, M, [], 0⟩] [] false [] = (r, 0) ∧ r.length = 2 ∧ Reads r true M := by
  refine ⟨UInt8.ofNat 208 :: bigL (18446744073709551615 - M) 1, ?_, by simp, fun W p q hi => pack_208 hi (by simp) M (by omega) (by omega) _ rfl (by rw [ofL_big]; omega)⟩
  rw [all_whole]
  have : plainR (.whole true M) = (UInt8.ofNat 208 :: bigL (18446744073709551615 - M) 1, 0) := by
    simp only [plainR, Int.toNat_natCast, belowR, belowL]
    rw [if_pos trivial, if_neg (by omega), if_neg (by omega), if_pos h]
    rfl
  rw [this]
  simp
theorem all_down3 (M : Nat) (h0 : 128 ≤ M) (h : M < 32768) : ∃ r, allC [⟨2, true, M, [], 0⟩] [] false [] = (r, 0) ∧ r.length = 3 ∧ Reads r true M := by
  refine ⟨UInt8.ofNat 209 :: bigL (18446744073709551615 - M) 2, ?_, by simp, fun W p q hi => pack_209 hi (by simp) M (by omega) (by omega) _ rfl (by rw [ofL_big]; omega)⟩
  rw [all_whole]
  have : plainR (.whole true M) = (UInt8.ofNat 209 :: bigL (18446744073709551615 - M) 2, 0) := by
    simp only [plainR, Int.toNat_natCast, belowR, belowL]
    rw [if_pos trivial, if_neg (by omega), if_neg (by omega), if_neg (by omega), if_pos h]
    rfl
  rw [this]
  simp
theorem all_down5 (M : Nat) (h0 : 32768 ≤ M) (h : M < 2147483648) : ∃ r, allC [⟨2, true, M, [], 0⟩] [] false [] = (r, 0) ∧ r.length = 5 ∧ Reads r true M := by
  refine ⟨UInt8.ofNat 210 :: bigL (18446744073709551615 - M) 4, ?_, by simp, fun W p q hi => pack_210 hi (by simp) M (by omega) (by omega) _ rfl (by rw [ofL_big]; omega)⟩
  rw [all_whole]
  have : plainR (.whole true M) = (UInt8.ofNat 210 :: bigL (18446744073709551615 - M) 4, 0) := by
    simp only [plainR, Int.toNat_natCast, belowR, belowL]
    rw [if_pos trivial, if_neg (by omega), if_neg (by omega), if_neg (by omega), if_neg (by omega), if_pos h]
    rfl
  rw [this]
  simp
theorem all_down9 (M : Nat) (h0 : 2147483648 ≤ M) (h : M < 9223372036854775808) : ∃ r, allC [⟨2, true, M, [], 0⟩] [] false [] = (r, 0) ∧ r.length = 9 ∧ Reads r true M := by
  refine ⟨UInt8.ofNat 211 :: bigL (18446744073709551615 - M) 8, ?_, by simp, fun W p q hi => pack_211 hi (by simp) M (by omega) (by omega) _ rfl (by rw [ofL_big]; omega)⟩
  rw [all_whole]
  have : plainR (.whole true M) = (UInt8.ofNat 211 :: bigL (18446744073709551615 - M) 8, 0) := by
    simp only [plainR, Int.toNat_natCast, belowR, belowL]
    rw [if_pos trivial, if_neg (by omega), if_neg (by omega), if_neg (by omega), if_neg (by omega), if_neg (by omega)]
    rfl
  rw [this]
  simp
end Go.Proofs.Yteggfobeaolafaa
