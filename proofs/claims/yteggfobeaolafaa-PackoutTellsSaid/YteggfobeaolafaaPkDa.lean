/-
  Documents out of numbers (truchmanbook): a text out of a number; the next number.
-/
import Derived.Test.YteggfobeaolafaaPkX
import Derived.Test.YteggfobeaolafaaArgs
namespace Go.Proofs.Yteggfobeaolafaa
open Go.RowKit

set_option maxRecDepth 100000 in
theorem text_any (x : Int) (_hx0 : 0 ≤ x) (_hx : x ≤ 65535) (w : World) : Calls Try.prog 35 #[.int .i64 x] w fun e w' => ∃ l : List UInt8, e = .returned (.string (S l)) ∧ l.length ≤ 28 ∧ Below w.heap.size w w' := by
  obtain ⟨k0, hk0, hk⟩ := i64_and_mask x 7 (by decide)
  have hk2 : bits .and .i64 x 7 = (k0 : Int) := hk
  clear hk
  go_enter Try.func35, Try.ntmps35
  go_wp2_with fail
  go_loopg [3, 4] k0 (fun g s3 s4 wr => ∃ (k : Nat) (l : List UInt8), s4 = .int .i64 k ∧ k = g ∧ s3 = .string (S l) ∧ l.length + 4 * k ≤ 28 ∧ Below w.heap.size w wr)
  case atStart => exact ⟨k0, [], rfl, rfl, rfl, by simp; omega, Below.refl _ _⟩
  case round =>
    obtain ⟨k, l, rfl, rfl, rfl, hl, hb⟩ := hrel
    by_cases hk : 0 < k
    · obtain ⟨j, hj, hjb0⟩ := i64_and_mask (x / 2 ^ (k % 8)) 7 (by decide)
      have hjb : bits .and .i64 (x / 2 ^ (k % 8)) 7 = (j : Int) := hjb0
      clear hjb0 hk2
      have hj8 : j = 0 ∨ j = 1 ∨ j = 2 ∨ j = 3 ∨ j = 4 ∨ j = 5 ∨ j = 6 ∨ j = 7 := by omega
      rcases hj8 with rfl | rfl | rfl | rfl | rfl | rfl | rfl | rfl
      ·
        have hjc : bits .and .i64 (x / 2 ^ (k % 8)) 7 = 0 := hjb
        have hadd : ∀ W, (Op.stringOp .add (S l) ⟨#[97]⟩).run Try.prog W = .ok (.string (S (l ++ [97]))) W := fun W => run_add_S l [97] (by simp; omega) W
        clear hjb
        go_wp2_with fail
        go_roundg (k - 1)
        case measure => omega
        case rel => exact ⟨k - 1, l ++ [97], by go_num, rfl, rfl, by simp; omega, Below.more hb (Nat.le_of_lt_succ (Nat.lt_succ_of_le (Nat.le_refl _))) _⟩
      ·
        have hjc : bits .and .i64 (x / 2 ^ (k % 8)) 7 = 1 := hjb
        have hadd : ∀ W, (Op.stringOp .add (S l) ⟨#[34]⟩).run Try.prog W = .ok (.string (S (l ++ [34]))) W := fun W => run_add_S l [34] (by simp; omega) W
        clear hjb
        go_wp2_with fail
        go_roundg (k - 1)
        case measure => omega
        case rel => exact ⟨k - 1, l ++ [34], by go_num, rfl, rfl, by simp; omega, Below.more hb (Nat.le_of_lt_succ (Nat.lt_succ_of_le (Nat.le_refl _))) _⟩
      ·
        have hjc : bits .and .i64 (x / 2 ^ (k % 8)) 7 = 2 := hjb
        have hadd : ∀ W, (Op.stringOp .add (S l) ⟨#[92]⟩).run Try.prog W = .ok (.string (S (l ++ [92]))) W := fun W => run_add_S l [92] (by simp; omega) W
        clear hjb
        go_wp2_with fail
        go_roundg (k - 1)
        case measure => omega
        case rel => exact ⟨k - 1, l ++ [92], by go_num, rfl, rfl, by simp; omega, Below.more hb (Nat.le_of_lt_succ (Nat.lt_succ_of_le (Nat.le_refl _))) _⟩
      ·
        have hjc : bits .and .i64 (x / 2 ^ (k % 8)) 7 = 3 := hjb
        have hadd : ∀ W, (Op.stringOp .add (S l) ⟨#[10]⟩).run Try.prog W = .ok (.string (S (l ++ [10]))) W := fun W => run_add_S l [10] (by simp; omega) W
        clear hjb
        go_wp2_with fail
        go_roundg (k - 1)
        case measure => omega
        case rel => exact ⟨k - 1, l ++ [10], by go_num, rfl, rfl, by simp; omega, Below.more hb (Nat.le_of_lt_succ (Nat.lt_succ_of_le (Nat.le_refl _))) _⟩
      ·
        have hjc : bits .and .i64 (x / 2 ^ (k % 8)) 7 = 4 := hjb
        have hadd : ∀ W, (Op.stringOp .add (S l) ⟨#[195, 169]⟩).run Try.prog W = .ok (.string (S (l ++ [195, 169]))) W := fun W => run_add_S l [195, 169] (by simp; omega) W
        clear hjb
        go_wp2_with fail
        go_roundg (k - 1)
        case measure => omega
        case rel => exact ⟨k - 1, l ++ [195, 169], by go_num, rfl, rfl, by simp; omega, Below.more hb (Nat.le_of_lt_succ (Nat.lt_succ_of_le (Nat.le_refl _))) _⟩
      ·
        have hjc : bits .and .i64 (x / 2 ^ (k % 8)) 7 = 5 := hjb
        have hadd : ∀ W, (Op.stringOp .add (S l) ⟨#[1]⟩).run Try.prog W = .ok (.string (S (l ++ [1]))) W := fun W => run_add_S l [1] (by simp; omega) W
        clear hjb
        go_wp2_with fail
        go_roundg (k - 1)
        case measure => omega
        case rel => exact ⟨k - 1, l ++ [1], by go_num, rfl, rfl, by simp; omega, Below.more hb (Nat.le_of_lt_succ (Nat.lt_succ_of_le (Nat.le_refl _))) _⟩
      ·
        have hjc : bits .and .i64 (x / 2 ^ (k % 8)) 7 = 6 := hjb
        have hadd : ∀ W, (Op.stringOp .add (S l) ⟨#[240, 157, 132, 158]⟩).run Try.prog W = .ok (.string (S (l ++ [240, 157, 132, 158]))) W := fun W => run_add_S l [240, 157, 132, 158] (by simp; omega) W
        clear hjb
        go_wp2_with fail
        go_roundg (k - 1)
        case measure => omega
        case rel => exact ⟨k - 1, l ++ [240, 157, 132, 158], by go_num, rfl, rfl, by simp; omega, Below.more hb (Nat.le_of_lt_succ (Nat.lt_succ_of_le (Nat.le_refl _))) _⟩
      ·
        have hjc : bits .and .i64 (x / 2 ^ (k % 8)) 7 = 7 := hjb
        have hadd : ∀ W, (Op.stringOp .add (S l) ⟨#[122]⟩).run Try.prog W = .ok (.string (S (l ++ [122]))) W := fun W => run_add_S l [122] (by simp; omega) W
        clear hjb
        go_wp2_with fail
        go_roundg (k - 1)
        case measure => omega
        case rel => exact ⟨k - 1, l ++ [122], by go_num, rfl, rfl, by simp; omega, Below.more hb (Nat.le_of_lt_succ (Nat.lt_succ_of_le (Nat.le_refl _))) _⟩
    · obtain rfl : k = 0 := by omega
      go_wp2_with fail
      go_ret
      exact ⟨l, rfl, by omega, hb⟩
end Go.Proofs.Yteggfobeaolafaa
