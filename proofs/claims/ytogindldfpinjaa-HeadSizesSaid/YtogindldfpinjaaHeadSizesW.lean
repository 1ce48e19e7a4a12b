/-
  The walk of HeadSizes: shortest heads, compared as strings.
-/
import Derived.Test.YtogindldfpinjaaHeadD
namespace Go.Proofs.Ytogindldfpinjaa
open Go.RowKit

theorem bytesLess_irr (l : List UInt8) : Op.bytesLess l l = false := by
  induction l with
  | nil => rfl
  | cons a l ih => simp [Op.bytesLess, ih]

theorem byte_mod (v n k : Nat) (h : k < n) : UInt8.ofNat (v % 256 ^ n / 2 ^ (8 * k)) = UInt8.ofNat (v / 2 ^ (8 * k)) := by
  rw [pow8]
  apply UInt8.toNat_inj.1
  rw [UInt8.toNat_ofNat', UInt8.toNat_ofNat']
  obtain ⟨d, rfl⟩ : ∃ d, n = k + (d + 1) := ⟨n - k - 1, by omega⟩
  have e1 : v % 256 ^ (k + (d + 1)) / 256 ^ k = v / 256 ^ k % 256 ^ (d + 1) := by rw [Nat.pow_add]; exact Nat.mod_mul_right_div_self v (256 ^ k) (256 ^ (d + 1))
  rw [e1, Nat.pow_succ, Nat.mod_mul_left_mod]
theorem bigL_mod (v n : Nat) : ∀ k, k ≤ n → bigL (v % 256 ^ n) k = bigL v k := by
  intro k
  induction k with
  | zero => intro _; rfl
  | succ k ih => intro h; rw [bigL, bigL, ih (by omega), byte_mod v n k (by omega)]

theorem bigL_less (n : Nat) : ∀ v w : Nat, v < 256 ^ n → w < 256 ^ n → Op.bytesLess (bigL v n) (bigL w n) = decide (v < w) := by
  induction n with
  | zero => intro v w hv hw; simp at hv hw; subst hv hw; rfl
  | succ n ih =>
    intro v w hv hw
    rw [bigL, bigL, Op.bytesLess, ← bigL_mod v n n (Nat.le_refl _), ← bigL_mod w n n (Nat.le_refl _)]
    have hp : 0 < 256 ^ n := Nat.pos_of_ne_zero (by simp)
    rw [ih _ _ (Nat.mod_lt _ hp) (Nat.mod_lt _ hp), pow8]
    have hv1 : v / 256 ^ n < 256 := by rw [Nat.div_lt_iff_lt_mul hp]; rw [Nat.pow_succ] at hv; omega
    have hw1 : w / 256 ^ n < 256 := by rw [Nat.div_lt_iff_lt_mul hp]; rw [Nat.pow_succ] at hw; omega
    have dv := Nat.div_add_mod v (256 ^ n)
    have dw := Nat.div_add_mod w (256 ^ n)
    have mv := Nat.mod_lt v hp
    have mw := Nat.mod_lt w hp
    generalize 256 ^ n = P at *
    generalize v / P = a at *
    generalize w / P = b at *
    generalize v % P = r at *
    generalize w % P = s at *
    have e1 : (UInt8.ofNat a < UInt8.ofNat b) ↔ a < b := by rw [UInt8.lt_iff_toNat_lt, UInt8.toNat_ofNat', UInt8.toNat_ofNat']; omega
    have e2 : (UInt8.ofNat a = UInt8.ofNat b) ↔ a = b := by rw [← UInt8.toNat_inj, UInt8.toNat_ofNat', UInt8.toNat_ofNat']; omega
    rw [Bool.eq_iff_iff]
    simp only [Bool.or_eq_true, Bool.and_eq_true, decide_eq_true_eq, beq_iff_eq, e1, e2]
    subst dv dw
    constructor
    · rintro (h | ⟨rfl, h⟩)
      · have : P * (a + 1) ≤ P * b := Nat.mul_le_mul_left _ h
        rw [Nat.mul_succ] at this
        omega
      · omega
    · intro h
      rcases Nat.lt_trichotomy a b with h1 | rfl | h1
      · exact .inl h1
      · exact .inr ⟨rfl, by omega⟩
      · have : P * (b + 1) ≤ P * a := Nat.mul_le_mul_left _ h1
        rw [Nat.mul_succ] at this
        omega

def headC (v : Nat) : Nat := if v < 24 then v else if v < 256 then 24 else if v < 65536 then 25 else if v < 4294967296 then 26 else 27
def headN (v : Nat) : Nat := if v < 24 then 0 else if v < 256 then 1 else if v < 65536 then 2 else if v < 4294967296 then 4 else 8
theorem putL_eq (M : Int) (v : Nat) : putL M v = UInt8.ofNat ((M % 8).toNat * 32 + headC v) :: bigL v (headN v) := by
  unfold putL headC headN
  have hb1 : ∀ x, bigL x 1 = [UInt8.ofNat x] := fun x => by simp [bigL]
  by_cases h1 : v < 24
  · rw [if_pos h1, if_pos h1, if_pos h1, hb1]; rfl
  rw [if_neg h1, if_neg h1, if_neg h1]
  by_cases h2 : v < 256
  · rw [if_pos h2, if_pos h2, if_pos h2, hb1]; rfl
  rw [if_neg h2, if_neg h2, if_neg h2]
  by_cases h3 : v < 65536
  · rw [if_pos h3, if_pos h3, if_pos h3, hb1]; rfl
  rw [if_neg h3, if_neg h3, if_neg h3]
  by_cases h4 : v < 4294967296
  · rw [if_pos h4, if_pos h4, if_pos h4, hb1]; rfl
  · rw [if_neg h4, if_neg h4, if_neg h4, hb1]; rfl
theorem putL_len (M : Int) (v : Nat) : (putL M v).length = headN v + 1 := by rw [putL_eq]; simp

theorem head_lt {v w : Nat} (hw : w < 18446744073709551616) (h : v < w) : headC v < headC w ∨ (headC v = headC w ∧ headN v = headN w ∧ v < 256 ^ headN w ∧ w < 256 ^ headN w) := by
  unfold headC headN
  repeat' split
  all_goals first | omega | (right; refine ⟨rfl, rfl, ?_, ?_⟩ <;> omega)

theorem putL_less_of {M : Int} {v w : Nat} (hw : w < 18446744073709551616) (h : v < w) : Op.bytesLess (putL M v) (putL M w) = true := by
  rw [putL_eq, putL_eq, Op.bytesLess]
  have hm : (M % 8).toNat < 8 := by omega
  have hc : headC w < 28 := by unfold headC; repeat' split
                               all_goals omega
  rcases head_lt hw h with h1 | ⟨h1, h2, h3, h4⟩
  · have : (UInt8.ofNat ((M % 8).toNat * 32 + headC v) < UInt8.ofNat ((M % 8).toNat * 32 + headC w)) := by rw [UInt8.lt_iff_toNat_lt, UInt8.toNat_ofNat', UInt8.toNat_ofNat']; omega
    rw [decide_eq_true this, Bool.true_or]
  · rw [h1, h2, bigL_less _ v w h3 h4]
    simp [h]

/-- Go's len of the shortest head. -/
theorem putL_ne_of {M : Int} {v w : Nat} (hv : v < 18446744073709551616) (hw : w < 18446744073709551616) (h : v ≠ w) : putL M v ≠ putL M w := by
  intro he
  rcases Nat.lt_or_gt_of_ne h with h1 | h1
  · have := putL_less_of (M := M) hw h1
    rw [he, bytesLess_irr] at this
    cases this
  · have := putL_less_of (M := M) hv h1
    rw [he, bytesLess_irr] at this
    cases this
theorem bytesLess_asymm : ∀ x y : List UInt8, Op.bytesLess x y = true → Op.bytesLess y x = false
  | _, [], h => by simp [Op.bytesLess] at h
  | [], _ :: _, _ => rfl
  | a :: x, b :: y, h => by
    simp only [Op.bytesLess, Bool.or_eq_true, Bool.and_eq_true, decide_eq_true_eq, beq_iff_eq, Bool.or_eq_false_iff, decide_eq_false_iff_not, Bool.and_eq_false_iff] at h ⊢
    rcases h with h | ⟨rfl, h⟩
    · refine ⟨by simp only [UInt8.lt_iff_toNat_lt] at h ⊢; omega, .inl ?_⟩
      rw [beq_eq_false_iff_ne]
      rintro rfl
      exact absurd h (by simp)
    · exact ⟨by simp, .inr (bytesLess_asymm x y h)⟩

set_option maxRecDepth 100000 in
theorem sizes_go (major : Int) (a b : Nat) (x y : List UInt8) (w : World) (hx : x = putL major a) (hy : y = putL major b) (hlt : Op.bytesLess x y = decide (a < b)) (heq : (x == y) = ((a : Int) == b)) :
    Calls Try.prog 4 #[.int .i64 major, .int .u64 a, .int .u64 b] w fun e w' => e = .returned (.bool true) ∧ Below w.heap.size w w' := by
  have HA := hide (alive_any w)
  have HX := fun W => hide (put_at major a a rfl (S x) (by rw [hx]) W)
  have HY := fun W => hide (put_at major b b rfl (S y) (by rw [hy]) W)
  have hn := putL_len major a
  rw [← hx] at hn
  clear hx hy
  have hN : headN a = if a < 24 then 0 else if a < 256 then 1 else if a < 65536 then 2 else if a < 4294967296 then 4 else 8 := rfl
  by_cases h4 : a < 4294967296
  rotate_left
  · have hn' : (x.length : Int) = 9 := by rw [if_neg (by omega), if_neg (by omega), if_neg (by omega), if_neg (by omega)] at hN; omega
    have b4 : decide ((4294967296 : Int) ≤ (a : Int)) = true := by simp; omega
    clear hn hN h4
    go_enter Try.func4, Try.ntmps4
    go_wp2_with fail
    (with_reducible refine (unhide HA).mono ?_)
    rintro e w1 ⟨rfl, hb⟩
    go_wp2_with fail
    (with_reducible refine (unhide (HX _)).mono ?_)
    rintro e w2 ⟨rfl, ho⟩
    have hb := hb.trans (ho.below hb.size (by simp))
    clear ho
    go_wp2_with fail
    (with_reducible refine (unhide (HY _)).mono ?_)
    rintro e w3 ⟨rfl, ho⟩
    have hb := hb.trans (ho.below hb.size (by simp))
    clear ho
    go_wp2_with fail
    go_ret
    exact ⟨rfl, hb⟩
  have b4 : decide ((4294967296 : Int) ≤ (a : Int)) = false := by simp; omega
  by_cases h3 : a < 65536
  rotate_left
  · have hn' : (x.length : Int) = 5 := by rw [if_neg (by omega), if_neg (by omega), if_neg (by omega), if_pos (by omega)] at hN; omega
    have b3 : decide ((65536 : Int) ≤ (a : Int)) = true := by simp; omega
    clear hn hN h4 h3
    go_enter Try.func4, Try.ntmps4
    go_wp2_with fail
    (with_reducible refine (unhide HA).mono ?_)
    rintro e w1 ⟨rfl, hb⟩
    go_wp2_with fail
    (with_reducible refine (unhide (HX _)).mono ?_)
    rintro e w2 ⟨rfl, ho⟩
    have hb := hb.trans (ho.below hb.size (by simp))
    clear ho
    go_wp2_with fail
    (with_reducible refine (unhide (HY _)).mono ?_)
    rintro e w3 ⟨rfl, ho⟩
    have hb := hb.trans (ho.below hb.size (by simp))
    clear ho
    go_wp2_with fail
    go_ret
    exact ⟨rfl, hb⟩
  have b3 : decide ((65536 : Int) ≤ (a : Int)) = false := by simp; omega
  by_cases h2 : a < 256
  rotate_left
  · have hn' : (x.length : Int) = 3 := by rw [if_neg (by omega), if_neg (by omega), if_pos (by omega)] at hN; omega
    have b2 : decide ((256 : Int) ≤ (a : Int)) = true := by simp; omega
    clear hn hN h4 h3 h2
    go_enter Try.func4, Try.ntmps4
    go_wp2_with fail
    (with_reducible refine (unhide HA).mono ?_)
    rintro e w1 ⟨rfl, hb⟩
    go_wp2_with fail
    (with_reducible refine (unhide (HX _)).mono ?_)
    rintro e w2 ⟨rfl, ho⟩
    have hb := hb.trans (ho.below hb.size (by simp))
    clear ho
    go_wp2_with fail
    (with_reducible refine (unhide (HY _)).mono ?_)
    rintro e w3 ⟨rfl, ho⟩
    have hb := hb.trans (ho.below hb.size (by simp))
    clear ho
    go_wp2_with fail
    go_ret
    exact ⟨rfl, hb⟩
  have b2 : decide ((256 : Int) ≤ (a : Int)) = false := by simp; omega
  by_cases h1 : a < 24
  rotate_left
  · have hn' : (x.length : Int) = 2 := by rw [if_neg (by omega), if_pos (by omega)] at hN; omega
    have b1 : decide ((24 : Int) ≤ (a : Int)) = true := by simp; omega
    clear hn hN h4 h3 h2 h1
    go_enter Try.func4, Try.ntmps4
    go_wp2_with fail
    (with_reducible refine (unhide HA).mono ?_)
    rintro e w1 ⟨rfl, hb⟩
    go_wp2_with fail
    (with_reducible refine (unhide (HX _)).mono ?_)
    rintro e w2 ⟨rfl, ho⟩
    have hb := hb.trans (ho.below hb.size (by simp))
    clear ho
    go_wp2_with fail
    (with_reducible refine (unhide (HY _)).mono ?_)
    rintro e w3 ⟨rfl, ho⟩
    have hb := hb.trans (ho.below hb.size (by simp))
    clear ho
    go_wp2_with fail
    go_ret
    exact ⟨rfl, hb⟩
  have b1 : decide ((24 : Int) ≤ (a : Int)) = false := by simp; omega
  have hn' : (x.length : Int) = 1 := by rw [if_pos (by omega)] at hN; omega
  clear hn hN h4 h3 h2 h1
  go_enter Try.func4, Try.ntmps4
  go_wp2_with fail
  (with_reducible refine (unhide HA).mono ?_)
  rintro e w1 ⟨rfl, hb⟩
  go_wp2_with fail
  (with_reducible refine (unhide (HX _)).mono ?_)
  rintro e w2 ⟨rfl, ho⟩
  have hb := hb.trans (ho.below hb.size (by simp))
  clear ho
  go_wp2_with fail
  (with_reducible refine (unhide (HY _)).mono ?_)
  rintro e w3 ⟨rfl, ho⟩
  have hb := hb.trans (ho.below hb.size (by simp))
  clear ho
  go_wp2_with fail
  go_ret
  exact ⟨rfl, hb⟩

theorem headSizes_any (major : Int) (a b : Nat) (ha : a < 18446744073709551616) (hb : b < 18446744073709551616) (w : World) :
    Calls Try.prog 4 #[.int .i64 major, .int .u64 a, .int .u64 b] w fun e w' => e = .returned (.bool true) ∧ Below w.heap.size w w' := by
  refine sizes_go major a b _ _ w rfl rfl ?_ ?_
  · by_cases h : a < b
    · rw [putL_less_of hb h, decide_eq_true h]
    · rw [decide_eq_false h]
      by_cases h2 : a = b
      · rw [h2]; exact bytesLess_irr _
      · exact bytesLess_asymm _ _ (putL_less_of ha (by omega))
  · by_cases h : a = b
    · rw [h]; simp
    · have h1 : ((a : Int) == b) = false := by simp; omega
      rw [h1]
      exact beq_eq_false_iff_ne.2 (putL_ne_of ha hb h)
end Go.Proofs.Ytogindldfpinjaa
