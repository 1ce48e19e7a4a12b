/-
  A whole head, byte by byte: its states.
-/
import Derived.Test.YtogindldfpinjaaHeadC
namespace Go.Proofs.Ytogindldfpinjaa
open Go.RowKit

/-- The state behind the first byte and j of the n bytes behind it. -/
def stAt (m n v j : Nat) : HSt := ⟨true, decide (j = n), false, m, ((n - j : Nat) : Int), v / 256 ^ (n - j), 0⟩
/-- A head's bytes: the kind, how many bytes, the number. -/
structure Form (L : List UInt8) (m n v : Nat) : Prop where
  ex : ∃ c : UInt8, L = c :: bigL v n ∧ first c.toNat = stAt m n v 0
  n8 : n ≤ 8
  lt : v < 18446744073709551616
  small : v < 256 ^ n ∨ n = 0

theorem bigL_get (v n j : Nat) (h : j < n) : (bigL v n)[j]'(by simpa using h) = UInt8.ofNat (v / 2 ^ (8 * (n - 1 - j))) := by
  induction n generalizing j with
  | zero => omega
  | succ n ih =>
    cases j with
    | zero => simp [bigL]
    | succ j =>
      simp only [bigL, List.getElem_cons_succ]
      rw [ih j (by omega), show n + 1 - 1 - (j + 1) = n - 1 - j by omega]

theorem pow8 (k : Nat) : (2 : Nat) ^ (8 * k) = 256 ^ k := by rw [Nat.pow_mul]

theorem next_st (m n v j : Nat) (h : j < n) (hv : v < 18446744073709551616) : (stAt m n v j).next (v / 256 ^ (n - 1 - j) % 256) = stAt m n v (j + 1) := by
  have e1 : v / 256 ^ (n - j) * 256 + v / 256 ^ (n - 1 - j) % 256 = v / 256 ^ (n - (j + 1)) := by
    rw [show n - (j + 1) = n - 1 - j by omega, show n - j = (n - 1 - j) + 1 by omega, Nat.pow_succ, ← Nat.div_div_eq_div_mul]
    omega
  have e2 : v / 256 ^ (n - (j + 1)) ≤ v := Nat.div_le_self _ _
  simp only [HSt.next, stAt, HSt.mk.injEq, true_and, e1]
  refine ⟨?_, by omega, Nat.mod_eq_of_lt (by omega), trivial⟩
  rw [Bool.eq_iff_iff]
  simp
  omega

theorem Form.len {L : List UInt8} {m n v : Nat} (f : Form L m n v) : L.length = n + 1 := by
  obtain ⟨c, rfl, _⟩ := f.ex
  simp

def stI (m n v i : Nat) : HSt := if i = 0 then HSt.zero else stAt m n v (i - 1)

theorem step_in {L : List UInt8} {m n v : Nat} (f : Form L m n v) {w : World} {p : Nat} (i : Nat) (hi : i < L.length) (hh : Head w p (stI m n v i)) (bi : Int) (hbi : bi = (L[i].toNat : Int)) (en : Bool) (hen : en = decide (i = n)) :
    Calls Try.prog 10 #[.pointer (some ⟨p, 0, none⟩), .int .u8 bi] w fun e w' => e = .returned (.tuple #[.bool en, .int .i64 0]) ∧ Head w' p (stI m n v (i + 1)) ∧ Only [p] w w' := by
  have hln := f.len
  obtain ⟨c, hL, hf⟩ := f.ex
  have hn8 := f.n8
  have hlt := f.lt
  cases i with
  | zero =>
    simp only [hL, List.getElem_cons_zero] at hbi
    exact step_first_at hh c.toNat bi hbi c.toNat_lt _ hf.symm en (by rw [hen]; rfl) 0 rfl
  | succ j =>
    have hj : j < n := by omega
    simp only [hL, List.getElem_cons_succ] at hbi
    rw [bigL_get v n j hj, UInt8.toNat_ofNat', pow8] at hbi
    refine step_next_at hh (v / 256 ^ (n - 1 - j) % 256) bi hbi (by omega) rfl ?_ rfl ?_ ?_ _ ?_ en ?_
    · simp [stI, stAt]; omega
    · simp [stI, stAt]; omega
    · simp [stI, stAt]; omega
    · simp only [stI, Nat.add_sub_cancel, if_neg (Nat.succ_ne_zero _)]
      exact (next_st m n v j hj hlt).symm
    · rw [hen]
      simp [stI, stAt]

theorem end_st (m n v : Nat) : stI m n v (n + 1) = ⟨true, true, false, m, 0, v, 0⟩ := by
  simp [stI, stAt]

theorem first_low (m v : Nat) (hv : v < 24) : first (m * 32 + v) = stAt m 0 v 0 := by
  rw [first, if_pos (by omega)]
  simp only [stAt, HSt.mk.injEq, true_and]
  refine ⟨by simp, ?_, by simp, ?_, trivial⟩ <;> simp <;> omega
theorem first_more (m k v : Nat) (hk : k < 4) (hv : v < 256 ^ (2 ^ k)) : first (m * 32 + (24 + k)) = stAt m (2 ^ k) v 0 := by
  rw [first, if_neg (by omega), if_pos (by omega)]
  have e1 : (m * 32 + (24 + k)) % 32 - 24 = k := by omega
  have e2 : (m * 32 + (24 + k)) / 32 = m := by omega
  have e3 : 0 < 2 ^ k := Nat.two_pow_pos k
  rw [e1, e2]
  simp only [stAt, HSt.mk.injEq, true_and, Nat.sub_zero, Nat.div_eq_of_lt hv]
  simp
  omega

theorem form_put (major : Int) (v : Nat) (hv : v < 18446744073709551616) : ∃ n, Form (putL major v) (major % 8).toNat n v := by
  obtain ⟨m, hm⟩ : ∃ m, m = (major % 8).toNat := ⟨_, rfl⟩
  have hm8 : m < 8 := by omega
  unfold putL
  rw [← hm]
  have hb1 : ∀ x, x < 256 → bigL x 1 = [UInt8.ofNat x] := fun x _ => by simp [bigL]
  have hto : ∀ x, x < 256 → (UInt8.ofNat x).toNat = x := fun x hx => by rw [UInt8.toNat_ofNat']; omega
  by_cases h1 : v < 24
  · rw [if_pos h1]
    refine ⟨0, ⟨⟨UInt8.ofNat (m * 32 + v), by rw [hb1 _ (by omega)]; rfl, ?_⟩, by omega, hv, .inr rfl⟩⟩
    rw [hto _ (by omega)]; exact first_low m v h1
  rw [if_neg h1]
  by_cases h2 : v < 256
  · rw [if_pos h2]
    refine ⟨1, ⟨⟨UInt8.ofNat (m * 32 + 24), by rw [hb1 _ (by omega)]; rfl, ?_⟩, by omega, hv, .inl (by omega)⟩⟩
    rw [hto _ (by omega)]; exact first_more m 0 v (by omega) (by simpa using h2)
  rw [if_neg h2]
  by_cases h3 : v < 65536
  · rw [if_pos h3]
    refine ⟨2, ⟨⟨UInt8.ofNat (m * 32 + 25), by rw [hb1 _ (by omega)]; rfl, ?_⟩, by omega, hv, .inl (by omega)⟩⟩
    rw [hto _ (by omega)]; exact first_more m 1 v (by omega) (by simpa using h3)
  rw [if_neg h3]
  by_cases h4 : v < 4294967296
  · rw [if_pos h4]
    refine ⟨4, ⟨⟨UInt8.ofNat (m * 32 + 26), by rw [hb1 _ (by omega)]; rfl, ?_⟩, by omega, hv, .inl (by omega)⟩⟩
    rw [hto _ (by omega)]; exact first_more m 2 v (by omega) (by simpa using h4)
  rw [if_neg h4]
  refine ⟨8, ⟨⟨UInt8.ofNat (m * 32 + 27), by rw [hb1 _ (by omega)]; rfl, ?_⟩, by omega, hv, .inl (by omega)⟩⟩
  rw [hto _ (by omega)]; exact first_more m 3 v (by omega) (by simpa using hv)
end Go.Proofs.Ytogindldfpinjaa
