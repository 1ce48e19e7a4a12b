/-
  A head's states as functions of the bytes that came: the first one, and those behind it.
-/
import Derived.Test.YtogindldfpinjaaHeadC
namespace Go.Proofs.Ytogindldfpinjaa
open Go.RowKit

/-- How many bytes a head has. -/
def need (c : Nat) : Nat := if c % 32 < 24 then 1 else if c % 32 < 28 then 1 + 2 ^ (c % 32 - 24) else 1
def fold (l : List UInt8) : Nat := l.foldl (fun v b => v * 256 + b.toNat) 0
def valOf (c : Nat) (l : List UInt8) : Nat := if c % 32 < 24 then c % 32 else fold l
/-- The state behind the first byte c and the bytes l. -/
def stB (c : Nat) (l : List UInt8) : HSt := ⟨true, decide (l.length + 1 = need c), decide (c % 32 = 31), ((c / 32 : Nat) : Int), ((need c - 1 - l.length : Nat) : Int), valOf c l, 0⟩
theorem fold_snoc (l : List UInt8) (b : UInt8) : fold (l ++ [b]) = fold l * 256 + b.toNat := by simp [fold]
theorem foldl_lt (l : List UInt8) : ∀ v : Nat, l.foldl (fun v b => v * 256 + b.toNat) v < (v + 1) * 256 ^ l.length := by
  induction l with
  | nil => intro v; simp
  | cons b l ih =>
    intro v
    have h1 := ih (v * 256 + b.toNat)
    have hb := b.toNat_lt
    have h2 : (v * 256 + b.toNat + 1) * 256 ^ l.length ≤ ((v + 1) * 256) * 256 ^ l.length := Nat.mul_le_mul_right _ (by omega)
    rw [List.foldl_cons, List.length_cons, Nat.pow_succ, Nat.mul_comm (256 ^ l.length) 256, ← Nat.mul_assoc]
    omega
theorem fold_lt (l : List UInt8) : fold l < 256 ^ l.length := by simpa [fold] using foldl_lt l 0
theorem need_le (c : Nat) : 1 ≤ need c ∧ need c ≤ 9 := by
  unfold need
  by_cases h1 : c % 32 < 24
  · rw [if_pos h1]; omega
  rw [if_neg h1]
  by_cases h2 : c % 32 < 28
  · rw [if_pos h2]
    have : c % 32 - 24 = 0 ∨ c % 32 - 24 = 1 ∨ c % 32 - 24 = 2 ∨ c % 32 - 24 = 3 := by omega
    rcases this with h | h | h | h <;> rw [h] <;> omega
  · rw [if_neg h2]; omega
theorem need_more {c : Nat} {n : Nat} (h : n + 1 < need c) : 24 ≤ c % 32 ∧ c % 32 < 28 := by
  unfold need at h
  by_cases h1 : c % 32 < 24
  · rw [if_pos h1] at h; omega
  rw [if_neg h1] at h
  by_cases h2 : c % 32 < 28
  · omega
  · rw [if_neg h2] at h; omega
theorem first_stB (c : Nat) (h : ¬ (28 ≤ c % 32 ∧ c % 32 ≤ 30)) : first c = stB c [] := by
  unfold first stB valOf need
  by_cases h1 : c % 32 < 24
  · simp [h1]; omega
  by_cases h2 : c % 32 < 28
  · have h3 : 0 < 2 ^ (c % 32 - 24) := Nat.two_pow_pos _
    rw [if_neg h1, if_pos h2, if_neg h1, if_pos h2, if_neg h1]
    simp [fold]
    omega
  have h3 : c % 32 = 31 := by omega
  simp [h3, fold]
theorem first_bad (c : Nat) (h1 : 28 ≤ c % 32) (h2 : c % 32 ≤ 30) : first c = ⟨true, false, false, ((c / 32 : Nat) : Int), 0, 0, 2⟩ := by
  unfold first
  rw [if_neg (by omega), if_neg (by omega), if_neg (by omega)]
theorem next_stB (c : Nat) (l : List UInt8) (b : UInt8) (h : l.length + 1 < need c) : (stB c l).next b.toNat = stB c (l ++ [b]) := by
  have h9 := (need_le c).2
  obtain ⟨h24, h28⟩ := need_more h
  have hf := fold_lt l
  have hp : 256 ^ l.length ≤ 256 ^ 7 := Nat.pow_le_pow_right (by omega) (by omega)
  have hb := b.toNat_lt
  simp only [HSt.next, stB, HSt.mk.injEq, true_and, List.length_append, List.length_singleton]
  refine ⟨?_, by omega, ?_, trivial⟩
  · rw [Bool.eq_iff_iff]; simp; omega
  · unfold valOf
    rw [if_neg (by omega), if_neg (by omega), fold_snoc, Nat.mod_eq_of_lt (by omega)]
/-- How the law's own reckoning and the head's state hang together. -/
def Told (st : HSt) (own : List UInt8) (done : Bool) (bad : Int) : Prop :=
  (bad ≠ 0 ∧ st.e = bad) ∨ (bad = 0 ∧ own = [] ∧ done = false ∧ st = HSt.zero) ∨
  (bad = 0 ∧ ∃ c l, own = c :: l ∧ ¬ (28 ≤ c.toNat % 32 ∧ c.toNat % 32 ≤ 30) ∧ l.length + 1 ≤ need c.toNat ∧ done = decide (l.length + 1 = need c.toNat) ∧ st = stB c.toNat l)
theorem step_bad_at {w : World} {p : Nat} {h : HSt} (hh : Head w p h) (b : Int) (x : Int) (hx : x = h.e) (he : x ≠ 0) :
    Calls Try.prog 10 #[.pointer (some ⟨p, 0, none⟩), .int .u8 b] w fun e w' => e = .returned (.tuple #[.bool false, .int .i64 x]) ∧ ∃ n, w' = w.drewN n := by
  subst hx
  exact step_bad hh b he
/-- The four kinds of a further byte. -/
theorem told_cases {st : HSt} {own : List UInt8} {done : Bool} {bad : Int} (ht : Told st own done bad) {w : World} {p : Nat} (hh : Head w p st) (b : UInt8) (bi : Int) (hbi : bi = (b.toNat : Int)) :
    (bad ≠ 0 ∧ st.e = bad) ∨ (bad = 0 ∧ done = true ∧ st.e = 0 ∧ st.en = true) ∨
    (bad = 0 ∧ done = false ∧ own = [] ∧ (28 ≤ b.toNat % 32 ∧ b.toNat % 32 ≤ 30) ∧
      Calls Try.prog 10 #[.pointer (some ⟨p, 0, none⟩), .int .u8 bi] w fun e w' => e = .returned (.tuple #[.bool false, .int .i64 2]) ∧ Head w' p ⟨true, false, false, ((b.toNat / 32 : Nat) : Int), 0, 0, 2⟩ ∧ Only [p] w w') ∨
    (bad = 0 ∧ done = false ∧ ∃ (c : UInt8) (l : List UInt8), own ++ [b] = c :: l ∧ ¬ (28 ≤ c.toNat % 32 ∧ c.toNat % 32 ≤ 30) ∧ l.length + 1 ≤ need c.toNat ∧ ∀ en, en = decide (l.length + 1 = need c.toNat) →
      Calls Try.prog 10 #[.pointer (some ⟨p, 0, none⟩), .int .u8 bi] w fun e w' => e = .returned (.tuple #[.bool en, .int .i64 0]) ∧ Head w' p (stB c.toNat l) ∧ Only [p] w w') := by
  rcases ht with h | ⟨rfl, rfl, rfl, rfl⟩ | ⟨rfl, c, l, rfl, hc, hl, rfl, rfl⟩
  · exact .inl h
  · by_cases hb : 28 ≤ b.toNat % 32 ∧ b.toNat % 32 ≤ 30
    · exact .inr (.inr (.inl ⟨rfl, rfl, rfl, hb, step_first_at hh b.toNat bi hbi b.toNat_lt _ (first_bad _ hb.1 hb.2).symm false rfl 2 rfl⟩))
    · exact .inr (.inr (.inr ⟨rfl, rfl, b, [], rfl, hb, (need_le _).1, fun en hen => step_first_at hh b.toNat bi hbi b.toNat_lt _ (first_stB _ hb).symm en hen 0 rfl⟩))
  · by_cases hd : l.length + 1 = need c.toNat
    · exact .inr (.inl ⟨rfl, by simpa using hd, rfl, by simpa [stB] using hd⟩)
    · refine .inr (.inr (.inr ⟨rfl, by simpa using hd, c, l ++ [b], rfl, hc, by simp; omega, fun en hen => ?_⟩))
      have h9 := (need_le c.toNat).2
      refine step_next_at hh b.toNat bi hbi b.toNat_lt rfl (by simpa [stB] using hd) rfl (by simp [stB]; omega) (by simp [stB]; omega) _ (next_stB _ _ _ (by omega)).symm en ?_
      rw [hen, Bool.eq_iff_iff]
      simp [stB]
theorem told_stB (c : UInt8) (l : List UInt8) (h1 : ¬ (28 ≤ c.toNat % 32 ∧ c.toNat % 32 ≤ 30)) (h2 : l.length + 1 ≤ need c.toNat) (en : Bool) (hen : en = decide (l.length + 1 = need c.toNat)) : Told (stB c.toNat l) (c :: l) en 0 :=
  .inr (.inr ⟨rfl, c, l, rfl, h1, h2, hen, rfl⟩)
theorem told_zero : Told HSt.zero [] false 0 := .inr (.inl ⟨rfl, rfl, rfl, rfl⟩)
end Go.Proofs.Ytogindldfpinjaa
