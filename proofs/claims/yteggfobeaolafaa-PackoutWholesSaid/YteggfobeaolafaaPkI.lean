/-
  The writer's Step, at every part: what it answers and what it leaves.
-/
import Derived.Test.YteggfobeaolafaaPkF
import Derived.Test.YteggfobeaolafaaPkFe
import Derived.Test.YteggfobeaolafaaPkGe
import Derived.Test.YteggfobeaolafaaPkH
import Derived.Test.YteggfobeaolafaaPkI0
namespace Go.Proofs.Yteggfobeaolafaa
open Go.RowKit

/-- Its numbers lie in their types, its texts are not too long. -/
def Part.fits : Part → Bool
  | .whole _ m => decide (0 ≤ m ∧ m < 18446744073709551616)
  | .word l => decide (l.length ≤ 1000000)
  | .blob l => decide (l.length ≤ 1000000)
  | .begin_ _ n => decide (n ≤ 9223372036854775807)
  | _ => true
def partR : Part → List UInt8 × Int
  | .begin_ m n => beginR m n
  | pt => plainR pt
def Part.opens : Part → List Cont
  | .begin_ m n => [⟨m, n, 0⟩]
  | _ => []
theorem partR_two (pt : Part) : (partR pt).2 = 0 ∨ partR pt = ([], 7) := by
  cases pt <;> simp only [partR, plainR, true_or]
  · rename_i g m
    split
    · unfold belowR; split <;> simp
    · split <;> simp
  · unfold beginR; split <;> simp
/-- The error, the bytes, the open containers (the innermost first), whether it is done. -/
def stepC (R : List Cont) (d : Bool) (pt : Part) : Int × List UInt8 × List Cont × Bool :=
  if pt.may = false ∨ d = true then (14, [], R, d)
  else if pt.isClose then
    match R with
    | [] => (14, [], R, d)
    | c :: M => if c.full then (0, [], M, decide (M = [])) else (14, [], R, d)
  else
    match R with
    | [] => if (partR pt).2 = 0 then (0, (partR pt).1, pt.opens, !pt.isBegin) else (7, [], R, d)
    | c :: M => if c.full then (14, [], R, d) else if c.takes pt = false then (8, [], R, d) else if (partR pt).2 = 0 then (0, (partR pt).1, pt.opens ++ c.more :: M, false) else (7, [], R, d)
def SmallC (R : List Cont) : Prop := (∀ c ∈ R, c.parts ≤ 1000000) ∧ R.length ≤ 1000000
theorem step_any {w : World} {B p : Nat} {v : Value} {R : List Cont} {d : Bool} (h : Wr w B p v R.reverse d) (hs : SmallC R) (pt : Part) (hfit : pt.fits = true) (k : Int) (out : List UInt8) (R' : List Cont) (d' : Bool) (hr : (k, out, R', d') = stepC R d pt) :
    Calls Try.prog 12 #[.pointer (some ⟨p, 0, none⟩), pt.val] w fun e w' => e = .returned (.tuple #[.string (S out), .int .i64 k]) ∧ ∃ v', Wr w' B p v' R'.reverse d' ∧ Only (p :: slB v) w w' ∧ ∀ k ∈ slB v', k ∈ slB v ∨ w.heap.size ≤ k := by
  have still : ∀ {e : Ending} {w' : World} {k0 : Int}, (k, out, R', d') = (k0, [], R, d) → (e = .returned (.tuple #[.string (S []), .int .i64 k0]) ∧ Below w.heap.size w w') → e = .returned (.tuple #[.string (S out), .int .i64 k]) ∧ ∃ v', Wr w' B p v' R'.reverse d' ∧ Only (p :: slB v) w w' ∧ ∀ k ∈ slB v', k ∈ slB v ∨ w.heap.size ≤ k := by
    intro e w' k0 he hw
    obtain ⟨rfl, hb⟩ := hw
    injection he with e1 he
    injection he with e2 he
    injection he with e3 e4
    subst e1 e2 e3 e4
    exact ⟨rfl, v, h.below hb, Only.ofBelow hb, fun k hk => .inl hk⟩
  unfold stepC at hr
  by_cases hbad : pt.may = false ∨ d = true
  · rw [if_pos hbad] at hr
    exact (step_bad h pt hbad).mono fun e w' hw => still hr hw
  rw [if_neg hbad] at hr
  have hmay : pt.may = true := by cases hm : pt.may with
    | true => rfl
    | false => exact absurd (.inl hm) hbad
  have hd : d = false := by cases hm : d with
    | false => rfl
    | true => exact absurd (.inr hm) hbad
  subst hd
  cases hcl : pt.isClose with
  | true =>
    rw [if_pos hcl] at hr
    have hpt : pt = .close := by cases pt <;> simp [Part.isClose] at hcl; rfl
    subst hpt
    cases R with
    | nil => exact (step_close_empty h).mono fun e w' hw => still hr hw
    | cons c M =>
      have hp := hs.1 c (List.mem_cons_self ..)
      have hl : M.reverse.length ≤ 1000000 := by have := hs.2; simp at this ⊢; omega
      rw [List.reverse_cons] at h
      simp only at hr
      cases he : c.full with
      | false =>
        rw [he] at hr
        exact (step_close_no h hp hl he).mono fun e w' hw => still hr hw
      | true =>
        rw [he, if_pos rfl] at hr
        injection hr with e1 hr
        injection hr with e2 hr
        injection hr with e3 e4
        subst e1 e2 e3 e4
        refine (step_close_yes h hp hl he _ rfl).mono fun e w' hw => ?_
        obtain ⟨rfl, v', h1, h2, h3⟩ := hw
        refine ⟨rfl, v', ?_, h2, fun k hk => .inl (h3 k hk)⟩
        simpa using h1
  | false =>
    rw [hcl] at hr
    simp only [Bool.false_eq_true, if_false] at hr
    have plain : ∀ r k, (r, k) = plainR pt → ∀ W, Calls Try.prog 26 #[pt.val] W fun e w' => e = .returned (.tuple #[.string (S r), .int .i64 k]) ∧ Below W.heap.size W w' := fun r k hrk W =>
      cplain_any pt hcl hmay (fun g m e => by subst e; simpa [Part.fits] using hfit) (fun l e => by rcases e with rfl | rfl <;> simpa [Part.fits] using hfit) W r k hrk
    have isplain : pt.isBegin = false → partR pt = plainR pt ∧ pt.opens = [] := fun hb =>
      ⟨by cases pt <;> first | rfl | simp [Part.isBegin] at hb, by cases pt <;> first | rfl | simp [Part.isBegin] at hb⟩
    have begins : pt.isBegin = true → ∃ m n, pt = .begin_ m n ∧ -1 ≤ n ∧ n ≤ 9223372036854775807 := fun hb => by
      cases pt <;> simp [Part.isBegin] at hb
      exact ⟨_, _, rfl, by simpa [Part.may] using hmay, by simpa [Part.fits] using hfit⟩
    have two := partR_two pt
    cases R with
    | nil =>
      simp only at hr
      by_cases hz : (partR pt).2 = 0
      · rw [if_pos hz] at hr
        injection hr with e1 hr
        injection hr with e2 hr
        injection hr with e3 e4
        subst e1 e2 e3 e4
        cases hb : pt.isBegin with
        | false =>
          obtain ⟨e1, e2⟩ := isplain hb
          rw [e2]
          exact (step_plain_nil h pt hmay hcl hb _ (plain _ 0 (by rw [← e1, ← hz]))).mono fun e w' hw => ⟨hw.1, v, hw.2.1, hw.2.2, fun k hk => .inl hk⟩
        | true =>
          obtain ⟨m, n, rfl, h1, h2⟩ := begins hb
          exact step_begin_nil h m n h1 _ (plain [0xc0] 0 rfl) (fun W => begin_any m n h2 h1 W _ 0 (by rw [← hz]; rfl))
      · rw [if_neg hz] at hr
        have h7 := two.resolve_left hz
        cases hb : pt.isBegin with
        | false =>
          obtain ⟨e1, e2⟩ := isplain hb
          exact (step_perr_nil h pt hmay hcl hb (plain _ 7 (by rw [← e1, h7]))).mono fun e w' hw => still hr hw
        | true =>
          obtain ⟨m, n, rfl, h1, h2⟩ := begins hb
          exact (step_berr_nil h m n h1 (plain [0xc0] 0 rfl) (fun W => begin_any m n h2 h1 W _ 7 (by rw [← h7]; rfl))).mono fun e w' hw => still hr hw
    | cons c M =>
      have hp := hs.1 c (List.mem_cons_self ..)
      have hl : M.reverse.length ≤ 1000000 := by have := hs.2; simp at this ⊢; omega
      rw [List.reverse_cons] at h
      simp only at hr
      cases hf : c.full with
      | true =>
        rw [hf, if_pos rfl] at hr
        exact (step_full h hp hl pt hmay hcl hf).mono fun e w' hw => still hr hw
      | false =>
        rw [hf] at hr
        simp only [Bool.false_eq_true, if_false] at hr
        cases ht : c.takes pt with
        | false =>
          rw [if_pos ht] at hr
          exact (step_kind h hp hl pt hmay hcl hf ht).mono fun e w' hw => still hr hw
        | true =>
          rw [ht, if_neg (by decide)] at hr
          by_cases hz : (partR pt).2 = 0
          · rw [if_pos hz] at hr
            injection hr with e1 hr
            injection hr with e2 hr
            injection hr with e3 e4
            subst e1 e2 e3 e4
            cases hb : pt.isBegin with
            | false =>
              obtain ⟨e1, e2⟩ := isplain hb
              rw [e2]
              refine (step_plain_top h hp hl pt hmay hcl hb hf ht _ (plain _ 0 (by rw [← e1, ← hz]))).mono fun e w' hw => ⟨hw.1, v, ?_, hw.2.2, fun k hk => .inl hk⟩
              simpa using hw.2.1
            | true =>
              obtain ⟨m, n, rfl, h1, h2⟩ := begins hb
              refine (step_begin_top h hp hl m n h1 hf ht _ (plain [0xc0] 0 rfl) (fun W => begin_any m n h2 h1 W _ 0 (by rw [← hz]; rfl))).mono fun e w' hw => ?_
              obtain ⟨rfl, v', h3, h4, h5⟩ := hw
              refine ⟨rfl, v', ?_, h4, h5⟩
              simpa [Part.opens] using h3
          · rw [if_neg hz] at hr
            have h7 := two.resolve_left hz
            cases hb : pt.isBegin with
            | false =>
              obtain ⟨e1, e2⟩ := isplain hb
              exact (step_perr_top h hp hl pt hmay hcl hb hf ht (plain _ 7 (by rw [← e1, h7]))).mono fun e w' hw => still hr hw
            | true =>
              obtain ⟨m, n, rfl, h1, h2⟩ := begins hb
              exact (step_berr_top h hp hl m n h1 hf ht (plain [0xc0] 0 rfl) (fun W => begin_any m n h2 h1 W _ 7 (by rw [← h7]; rfl))).mono fun e w' hw => still hr hw
end Go.Proofs.Yteggfobeaolafaa
