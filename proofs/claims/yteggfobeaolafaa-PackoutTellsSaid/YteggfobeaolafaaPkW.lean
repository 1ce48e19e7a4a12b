/-
  The reference's Step, at every part: it answers as the pure model does.
-/
import Derived.Test.YteggfobeaolafaaPkTb
import Derived.Test.YteggfobeaolafaaPkTc
import Derived.Test.YteggfobeaolafaaPkTe
import Derived.Test.YteggfobeaolafaaPkUa
import Derived.Test.YteggfobeaolafaaPkUe
import Derived.Test.YteggfobeaolafaaPkVa
import Derived.Test.YteggfobeaolafaaPkVb
import Derived.Test.YteggfobeaolafaaPkVc
import Derived.Test.YteggfobeaolafaaPkVd
import Derived.Test.YteggfobeaolafaaPkDe
namespace Go.Proofs.Yteggfobeaolafaa
open Go.RowKit

/-- What the open containers keep. -/
def InvC (R : List Cont) : Prop := ∀ c ∈ R, c.inv ∧ 0 ≤ c.count ∧ c.count ≤ 9223372036854775807
theorem InvC.nil : InvC [] := fun c hc => by cases hc
theorem begin_ok {m : Bool} {n : Int} (h : (partR (.begin_ m n)).2 = 0) : 0 ≤ n ∧ n ≤ 4294967295 ∧ partR (.begin_ m n) = (headB m n.toNat, 0) := by
  simp only [partR, beginR] at h ⊢
  by_cases h1 : n < 0 ∨ 4294967295 < n
  · rw [if_pos h1] at h; cases h
  · rw [if_neg h1]; exact ⟨by omega, by omega, rfl⟩
theorem begin_bad {m : Bool} {n : Int} (h : ¬ (partR (.begin_ m n)).2 = 0) : n < 0 ∨ 4294967295 < n := by
  simp only [partR, beginR] at h
  by_cases h1 : n < 0 ∨ 4294967295 < n
  · exact h1
  · rw [if_neg h1] at h; exact absurd rfl h
theorem InvC.step {R : List Cont} (h : InvC R) (d : Bool) {pt : Part} : InvC (stepC R d pt).2.2.1 := by
  have ho : (partR pt).2 = 0 → ∀ c ∈ pt.opens, c.inv ∧ 0 ≤ c.count ∧ c.count ≤ 9223372036854775807 := by
    intro hz
    cases pt <;> simp [Part.opens]
    obtain ⟨h1, h2, _⟩ := begin_ok hz
    exact ⟨Cont.inv_new _ _, h1, by omega⟩
  unfold stepC
  split
  · exact h
  split
  · cases R with
    | nil => exact h
    | cons c M =>
      simp only
      split
      · exact fun x hx => h x (List.mem_cons_of_mem _ hx)
      · exact h
  · cases R with
    | nil =>
      simp only
      split
      · rename_i hz; exact ho hz
      · exact h
    | cons c M =>
      simp only
      split
      · exact h
      split
      · exact h
      split
      · rename_i hfull _ hz
        intro x hx
        rcases List.mem_append.1 hx with hx | hx
        · exact ho hz x hx
        · rcases List.mem_cons.1 hx with rfl | hx
          · have := h c (List.mem_cons_self ..)
            exact ⟨Cont.inv_more this.1 (by simpa using hfull), this.2⟩
          · exact h x (List.mem_cons_of_mem _ hx)
      · exact h

theorem refstep_begin_nil {w : World} {B p : Nat} {v : Value} (h : RWr w B p v [] false) (e : EvM) (m : Bool) (n : Int) (hpt : e.part = some (.begin_ m n)) (hz : (partR (.begin_ m n)).2 = 0) :
    Calls Try.prog 13 #[.pointer (some ⟨p, 0, none⟩), .agg e.cells] w fun r' w' => r' = .returned (.tuple #[.string (S (partR (.begin_ m n)).1), .int .i64 0]) ∧ ∃ v', RWr w' B p v' ([] ++ [⟨m, n, 0⟩]) false ∧ Only [p] w w' ∧ ∀ k ∈ slB v', k ∈ slB v ∨ w.heap.size ≤ k := by
  obtain ⟨h1, h2, h3⟩ := part_begin hpt
  obtain ⟨k, y, m5, l, c5⟩ := e
  simp only at h1 h3
  subst h1
  obtain ⟨h4, h5, h6⟩ := begin_ok hz
  rw [h6]
  obtain ⟨cc, rfl⟩ := Int.eq_ofNat_of_zero_le h4
  rw [Int.toNat_natCast]
  rcases h3 with ⟨rfl, rfl⟩ | ⟨rfl, rfl⟩
  · exact refstep_begin_nil_6 h y m5 l cc hpt (by omega) _ rfl
  · exact refstep_begin_nil_5 h y m5 l cc hpt (by omega) _ rfl
theorem refstep_berr_nil {w : World} {B p : Nat} {v : Value} (h : RWr w B p v [] false) (e : EvM) (hok : e.ok) (m : Bool) (n : Int) (hpt : e.part = some (.begin_ m n)) (hz : ¬ (partR (.begin_ m n)).2 = 0) :
    Calls Try.prog 13 #[.pointer (some ⟨p, 0, none⟩), .agg e.cells] w fun r' w' => r' = .returned (.tuple #[.string (S []), .int .i64 7]) ∧ Below w.heap.size w w' := by
  obtain ⟨h1, h2, h3⟩ := part_begin hpt
  obtain ⟨k, y, m5, l, c5⟩ := e
  have hmax : c5 ≤ 9223372036854775807 := hok.2.2.1
  simp only at h1 h3
  subst h1
  rcases h3 with ⟨rfl, rfl⟩ | ⟨rfl, rfl⟩
  · exact refstep_berr_nil_6 h y m5 l c5 hpt (begin_bad hz) hmax [] (by simp)
  · exact refstep_berr_nil_5 h y m5 l c5 hpt (begin_bad hz) hmax [] (by simp)
theorem refstep_begin_top {w : World} {B p : Nat} {v : Value} {M : List Cont} {c : Cont} (h : RWr w B p v (M ++ [c]) false) (hp20 : c.parts ≤ 1000000) (hML : M.length ≤ 1000000) (e : EvM) (m : Bool) (n : Int) (hpt : e.part = some (.begin_ m n)) (hz : (partR (.begin_ m n)).2 = 0) (hi : c.inv) (hf : c.full = false) (ht : c.takes (.begin_ m n) = true) :
    Calls Try.prog 13 #[.pointer (some ⟨p, 0, none⟩), .agg e.cells] w fun r' w' => r' = .returned (.tuple #[.string (S (partR (.begin_ m n)).1), .int .i64 0]) ∧ ∃ v', RWr w' B p v' (M ++ [c.more] ++ [⟨m, n, 0⟩]) false ∧ Only [p] w w' ∧ ∀ k ∈ slB v', k ∈ slB v ∨ w.heap.size ≤ k := by
  obtain ⟨h1, h2, h3⟩ := part_begin hpt
  obtain ⟨k, y, m5, l, c5⟩ := e
  simp only at h1 h3
  subst h1
  obtain ⟨h4, h5, h6⟩ := begin_ok hz
  rw [h6]
  obtain ⟨cc, rfl⟩ := Int.eq_ofNat_of_zero_le h4
  rw [Int.toNat_natCast]
  cases hpr : c.pairs with
  | false =>
    rcases h3 with ⟨rfl, rfl⟩ | ⟨rfl, rfl⟩
    · exact refstep_begin_top_A6 h hp20 hML y m5 l cc hpt (by omega) hi hf _ rfl hpr trivial
    · exact refstep_begin_top_A5 h hp20 hML y m5 l cc hpt (by omega) hi hf _ rfl hpr trivial
  | true =>
    have hkd : c.between = true := by simpa [Cont.takes, hpr, Part.isWord] using ht
    rcases h3 with ⟨rfl, rfl⟩ | ⟨rfl, rfl⟩
    · exact refstep_begin_top_B6 h hp20 hML y m5 l cc hpt (by omega) hi hf _ rfl hpr hkd
    · exact refstep_begin_top_B5 h hp20 hML y m5 l cc hpt (by omega) hi hf _ rfl hpr hkd
theorem refstep_berr_top {w : World} {B p : Nat} {v : Value} {M : List Cont} {c : Cont} (h : RWr w B p v (M ++ [c]) false) (hp20 : c.parts ≤ 1000000) (hML : M.length ≤ 1000000) (e : EvM) (hok : e.ok) (m : Bool) (n : Int) (hpt : e.part = some (.begin_ m n)) (hz : ¬ (partR (.begin_ m n)).2 = 0) (hi : c.inv) (hf : c.full = false) (ht : c.takes (.begin_ m n) = true) :
    Calls Try.prog 13 #[.pointer (some ⟨p, 0, none⟩), .agg e.cells] w fun r' w' => r' = .returned (.tuple #[.string (S []), .int .i64 7]) ∧ Below w.heap.size w w' := by
  obtain ⟨h1, h2, h3⟩ := part_begin hpt
  obtain ⟨k, y, m5, l, c5⟩ := e
  have hmax : c5 ≤ 9223372036854775807 := hok.2.2.1
  simp only at h1 h3
  subst h1
  cases hpr : c.pairs with
  | false =>
    rcases h3 with ⟨rfl, rfl⟩ | ⟨rfl, rfl⟩
    · exact refstep_berr_top_A6 h hp20 hML y m5 l c5 hpt (begin_bad hz) hmax hi hf [] (by simp) hpr trivial
    · exact refstep_berr_top_A5 h hp20 hML y m5 l c5 hpt (begin_bad hz) hmax hi hf [] (by simp) hpr trivial
  | true =>
    have hkd : c.between = true := by simpa [Cont.takes, hpr, Part.isWord] using ht
    rcases h3 with ⟨rfl, rfl⟩ | ⟨rfl, rfl⟩
    · exact refstep_berr_top_B6 h hp20 hML y m5 l c5 hpt (begin_bad hz) hmax hi hf [] (by simp) hpr hkd
    · exact refstep_berr_top_B5 h hp20 hML y m5 l c5 hpt (begin_bad hz) hmax hi hf [] (by simp) hpr hkd
theorem refstep_plain_top {w : World} {B p : Nat} {v : Value} {M : List Cont} {c : Cont} (h : RWr w B p v (M ++ [c]) false) (hp20 : c.parts ≤ 1000000) (hML : M.length ≤ 1000000) (e : EvM) (hok : e.ok) (pt : Part) (hpt : e.part = some pt) (hcl : pt.isClose = false) (hbg : pt.isBegin = false) (hi : c.inv) (hf : c.full = false) (ht : c.takes pt = true) (r : List UInt8) (hr : (r, 0) = plainR pt) :
    Calls Try.prog 13 #[.pointer (some ⟨p, 0, none⟩), .agg e.cells] w fun r' w' => r' = .returned (.tuple #[.string (S r), .int .i64 0]) ∧ ∃ v', RWr w' B p v' (M ++ [c.more]) false ∧ Only [p] w w' ∧ ∀ k ∈ slB v', k ∈ slB v ∨ w.heap.size ≤ k := by
  cases hpr : c.pairs with
  | false => exact refstep_plain_topA h hp20 hML e hok pt hpt hcl hbg hi hf ht r hr hpr trivial
  | true =>
    cases hkb : c.between with
    | true => exact refstep_plain_topB h hp20 hML e hok pt hpt hcl hbg hi hf ht r hr hpr hkb
    | false => exact refstep_plain_topC h hp20 hML e hok pt hpt hcl hbg hi hf ht r hr hpr (by simpa [Cont.takes, hpr, hkb] using ht) hkb
theorem refstep_perr_top {w : World} {B p : Nat} {v : Value} {M : List Cont} {c : Cont} (h : RWr w B p v (M ++ [c]) false) (hp20 : c.parts ≤ 1000000) (hML : M.length ≤ 1000000) (e : EvM) (hok : e.ok) (pt : Part) (hpt : e.part = some pt) (hcl : pt.isClose = false) (hbg : pt.isBegin = false) (hi : c.inv) (hf : c.full = false) (ht : c.takes pt = true) (r : List UInt8) (hr : (r, 7) = plainR pt) :
    Calls Try.prog 13 #[.pointer (some ⟨p, 0, none⟩), .agg e.cells] w fun r' w' => r' = .returned (.tuple #[.string (S []), .int .i64 7]) ∧ Below w.heap.size w w' := by
  cases hpr : c.pairs with
  | false => exact refstep_perr_topA h hp20 hML e hok pt hpt hcl hbg hi hf ht r hr hpr trivial
  | true =>
    cases hkb : c.between with
    | true => exact refstep_perr_topB h hp20 hML e hok pt hpt hcl hbg hi hf ht r hr hpr hkb
    | false =>
      have hw : pt.isWord = true := by simpa [Cont.takes, hpr, hkb] using ht
      exfalso
      cases pt <;> simp [Part.isWord] at hw
      simp [plainR] at hr
set_option maxHeartbeats 1000000 in
theorem refstep_any {w : World} {B p : Nat} {v : Value} {R : List Cont} {d : Bool} (h : RWr w B p v R.reverse d) (hs : SmallC R) (hi : InvC R) (e : EvM) (hok : e.ok) (k : Int) (out : List UInt8) (R' : List Cont) (d' : Bool) (hr : (k, out, R', d') = stepE R d e.part) :
    Calls Try.prog 13 #[.pointer (some ⟨p, 0, none⟩), .agg e.cells] w fun r w' => r = .returned (.tuple #[.string (S out), .int .i64 k]) ∧ ∃ v', RWr w' B p v' R'.reverse d' ∧ Only [p] w w' ∧ ∀ k ∈ slB v', k ∈ slB v ∨ w.heap.size ≤ k := by
  have still : ∀ {e : Ending} {w' : World} {k0 : Int}, (k, out, R', d') = (k0, [], R, d) → (e = .returned (.tuple #[.string (S []), .int .i64 k0]) ∧ Below w.heap.size w w') → e = .returned (.tuple #[.string (S out), .int .i64 k]) ∧ ∃ v', RWr w' B p v' R'.reverse d' ∧ Only [p] w w' ∧ ∀ k ∈ slB v', k ∈ slB v ∨ w.heap.size ≤ k := by
    intro e w' k0 he hw
    obtain ⟨rfl, hb⟩ := hw
    injection he with e1 he
    injection he with e2 he
    injection he with e3 e4
    subst e1 e2 e3 e4
    exact ⟨rfl, v, h.below hb, Only.ofBelow hb, fun k hk => .inl hk⟩
  cases hpt : e.part with
  | none =>
    rw [hpt] at hr
    exact (refstep_bad h e (.inl hpt)).mono fun e w' hw => still hr hw
  | some pt =>
  rw [hpt] at hr
  simp only [stepE] at hr
  have hmay : pt.may = true := by
    unfold EvM.part partOf at hpt
    repeat' split at hpt
    all_goals first | (cases hpt; done) | (injection hpt with hpt; subst hpt; first | rfl | (simp [Part.may]; omega))
  unfold stepC at hr
  by_cases hd : d = true
  · rw [if_pos (.inr hd)] at hr
    exact (refstep_bad h e (.inr hd)).mono fun e w' hw => still hr hw
  rw [if_neg (by rw [hmay]; simp [hd])] at hr
  have hd : d = false := by simpa using hd
  subst hd
  cases hcl : pt.isClose with
  | true =>
    rw [if_pos hcl] at hr
    have hptc : pt = .close := by cases pt <;> simp [Part.isClose] at hcl; rfl
    subst hptc
    cases R with
    | nil => exact (refstep_close_empty h e hpt).mono fun e w' hw => still hr hw
    | cons c M =>
      have hp := hs.1 c (List.mem_cons_self ..)
      have hc := hi c (List.mem_cons_self ..)
      have hl : M.reverse.length ≤ 1000000 := by have := hs.2; simp at this ⊢; omega
      rw [List.reverse_cons] at h
      simp only at hr
      cases he : c.full with
      | false =>
        rw [he] at hr
        simp only [Bool.false_eq_true, if_false] at hr
        exact (refstep_close_no h hp hc.2 hl e hpt he).mono fun e w' hw => still hr hw
      | true =>
        rw [he, if_pos rfl] at hr
        injection hr with e1 hr
        injection hr with e2 hr
        injection hr with e3 e4
        subst e1 e2 e3
        exact refstep_close_yes h hp hc.2 hl e hpt he d' (by rw [e4]; simp)
  | false =>
    rw [hcl] at hr
    simp only [Bool.false_eq_true, if_false] at hr
    have plain : pt.isBegin = false → partR pt = plainR pt ∧ pt.opens = [] := fun hb =>
      ⟨by cases pt <;> first | rfl | simp [Part.isBegin] at hb, by cases pt <;> first | rfl | simp [Part.isBegin] at hb⟩
    have begins : pt.isBegin = true → ∃ m n, pt = .begin_ m n := fun hb => by
      cases pt <;> simp [Part.isBegin] at hb
      exact ⟨_, _, rfl⟩
    have two := partR_two pt
    cases R with
    | nil =>
      simp only at hr
      by_cases hz : (partR pt).2 = 0
      · rw [if_pos hz] at hr
        injection hr with e1 hr
        injection hr with e2 hr
        injection hr with e3 e4
        subst e1 e2 e3 e4
        cases hb : pt.isBegin with
        | false =>
          obtain ⟨e1, e2⟩ := plain hb
          rw [e2]
          exact (refstep_plain_nil h e hok pt hpt hcl hb _ (by rw [← e1, ← hz])).mono fun e w' hw => ⟨hw.1, v, hw.2.1, hw.2.2, fun k hk => .inl hk⟩
        | true =>
          obtain ⟨m, n, rfl⟩ := begins hb
          exact refstep_begin_nil h e m n hpt hz
      · rw [if_neg hz] at hr
        have h7 := two.resolve_left hz
        cases hb : pt.isBegin with
        | false =>
          obtain ⟨e1, e2⟩ := plain hb
          exact (refstep_perr_nil h e hok pt hpt hcl hb [] (by rw [← e1, h7])).mono fun e w' hw => still hr hw
        | true =>
          obtain ⟨m, n, rfl⟩ := begins hb
          exact (refstep_berr_nil h e hok m n hpt hz).mono fun e w' hw => still hr hw
    | cons c M =>
      have hp := hs.1 c (List.mem_cons_self ..)
      have hc := hi c (List.mem_cons_self ..)
      have hl : M.reverse.length ≤ 1000000 := by have := hs.2; simp at this ⊢; omega
      rw [List.reverse_cons] at h
      simp only at hr
      cases hf : c.full with
      | true =>
        rw [hf, if_pos rfl] at hr
        exact (refstep_full h hp hl e pt hpt hcl hf).mono fun e w' hw => still hr hw
      | false =>
        rw [hf] at hr
        simp only [Bool.false_eq_true, if_false] at hr
        cases ht : c.takes pt with
        | false =>
          rw [if_pos ht] at hr
          exact (refstep_kind h hp hl e pt hpt hcl hc.1 hf ht).mono fun e w' hw => still hr hw
        | true =>
          rw [ht, if_neg (by decide)] at hr
          by_cases hz : (partR pt).2 = 0
          · rw [if_pos hz] at hr
            injection hr with e1 hr
            injection hr with e2 hr
            injection hr with e3 e4
            subst e1 e2 e3 e4
            cases hb : pt.isBegin with
            | false =>
              obtain ⟨e1, e2⟩ := plain hb
              rw [e2]
              refine (refstep_plain_top h hp hl e hok pt hpt hcl hb hc.1 hf ht _ (by rw [← e1, ← hz])).mono fun e w' hw => ?_
              obtain ⟨rfl, v', h3, h4, h5⟩ := hw
              exact ⟨rfl, v', by simpa using h3, h4, h5⟩
            | true =>
              obtain ⟨m, n, rfl⟩ := begins hb
              refine (refstep_begin_top h hp hl e m n hpt hz hc.1 hf ht).mono fun e w' hw => ?_
              obtain ⟨rfl, v', h3, h4, h5⟩ := hw
              exact ⟨rfl, v', by simpa [Part.opens] using h3, h4, h5⟩
          · rw [if_neg hz] at hr
            have h7 := two.resolve_left hz
            cases hb : pt.isBegin with
            | false =>
              obtain ⟨e1, e2⟩ := plain hb
              exact (refstep_perr_top h hp hl e hok pt hpt hcl hb hc.1 hf ht [] (by rw [← e1, h7])).mono fun e w' hw => still hr hw
            | true =>
              obtain ⟨m, n, rfl⟩ := begins hb
              exact (refstep_berr_top h hp hl e hok m n hpt hz hc.1 hf ht).mono fun e w' hw => still hr hw
theorem tidy_part (e : EvM) : e.tidy.part = e.part := by
  obtain ⟨k, y, m, l, c⟩ := e
  by_cases h1 : k = 1
  · subst h1; simp [EvM.tidy, EvM.part, partOf]
  by_cases h2 : k = 2
  · subst h2; simp [EvM.tidy, EvM.part, partOf]
  by_cases h3 : k = 3
  · subst h3; simp [EvM.tidy, EvM.part, partOf]
  by_cases h4 : k = 4
  · subst h4; simp [EvM.tidy, EvM.part, partOf]
  by_cases h5 : k = 5
  · subst h5; simp [EvM.tidy, EvM.part, partOf]
  by_cases h6 : k = 6
  · subst h6; simp [EvM.tidy, EvM.part, partOf]
  simp [EvM.tidy, EvM.part, partOf, h1, h2, h3, h4, h5, h6]
theorem tidy_ok {e : EvM} (h : e.ok) : e.tidy.ok := by
  obtain ⟨k, y, m, l, c⟩ := e
  obtain ⟨h1, h2, h3, h4⟩ := h
  simp only at h1 h2 h3 h4
  unfold EvM.tidy
  simp only
  (repeat' split) <;> simp [EvM.ok] <;> omega
theorem stepE_or (R : List Cont) (d : Bool) (r : Option Part) : stepE R d r = stepC R d (r.getD .odd) := by
  cases r with
  | none => simp [stepE, stepC, Part.may]
  | some pt => rfl
theorem fits_or {e : EvM} (h : e.ok) : (e.part.getD .odd).fits = true := by
  cases hp : e.part with
  | none => rfl
  | some pt => exact EvM.fits h hp
theorem stepC_err2 (R : List Cont) (d : Bool) (pt : Part) (h : (stepC R d pt).1 ≠ 0) : stepC R d pt = ((stepC R d pt).1, [], R, d) := by
  unfold stepC at h ⊢
  by_cases h1 : pt.may = false ∨ d = true
  · rw [if_pos h1]
  rw [if_neg h1] at h ⊢
  by_cases h2 : pt.isClose = true
  · rw [if_pos h2] at h ⊢
    cases R with
    | nil => rfl
    | cons c M =>
      simp only at h ⊢
      by_cases h3 : c.full = true
      · rw [if_pos h3] at h; simp at h
      · rw [if_neg h3]
  rw [if_neg h2] at h ⊢
  cases R with
  | nil =>
    simp only at h ⊢
    by_cases h5 : (partR pt).2 = 0
    · rw [if_pos h5] at h; simp at h
    · rw [if_neg h5]
  | cons c M =>
    simp only at h ⊢
    by_cases h3 : c.full = true
    · rw [if_pos h3]
    rw [if_neg h3] at h ⊢
    by_cases h4 : c.takes pt = false
    · rw [if_pos h4]
    rw [if_neg h4] at h ⊢
    by_cases h5 : (partR pt).2 = 0
    · rw [if_pos h5] at h; simp at h
    · rw [if_neg h5]
theorem stepC_err (R : List Cont) (d : Bool) (pt : Part) (h : (stepC R d pt).1 ≠ 0) : (stepC R d pt).2.1 = [] := by rw [stepC_err2 R d pt h]
end Go.Proofs.Yteggfobeaolafaa
