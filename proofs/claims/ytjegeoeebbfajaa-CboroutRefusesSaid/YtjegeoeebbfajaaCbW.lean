/-
  The reference's Step, at every part: it answers as the pure model does.
-/
import Derived.Test.YtjegeoeebbfajaaCbTb
import Derived.Test.YtjegeoeebbfajaaCbTc
import Derived.Test.YtjegeoeebbfajaaCbUa
import Derived.Test.YtjegeoeebbfajaaCbUb
import Derived.Test.YtjegeoeebbfajaaCbVa
import Derived.Test.YtjegeoeebbfajaaCbVb
import Derived.Test.YtjegeoeebbfajaaCbVc
import Derived.Test.YtjegeoeebbfajaaCbVd
import Derived.Test.YtjegeoeebbfajaaCbVe
import Derived.Test.YtjegeoeebbfajaaCbVf
import Derived.Test.YtjegeoeebbfajaaCbVg
import Derived.Test.YtjegeoeebbfajaaCbVh
namespace Go.Proofs.Ytjegeoeebbfajaa
open Go.RowKit

def stepE (R : List Cont) (d : Bool) : Option Part → Int × List UInt8 × List Cont × Bool
  | none => (14, [], R, d)
  | some pt => stepC R d pt
/-- What the open containers keep. -/
def InvC (R : List Cont) : Prop := ∀ c ∈ R, c.inv ∧ c.count ≤ 9223372036854775807
theorem InvC.nil : InvC [] := fun c hc => by cases hc
theorem InvC.step {R : List Cont} (h : InvC R) (d : Bool) {pt : Part} (hf : pt.fits = true) : InvC (stepC R d pt).2.2.1 := by
  have ho : ∀ c ∈ pt.opens, c.inv ∧ c.count ≤ 9223372036854775807 := by
    cases pt <;> simp [Part.opens]
    exact ⟨Cont.inv_new _ _, by simpa [Part.fits] using hf⟩
  unfold stepC
  split
  · exact h
  split
  · cases R with
    | nil => exact h
    | cons c M =>
      simp only
      split
      · exact fun x hx => h x (List.mem_cons_of_mem _ hx)
      · exact h
  · cases R with
    | nil => exact ho
    | cons c M =>
      simp only
      split
      · exact h
      split
      · exact h
      · rename_i hfull _
        intro x hx
        rcases List.mem_append.1 hx with hx | hx
        · exact ho x hx
        · rcases List.mem_cons.1 hx with rfl | hx
          · have := h c (List.mem_cons_self ..)
            exact ⟨Cont.inv_more this.1 (by simpa using hfull), this.2⟩
          · exact h x (List.mem_cons_of_mem _ hx)

theorem refstep_begin_nil {w : World} {B p : Nat} {v : Value} (h : RWr w B p v [] false) (e : EvM) (hok : e.ok) (m : Bool) (n : Int) (hpt : e.part = some (.begin_ m n)) (r : List UInt8) (hr : r = headB m n) :
    Calls Try.prog 13 #[.pointer (some ⟨p, 0, none⟩), .agg e.cells] w fun r' w' => r' = .returned (.tuple #[.string (S r), .int .i64 0]) ∧ ∃ v', RWr w' B p v' ([] ++ [⟨m, n, 0⟩]) false ∧ Only [p] w w' ∧ ∀ k ∈ slB v', k ∈ slB v ∨ w.heap.size ≤ k := by
  obtain ⟨h1, h2, h3⟩ := part_begin hpt
  obtain ⟨k, y, m5, l, c5⟩ := e
  have hmax : c5 ≤ 9223372036854775807 := hok.2.2
  simp only at h1 h3
  subst h1
  by_cases hneg : c5 < 0
  · rcases h3 with ⟨rfl, rfl⟩ | ⟨rfl, rfl⟩
    · exact refstep_begin_nil_6n h y m5 l c5 hpt hneg r hr
    · exact refstep_begin_nil_5n h y m5 l c5 hpt hneg r hr
  · obtain ⟨cc, rfl⟩ := Int.eq_ofNat_of_zero_le (show 0 ≤ c5 by omega)
    rcases h3 with ⟨rfl, rfl⟩ | ⟨rfl, rfl⟩
    · exact refstep_begin_nil_6p h y m5 l cc hpt (by omega) r hr
    · exact refstep_begin_nil_5p h y m5 l cc hpt (by omega) r hr
theorem refstep_begin_top {w : World} {B p : Nat} {v : Value} {M : List Cont} {c : Cont} (h : RWr w B p v (M ++ [c]) false) (hp20 : c.parts ≤ 1000000) (hML : M.length ≤ 1000000) (e : EvM) (hok : e.ok) (m : Bool) (n : Int) (hpt : e.part = some (.begin_ m n)) (hi : c.inv) (hf : c.full = false) (ht : c.takes (.begin_ m n) = true) (r : List UInt8) (hr : r = headB m n) :
    Calls Try.prog 13 #[.pointer (some ⟨p, 0, none⟩), .agg e.cells] w fun r' w' => r' = .returned (.tuple #[.string (S r), .int .i64 0]) ∧ ∃ v', RWr w' B p v' (M ++ [c.more] ++ [⟨m, n, 0⟩]) false ∧ Only [p] w w' ∧ ∀ k ∈ slB v', k ∈ slB v ∨ w.heap.size ≤ k := by
  obtain ⟨h1, h2, h3⟩ := part_begin hpt
  obtain ⟨k, y, m5, l, c5⟩ := e
  have hmax : c5 ≤ 9223372036854775807 := hok.2.2
  simp only at h1 h3
  subst h1
  cases hpr : c.pairs with
  | false =>
    by_cases hneg : c5 < 0
    · rcases h3 with ⟨rfl, rfl⟩ | ⟨rfl, rfl⟩
      · exact refstep_begin_top_A6n h hp20 hML y m5 l c5 hpt hneg hi hf r hr hpr trivial
      · exact refstep_begin_top_A5n h hp20 hML y m5 l c5 hpt hneg hi hf r hr hpr trivial
    · obtain ⟨cc, rfl⟩ := Int.eq_ofNat_of_zero_le (show 0 ≤ c5 by omega)
      rcases h3 with ⟨rfl, rfl⟩ | ⟨rfl, rfl⟩
      · exact refstep_begin_top_A6p h hp20 hML y m5 l cc hpt (by omega) hi hf r hr hpr trivial
      · exact refstep_begin_top_A5p h hp20 hML y m5 l cc hpt (by omega) hi hf r hr hpr trivial
  | true =>
    have hkd : c.between = true := by simpa [Cont.takes, hpr, Part.isWord] using ht
    by_cases hneg : c5 < 0
    · rcases h3 with ⟨rfl, rfl⟩ | ⟨rfl, rfl⟩
      · exact refstep_begin_top_B6n h hp20 hML y m5 l c5 hpt hneg hi hf r hr hpr hkd
      · exact refstep_begin_top_B5n h hp20 hML y m5 l c5 hpt hneg hi hf r hr hpr hkd
    · obtain ⟨cc, rfl⟩ := Int.eq_ofNat_of_zero_le (show 0 ≤ c5 by omega)
      rcases h3 with ⟨rfl, rfl⟩ | ⟨rfl, rfl⟩
      · exact refstep_begin_top_B6p h hp20 hML y m5 l cc hpt (by omega) hi hf r hr hpr hkd
      · exact refstep_begin_top_B5p h hp20 hML y m5 l cc hpt (by omega) hi hf r hr hpr hkd
theorem refstep_plain_top {w : World} {B p : Nat} {v : Value} {M : List Cont} {c : Cont} (h : RWr w B p v (M ++ [c]) false) (hp20 : c.parts ≤ 1000000) (hML : M.length ≤ 1000000) (e : EvM) (hok : e.ok) (hm64 : Hid (e.m < 18446744073709551616)) (pt : Part) (hpt : e.part = some pt) (hcl : pt.isClose = false) (hbg : pt.isBegin = false) (hi : c.inv) (hf : c.full = false) (ht : c.takes pt = true) (r : List UInt8) (hr : r = plainB pt) :
    Calls Try.prog 13 #[.pointer (some ⟨p, 0, none⟩), .agg e.cells] w fun r' w' => r' = .returned (.tuple #[.string (S r), .int .i64 0]) ∧ ∃ v', RWr w' B p v' (M ++ [c.more]) false ∧ Only [p] w w' ∧ ∀ k ∈ slB v', k ∈ slB v ∨ w.heap.size ≤ k := by
  cases hpr : c.pairs with
  | false => exact refstep_plain_topA h hp20 hML e hok hm64 pt hpt hcl hbg hi hf ht r hr hpr trivial
  | true =>
    cases hkb : c.between with
    | true => exact refstep_plain_topB h hp20 hML e hok hm64 pt hpt hcl hbg hi hf ht r hr hpr hkb
    | false => exact refstep_plain_topC h hp20 hML e hok hm64 pt hpt hcl hbg hi hf ht r hr hpr (by simpa [Cont.takes, hpr, hkb] using ht) hkb
set_option maxHeartbeats 1000000 in
theorem refstep_any {w : World} {B p : Nat} {v : Value} {R : List Cont} {d : Bool} (h : RWr w B p v R.reverse d) (hs : SmallC R) (hi : InvC R) (e : EvM) (hok : e.ok) (hm64 : Hid (e.m < 18446744073709551616)) (k : Int) (out : List UInt8) (R' : List Cont) (d' : Bool) (hr : (k, out, R', d') = stepE R d e.part) :
    Calls Try.prog 13 #[.pointer (some ⟨p, 0, none⟩), .agg e.cells] w fun r w' => r = .returned (.tuple #[.string (S out), .int .i64 k]) ∧ ∃ v', RWr w' B p v' R'.reverse d' ∧ Only [p] w w' ∧ ∀ k ∈ slB v', k ∈ slB v ∨ w.heap.size ≤ k := by
  have still : ∀ {e : Ending} {w' : World} {k0 : Int}, (k, out, R', d') = (k0, [], R, d) → (e = .returned (.tuple #[.string (S []), .int .i64 k0]) ∧ Below w.heap.size w w') → e = .returned (.tuple #[.string (S out), .int .i64 k]) ∧ ∃ v', RWr w' B p v' R'.reverse d' ∧ Only [p] w w' ∧ ∀ k ∈ slB v', k ∈ slB v ∨ w.heap.size ≤ k := by
    intro e w' k0 he hw
    obtain ⟨rfl, hb⟩ := hw
    injection he with e1 he
    injection he with e2 he
    injection he with e3 e4
    subst e1 e2 e3 e4
    exact ⟨rfl, v, h.below hb, Only.ofBelow hb, fun k hk => .inl hk⟩
  cases hpt : e.part with
  | none =>
    rw [hpt] at hr
    exact (refstep_bad h e (.inl hpt)).mono fun e w' hw => still hr hw
  | some pt =>
  rw [hpt] at hr
  simp only [stepE] at hr
  have hfit := EvM.fits hok hpt
  have hmay : pt.may = true := by
    unfold EvM.part partOf at hpt
    repeat' split at hpt
    all_goals first | (cases hpt; done) | (injection hpt with hpt; subst hpt; first | rfl | (simp [Part.may]; omega))
  unfold stepC at hr
  by_cases hd : d = true
  · rw [if_pos (.inr hd)] at hr
    exact (refstep_bad h e (.inr hd)).mono fun e w' hw => still hr hw
  rw [if_neg (by rw [hmay]; simp [hd])] at hr
  have hd : d = false := by simpa using hd
  subst hd
  cases hcl : pt.isClose with
  | true =>
    rw [if_pos hcl] at hr
    have hptc : pt = .close := by cases pt <;> simp [Part.isClose] at hcl; rfl
    subst hptc
    cases R with
    | nil => exact (refstep_close_empty h e hpt).mono fun e w' hw => still hr hw
    | cons c M =>
      have hp := hs.1 c (List.mem_cons_self ..)
      have hc := hi c (List.mem_cons_self ..)
      have hl : M.reverse.length ≤ 1000000 := by have := hs.2; simp at this ⊢; omega
      rw [List.reverse_cons] at h
      simp only at hr
      cases he : c.ends with
      | false =>
        rw [he] at hr
        simp only [Bool.false_eq_true, if_false] at hr
        exact (refstep_close_no h hp hc.2 hl e hpt he).mono fun e w' hw => still hr hw
      | true =>
        rw [he, if_pos rfl] at hr
        injection hr with e1 hr
        injection hr with e2 hr
        injection hr with e3 e4
        subst e1 e2 e3
        exact refstep_close_yes h hp hc.2 hl e hpt he _ rfl d' (by rw [e4]; simp)
  | false =>
    rw [hcl] at hr
    simp only [Bool.false_eq_true, if_false] at hr
    have plain : pt.isBegin = false → partB pt = plainB pt ∧ pt.opens = [] := fun hb =>
      ⟨by cases pt <;> first | rfl | simp [Part.isBegin] at hb, by cases pt <;> first | rfl | simp [Part.isBegin] at hb⟩
    have begins : pt.isBegin = true → ∃ m n, pt = .begin_ m n := fun hb => by
      cases pt <;> simp [Part.isBegin] at hb
      exact ⟨_, _, rfl⟩
    cases R with
    | nil =>
      simp only at hr
      injection hr with e1 hr
      injection hr with e2 hr
      injection hr with e3 e4
      subst e1 e2 e3 e4
      cases hb : pt.isBegin with
      | false =>
        obtain ⟨e1, e2⟩ := plain hb
        rw [e1, e2]
        exact (refstep_plain_nil h e hok hm64 pt hpt hcl hb _ rfl).mono fun e w' hw => ⟨hw.1, v, hw.2.1, hw.2.2, fun k hk => .inl hk⟩
      | true =>
        obtain ⟨m, n, rfl⟩ := begins hb
        exact refstep_begin_nil h e hok m n hpt _ rfl
    | cons c M =>
      have hp := hs.1 c (List.mem_cons_self ..)
      have hc := hi c (List.mem_cons_self ..)
      have hl : M.reverse.length ≤ 1000000 := by have := hs.2; simp at this ⊢; omega
      rw [List.reverse_cons] at h
      simp only at hr
      cases hf : c.full with
      | true =>
        rw [hf, if_pos rfl] at hr
        exact (refstep_full h hp hl e pt hpt hcl hf).mono fun e w' hw => still hr hw
      | false =>
        rw [hf] at hr
        simp only [Bool.false_eq_true, if_false] at hr
        cases ht : c.takes pt with
        | false =>
          rw [if_pos ht] at hr
          exact (refstep_kind h hp hl e pt hpt hcl hc.1 hf ht).mono fun e w' hw => still hr hw
        | true =>
          rw [ht, if_neg (by decide)] at hr
          injection hr with e1 hr
          injection hr with e2 hr
          injection hr with e3 e4
          subst e1 e2 e3 e4
          cases hb : pt.isBegin with
          | false =>
            obtain ⟨e1, e2⟩ := plain hb
            rw [e1, e2]
            refine (refstep_plain_top h hp hl e hok hm64 pt hpt hcl hb hc.1 hf ht _ rfl).mono fun e w' hw => ?_
            obtain ⟨rfl, v', h3, h4, h5⟩ := hw
            exact ⟨rfl, v', by simpa using h3, h4, h5⟩
          | true =>
            obtain ⟨m, n, rfl⟩ := begins hb
            refine (refstep_begin_top h hp hl e hok m n hpt hc.1 hf ht _ rfl).mono fun e w' hw => ?_
            obtain ⟨rfl, v', h3, h4, h5⟩ := hw
            exact ⟨rfl, v', by simpa [Part.opens] using h3, h4, h5⟩
end Go.Proofs.Ytjegeoeebbfajaa
