/-
  The writer's Step.
-/
import Derived.Test.YtjegeoeebbfajaaCbC
namespace Go.Proofs.Ytjegeoeebbfajaa
open Go.RowKit

theorem ev_form (pt : Part) : ∃ k y m l c, pt.ev = evV k y m l c := by
  cases pt <;> try exact ⟨_, _, _, _, _, rfl⟩
  rename_i m n
  by_cases hn : n < -1
  · exact ⟨0, false, 0, [], 0, by simp [Part.ev, hn]⟩
  · exact ⟨_, _, _, _, _, by simp only [Part.ev]; rw [if_neg hn]⟩
set_option maxRecDepth 100000 in
theorem step_bad {w : World} {B p : Nat} {v : Value} {L : List Cont} {d : Bool} (h : Wr w B p v L d) (pt : Part) (hbad : pt.may = false ∨ d = true) :
    Calls Try.prog 12 #[.pointer (some ⟨p, 0, none⟩), pt.val] w fun e w' => e = .returned (.tuple #[.string (S []), .int .i64 14]) ∧ Below w.heap.size w w' := by
  by_cases hm : pt.may = true
  · have hd : d = true := by
      rcases hbad with h1 | h1
      · rw [hm] at h1; cases h1
      · exact h1
    have hmay := hm
    subst hd
    clear hm hbad
    obtain ⟨k5, y5, m5, l5, c5, hev⟩ := ev_form pt
    have HPL := hide (plain_any pt w)
    rw [hev, hmay] at HPL
    unfold evV at HPL
    clear hev hmay
    go_enter Try.func12, Try.ntmps12
    go_wp2_with fail
    refine (unhide HPL).mono ?_
    rintro e w1 ⟨rfl, hb1⟩
    have kw := h.below hb1
    have kc0 := kw.2.1.cellv 0 _ rfl
    have kc1 := kw.2.1.cellv 1 _ rfl
    have kpl := kw.2.1.lt
    clear HPL
    clear kw
    go_wp2_with fail
    go_ret2
    exact ⟨rfl, Below.more hb1 (Nat.le_refl _) _⟩
  · have hmay : pt.may = false := by simpa using hm
    clear hm hbad
    obtain ⟨k5, y5, m5, l5, c5, hev⟩ := ev_form pt
    have HPL := hide (plain_any pt w)
    rw [hev, hmay] at HPL
    unfold evV at HPL
    clear hev hmay
    go_enter Try.func12, Try.ntmps12
    go_wp2_with fail
    refine (unhide HPL).mono ?_
    rintro e w1 ⟨rfl, hb1⟩
    have kw := h.below hb1
    have kc0 := kw.2.1.cellv 0 _ rfl
    have kc1 := kw.2.1.cellv 1 _ rfl
    have kpl := kw.2.1.lt
    clear HPL
    clear kw
    go_wp2_with fail
    go_ret2
    exact ⟨rfl, Below.more hb1 (Nat.le_refl _) _⟩

set_option maxRecDepth 100000 in
theorem step_close_empty {w : World} {B p : Nat} {v : Value} (h : Wr w B p v [] false) :
    Calls Try.prog 12 #[.pointer (some ⟨p, 0, none⟩), Part.close.val] w fun e w' => e = .returned (.tuple #[.string (S []), .int .i64 14]) ∧ Below w.heap.size w w' := by
  have hmay : Part.close.may = true := rfl
  have t5 := fun W => ta_close Part.close W
  simp only [Part.isClose] at t5
  obtain ⟨pt, hpt⟩ : ∃ pt, pt = Part.close := ⟨_, rfl⟩
  rw [← hpt] at hmay t5 ⊢
  clear hpt
  obtain ⟨k5, y5, m5, l5, c5, hev⟩ := ev_form pt
  have HPL := hide (plain_any pt w)
  rw [hev, hmay] at HPL
  unfold evV at HPL
  clear hev hmay
  go_enter Try.func12, Try.ntmps12
  go_wp2_with fail
  refine (unhide HPL).mono ?_
  rintro e w1 ⟨rfl, hb1⟩
  have kw := h.below hb1
  have kc0 := kw.2.1.cellv 0 _ rfl
  have kc1 := kw.2.1.cellv 1 _ rfl
  have kpl := kw.2.1.lt
  clear HPL
  have kw2 := (kw.below (Below.more (Below.refl _ _) (Nat.le_refl _) (.cells #[.int .i64 k5, .bool y5, .int .u64 m5, .string (S l5), .int .i64 c5] 34))).below (Below.more (Below.refl _ _) (Nat.le_refl _) (.cells #[] 60))
  have hb2 : Below w.heap.size w ((w1.alloc (.cells #[.int .i64 k5, .bool y5, .int .u64 m5, .string (S l5), .int .i64 c5] 34)).alloc (.cells #[] 60)) := Below.more (Below.more hb1 (Nat.le_refl _) _) (Nat.le_refl _) _
  have H := hide (close_empty kw2)
  clear kw kw2
  go_wp2_with fail
  refine (unhide H).mono ?_
  rintro e w3 ⟨rfl, hw3⟩
  subst hw3
  go_wp2_with fail
  go_ret2
  exact ⟨rfl, hb2⟩
set_option maxRecDepth 100000 in
theorem step_close_no {w : World} {B p : Nat} {v : Value} {M : List Cont} {c : Cont} (h : Wr w B p v (M ++ [c]) false) (hp : c.parts ≤ 1000000) (hML : M.length ≤ 1000000) (he : c.ends = false) :
    Calls Try.prog 12 #[.pointer (some ⟨p, 0, none⟩), Part.close.val] w fun e w' => e = .returned (.tuple #[.string (S []), .int .i64 14]) ∧ Below w.heap.size w w' := by
  have hmay : Part.close.may = true := rfl
  have t5 := fun W => ta_close Part.close W
  simp only [Part.isClose] at t5
  obtain ⟨pt, hpt⟩ : ∃ pt, pt = Part.close := ⟨_, rfl⟩
  rw [← hpt] at hmay t5 ⊢
  clear hpt
  obtain ⟨k5, y5, m5, l5, c5, hev⟩ := ev_form pt
  have HPL := hide (plain_any pt w)
  rw [hev, hmay] at HPL
  unfold evV at HPL
  clear hev hmay
  go_enter Try.func12, Try.ntmps12
  go_wp2_with fail
  refine (unhide HPL).mono ?_
  rintro e w1 ⟨rfl, hb1⟩
  have kw := h.below hb1
  have kc0 := kw.2.1.cellv 0 _ rfl
  have kc1 := kw.2.1.cellv 1 _ rfl
  have kpl := kw.2.1.lt
  clear HPL
  have kw2 := (kw.below (Below.more (Below.refl _ _) (Nat.le_refl _) (.cells #[.int .i64 k5, .bool y5, .int .u64 m5, .string (S l5), .int .i64 c5] 34))).below (Below.more (Below.refl _ _) (Nat.le_refl _) (.cells #[] 60))
  have hb2 : Below w.heap.size w ((w1.alloc (.cells #[.int .i64 k5, .bool y5, .int .u64 m5, .string (S l5), .int .i64 c5] 34)).alloc (.cells #[] 60)) := Below.more (Below.more hb1 (Nat.le_refl _) _) (Nat.le_refl _) _
  have H := hide (close_no kw2 hp hML he)
  clear kw kw2
  go_wp2_with fail
  refine (unhide H).mono ?_
  rintro e w3 ⟨rfl, hb3⟩
  go_wp2_with fail
  go_ret2
  exact ⟨rfl, hb2.trans (hb3.mono hb2.size)⟩
set_option maxRecDepth 100000 in
theorem step_close_yes {w : World} {B p : Nat} {v : Value} {M : List Cont} {c : Cont} (h : Wr w B p v (M ++ [c]) false) (hp : c.parts ≤ 1000000) (hML : M.length ≤ 1000000) (he : c.ends = true) (r : List UInt8) (hr : r = endB c) (d' : Bool) (hd' : d' = decide (M = [])) :
    Calls Try.prog 12 #[.pointer (some ⟨p, 0, none⟩), Part.close.val] w fun e w' => e = .returned (.tuple #[.string (S r), .int .i64 0]) ∧ ∃ v', Wr w' B p v' M d' ∧ Only (p :: slB v) w w' ∧ ∀ k ∈ slB v', k ∈ slB v := by
  have hmay : Part.close.may = true := rfl
  have t5 := fun W => ta_close Part.close W
  simp only [Part.isClose] at t5
  obtain ⟨pt, hpt⟩ : ∃ pt, pt = Part.close := ⟨_, rfl⟩
  rw [← hpt] at hmay t5 ⊢
  clear hpt
  obtain ⟨k5, y5, m5, l5, c5, hev⟩ := ev_form pt
  have HPL := hide (plain_any pt w)
  rw [hev, hmay] at HPL
  unfold evV at HPL
  clear hev hmay
  go_enter Try.func12, Try.ntmps12
  go_wp2_with fail
  refine (unhide HPL).mono ?_
  rintro e w1 ⟨rfl, hb1⟩
  have kw := h.below hb1
  have kc0 := kw.2.1.cellv 0 _ rfl
  have kc1 := kw.2.1.cellv 1 _ rfl
  have kpl := kw.2.1.lt
  clear HPL
  have kw2 := (kw.below (Below.more (Below.refl _ _) (Nat.le_refl _) (.cells #[.int .i64 k5, .bool y5, .int .u64 m5, .string (S l5), .int .i64 c5] 34))).below (Below.more (Below.refl _ _) (Nat.le_refl _) (.cells #[] 60))
  have hb2 : Below w.heap.size w ((w1.alloc (.cells #[.int .i64 k5, .bool y5, .int .u64 m5, .string (S l5), .int .i64 c5] 34)).alloc (.cells #[] 60)) := Below.more (Below.more hb1 (Nat.le_refl _) _) (Nat.le_refl _) _
  have H := hide (close_yes kw2 hp hML he r hr d' hd')
  clear kw kw2 hr hd'
  go_wp2_with fail
  refine (unhide H).mono ?_
  rintro e w3 ⟨rfl, v', hw3, ho3, hf3⟩
  go_wp2_with fail
  go_ret2
  exact ⟨rfl, v', hw3, ((Only.of_below hb2 []).mono (fun _ h => by cases h)).trans ho3, hf3⟩
end Go.Proofs.Ytjegeoeebbfajaa
