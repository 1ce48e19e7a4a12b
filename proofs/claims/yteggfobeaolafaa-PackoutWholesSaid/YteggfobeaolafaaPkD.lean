/-
  The writer's Step: what may not come, and the end of a container.
-/
import Derived.Test.YteggfobeaolafaaPkC
namespace Go.Proofs.Yteggfobeaolafaa
open Go.RowKit

theorem ev_form (pt : Part) : ∃ k y m l c, pt.ev = evV k y m l c := by
  cases pt <;> try exact ⟨_, _, _, _, _, rfl⟩
  rename_i m n
  by_cases hn : n < -1
  · exact ⟨0, false, 0, [], 0, by simp [Part.ev, hn]⟩
  · exact ⟨_, _, _, _, _, by simp only [Part.ev]; rw [if_neg hn]⟩
set_option maxRecDepth 100000 in
theorem step_bad {w : World} {B p : Nat} {v : Value} {L : List Cont} {d : Bool} (h : Wr w B p v L d) (pt : Part) (hbad : pt.may = false ∨ d = true) :
    Calls Try.prog 12 #[.pointer (some ⟨p, 0, none⟩), pt.val] w fun e w' => e = .returned (.tuple #[.string (S []), .int .i64 14]) ∧ Below w.heap.size w w' := by
  by_cases hm : pt.may = true
  · have hd : d = true := by
      rcases hbad with h1 | h1
      · rw [hm] at h1; cases h1
      · exact h1
    have hmay := hm
    subst hd
    clear hm hbad
    obtain ⟨k5, y5, m5, l5, c5, hev⟩ := ev_form pt
    have HPL := hide (plain_any pt w)
    rw [hev, hmay] at HPL
    unfold evV at HPL
    clear hev hmay
    go_enter Try.func12, Try.ntmps12
    go_wp2_with fail
    refine (unhide HPL).mono ?_
    rintro e w1 ⟨rfl, hb1⟩
    have kw := h.below hb1
    have kc0 := kw.2.1.cellv 0 _ rfl
    have kc1 := kw.2.1.cellv 1 _ rfl
    have kpl := kw.2.1.lt
    clear HPL
    clear kw
    go_wp2_with fail
    go_ret2
    exact ⟨rfl, Below.more hb1 (Nat.le_refl _) _⟩
  · have hmay : pt.may = false := by simpa using hm
    clear hm hbad
    obtain ⟨k5, y5, m5, l5, c5, hev⟩ := ev_form pt
    have HPL := hide (plain_any pt w)
    rw [hev, hmay] at HPL
    unfold evV at HPL
    clear hev hmay
    go_enter Try.func12, Try.ntmps12
    go_wp2_with fail
    refine (unhide HPL).mono ?_
    rintro e w1 ⟨rfl, hb1⟩
    have kw := h.below hb1
    have kc0 := kw.2.1.cellv 0 _ rfl
    have kc1 := kw.2.1.cellv 1 _ rfl
    have kpl := kw.2.1.lt
    clear HPL
    clear kw
    go_wp2_with fail
    go_ret2
    exact ⟨rfl, Below.more hb1 (Nat.le_refl _) _⟩

section
variable {w : World} {B p : Nat} {v : Value} {L : List Cont} {d : Bool}
theorem Wr.done (h : Wr w B p v L d) (d' : Bool) : Wr (w.setCell ⟨p, 1, none⟩ (.bool d')) B p v L d' := ⟨h.1, h.2.1.set_ 1 _, h.2.2.far (p := ⟨p, 1, none⟩) h.out _⟩
theorem Wr.alloc (h : Wr w B p v L d) (o : Obj) : Wr (w.alloc o) B p v L d := h.below ((Below.refl _ _).alloc (Nat.le_refl _) o)
end
theorem Only.thenBelow {S : List Nat} {a w w' : World} {B' : Nat} (h : Only S a w) (k : Below B' w w') (hB : a.heap.size ≤ B') : Only S a w' :=
  ⟨k.os.trans h.os, k.tape.trans h.tape, k.output.trans h.output, Nat.le_trans h.size k.size, fun i hi hn => (k.block i (by omega)).trans (h.block i hi hn)⟩
theorem Only.ofBelow {S : List Nat} {w w' : World} (h : Below w.heap.size w w') : Only S w w' := (Only.of_below h []).mono (fun _ h => by cases h)
theorem asBegin_no {pt : Part} (h : pt.isBegin = false) : pt.asBegin = .agg #[.bool false, .int .i64 0] := by
  cases pt <;> first | rfl | simp [Part.isBegin] at h
theorem asWord_form (pt : Part) : ∃ l, pt.asWord = .string (S l) := by
  cases pt <;> exact ⟨_, rfl⟩

set_option maxRecDepth 100000 in
theorem step_close_empty {w : World} {B p : Nat} {v : Value} (h : Wr w B p v [] false) :
    Calls Try.prog 12 #[.pointer (some ⟨p, 0, none⟩), Part.close.val] w fun e w' => e = .returned (.tuple #[.string (S []), .int .i64 14]) ∧ Below w.heap.size w w' := by
  obtain ⟨a9, c9, rfl⟩ := h.2.2.form
  have hmay : Part.close.may = true := rfl
  have t5 := fun W => ta_close Part.close W
  simp only [Part.isClose] at t5
  obtain ⟨pt, hpt⟩ : ∃ pt, pt = Part.close := ⟨_, rfl⟩
  rw [← hpt] at hmay t5 ⊢
  clear hpt
  obtain ⟨k5, y5, m5, l5, c5, hev⟩ := ev_form pt
  have HPL := hide (plain_any pt w)
  rw [hev, hmay] at HPL
  unfold evV at HPL
  clear hev hmay
  go_enter Try.func12, Try.ntmps12
  go_wp2_with fail
  refine (unhide HPL).mono ?_
  rintro e w1 ⟨rfl, hb1⟩
  have kw := h.below hb1
  have kc0 := kw.2.1.cellv 0 _ rfl
  have kc1 := kw.2.1.cellv 1 _ rfl
  have kpl := kw.2.1.lt
  clear HPL
  clear kw
  go_wp2_with fail
  go_ret2
  exact ⟨rfl, Below.more (Below.more hb1 (Nat.le_refl _) _) (Nat.le_refl _) _⟩
set_option maxRecDepth 100000 in
theorem step_close_no {w : World} {B p : Nat} {v : Value} {M : List Cont} {c : Cont} (h : Wr w B p v (M ++ [c]) false) (hp : c.parts ≤ 1000000) (hML : M.length ≤ 1000000) (he : c.full = false) :
    Calls Try.prog 12 #[.pointer (some ⟨p, 0, none⟩), Part.close.val] w fun e w' => e = .returned (.tuple #[.string (S []), .int .i64 14]) ∧ Below w.heap.size w w' := by
  have hp20 : (c.parts : Int) ≤ 1000000 := by omega
  obtain ⟨n, hn⟩ : ∃ n, n = M.length := ⟨_, rfl⟩
  obtain ⟨g, off, cap, hv, hgl, d0, d1, d2, _, htop, hdrop⟩ := top_some h.2.2 n hn
  have hcap0 := h.2.2
  subst hv
  have hcap := hcap0.cap_le
  rw [List.length_append, List.length_singleton, ← hn] at hcap
  have hn20 : (n : Int) ≤ 1000000 := by omega
  have hn0 : decide ((n : Int) < 0) = false := by simp
  have HB := fun W r hr => hide (between_any c hp W r hr)
  have HF := fun W r hr => hide (full_any c hp W r hr)
  have HN := hide hn
  have HTOP := hide htop
  have HDROP := hide hdrop
  clear hn hML htop hdrop hcap0
  have H := fun W => HF W false he.symm
  clear HF he
  have hmay : Part.close.may = true := rfl
  have t5 := fun W => ta_close Part.close W
  simp only [Part.isClose] at t5
  obtain ⟨pt, hpt⟩ : ∃ pt, pt = Part.close := ⟨_, rfl⟩
  rw [← hpt] at hmay t5 ⊢
  clear hpt
  obtain ⟨k5, y5, m5, l5, c5, hev⟩ := ev_form pt
  have HPL := hide (plain_any pt w)
  rw [hev, hmay] at HPL
  unfold evV at HPL
  clear hev hmay
  go_enter Try.func12, Try.ntmps12
  go_wp2_with fail
  refine (unhide HPL).mono ?_
  rintro e w1 ⟨rfl, hb1⟩
  have kw := h.below hb1
  have kc0 := kw.2.1.cellv 0 _ rfl
  have kc1 := kw.2.1.cellv 1 _ rfl
  have kpl := kw.2.1.lt
  clear HPL
  have g0 := (hb1.cell (p := ⟨g, off + n * 3, none⟩) hgl).trans d0
  have g1 := (hb1.cell (p := ⟨g, off + n * 3 + 1, none⟩) hgl).trans d1
  have g2 := (hb1.cell (p := ⟨g, off + n * 3 + 2, none⟩) hgl).trans d2
  have hg1 : g < w1.heap.size := Nat.lt_of_lt_of_le hgl hb1.size
  clear d0 d1 d2
  have KW := hide kw
  clear kw
  go_wp2_with fail
  (with_reducible refine (unhide (H _)).mono ?_)
  rintro e w3 ⟨rfl, hb3⟩
  go_wp2_with fail
  go_ret2
  exact ⟨rfl, (Below.more (Below.more hb1 (Nat.le_refl _) _) (Nat.le_refl _) _).trans (hb3.mono (by have := hb1.size; simp; omega))⟩
set_option maxRecDepth 100000 in
theorem step_close_yes {w : World} {B p : Nat} {v : Value} {M : List Cont} {c : Cont} (h : Wr w B p v (M ++ [c]) false) (hp : c.parts ≤ 1000000) (hML : M.length ≤ 1000000) (he : c.full = true) (d' : Bool) (hd' : d' = decide (M = [])) :
    Calls Try.prog 12 #[.pointer (some ⟨p, 0, none⟩), Part.close.val] w fun e w' => e = .returned (.tuple #[.string (S []), .int .i64 0]) ∧ ∃ v', Wr w' B p v' M d' ∧ Only (p :: slB v) w w' ∧ ∀ k ∈ slB v', k ∈ slB v := by
  have hp20 : (c.parts : Int) ≤ 1000000 := by omega
  obtain ⟨n, hn⟩ : ∃ n, n = M.length := ⟨_, rfl⟩
  obtain ⟨g, off, cap, hv, hgl, d0, d1, d2, _, htop, hdrop⟩ := top_some h.2.2 n hn
  have hcap0 := h.2.2
  subst hv
  have hcap := hcap0.cap_le
  rw [List.length_append, List.length_singleton, ← hn] at hcap
  have hn20 : (n : Int) ≤ 1000000 := by omega
  have hn0 : decide ((n : Int) < 0) = false := by simp
  have HB := fun W r hr => hide (between_any c hp W r hr)
  have HF := fun W r hr => hide (full_any c hp W r hr)
  have HN := hide hn
  have HTOP := hide htop
  have HDROP := hide hdrop
  clear hn hML htop hdrop hcap0
  have hsl := slice_top (P := Try.prog) (t := 25) (z := 3) Try.underlying25 (by intro w; kernel_rfl) g off (n + 1) n cap (by omega) n rfl
  have hnd : ((n : Int) == 0) = d' := by rw [hd', Bool.eq_iff_iff]; simp; rw [HN.out]; exact List.length_eq_zero_iff
  have H := fun W => HF W true he.symm
  clear HF he hd' hcap
  have hmay : Part.close.may = true := rfl
  have t5 := fun W => ta_close Part.close W
  simp only [Part.isClose] at t5
  obtain ⟨pt, hpt⟩ : ∃ pt, pt = Part.close := ⟨_, rfl⟩
  rw [← hpt] at hmay t5 ⊢
  clear hpt
  obtain ⟨k5, y5, m5, l5, c5, hev⟩ := ev_form pt
  have HPL := hide (plain_any pt w)
  rw [hev, hmay] at HPL
  unfold evV at HPL
  clear hev hmay
  go_enter Try.func12, Try.ntmps12
  go_wp2_with fail
  refine (unhide HPL).mono ?_
  rintro e w1 ⟨rfl, hb1⟩
  have kw := h.below hb1
  have kc0 := kw.2.1.cellv 0 _ rfl
  have kc1 := kw.2.1.cellv 1 _ rfl
  have kpl := kw.2.1.lt
  clear HPL
  have g0 := (hb1.cell (p := ⟨g, off + n * 3, none⟩) hgl).trans d0
  have g1 := (hb1.cell (p := ⟨g, off + n * 3 + 1, none⟩) hgl).trans d1
  have g2 := (hb1.cell (p := ⟨g, off + n * 3 + 2, none⟩) hgl).trans d2
  have hg1 : g < w1.heap.size := Nat.lt_of_lt_of_le hgl hb1.size
  clear d0 d1 d2
  have KW := hide kw
  clear kw
  go_wp2_with fail
  (with_reducible refine (unhide (H _)).mono ?_)
  rintro e w3 ⟨rfl, hb3⟩
  have hbx : Below w1.heap.size w1 w3 := (Below.more (Below.more (Below.refl _ _) (Nat.le_refl _) _) (Nat.le_refl _) _).trans (hb3.mono (by simp; omega))
  have kq := KW.out.below hbx
  have qc0 := kq.2.1.cellv 0 _ rfl
  have qc1 := kq.2.1.cellv 1 _ rfl
  have qf0 := kq.2.1.frozen 0
  have qf1 := kq.2.1.frozen 1
  have qpl := kq.2.1.lt
  have hwn : Wr ((w3.setCell ⟨p, 0, none⟩ (.slice (some ⟨g, off, none⟩) n cap)).setCell ⟨p, 1, none⟩ (.bool d')) B p (.slice (some ⟨g, off, none⟩) n cap) M d' := by
    have h1 := HDROP.out _ ((kq.2.2.far (p := ⟨p, 0, none⟩) kq.out (.slice (some ⟨g, off, none⟩) n cap)).far (p := ⟨p, 1, none⟩) kq.out (.bool d'))
    refine ⟨kq.1, (kq.2.1.set_ 0 _).set_ 1 _, ?_⟩
    rw [← HN.out]
    exact h1
  have HWN := hide hwn
  have HBX := hide (hb1.trans (hbx.mono hb1.size))
  clear hwn hbx hb3 H kq g0 g1 g2 kc0 kc1
  go_wp2_with fail
  go_ret2
  exact ⟨rfl, _, HWN.out, ((Only.ofBelow HBX.out).setCell (by simp) _).setCell (by simp) _, fun k hk => by simpa [slB] using hk⟩
end Go.Proofs.Yteggfobeaolafaa
