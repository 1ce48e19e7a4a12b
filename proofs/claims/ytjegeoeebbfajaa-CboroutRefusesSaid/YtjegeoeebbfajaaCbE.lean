/-
  The writer's Step: parts that are no containers.
-/
import Derived.Test.YtjegeoeebbfajaaCbD
namespace Go.Proofs.Ytjegeoeebbfajaa
open Go.RowKit

section
variable {w : World} {B p : Nat} {v : Value} {L : List Cont} {d : Bool}
theorem Wr.done (h : Wr w B p v L d) (d' : Bool) : Wr (w.setCell ⟨p, 1, none⟩ (.bool d')) B p v L d' := ⟨h.1, h.2.1.set_ 1 _, h.2.2.far (p := ⟨p, 1, none⟩) h.out _⟩
theorem Wr.alloc (h : Wr w B p v L d) (o : Obj) : Wr (w.alloc o) B p v L d := h.below ((Below.refl _ _).alloc (Nat.le_refl _) o)
end
theorem Only.thenBelow {S : List Nat} {a w w' : World} {B' : Nat} (h : Only S a w) (k : Below B' w w') (hB : a.heap.size ≤ B') : Only S a w' :=
  ⟨k.os.trans h.os, k.tape.trans h.tape, k.output.trans h.output, Nat.le_trans h.size k.size, fun i hi hn => (k.block i (by omega)).trans (h.block i hi hn)⟩
theorem Only.ofBelow {S : List Nat} {w w' : World} (h : Below w.heap.size w w') : Only S w w' := (Only.of_below h []).mono (fun _ h => by cases h)
theorem asBegin_no {pt : Part} (h : pt.isBegin = false) : pt.asBegin = .agg #[.bool false, .int .i64 0] := by
  cases pt <;> first | rfl | simp [Part.isBegin] at h
theorem asWord_form (pt : Part) : ∃ l, pt.asWord = .string (S l) := by
  cases pt <;> exact ⟨_, rfl⟩

set_option maxRecDepth 100000 in
theorem step_plain_nil {w : World} {B p : Nat} {v : Value} (h : Wr w B p v [] false) (pt : Part) (hmay : pt.may = true) (hcl : pt.isClose = false) (hbg : pt.isBegin = false) (r : List UInt8)
    (hplain : ∀ W, Calls Try.prog 27 #[pt.val] W fun e w' => e = .returned (.string (S r)) ∧ Below W.heap.size W w') :
    Calls Try.prog 12 #[.pointer (some ⟨p, 0, none⟩), pt.val] w fun e w' => e = .returned (.tuple #[.string (S r), .int .i64 0]) ∧ Wr w' B p v [] true ∧ Only (p :: slB v) w w' := by
  have t5 := fun W => ta_close pt W
  rw [hcl] at t5
  have t3 := fun W => ta_word pt W
  obtain ⟨lw, hlw⟩ := asWord_form pt
  rw [hlw] at t3
  obtain ⟨isw, hisw⟩ : ∃ isw, isw = pt.isWord := ⟨_, rfl⟩
  rw [← hisw] at t3
  have t6 := fun W => ta_begin pt W
  rw [hbg, asBegin_no hbg] at t6
  have HCP := fun W => hide (hplain W)
  obtain ⟨a9, c9, rfl⟩ := h.2.2.form
  clear hplain hlw hisw hcl hbg
  obtain ⟨k5, y5, m5, l5, c5, hev⟩ := ev_form pt
  have HPL := hide (plain_any pt w)
  rw [hev, hmay] at HPL
  unfold evV at HPL
  clear hev hmay
  go_enter Try.func12, Try.ntmps12
  go_wp2_with fail
  refine (unhide HPL).mono ?_
  rintro e w1 ⟨rfl, hb1⟩
  have kw := h.below hb1
  have kc0 := kw.2.1.cellv 0 _ rfl
  have kc1 := kw.2.1.cellv 1 _ rfl
  have kpl := kw.2.1.lt
  clear HPL
  have kf := (((kw.alloc (.cells #[.int .i64 k5, .bool y5, .int .u64 m5, .string (S l5), .int .i64 c5] 34)).alloc (.cells #[] 60)).alloc (.cells #[.bool false, .int .i64 0] 57)).2.1.frozen 1
  have kd := (((kw.alloc (.cells #[.int .i64 k5, .bool y5, .int .u64 m5, .string (S l5), .int .i64 c5] 34)).alloc (.cells #[] 60)).alloc (.cells #[.bool false, .int .i64 0] 57)).2.1.cellv 1 _ rfl
  have KW := hide kw
  clear kw
  go_wp2_with fail
  refine (unhide (HCP _)).mono ?_
  rintro e w3 ⟨rfl, hb3⟩
  go_wp2_with fail
  go_ret2
  refine ⟨rfl, ((((KW.out.alloc _).alloc _).alloc _).done true).below hb3, ?_⟩
  exact (Only.ofBelow hb1).trans (Only.thenBelow (((((Only.refl _ w1).alloc _).alloc _).alloc _).setCell (by simp) (.bool true)) hb3 (by simp; omega))
set_option maxRecDepth 100000 in
theorem step_full {w : World} {B p : Nat} {v : Value} {M : List Cont} {c : Cont} (h : Wr w B p v (M ++ [c]) false) (hp : c.parts ≤ 1000000) (hML : M.length ≤ 1000000) (pt : Part) (hmay : pt.may = true) (hcl : pt.isClose = false) (hf : c.full = true) :
    Calls Try.prog 12 #[.pointer (some ⟨p, 0, none⟩), pt.val] w fun e w' => e = .returned (.tuple #[.string (S []), .int .i64 14]) ∧ Below w.heap.size w w' := by
  have t5 := fun W => ta_close pt W
  rw [hcl] at t5
  clear hcl
  have hp20 : (c.parts : Int) ≤ 1000000 := by omega
  obtain ⟨n, hn⟩ : ∃ n, n = M.length := ⟨_, rfl⟩
  obtain ⟨g, off, cap, hv, hgl, d0, d1, d2, _, _, _⟩ := top_some h.2.2 n hn
  subst hv
  have hn20 : (n : Int) ≤ 1000000 := by omega
  have hn0 : decide ((n : Int) < 0) = false := by simp
  have HB := fun W r hr => hide (between_any c hp W r hr)
  have HF := fun W r hr => hide (full_any c hp W r hr)
  have HN := hide hn
  clear hn hML
  obtain ⟨k5, y5, m5, l5, c5, hev⟩ := ev_form pt
  have HPL := hide (plain_any pt w)
  rw [hev, hmay] at HPL
  unfold evV at HPL
  clear hev hmay
  go_enter Try.func12, Try.ntmps12
  go_wp2_with fail
  refine (unhide HPL).mono ?_
  rintro e w1 ⟨rfl, hb1⟩
  have kw := h.below hb1
  have kc0 := kw.2.1.cellv 0 _ rfl
  have kc1 := kw.2.1.cellv 1 _ rfl
  have kpl := kw.2.1.lt
  clear HPL
  have g0 := (hb1.cell (p := ⟨g, off + n * 3, none⟩) hgl).trans d0
  have g1 := (hb1.cell (p := ⟨g, off + n * 3 + 1, none⟩) hgl).trans d1
  have g2 := (hb1.cell (p := ⟨g, off + n * 3 + 2, none⟩) hgl).trans d2
  have hg1 : g < w1.heap.size := Nat.lt_of_lt_of_le hgl hb1.size
  clear d0 d1 d2
  have KW := hide kw
  clear kw
  have H := fun W => HF W true hf.symm
  clear HF HB hf
  go_wp2_with fail
  refine (unhide (H _)).mono ?_
  rintro e w3 ⟨rfl, hb3⟩
  go_wp2_with fail
  go_ret2
  exact ⟨rfl, (Below.more (Below.more (Below.more hb1 (Nat.le_refl _) _) (Nat.le_refl _) _) (Nat.le_refl _) _).trans (hb3.mono (by have := hb1.size; simp; omega))⟩
end Go.Proofs.Ytjegeoeebbfajaa
