/-
  The writer's Step: what is refused; parts that stand alone.
-/
import Derived.Test.YteggfobeaolafaaPkD
namespace Go.Proofs.Yteggfobeaolafaa
open Go.RowKit


/-- May the part come next? -/
def Cont.takes (c : Cont) (pt : Part) : Bool := !c.pairs || c.between || pt.isWord
theorem SlN.fz {w : World} {base : Nat} {t : TypeId} {s : Nat} {g off n cap n' : Nat} {xs : List Value} (h : SlN w base t s (.slice (some ⟨g, off, none⟩) n cap) n' xs) (i : Nat) : w.frozen? ⟨g, i, none⟩ = false := by
  rcases h with ⟨hv, _⟩ | ⟨g', off', cap', cs, hv, hb, hg, _⟩
  · cases hv
  · injection hv with e1
    injection e1 with e1
    injection e1 with e4
    subst e4
    exact hg.frozen _
set_option maxRecDepth 100000 in
theorem step_full {w : World} {B p : Nat} {v : Value} {M : List Cont} {c : Cont} (h : Wr w B p v (M ++ [c]) false) (hp : c.parts ≤ 1000000) (hML : M.length ≤ 1000000) (pt : Part) (hmay : pt.may = true) (hcl : pt.isClose = false) (hf : c.full = true) :
    Calls Try.prog 12 #[.pointer (some ⟨p, 0, none⟩), pt.val] w fun e w' => e = .returned (.tuple #[.string (S []), .int .i64 14]) ∧ Below w.heap.size w w' := by
  have t5 := fun W => ta_close pt W
  rw [hcl] at t5
  clear hcl
  have hp20 : (c.parts : Int) ≤ 1000000 := by omega
  obtain ⟨n, hn⟩ : ∃ n, n = M.length := ⟨_, rfl⟩
  obtain ⟨g, off, cap, hv, hgl, d0, d1, d2, _, htop, hdrop⟩ := top_some h.2.2 n hn
  have hcap0 := h.2.2
  subst hv
  have hcap := hcap0.cap_le
  rw [List.length_append, List.length_singleton, ← hn] at hcap
  have hn20 : (n : Int) ≤ 1000000 := by omega
  have hn0 : decide ((n : Int) < 0) = false := by simp
  have HB := fun W r hr => hide (between_any c hp W r hr)
  have HF := fun W r hr => hide (full_any c hp W r hr)
  have HN := hide hn
  have HTOP := hide htop
  have HDROP := hide hdrop
  clear hn hML htop hdrop hcap0
  obtain ⟨k5, y5, m5, l5, c5, hev⟩ := ev_form pt
  have HPL := hide (plain_any pt w)
  rw [hev, hmay] at HPL
  unfold evV at HPL
  clear hev hmay
  go_enter Try.func12, Try.ntmps12
  go_wp2_with fail
  refine (unhide HPL).mono ?_
  rintro e w1 ⟨rfl, hb1⟩
  have kw := h.below hb1
  have kc0 := kw.2.1.cellv 0 _ rfl
  have kc1 := kw.2.1.cellv 1 _ rfl
  have kpl := kw.2.1.lt
  clear HPL
  have g0 := (hb1.cell (p := ⟨g, off + n * 3, none⟩) hgl).trans d0
  have g1 := (hb1.cell (p := ⟨g, off + n * 3 + 1, none⟩) hgl).trans d1
  have g2 := (hb1.cell (p := ⟨g, off + n * 3 + 2, none⟩) hgl).trans d2
  have hg1 : g < w1.heap.size := Nat.lt_of_lt_of_le hgl hb1.size
  clear d0 d1 d2
  have KW := hide kw
  clear kw
  have H := fun W => HF W true hf.symm
  clear HF HB hf
  go_wp2_with fail
  refine (unhide (H _)).mono ?_
  rintro e w3 ⟨rfl, hb3⟩
  go_wp2_with fail
  go_ret2
  exact ⟨rfl, (Below.more (Below.more (Below.more hb1 (Nat.le_refl _) _) (Nat.le_refl _) _) (Nat.le_refl _) _).trans (hb3.mono (by have := hb1.size; simp; omega))⟩
set_option maxRecDepth 100000 in
set_option maxHeartbeats 1000000 in
theorem step_kind {w : World} {B p : Nat} {v : Value} {M : List Cont} {c : Cont} (h : Wr w B p v (M ++ [c]) false) (hp : c.parts ≤ 1000000) (hML : M.length ≤ 1000000) (pt : Part) (hmay : pt.may = true) (hcl : pt.isClose = false) (hf : c.full = false) (ht : c.takes pt = false) :
    Calls Try.prog 12 #[.pointer (some ⟨p, 0, none⟩), pt.val] w fun e w' => e = .returned (.tuple #[.string (S []), .int .i64 8]) ∧ Below w.heap.size w w' := by
  have t5 := fun W => ta_close pt W
  rw [hcl] at t5
  have t3 := fun W => ta_word pt W
  obtain ⟨lw, hlw⟩ := asWord_form pt
  rw [hlw] at t3
  clear hlw
  unfold Cont.takes at ht
  simp only [Bool.or_eq_false_iff, Bool.not_eq_false'] at ht
  obtain ⟨⟨hpr, hbt⟩, hwd⟩ := ht
  rw [hwd] at t3
  have HPR := hide hpr
  have HBT := hide hbt
  clear hwd hcl hpr hbt
  have hp20 : (c.parts : Int) ≤ 1000000 := by omega
  obtain ⟨n, hn⟩ : ∃ n, n = M.length := ⟨_, rfl⟩
  obtain ⟨g, off, cap, hv, hgl, d0, d1, d2, _, htop, hdrop⟩ := top_some h.2.2 n hn
  have hcap0 := h.2.2
  subst hv
  have hcap := hcap0.cap_le
  rw [List.length_append, List.length_singleton, ← hn] at hcap
  have hn20 : (n : Int) ≤ 1000000 := by omega
  have hn0 : decide ((n : Int) < 0) = false := by simp
  have HB := fun W r hr => hide (between_any c hp W r hr)
  have HF := fun W r hr => hide (full_any c hp W r hr)
  have HN := hide hn
  have HTOP := hide htop
  have HDROP := hide hdrop
  clear hn hML htop hdrop hcap0
  obtain ⟨k5, y5, m5, l5, c5, hev⟩ := ev_form pt
  have HPL := hide (plain_any pt w)
  rw [hev, hmay] at HPL
  unfold evV at HPL
  clear hev hmay
  go_enter Try.func12, Try.ntmps12
  go_wp2_with fail
  refine (unhide HPL).mono ?_
  rintro e w1 ⟨rfl, hb1⟩
  have kw := h.below hb1
  have kc0 := kw.2.1.cellv 0 _ rfl
  have kc1 := kw.2.1.cellv 1 _ rfl
  have kpl := kw.2.1.lt
  clear HPL
  have g0 := (hb1.cell (p := ⟨g, off + n * 3, none⟩) hgl).trans d0
  have g1 := (hb1.cell (p := ⟨g, off + n * 3 + 1, none⟩) hgl).trans d1
  have g2 := (hb1.cell (p := ⟨g, off + n * 3 + 2, none⟩) hgl).trans d2
  have hg1 : g < w1.heap.size := Nat.lt_of_lt_of_le hgl hb1.size
  clear d0 d1 d2
  have KW := hide kw
  clear kw
  have H := fun W => HF W false hf.symm
  have x0 := (Blk.new ((w1.alloc (.cells #[.int .i64 k5, .bool y5, .int .u64 m5, .string (S l5), .int .i64 c5] 34)).alloc (.cells #[] 67)) 72 #[.bool c.pairs, .int .i64 c.count, .int .i64 c.parts]).cellv 0 _ rfl
  have x1 := (Blk.new ((w1.alloc (.cells #[.int .i64 k5, .bool y5, .int .u64 m5, .string (S l5), .int .i64 c5] 34)).alloc (.cells #[] 67)) 72 #[.bool c.pairs, .int .i64 c.count, .int .i64 c.parts]).cellv 1 _ rfl
  have x2 := (Blk.new ((w1.alloc (.cells #[.int .i64 k5, .bool y5, .int .u64 m5, .string (S l5), .int .i64 c5] 34)).alloc (.cells #[] 67)) 72 #[.bool c.pairs, .int .i64 c.count, .int .i64 c.parts]).cellv 2 _ rfl
  have X := hide (And.intro x0 (And.intro x1 x2))
  clear HF hf x0 x1 x2
  go_wp2_with fail
  (with_reducible refine (unhide (H _)).mono ?_)
  rintro e w3 ⟨rfl, hb3⟩
  clear H
  have hb13 : Below w1.heap.size w1 w3 := (Below.more (Below.more (Below.more (Below.refl _ _) (Nat.le_refl _) _) (Nat.le_refl _) _) (Nat.le_refl _) _).trans (hb3.mono (by simp; omega))
  have x0 : w3.cell? ⟨w1.heap.size + 1 + 1, 0, none⟩ = some (.bool c.pairs) := (hb3.cell (p := ⟨w1.heap.size + 1 + 1, 0, none⟩) (by simp)).trans (by simpa using X.out.1)
  have x1 : w3.cell? ⟨w1.heap.size + 1 + 1, 1, none⟩ = some (.int .i64 c.count) := (hb3.cell (p := ⟨w1.heap.size + 1 + 1, 1, none⟩) (by simp)).trans (by simpa using X.out.2.1)
  have x2 : w3.cell? ⟨w1.heap.size + 1 + 1, 2, none⟩ = some (.int .i64 c.parts) := (hb3.cell (p := ⟨w1.heap.size + 1 + 1, 2, none⟩) (by simp)).trans (by simpa using X.out.2.2)
  clear X hb3
  have H2 := HB w3 false HBT.out.symm
  rw [HPR.out] at x0 H2
  clear HB
  go_wp2_with fail
  (with_reducible refine (unhide H2).mono ?_)
  rintro e w4 ⟨rfl, hb4⟩
  go_wp2_with fail
  go_ret2
  exact ⟨rfl, (hb1.trans (hb13.mono hb1.size)).trans (hb4.mono (Nat.le_trans hb1.size hb13.size))⟩
set_option maxRecDepth 100000 in
theorem step_perr_nil {w : World} {B p : Nat} {v : Value} (h : Wr w B p v [] false) (pt : Part) (hmay : pt.may = true) (hcl : pt.isClose = false) (hbg : pt.isBegin = false)
    (hplain : ∀ W, Calls Try.prog 26 #[pt.val] W fun e w' => e = .returned (.tuple #[.string (S []), .int .i64 7]) ∧ Below W.heap.size W w') :
    Calls Try.prog 12 #[.pointer (some ⟨p, 0, none⟩), pt.val] w fun e w' => e = .returned (.tuple #[.string (S []), .int .i64 7]) ∧ Below w.heap.size w w' := by
  have t5 := fun W => ta_close pt W
  rw [hcl] at t5
  have t3 := fun W => ta_word pt W
  obtain ⟨lw, hlw⟩ := asWord_form pt
  rw [hlw] at t3
  obtain ⟨isw, hisw⟩ : ∃ isw, isw = pt.isWord := ⟨_, rfl⟩
  rw [← hisw] at t3
  have t6 := fun W => ta_begin pt W
  rw [hbg, asBegin_no hbg] at t6
  have HCP := fun W => hide (hplain W)
  obtain ⟨a9, c9, rfl⟩ := h.2.2.form
  clear hplain hlw hisw hcl hbg
  obtain ⟨k5, y5, m5, l5, c5, hev⟩ := ev_form pt
  have HPL := hide (plain_any pt w)
  rw [hev, hmay] at HPL
  unfold evV at HPL
  clear hev hmay
  go_enter Try.func12, Try.ntmps12
  go_wp2_with fail
  refine (unhide HPL).mono ?_
  rintro e w1 ⟨rfl, hb1⟩
  have kw := h.below hb1
  have kc0 := kw.2.1.cellv 0 _ rfl
  have kc1 := kw.2.1.cellv 1 _ rfl
  have kpl := kw.2.1.lt
  clear HPL
  have KW := hide kw
  clear kw
  go_wp2_with fail
  (with_reducible refine (unhide (HCP _)).mono ?_)
  rintro e w3 ⟨rfl, hb3⟩
  have hbx : Below w1.heap.size w1 w3 := (Below.more (Below.more (Below.refl _ _) (Nat.le_refl _) _) (Nat.le_refl _) _).trans (hb3.mono (by simp; omega))
  go_wp2_with fail
  go_ret2
  exact ⟨rfl, Below.more (hb1.trans (hbx.mono hb1.size)) (Nat.le_refl _) _⟩
set_option maxRecDepth 100000 in
theorem step_plain_nil {w : World} {B p : Nat} {v : Value} (h : Wr w B p v [] false) (pt : Part) (hmay : pt.may = true) (hcl : pt.isClose = false) (hbg : pt.isBegin = false) (r : List UInt8)
    (hplain : ∀ W, Calls Try.prog 26 #[pt.val] W fun e w' => e = .returned (.tuple #[.string (S r), .int .i64 0]) ∧ Below W.heap.size W w') :
    Calls Try.prog 12 #[.pointer (some ⟨p, 0, none⟩), pt.val] w fun e w' => e = .returned (.tuple #[.string (S r), .int .i64 0]) ∧ Wr w' B p v [] true ∧ Only (p :: slB v) w w' := by
  have t5 := fun W => ta_close pt W
  rw [hcl] at t5
  have t3 := fun W => ta_word pt W
  obtain ⟨lw, hlw⟩ := asWord_form pt
  rw [hlw] at t3
  obtain ⟨isw, hisw⟩ : ∃ isw, isw = pt.isWord := ⟨_, rfl⟩
  rw [← hisw] at t3
  have t6 := fun W => ta_begin pt W
  rw [hbg, asBegin_no hbg] at t6
  have HCP := fun W => hide (hplain W)
  obtain ⟨a9, c9, rfl⟩ := h.2.2.form
  clear hplain hlw hisw hcl hbg
  obtain ⟨k5, y5, m5, l5, c5, hev⟩ := ev_form pt
  have HPL := hide (plain_any pt w)
  rw [hev, hmay] at HPL
  unfold evV at HPL
  clear hev hmay
  go_enter Try.func12, Try.ntmps12
  go_wp2_with fail
  refine (unhide HPL).mono ?_
  rintro e w1 ⟨rfl, hb1⟩
  have kw := h.below hb1
  have kc0 := kw.2.1.cellv 0 _ rfl
  have kc1 := kw.2.1.cellv 1 _ rfl
  have kpl := kw.2.1.lt
  clear HPL
  have KW := hide kw
  clear kw
  go_wp2_with fail
  (with_reducible refine (unhide (HCP _)).mono ?_)
  rintro e w3 ⟨rfl, hb3⟩
  have hbx : Below w1.heap.size w1 w3 := (Below.more (Below.more (Below.refl _ _) (Nat.le_refl _) _) (Nat.le_refl _) _).trans (hb3.mono (by simp; omega))
  have kx := (KW.out.below hbx).alloc (.cells #[.bool false, .int .i64 0] 62)
  have kf := kx.2.1.frozen 1
  have kd := kx.2.1.cellv 1 _ rfl
  have hpl3 : p < w3.heap.size := (KW.out.below hbx).2.1.lt
  have KX := hide (KW.out.below hbx)
  clear kx
  go_wp2_with fail
  go_ret2
  exact ⟨rfl, (KX.out.done true).alloc _, ((Only.ofBelow (hb1.trans (hbx.mono hb1.size))).setCell (by simp) _).alloc _⟩
set_option maxRecDepth 100000 in
theorem step_berr_nil {w : World} {B p : Nat} {v : Value} (h : Wr w B p v [] false) (m : Bool) (n' : Int) (hn1 : -1 ≤ n')
    (hplain : ∀ W, Calls Try.prog 26 #[(Part.begin_ m n').val] W fun e w' => e = .returned (.tuple #[.string (S [0xc0]), .int .i64 0]) ∧ Below W.heap.size W w')
    (hbegin : ∀ W, Calls Try.prog 27 #[.agg #[.bool m, .int .i64 n']] W fun e w' => e = .returned (.tuple #[.string (S []), .int .i64 7]) ∧ Below W.heap.size W w') :
    Calls Try.prog 12 #[.pointer (some ⟨p, 0, none⟩), (Part.begin_ m n').val] w fun e w' => e = .returned (.tuple #[.string (S []), .int .i64 7]) ∧ Below w.heap.size w w' := by
  have t5 := fun W => ta_close (Part.begin_ m n') W
  have t3 := fun W => ta_word (Part.begin_ m n') W
  have t6 := fun W => ta_begin (Part.begin_ m n') W
  simp only [Part.isClose, Part.asWord, Part.isWord, Part.asBegin, Part.isBegin] at t5 t3 t6
  have hmay : (Part.begin_ m n').may = true := by simp only [Part.may]; exact decide_eq_true hn1
  have HCP := fun W => hide (hplain W)
  have HBG := fun W => hide (hbegin W)
  clear hplain hbegin
  obtain ⟨pt, hpt⟩ : ∃ pt, pt = Part.begin_ m n' := ⟨_, rfl⟩
  rw [← hpt] at hmay t5 t3 t6 HCP ⊢
  clear hpt
  obtain ⟨a9, c9, rfl⟩ := h.2.2.form
  obtain ⟨k5, y5, m5, l5, c5, hev⟩ := ev_form pt
  have HPL := hide (plain_any pt w)
  rw [hev, hmay] at HPL
  unfold evV at HPL
  clear hev hmay
  go_enter Try.func12, Try.ntmps12
  go_wp2_with fail
  refine (unhide HPL).mono ?_
  rintro e w1 ⟨rfl, hb1⟩
  have kw := h.below hb1
  have kc0 := kw.2.1.cellv 0 _ rfl
  have kc1 := kw.2.1.cellv 1 _ rfl
  have kpl := kw.2.1.lt
  clear HPL
  have KW := hide kw
  clear kw
  go_wp2_with fail
  (with_reducible refine (unhide (HCP _)).mono ?_)
  rintro e w3 ⟨rfl, hb3⟩
  have hbx : Below w1.heap.size w1 w3 := (Below.more (Below.more (Below.refl _ _) (Nat.le_refl _) _) (Nat.le_refl _) _).trans (hb3.mono (by simp; omega))
  go_wp2_with fail
  (with_reducible refine (unhide (HBG _)).mono ?_)
  rintro e w4 ⟨rfl, hb4⟩
  have hby : Below w1.heap.size w1 w4 := (Below.more hbx (Nat.le_refl _) _).trans (hb4.mono (by have := hbx.size; simp; omega))
  go_wp2_with fail
  go_ret2
  exact ⟨rfl, hb1.trans (hby.mono hb1.size)⟩
end Go.Proofs.Yteggfobeaolafaa
