/-
  The writer's Step: parts within a container.
-/
import Derived.Test.YteggfobeaolafaaPkE
namespace Go.Proofs.Yteggfobeaolafaa
open Go.RowKit


section
variable {w : World} {B p : Nat} {v : Value} {M : List Cont} {c : Cont}
end
set_option maxRecDepth 100000 in
set_option maxHeartbeats 2000000 in
theorem step_plain_top {w : World} {B p : Nat} {v : Value} {M : List Cont} {c : Cont} (h : Wr w B p v (M ++ [c]) false) (hp : c.parts ≤ 1000000) (hML : M.length ≤ 1000000) (pt : Part) (hmay : pt.may = true) (hcl : pt.isClose = false) (hbg : pt.isBegin = false) (hf : c.full = false) (ht : c.takes pt = true) (r : List UInt8)
    (hplain : ∀ W, Calls Try.prog 26 #[pt.val] W fun e w' => e = .returned (.tuple #[.string (S r), .int .i64 0]) ∧ Below W.heap.size W w') :
    Calls Try.prog 12 #[.pointer (some ⟨p, 0, none⟩), pt.val] w fun e w' => e = .returned (.tuple #[.string (S r), .int .i64 0]) ∧ Wr w' B p v (M ++ [c.more]) false ∧ Only (p :: slB v) w w' := by
  have t5 := fun W => ta_close pt W
  rw [hcl] at t5
  have t3 := fun W => ta_word pt W
  obtain ⟨lw, hlw⟩ := asWord_form pt
  rw [hlw] at t3
  obtain ⟨isw, hisw⟩ : ∃ isw, isw = pt.isWord := ⟨_, rfl⟩
  rw [← hisw] at t3
  have t6 := fun W => ta_begin pt W
  rw [hbg, asBegin_no hbg] at t6
  have HCP := fun W => hide (hplain W)
  unfold Cont.takes at ht
  rw [← hisw] at ht
  clear hplain hcl hbg hisw hlw
  cases hpr : c.pairs with
  | false =>
    have HPR := hide hpr
    clear hpr ht
    have hp20 : (c.parts : Int) ≤ 1000000 := by omega
    obtain ⟨n, hn⟩ : ∃ n, n = M.length := ⟨_, rfl⟩
    obtain ⟨g, off, cap, hv, hgl, d0, d1, d2, _, htop, hdrop⟩ := top_some h.2.2 n hn
    have hcap0 := h.2.2
    subst hv
    have hcap := hcap0.cap_le
    rw [List.length_append, List.length_singleton, ← hn] at hcap
    have hn20 : (n : Int) ≤ 1000000 := by omega
    have hn0 : decide ((n : Int) < 0) = false := by simp
    have HB := fun W r hr => hide (between_any c hp W r hr)
    have HF := fun W r hr => hide (full_any c hp W r hr)
    have HN := hide hn
    have HTOP := hide htop
    have HDROP := hide hdrop
    clear hn hML htop hdrop hcap0
    obtain ⟨k5, y5, m5, l5, c5, hev⟩ := ev_form pt
    have HPL := hide (plain_any pt w)
    rw [hev, hmay] at HPL
    unfold evV at HPL
    clear hev hmay
    go_enter Try.func12, Try.ntmps12
    go_wp2_with fail
    refine (unhide HPL).mono ?_
    rintro e w1 ⟨rfl, hb1⟩
    have kw := h.below hb1
    have kc0 := kw.2.1.cellv 0 _ rfl
    have kc1 := kw.2.1.cellv 1 _ rfl
    have kpl := kw.2.1.lt
    clear HPL
    have g0 := (hb1.cell (p := ⟨g, off + n * 3, none⟩) hgl).trans d0
    have g1 := (hb1.cell (p := ⟨g, off + n * 3 + 1, none⟩) hgl).trans d1
    have g2 := (hb1.cell (p := ⟨g, off + n * 3 + 2, none⟩) hgl).trans d2
    have hg1 : g < w1.heap.size := Nat.lt_of_lt_of_le hgl hb1.size
    clear d0 d1 d2
    have KW := hide kw
    clear kw
    have H := fun W => HF W false hf.symm
    have x0 := (Blk.new ((w1.alloc (.cells #[.int .i64 k5, .bool y5, .int .u64 m5, .string (S l5), .int .i64 c5] 34)).alloc (.cells #[] 67)) 72 #[.bool c.pairs, .int .i64 c.count, .int .i64 c.parts]).cellv 0 _ rfl
    have x1 := (Blk.new ((w1.alloc (.cells #[.int .i64 k5, .bool y5, .int .u64 m5, .string (S l5), .int .i64 c5] 34)).alloc (.cells #[] 67)) 72 #[.bool c.pairs, .int .i64 c.count, .int .i64 c.parts]).cellv 1 _ rfl
    have x2 := (Blk.new ((w1.alloc (.cells #[.int .i64 k5, .bool y5, .int .u64 m5, .string (S l5), .int .i64 c5] 34)).alloc (.cells #[] 67)) 72 #[.bool c.pairs, .int .i64 c.count, .int .i64 c.parts]).cellv 2 _ rfl
    have X := hide (And.intro x0 (And.intro x1 x2))
    clear HF hf x0 x1 x2
    go_wp2_with fail
    (with_reducible refine (unhide (H _)).mono ?_)
    rintro e w3 ⟨rfl, hb3⟩
    clear H
    have hb13 : Below w1.heap.size w1 w3 := (Below.more (Below.more (Below.more (Below.refl _ _) (Nat.le_refl _) _) (Nat.le_refl _) _) (Nat.le_refl _) _).trans (hb3.mono (by simp; omega))
    have x0 : w3.cell? ⟨w1.heap.size + 1 + 1, 0, none⟩ = some (.bool c.pairs) := (hb3.cell (p := ⟨w1.heap.size + 1 + 1, 0, none⟩) (by simp)).trans (by simpa using X.out.1)
    have x1 : w3.cell? ⟨w1.heap.size + 1 + 1, 1, none⟩ = some (.int .i64 c.count) := (hb3.cell (p := ⟨w1.heap.size + 1 + 1, 1, none⟩) (by simp)).trans (by simpa using X.out.2.1)
    have x2 : w3.cell? ⟨w1.heap.size + 1 + 1, 2, none⟩ = some (.int .i64 c.parts) := (hb3.cell (p := ⟨w1.heap.size + 1 + 1, 2, none⟩) (by simp)).trans (by simpa using X.out.2.2)
    clear X hb3
    rw [HPR.out] at x0
    have hbW := hb13
    go_wp2_with fail
    (with_reducible refine (unhide (HCP _)).mono ?_)
    rintro e w9 ⟨rfl, hb9⟩
    have hbX := hbW.trans (hb9.mono hbW.size)
    have q0 := (hbX.cell (p := ⟨g, off + n * 3, none⟩) hg1).trans g0
    have q1 := (hbX.cell (p := ⟨g, off + n * 3 + 1, none⟩) hg1).trans g1
    have q2 := (hbX.cell (p := ⟨g, off + n * 3 + 2, none⟩) hg1).trans g2
    have kq := KW.out.below hbX
    have qc0 := kq.2.1.cellv 0 _ rfl
    have qc1 := kq.2.1.cellv 1 _ rfl
    have qpl := kq.2.1.lt
    have qfz := kq.2.2.fz (off + n * 3 + 2)
    have qf1 := kq.2.1.frozen 1
    have qgl := Nat.lt_of_lt_of_le hg1 hbX.size
    have qne : g ≠ p := fun e => kq.out (by rw [← e]; simp [slB])
    have KQ := hide kq
    have HBW := hide (hb1.trans (hbX.mono hb1.size))
    clear kq hbX hb9 hbW hb13 HB g0 g1 g2 kc0 kc1
    go_wp2_with fail
    go_ret2
    have kq2 := KQ.out
    have kq5 : Wr (w9.setCell ⟨g, off + n * 3 + 2, none⟩ (.int .i64 ((c.parts : Int) + 1))) B p (.slice (some ⟨g, off, none⟩) (n + 1) cap) (M ++ [c.more]) false := by
      have h1 := HTOP.out _ kq2.2.2
      push_cast at h1
      exact ⟨kq2.1, kq2.2.1.far (p := ⟨g, off + n * 3 + 2, none⟩) (Ne.symm qne) _, h1⟩
    exact ⟨rfl, (kq5.done false).alloc _, (((Only.ofBelow HBW.out).setCell (by simp [slB]) _).setCell (by simp) (.bool false)).alloc _⟩
  | true =>
    rw [hpr] at ht
    have HPR := hide hpr
    have HT := hide ht
    clear hpr ht
    have hp20 : (c.parts : Int) ≤ 1000000 := by omega
    obtain ⟨n, hn⟩ : ∃ n, n = M.length := ⟨_, rfl⟩
    obtain ⟨g, off, cap, hv, hgl, d0, d1, d2, _, htop, hdrop⟩ := top_some h.2.2 n hn
    have hcap0 := h.2.2
    subst hv
    have hcap := hcap0.cap_le
    rw [List.length_append, List.length_singleton, ← hn] at hcap
    have hn20 : (n : Int) ≤ 1000000 := by omega
    have hn0 : decide ((n : Int) < 0) = false := by simp
    have HB := fun W r hr => hide (between_any c hp W r hr)
    have HF := fun W r hr => hide (full_any c hp W r hr)
    have HN := hide hn
    have HTOP := hide htop
    have HDROP := hide hdrop
    clear hn hML htop hdrop hcap0
    obtain ⟨k5, y5, m5, l5, c5, hev⟩ := ev_form pt
    have HPL := hide (plain_any pt w)
    rw [hev, hmay] at HPL
    unfold evV at HPL
    clear hev hmay
    go_enter Try.func12, Try.ntmps12
    go_wp2_with fail
    refine (unhide HPL).mono ?_
    rintro e w1 ⟨rfl, hb1⟩
    have kw := h.below hb1
    have kc0 := kw.2.1.cellv 0 _ rfl
    have kc1 := kw.2.1.cellv 1 _ rfl
    have kpl := kw.2.1.lt
    clear HPL
    have g0 := (hb1.cell (p := ⟨g, off + n * 3, none⟩) hgl).trans d0
    have g1 := (hb1.cell (p := ⟨g, off + n * 3 + 1, none⟩) hgl).trans d1
    have g2 := (hb1.cell (p := ⟨g, off + n * 3 + 2, none⟩) hgl).trans d2
    have hg1 : g < w1.heap.size := Nat.lt_of_lt_of_le hgl hb1.size
    clear d0 d1 d2
    have KW := hide kw
    clear kw
    have H := fun W => HF W false hf.symm
    have x0 := (Blk.new ((w1.alloc (.cells #[.int .i64 k5, .bool y5, .int .u64 m5, .string (S l5), .int .i64 c5] 34)).alloc (.cells #[] 67)) 72 #[.bool c.pairs, .int .i64 c.count, .int .i64 c.parts]).cellv 0 _ rfl
    have x1 := (Blk.new ((w1.alloc (.cells #[.int .i64 k5, .bool y5, .int .u64 m5, .string (S l5), .int .i64 c5] 34)).alloc (.cells #[] 67)) 72 #[.bool c.pairs, .int .i64 c.count, .int .i64 c.parts]).cellv 1 _ rfl
    have x2 := (Blk.new ((w1.alloc (.cells #[.int .i64 k5, .bool y5, .int .u64 m5, .string (S l5), .int .i64 c5] 34)).alloc (.cells #[] 67)) 72 #[.bool c.pairs, .int .i64 c.count, .int .i64 c.parts]).cellv 2 _ rfl
    have X := hide (And.intro x0 (And.intro x1 x2))
    clear HF hf x0 x1 x2
    go_wp2_with fail
    (with_reducible refine (unhide (H _)).mono ?_)
    rintro e w3 ⟨rfl, hb3⟩
    clear H
    have hb13 : Below w1.heap.size w1 w3 := (Below.more (Below.more (Below.more (Below.refl _ _) (Nat.le_refl _) _) (Nat.le_refl _) _) (Nat.le_refl _) _).trans (hb3.mono (by simp; omega))
    have x0 : w3.cell? ⟨w1.heap.size + 1 + 1, 0, none⟩ = some (.bool c.pairs) := (hb3.cell (p := ⟨w1.heap.size + 1 + 1, 0, none⟩) (by simp)).trans (by simpa using X.out.1)
    have x1 : w3.cell? ⟨w1.heap.size + 1 + 1, 1, none⟩ = some (.int .i64 c.count) := (hb3.cell (p := ⟨w1.heap.size + 1 + 1, 1, none⟩) (by simp)).trans (by simpa using X.out.2.1)
    have x2 : w3.cell? ⟨w1.heap.size + 1 + 1, 2, none⟩ = some (.int .i64 c.parts) := (hb3.cell (p := ⟨w1.heap.size + 1 + 1, 2, none⟩) (by simp)).trans (by simpa using X.out.2.2)
    clear X hb3
    rw [HPR.out] at x0
    cases hbt : c.between with
    | true =>
      have H2 := HB w3 true hbt.symm
      rw [HPR.out] at H2
      clear hbt
      go_wp2_with fail
      (with_reducible refine (unhide H2).mono ?_)
      rintro e w4 ⟨rfl, hb4⟩
      have hbW := hb13.trans (hb4.mono hb13.size)
      go_wp2_with fail
      (with_reducible refine (unhide (HCP _)).mono ?_)
      rintro e w9 ⟨rfl, hb9⟩
      have hbX := hbW.trans (hb9.mono hbW.size)
      have q0 := (hbX.cell (p := ⟨g, off + n * 3, none⟩) hg1).trans g0
      have q1 := (hbX.cell (p := ⟨g, off + n * 3 + 1, none⟩) hg1).trans g1
      have q2 := (hbX.cell (p := ⟨g, off + n * 3 + 2, none⟩) hg1).trans g2
      have kq := KW.out.below hbX
      have qc0 := kq.2.1.cellv 0 _ rfl
      have qc1 := kq.2.1.cellv 1 _ rfl
      have qpl := kq.2.1.lt
      have qfz := kq.2.2.fz (off + n * 3 + 2)
      have qf1 := kq.2.1.frozen 1
      have qgl := Nat.lt_of_lt_of_le hg1 hbX.size
      have qne : g ≠ p := fun e => kq.out (by rw [← e]; simp [slB])
      have KQ := hide kq
      have HBW := hide (hb1.trans (hbX.mono hb1.size))
      clear kq hbX hb9 hbW hb13 HB g0 g1 g2 kc0 kc1
      go_wp2_with fail
      go_ret2
      have kq2 := KQ.out
      have kq5 : Wr (w9.setCell ⟨g, off + n * 3 + 2, none⟩ (.int .i64 ((c.parts : Int) + 1))) B p (.slice (some ⟨g, off, none⟩) (n + 1) cap) (M ++ [c.more]) false := by
        have h1 := HTOP.out _ kq2.2.2
        push_cast at h1
        exact ⟨kq2.1, kq2.2.1.far (p := ⟨g, off + n * 3 + 2, none⟩) (Ne.symm qne) _, h1⟩
      exact ⟨rfl, (kq5.done false).alloc _, (((Only.ofBelow HBW.out).setCell (by simp [slB]) _).setCell (by simp) (.bool false)).alloc _⟩
    | false =>
      have H2 := HB w3 false hbt.symm
      rw [HPR.out] at H2
      have hwd : isw = true := by have := HT.out; rw [hbt] at this; simpa using this
      subst hwd
      clear hbt
      go_wp2_with fail
      (with_reducible refine (unhide H2).mono ?_)
      rintro e w4 ⟨rfl, hb4⟩
      have hbW := hb13.trans (hb4.mono hb13.size)
      go_wp2_with fail
      (with_reducible refine (unhide (HCP _)).mono ?_)
      rintro e w9 ⟨rfl, hb9⟩
      have hbX := hbW.trans (hb9.mono hbW.size)
      have q0 := (hbX.cell (p := ⟨g, off + n * 3, none⟩) hg1).trans g0
      have q1 := (hbX.cell (p := ⟨g, off + n * 3 + 1, none⟩) hg1).trans g1
      have q2 := (hbX.cell (p := ⟨g, off + n * 3 + 2, none⟩) hg1).trans g2
      have kq := KW.out.below hbX
      have qc0 := kq.2.1.cellv 0 _ rfl
      have qc1 := kq.2.1.cellv 1 _ rfl
      have qpl := kq.2.1.lt
      have qfz := kq.2.2.fz (off + n * 3 + 2)
      have qf1 := kq.2.1.frozen 1
      have qgl := Nat.lt_of_lt_of_le hg1 hbX.size
      have qne : g ≠ p := fun e => kq.out (by rw [← e]; simp [slB])
      have KQ := hide kq
      have HBW := hide (hb1.trans (hbX.mono hb1.size))
      clear kq hbX hb9 hbW hb13 HB g0 g1 g2 kc0 kc1
      go_wp2_with fail
      go_ret2
      have kq2 := KQ.out
      have kq5 : Wr (w9.setCell ⟨g, off + n * 3 + 2, none⟩ (.int .i64 ((c.parts : Int) + 1))) B p (.slice (some ⟨g, off, none⟩) (n + 1) cap) (M ++ [c.more]) false := by
        have h1 := HTOP.out _ kq2.2.2
        push_cast at h1
        exact ⟨kq2.1, kq2.2.1.far (p := ⟨g, off + n * 3 + 2, none⟩) (Ne.symm qne) _, h1⟩
      exact ⟨rfl, (kq5.done false).alloc _, (((Only.ofBelow HBW.out).setCell (by simp [slB]) _).setCell (by simp) (.bool false)).alloc _⟩
end Go.Proofs.Yteggfobeaolafaa
