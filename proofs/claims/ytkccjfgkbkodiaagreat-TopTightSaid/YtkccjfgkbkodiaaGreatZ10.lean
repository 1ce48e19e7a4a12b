/-
  PkD · PkE · PkF: parts of the walk of TopTight, under no condition.
-/
import Derived.Test.YtkccjfgkbkodiaaGreatZ09
namespace Go.Proofs.YtkccjfgkbkodiaaGreat
open Go.RowKit
theorem ev_form (pt : Part) : ∃ k y m l c, pt.ev = evV k y m l c := by
  cases pt <;> try exact ⟨_, _, _, _, _, rfl⟩
  rename_i m n
  by_cases hn : n < -1
  · exact ⟨0, false, 0, [], 0, by simp [Part.ev, hn]⟩
  · exact ⟨_, _, _, _, _, by simp only [Part.ev]; rw [if_neg hn]⟩
set_option maxRecDepth 100000 in
theorem step_bad {w : World} {B p : Nat} {v : Value} {L : List Cont} {d : Bool} (h : Wr w B p v L d) (pt : Part) (hbad : pt.may = false ∨ d = true) :
    Calls Tryz.prog 283 #[.pointer (some ⟨p, 0, none⟩), pt.val] w fun e w' => e = .returned (.tuple #[.string (S []), .int .i64 14]) ∧ Below w.heap.size w w' := by
  by_cases hm : pt.may = true
  · have hd : d = true := by
      rcases hbad with h1 | h1
      · rw [hm] at h1; cases h1
      · exact h1
    have hmay := hm
    subst hd
    clear hm hbad
    obtain ⟨k5, y5, m5, l5, c5, hev⟩ := ev_form pt
    have HPL := hide (plain_any pt w)
    rw [hev, hmay] at HPL
    unfold evV at HPL
    clear hev hmay
    go_enter Tryz.func283, Tryz.ntmps283
    go_wp2_with fail
    refine (unhide HPL).mono ?_
    rintro e w1 ⟨rfl, hb1⟩
    have kw := h.below hb1
    have kc0 := kw.2.1.cellv 0 _ rfl
    have kc1 := kw.2.1.cellv 1 _ rfl
    have kpl := kw.2.1.lt
    clear HPL
    clear kw
    go_wp2_with fail
    go_ret2
    exact ⟨rfl, Below.more hb1 (Nat.le_refl _) _⟩
  · have hmay : pt.may = false := by simpa using hm
    clear hm hbad
    obtain ⟨k5, y5, m5, l5, c5, hev⟩ := ev_form pt
    have HPL := hide (plain_any pt w)
    rw [hev, hmay] at HPL
    unfold evV at HPL
    clear hev hmay
    go_enter Tryz.func283, Tryz.ntmps283
    go_wp2_with fail
    refine (unhide HPL).mono ?_
    rintro e w1 ⟨rfl, hb1⟩
    have kw := h.below hb1
    have kc0 := kw.2.1.cellv 0 _ rfl
    have kc1 := kw.2.1.cellv 1 _ rfl
    have kpl := kw.2.1.lt
    clear HPL
    clear kw
    go_wp2_with fail
    go_ret2
    exact ⟨rfl, Below.more hb1 (Nat.le_refl _) _⟩
section
variable {w : World} {B p : Nat} {v : Value} {L : List Cont} {d : Bool}
theorem Wr.done (h : Wr w B p v L d) (d' : Bool) : Wr (w.setCell ⟨p, 1, none⟩ (.bool d')) B p v L d' := ⟨h.1, h.2.1.set_ 1 _, h.2.2.far (p := ⟨p, 1, none⟩) h.out _⟩
theorem Wr.alloc (h : Wr w B p v L d) (o : Obj) : Wr (w.alloc o) B p v L d := h.below ((Below.refl _ _).alloc (Nat.le_refl _) o)
end
theorem Only.thenBelow {S : List Nat} {a w w' : World} {B' : Nat} (h : Only S a w) (k : Below B' w w') (hB : a.heap.size ≤ B') : Only S a w' :=
  ⟨k.os.trans h.os, k.tape.trans h.tape, k.output.trans h.output, Nat.le_trans h.size k.size, fun i hi hn => (k.block i (by omega)).trans (h.block i hi hn)⟩
theorem Only.ofBelow {S : List Nat} {w w' : World} (h : Below w.heap.size w w') : Only S w w' := (Only.of_below h []).mono (fun _ h => by cases h)
theorem asBegin_no {pt : Part} (h : pt.isBegin = false) : pt.asBegin = .agg #[.bool false, .int .i64 0] := by
  cases pt <;> first | rfl | simp [Part.isBegin] at h
theorem asWord_form (pt : Part) : ∃ l, pt.asWord = .string (S l) := by
  cases pt <;> exact ⟨_, rfl⟩
set_option maxRecDepth 100000 in
theorem step_close_empty {w : World} {B p : Nat} {v : Value} (h : Wr w B p v [] false) :
    Calls Tryz.prog 283 #[.pointer (some ⟨p, 0, none⟩), Part.close.val] w fun e w' => e = .returned (.tuple #[.string (S []), .int .i64 14]) ∧ Below w.heap.size w w' := by
  obtain ⟨a9, c9, rfl⟩ := h.2.2.form
  have hmay : Part.close.may = true := rfl
  have t5 := fun W => ta_close Part.close W
  simp only [Part.isClose] at t5
  obtain ⟨pt, hpt⟩ : ∃ pt, pt = Part.close := ⟨_, rfl⟩
  rw [← hpt] at hmay t5 ⊢
  clear hpt
  obtain ⟨k5, y5, m5, l5, c5, hev⟩ := ev_form pt
  have HPL := hide (plain_any pt w)
  rw [hev, hmay] at HPL
  unfold evV at HPL
  clear hev hmay
  go_enter Tryz.func283, Tryz.ntmps283
  go_wp2_with fail
  refine (unhide HPL).mono ?_
  rintro e w1 ⟨rfl, hb1⟩
  have kw := h.below hb1
  have kc0 := kw.2.1.cellv 0 _ rfl
  have kc1 := kw.2.1.cellv 1 _ rfl
  have kpl := kw.2.1.lt
  clear HPL
  clear kw
  go_wp2_with fail
  go_ret2
  exact ⟨rfl, Below.more (Below.more hb1 (Nat.le_refl _) _) (Nat.le_refl _) _⟩
set_option maxRecDepth 100000 in
theorem step_close_no {w : World} {B p : Nat} {v : Value} {M : List Cont} {c : Cont} (h : Wr w B p v (M ++ [c]) false) (hp : c.parts ≤ 1000000) (hML : M.length ≤ 1000000) (he : c.full = false) :
    Calls Tryz.prog 283 #[.pointer (some ⟨p, 0, none⟩), Part.close.val] w fun e w' => e = .returned (.tuple #[.string (S []), .int .i64 14]) ∧ Below w.heap.size w w' := by
  have hp20 : (c.parts : Int) ≤ 1000000 := by omega
  obtain ⟨n, hn⟩ : ∃ n, n = M.length := ⟨_, rfl⟩
  obtain ⟨g, off, cap, hv, hgl, d0, d1, d2, _, htop, hdrop⟩ := top_some h.2.2 n hn
  have hcap0 := h.2.2
  subst hv
  have hcap := hcap0.cap_le
  rw [List.length_append, List.length_singleton, ← hn] at hcap
  have hn20 : (n : Int) ≤ 1000000 := by omega
  have hn0 : decide ((n : Int) < 0) = false := by simp
  have HB := fun W r hr => hide (between_any c hp W r hr)
  have HF := fun W r hr => hide (full_any c hp W r hr)
  have HN := hide hn
  have HTOP := hide htop
  have HDROP := hide hdrop
  clear hn hML htop hdrop hcap0
  have H := fun W => HF W false he.symm
  clear HF he
  have hmay : Part.close.may = true := rfl
  have t5 := fun W => ta_close Part.close W
  simp only [Part.isClose] at t5
  obtain ⟨pt, hpt⟩ : ∃ pt, pt = Part.close := ⟨_, rfl⟩
  rw [← hpt] at hmay t5 ⊢
  clear hpt
  obtain ⟨k5, y5, m5, l5, c5, hev⟩ := ev_form pt
  have HPL := hide (plain_any pt w)
  rw [hev, hmay] at HPL
  unfold evV at HPL
  clear hev hmay
  go_enter Tryz.func283, Tryz.ntmps283
  go_wp2_with fail
  refine (unhide HPL).mono ?_
  rintro e w1 ⟨rfl, hb1⟩
  have kw := h.below hb1
  have kc0 := kw.2.1.cellv 0 _ rfl
  have kc1 := kw.2.1.cellv 1 _ rfl
  have kpl := kw.2.1.lt
  clear HPL
  have g0 := (hb1.cell (p := ⟨g, off + n * 3, none⟩) hgl).trans d0
  have g1 := (hb1.cell (p := ⟨g, off + n * 3 + 1, none⟩) hgl).trans d1
  have g2 := (hb1.cell (p := ⟨g, off + n * 3 + 2, none⟩) hgl).trans d2
  have hg1 : g < w1.heap.size := Nat.lt_of_lt_of_le hgl hb1.size
  clear d0 d1 d2
  have KW := hide kw
  clear kw
  go_wp2_with fail
  (with_reducible refine (unhide (H _)).mono ?_)
  rintro e w3 ⟨rfl, hb3⟩
  go_wp2_with fail
  go_ret2
  exact ⟨rfl, (Below.more (Below.more hb1 (Nat.le_refl _) _) (Nat.le_refl _) _).trans (hb3.mono (by have := hb1.size; simp; omega))⟩
set_option maxRecDepth 100000 in
theorem step_close_yes {w : World} {B p : Nat} {v : Value} {M : List Cont} {c : Cont} (h : Wr w B p v (M ++ [c]) false) (hp : c.parts ≤ 1000000) (hML : M.length ≤ 1000000) (he : c.full = true) (d' : Bool) (hd' : d' = decide (M = [])) :
    Calls Tryz.prog 283 #[.pointer (some ⟨p, 0, none⟩), Part.close.val] w fun e w' => e = .returned (.tuple #[.string (S []), .int .i64 0]) ∧ ∃ v', Wr w' B p v' M d' ∧ Only (p :: slB v) w w' ∧ ∀ k ∈ slB v', k ∈ slB v := by
  have hp20 : (c.parts : Int) ≤ 1000000 := by omega
  obtain ⟨n, hn⟩ : ∃ n, n = M.length := ⟨_, rfl⟩
  obtain ⟨g, off, cap, hv, hgl, d0, d1, d2, _, htop, hdrop⟩ := top_some h.2.2 n hn
  have hcap0 := h.2.2
  subst hv
  have hcap := hcap0.cap_le
  rw [List.length_append, List.length_singleton, ← hn] at hcap
  have hn20 : (n : Int) ≤ 1000000 := by omega
  have hn0 : decide ((n : Int) < 0) = false := by simp
  have HB := fun W r hr => hide (between_any c hp W r hr)
  have HF := fun W r hr => hide (full_any c hp W r hr)
  have HN := hide hn
  have HTOP := hide htop
  have HDROP := hide hdrop
  clear hn hML htop hdrop hcap0
  have hsl := slice_top (P := Tryz.prog) (t := 174) (z := 3) Tryz.underlying174 (by intro w; kernel_rfl) g off (n + 1) n cap (by omega) n rfl
  have hnd : ((n : Int) == 0) = d' := by rw [hd', Bool.eq_iff_iff]; simp; rw [HN.out]; exact List.length_eq_zero_iff
  have H := fun W => HF W true he.symm
  clear HF he hd' hcap
  have hmay : Part.close.may = true := rfl
  have t5 := fun W => ta_close Part.close W
  simp only [Part.isClose] at t5
  obtain ⟨pt, hpt⟩ : ∃ pt, pt = Part.close := ⟨_, rfl⟩
  rw [← hpt] at hmay t5 ⊢
  clear hpt
  obtain ⟨k5, y5, m5, l5, c5, hev⟩ := ev_form pt
  have HPL := hide (plain_any pt w)
  rw [hev, hmay] at HPL
  unfold evV at HPL
  clear hev hmay
  go_enter Tryz.func283, Tryz.ntmps283
  go_wp2_with fail
  refine (unhide HPL).mono ?_
  rintro e w1 ⟨rfl, hb1⟩
  have kw := h.below hb1
  have kc0 := kw.2.1.cellv 0 _ rfl
  have kc1 := kw.2.1.cellv 1 _ rfl
  have kpl := kw.2.1.lt
  clear HPL
  have g0 := (hb1.cell (p := ⟨g, off + n * 3, none⟩) hgl).trans d0
  have g1 := (hb1.cell (p := ⟨g, off + n * 3 + 1, none⟩) hgl).trans d1
  have g2 := (hb1.cell (p := ⟨g, off + n * 3 + 2, none⟩) hgl).trans d2
  have hg1 : g < w1.heap.size := Nat.lt_of_lt_of_le hgl hb1.size
  clear d0 d1 d2
  have KW := hide kw
  clear kw
  go_wp2_with fail
  (with_reducible refine (unhide (H _)).mono ?_)
  rintro e w3 ⟨rfl, hb3⟩
  have hbx : Below w1.heap.size w1 w3 := (Below.more (Below.more (Below.refl _ _) (Nat.le_refl _) _) (Nat.le_refl _) _).trans (hb3.mono (by simp; omega))
  have kq := KW.out.below hbx
  have qc0 := kq.2.1.cellv 0 _ rfl
  have qc1 := kq.2.1.cellv 1 _ rfl
  have qf0 := kq.2.1.frozen 0
  have qf1 := kq.2.1.frozen 1
  have qpl := kq.2.1.lt
  have hwn : Wr ((w3.setCell ⟨p, 0, none⟩ (.slice (some ⟨g, off, none⟩) n cap)).setCell ⟨p, 1, none⟩ (.bool d')) B p (.slice (some ⟨g, off, none⟩) n cap) M d' := by
    have h1 := HDROP.out _ ((kq.2.2.far (p := ⟨p, 0, none⟩) kq.out (.slice (some ⟨g, off, none⟩) n cap)).far (p := ⟨p, 1, none⟩) kq.out (.bool d'))
    refine ⟨kq.1, (kq.2.1.set_ 0 _).set_ 1 _, ?_⟩
    rw [← HN.out]
    exact h1
  have HWN := hide hwn
  have HBX := hide (hb1.trans (hbx.mono hb1.size))
  clear hwn hbx hb3 H kq g0 g1 g2 kc0 kc1
  go_wp2_with fail
  go_ret2
  exact ⟨rfl, _, HWN.out, ((Only.ofBelow HBX.out).setCell (by simp) _).setCell (by simp) _, fun k hk => by simpa [slB] using hk⟩
end Go.Proofs.YtkccjfgkbkodiaaGreat
namespace Go.Proofs.YtkccjfgkbkodiaaGreat
open Go.RowKit
/-- May the part come next? -/
def Cont.takes (c : Cont) (pt : Part) : Bool := !c.pairs || c.between || pt.isWord
theorem SlN.fz {w : World} {base : Nat} {t : TypeId} {s : Nat} {g off n cap n' : Nat} {xs : List Value} (h : SlN w base t s (.slice (some ⟨g, off, none⟩) n cap) n' xs) (i : Nat) : w.frozen? ⟨g, i, none⟩ = false := by
  rcases h with ⟨hv, _⟩ | ⟨g', off', cap', cs, hv, hb, hg, _⟩
  · cases hv
  · injection hv with e1
    injection e1 with e1
    injection e1 with e4
    subst e4
    exact hg.frozen _
set_option maxRecDepth 100000 in
theorem step_full {w : World} {B p : Nat} {v : Value} {M : List Cont} {c : Cont} (h : Wr w B p v (M ++ [c]) false) (hp : c.parts ≤ 1000000) (hML : M.length ≤ 1000000) (pt : Part) (hmay : pt.may = true) (hcl : pt.isClose = false) (hf : c.full = true) :
    Calls Tryz.prog 283 #[.pointer (some ⟨p, 0, none⟩), pt.val] w fun e w' => e = .returned (.tuple #[.string (S []), .int .i64 14]) ∧ Below w.heap.size w w' := by
  have t5 := fun W => ta_close pt W
  rw [hcl] at t5
  clear hcl
  have hp20 : (c.parts : Int) ≤ 1000000 := by omega
  obtain ⟨n, hn⟩ : ∃ n, n = M.length := ⟨_, rfl⟩
  obtain ⟨g, off, cap, hv, hgl, d0, d1, d2, _, htop, hdrop⟩ := top_some h.2.2 n hn
  have hcap0 := h.2.2
  subst hv
  have hcap := hcap0.cap_le
  rw [List.length_append, List.length_singleton, ← hn] at hcap
  have hn20 : (n : Int) ≤ 1000000 := by omega
  have hn0 : decide ((n : Int) < 0) = false := by simp
  have HB := fun W r hr => hide (between_any c hp W r hr)
  have HF := fun W r hr => hide (full_any c hp W r hr)
  have HN := hide hn
  have HTOP := hide htop
  have HDROP := hide hdrop
  clear hn hML htop hdrop hcap0
  obtain ⟨k5, y5, m5, l5, c5, hev⟩ := ev_form pt
  have HPL := hide (plain_any pt w)
  rw [hev, hmay] at HPL
  unfold evV at HPL
  clear hev hmay
  go_enter Tryz.func283, Tryz.ntmps283
  go_wp2_with fail
  refine (unhide HPL).mono ?_
  rintro e w1 ⟨rfl, hb1⟩
  have kw := h.below hb1
  have kc0 := kw.2.1.cellv 0 _ rfl
  have kc1 := kw.2.1.cellv 1 _ rfl
  have kpl := kw.2.1.lt
  clear HPL
  have g0 := (hb1.cell (p := ⟨g, off + n * 3, none⟩) hgl).trans d0
  have g1 := (hb1.cell (p := ⟨g, off + n * 3 + 1, none⟩) hgl).trans d1
  have g2 := (hb1.cell (p := ⟨g, off + n * 3 + 2, none⟩) hgl).trans d2
  have hg1 : g < w1.heap.size := Nat.lt_of_lt_of_le hgl hb1.size
  clear d0 d1 d2
  have KW := hide kw
  clear kw
  have H := fun W => HF W true hf.symm
  clear HF HB hf
  go_wp2_with fail
  refine (unhide (H _)).mono ?_
  rintro e w3 ⟨rfl, hb3⟩
  go_wp2_with fail
  go_ret2
  exact ⟨rfl, (Below.more (Below.more (Below.more hb1 (Nat.le_refl _) _) (Nat.le_refl _) _) (Nat.le_refl _) _).trans (hb3.mono (by have := hb1.size; simp; omega))⟩
set_option maxRecDepth 100000 in
set_option maxHeartbeats 1000000 in
theorem step_kind {w : World} {B p : Nat} {v : Value} {M : List Cont} {c : Cont} (h : Wr w B p v (M ++ [c]) false) (hp : c.parts ≤ 1000000) (hML : M.length ≤ 1000000) (pt : Part) (hmay : pt.may = true) (hcl : pt.isClose = false) (hf : c.full = false) (ht : c.takes pt = false) :
    Calls Tryz.prog 283 #[.pointer (some ⟨p, 0, none⟩), pt.val] w fun e w' => e = .returned (.tuple #[.string (S []), .int .i64 8]) ∧ Below w.heap.size w w' := by
  have t5 := fun W => ta_close pt W
  rw [hcl] at t5
  have t3 := fun W => ta_word pt W
  obtain ⟨lw, hlw⟩ := asWord_form pt
  rw [hlw] at t3
  clear hlw
  unfold Cont.takes at ht
  simp only [Bool.or_eq_false_iff, Bool.not_eq_false'] at ht
  obtain ⟨⟨hpr, hbt⟩, hwd⟩ := ht
  rw [hwd] at t3
  have HPR := hide hpr
  have HBT := hide hbt
  clear hwd hcl hpr hbt
  have hp20 : (c.parts : Int) ≤ 1000000 := by omega
  obtain ⟨n, hn⟩ : ∃ n, n = M.length := ⟨_, rfl⟩
  obtain ⟨g, off, cap, hv, hgl, d0, d1, d2, _, htop, hdrop⟩ := top_some h.2.2 n hn
  have hcap0 := h.2.2
  subst hv
  have hcap := hcap0.cap_le
  rw [List.length_append, List.length_singleton, ← hn] at hcap
  have hn20 : (n : Int) ≤ 1000000 := by omega
  have hn0 : decide ((n : Int) < 0) = false := by simp
  have HB := fun W r hr => hide (between_any c hp W r hr)
  have HF := fun W r hr => hide (full_any c hp W r hr)
  have HN := hide hn
  have HTOP := hide htop
  have HDROP := hide hdrop
  clear hn hML htop hdrop hcap0
  obtain ⟨k5, y5, m5, l5, c5, hev⟩ := ev_form pt
  have HPL := hide (plain_any pt w)
  rw [hev, hmay] at HPL
  unfold evV at HPL
  clear hev hmay
  go_enter Tryz.func283, Tryz.ntmps283
  go_wp2_with fail
  refine (unhide HPL).mono ?_
  rintro e w1 ⟨rfl, hb1⟩
  have kw := h.below hb1
  have kc0 := kw.2.1.cellv 0 _ rfl
  have kc1 := kw.2.1.cellv 1 _ rfl
  have kpl := kw.2.1.lt
  clear HPL
  have g0 := (hb1.cell (p := ⟨g, off + n * 3, none⟩) hgl).trans d0
  have g1 := (hb1.cell (p := ⟨g, off + n * 3 + 1, none⟩) hgl).trans d1
  have g2 := (hb1.cell (p := ⟨g, off + n * 3 + 2, none⟩) hgl).trans d2
  have hg1 : g < w1.heap.size := Nat.lt_of_lt_of_le hgl hb1.size
  clear d0 d1 d2
  have KW := hide kw
  clear kw
  have H := fun W => HF W false hf.symm
  have x0 := (Blk.new ((w1.alloc (.cells #[.int .i64 k5, .bool y5, .int .u64 m5, .string (S l5), .int .i64 c5] 139)).alloc (.cells #[] 246)) 351 #[.bool c.pairs, .int .i64 c.count, .int .i64 c.parts]).cellv 0 _ rfl
  have x1 := (Blk.new ((w1.alloc (.cells #[.int .i64 k5, .bool y5, .int .u64 m5, .string (S l5), .int .i64 c5] 139)).alloc (.cells #[] 246)) 351 #[.bool c.pairs, .int .i64 c.count, .int .i64 c.parts]).cellv 1 _ rfl
  have x2 := (Blk.new ((w1.alloc (.cells #[.int .i64 k5, .bool y5, .int .u64 m5, .string (S l5), .int .i64 c5] 139)).alloc (.cells #[] 246)) 351 #[.bool c.pairs, .int .i64 c.count, .int .i64 c.parts]).cellv 2 _ rfl
  have X := hide (And.intro x0 (And.intro x1 x2))
  clear HF hf x0 x1 x2
  go_wp2_with fail
  (with_reducible refine (unhide (H _)).mono ?_)
  rintro e w3 ⟨rfl, hb3⟩
  clear H
  have hb13 : Below w1.heap.size w1 w3 := (Below.more (Below.more (Below.more (Below.refl _ _) (Nat.le_refl _) _) (Nat.le_refl _) _) (Nat.le_refl _) _).trans (hb3.mono (by simp; omega))
  have x0 : w3.cell? ⟨w1.heap.size + 1 + 1, 0, none⟩ = some (.bool c.pairs) := (hb3.cell (p := ⟨w1.heap.size + 1 + 1, 0, none⟩) (by simp)).trans (by simpa using X.out.1)
  have x1 : w3.cell? ⟨w1.heap.size + 1 + 1, 1, none⟩ = some (.int .i64 c.count) := (hb3.cell (p := ⟨w1.heap.size + 1 + 1, 1, none⟩) (by simp)).trans (by simpa using X.out.2.1)
  have x2 : w3.cell? ⟨w1.heap.size + 1 + 1, 2, none⟩ = some (.int .i64 c.parts) := (hb3.cell (p := ⟨w1.heap.size + 1 + 1, 2, none⟩) (by simp)).trans (by simpa using X.out.2.2)
  clear X hb3
  have H2 := HB w3 false HBT.out.symm
  rw [HPR.out] at x0 H2
  clear HB
  go_wp2_with fail
  (with_reducible refine (unhide H2).mono ?_)
  rintro e w4 ⟨rfl, hb4⟩
  go_wp2_with fail
  go_ret2
  exact ⟨rfl, (hb1.trans (hb13.mono hb1.size)).trans (hb4.mono (Nat.le_trans hb1.size hb13.size))⟩
set_option maxRecDepth 100000 in
theorem step_perr_nil {w : World} {B p : Nat} {v : Value} (h : Wr w B p v [] false) (pt : Part) (hmay : pt.may = true) (hcl : pt.isClose = false) (hbg : pt.isBegin = false)
    (hplain : ∀ W, Calls Tryz.prog 286 #[pt.val] W fun e w' => e = .returned (.tuple #[.string (S []), .int .i64 7]) ∧ Below W.heap.size W w') :
    Calls Tryz.prog 283 #[.pointer (some ⟨p, 0, none⟩), pt.val] w fun e w' => e = .returned (.tuple #[.string (S []), .int .i64 7]) ∧ Below w.heap.size w w' := by
  have t5 := fun W => ta_close pt W
  rw [hcl] at t5
  have t3 := fun W => ta_word pt W
  obtain ⟨lw, hlw⟩ := asWord_form pt
  rw [hlw] at t3
  obtain ⟨isw, hisw⟩ : ∃ isw, isw = pt.isWord := ⟨_, rfl⟩
  rw [← hisw] at t3
  have t6 := fun W => ta_begin pt W
  rw [hbg, asBegin_no hbg] at t6
  have HCP := fun W => hide (hplain W)
  obtain ⟨a9, c9, rfl⟩ := h.2.2.form
  clear hplain hlw hisw hcl hbg
  obtain ⟨k5, y5, m5, l5, c5, hev⟩ := ev_form pt
  have HPL := hide (plain_any pt w)
  rw [hev, hmay] at HPL
  unfold evV at HPL
  clear hev hmay
  go_enter Tryz.func283, Tryz.ntmps283
  go_wp2_with fail
  refine (unhide HPL).mono ?_
  rintro e w1 ⟨rfl, hb1⟩
  have kw := h.below hb1
  have kc0 := kw.2.1.cellv 0 _ rfl
  have kc1 := kw.2.1.cellv 1 _ rfl
  have kpl := kw.2.1.lt
  clear HPL
  have KW := hide kw
  clear kw
  go_wp2_with fail
  (with_reducible refine (unhide (HCP _)).mono ?_)
  rintro e w3 ⟨rfl, hb3⟩
  have hbx : Below w1.heap.size w1 w3 := (Below.more (Below.more (Below.refl _ _) (Nat.le_refl _) _) (Nat.le_refl _) _).trans (hb3.mono (by simp; omega))
  go_wp2_with fail
  go_ret2
  exact ⟨rfl, Below.more (hb1.trans (hbx.mono hb1.size)) (Nat.le_refl _) _⟩
set_option maxRecDepth 100000 in
theorem step_plain_nil {w : World} {B p : Nat} {v : Value} (h : Wr w B p v [] false) (pt : Part) (hmay : pt.may = true) (hcl : pt.isClose = false) (hbg : pt.isBegin = false) (r : List UInt8)
    (hplain : ∀ W, Calls Tryz.prog 286 #[pt.val] W fun e w' => e = .returned (.tuple #[.string (S r), .int .i64 0]) ∧ Below W.heap.size W w') :
    Calls Tryz.prog 283 #[.pointer (some ⟨p, 0, none⟩), pt.val] w fun e w' => e = .returned (.tuple #[.string (S r), .int .i64 0]) ∧ Wr w' B p v [] true ∧ Only (p :: slB v) w w' := by
  have t5 := fun W => ta_close pt W
  rw [hcl] at t5
  have t3 := fun W => ta_word pt W
  obtain ⟨lw, hlw⟩ := asWord_form pt
  rw [hlw] at t3
  obtain ⟨isw, hisw⟩ : ∃ isw, isw = pt.isWord := ⟨_, rfl⟩
  rw [← hisw] at t3
  have t6 := fun W => ta_begin pt W
  rw [hbg, asBegin_no hbg] at t6
  have HCP := fun W => hide (hplain W)
  obtain ⟨a9, c9, rfl⟩ := h.2.2.form
  clear hplain hlw hisw hcl hbg
  obtain ⟨k5, y5, m5, l5, c5, hev⟩ := ev_form pt
  have HPL := hide (plain_any pt w)
  rw [hev, hmay] at HPL
  unfold evV at HPL
  clear hev hmay
  go_enter Tryz.func283, Tryz.ntmps283
  go_wp2_with fail
  refine (unhide HPL).mono ?_
  rintro e w1 ⟨rfl, hb1⟩
  have kw := h.below hb1
  have kc0 := kw.2.1.cellv 0 _ rfl
  have kc1 := kw.2.1.cellv 1 _ rfl
  have kpl := kw.2.1.lt
  clear HPL
  have KW := hide kw
  clear kw
  go_wp2_with fail
  (with_reducible refine (unhide (HCP _)).mono ?_)
  rintro e w3 ⟨rfl, hb3⟩
  have hbx : Below w1.heap.size w1 w3 := (Below.more (Below.more (Below.refl _ _) (Nat.le_refl _) _) (Nat.le_refl _) _).trans (hb3.mono (by simp; omega))
  have kx := (KW.out.below hbx).alloc (.cells #[.bool false, .int .i64 0] 243)
  have kf := kx.2.1.frozen 1
  have kd := kx.2.1.cellv 1 _ rfl
  have hpl3 : p < w3.heap.size := (KW.out.below hbx).2.1.lt
  have KX := hide (KW.out.below hbx)
  clear kx
  go_wp2_with fail
  go_ret2
  exact ⟨rfl, (KX.out.done true).alloc _, ((Only.ofBelow (hb1.trans (hbx.mono hb1.size))).setCell (by simp) _).alloc _⟩
set_option maxRecDepth 100000 in
theorem step_berr_nil {w : World} {B p : Nat} {v : Value} (h : Wr w B p v [] false) (m : Bool) (n' : Int) (hn1 : -1 ≤ n')
    (hplain : ∀ W, Calls Tryz.prog 286 #[(Part.begin_ m n').val] W fun e w' => e = .returned (.tuple #[.string (S [0xc0]), .int .i64 0]) ∧ Below W.heap.size W w')
    (hbegin : ∀ W, Calls Tryz.prog 287 #[.agg #[.bool m, .int .i64 n']] W fun e w' => e = .returned (.tuple #[.string (S []), .int .i64 7]) ∧ Below W.heap.size W w') :
    Calls Tryz.prog 283 #[.pointer (some ⟨p, 0, none⟩), (Part.begin_ m n').val] w fun e w' => e = .returned (.tuple #[.string (S []), .int .i64 7]) ∧ Below w.heap.size w w' := by
  have t5 := fun W => ta_close (Part.begin_ m n') W
  have t3 := fun W => ta_word (Part.begin_ m n') W
  have t6 := fun W => ta_begin (Part.begin_ m n') W
  simp only [Part.isClose, Part.asWord, Part.isWord, Part.asBegin, Part.isBegin] at t5 t3 t6
  have hmay : (Part.begin_ m n').may = true := by simp only [Part.may]; exact decide_eq_true hn1
  have HCP := fun W => hide (hplain W)
  have HBG := fun W => hide (hbegin W)
  clear hplain hbegin
  obtain ⟨pt, hpt⟩ : ∃ pt, pt = Part.begin_ m n' := ⟨_, rfl⟩
  rw [← hpt] at hmay t5 t3 t6 HCP ⊢
  clear hpt
  obtain ⟨a9, c9, rfl⟩ := h.2.2.form
  obtain ⟨k5, y5, m5, l5, c5, hev⟩ := ev_form pt
  have HPL := hide (plain_any pt w)
  rw [hev, hmay] at HPL
  unfold evV at HPL
  clear hev hmay
  go_enter Tryz.func283, Tryz.ntmps283
  go_wp2_with fail
  refine (unhide HPL).mono ?_
  rintro e w1 ⟨rfl, hb1⟩
  have kw := h.below hb1
  have kc0 := kw.2.1.cellv 0 _ rfl
  have kc1 := kw.2.1.cellv 1 _ rfl
  have kpl := kw.2.1.lt
  clear HPL
  have KW := hide kw
  clear kw
  go_wp2_with fail
  (with_reducible refine (unhide (HCP _)).mono ?_)
  rintro e w3 ⟨rfl, hb3⟩
  have hbx : Below w1.heap.size w1 w3 := (Below.more (Below.more (Below.refl _ _) (Nat.le_refl _) _) (Nat.le_refl _) _).trans (hb3.mono (by simp; omega))
  go_wp2_with fail
  (with_reducible refine (unhide (HBG _)).mono ?_)
  rintro e w4 ⟨rfl, hb4⟩
  have hby : Below w1.heap.size w1 w4 := (Below.more hbx (Nat.le_refl _) _).trans (hb4.mono (by have := hbx.size; simp; omega))
  go_wp2_with fail
  go_ret2
  exact ⟨rfl, hb1.trans (hby.mono hb1.size)⟩
end Go.Proofs.YtkccjfgkbkodiaaGreat
namespace Go.Proofs.YtkccjfgkbkodiaaGreat
open Go.RowKit
section
variable {w : World} {B p : Nat} {v : Value} {M : List Cont} {c : Cont}
end
set_option maxRecDepth 100000 in
set_option maxHeartbeats 2000000 in
theorem step_plain_top {w : World} {B p : Nat} {v : Value} {M : List Cont} {c : Cont} (h : Wr w B p v (M ++ [c]) false) (hp : c.parts ≤ 1000000) (hML : M.length ≤ 1000000) (pt : Part) (hmay : pt.may = true) (hcl : pt.isClose = false) (hbg : pt.isBegin = false) (hf : c.full = false) (ht : c.takes pt = true) (r : List UInt8)
    (hplain : ∀ W, Calls Tryz.prog 286 #[pt.val] W fun e w' => e = .returned (.tuple #[.string (S r), .int .i64 0]) ∧ Below W.heap.size W w') :
    Calls Tryz.prog 283 #[.pointer (some ⟨p, 0, none⟩), pt.val] w fun e w' => e = .returned (.tuple #[.string (S r), .int .i64 0]) ∧ Wr w' B p v (M ++ [c.more]) false ∧ Only (p :: slB v) w w' := by
  have t5 := fun W => ta_close pt W
  rw [hcl] at t5
  have t3 := fun W => ta_word pt W
  obtain ⟨lw, hlw⟩ := asWord_form pt
  rw [hlw] at t3
  obtain ⟨isw, hisw⟩ : ∃ isw, isw = pt.isWord := ⟨_, rfl⟩
  rw [← hisw] at t3
  have t6 := fun W => ta_begin pt W
  rw [hbg, asBegin_no hbg] at t6
  have HCP := fun W => hide (hplain W)
  unfold Cont.takes at ht
  rw [← hisw] at ht
  clear hplain hcl hbg hisw hlw
  cases hpr : c.pairs with
  | false =>
    have HPR := hide hpr
    clear hpr ht
    have hp20 : (c.parts : Int) ≤ 1000000 := by omega
    obtain ⟨n, hn⟩ : ∃ n, n = M.length := ⟨_, rfl⟩
    obtain ⟨g, off, cap, hv, hgl, d0, d1, d2, _, htop, hdrop⟩ := top_some h.2.2 n hn
    have hcap0 := h.2.2
    subst hv
    have hcap := hcap0.cap_le
    rw [List.length_append, List.length_singleton, ← hn] at hcap
    have hn20 : (n : Int) ≤ 1000000 := by omega
    have hn0 : decide ((n : Int) < 0) = false := by simp
    have HB := fun W r hr => hide (between_any c hp W r hr)
    have HF := fun W r hr => hide (full_any c hp W r hr)
    have HN := hide hn
    have HTOP := hide htop
    have HDROP := hide hdrop
    clear hn hML htop hdrop hcap0
    obtain ⟨k5, y5, m5, l5, c5, hev⟩ := ev_form pt
    have HPL := hide (plain_any pt w)
    rw [hev, hmay] at HPL
    unfold evV at HPL
    clear hev hmay
    go_enter Tryz.func283, Tryz.ntmps283
    go_wp2_with fail
    refine (unhide HPL).mono ?_
    rintro e w1 ⟨rfl, hb1⟩
    have kw := h.below hb1
    have kc0 := kw.2.1.cellv 0 _ rfl
    have kc1 := kw.2.1.cellv 1 _ rfl
    have kpl := kw.2.1.lt
    clear HPL
    have g0 := (hb1.cell (p := ⟨g, off + n * 3, none⟩) hgl).trans d0
    have g1 := (hb1.cell (p := ⟨g, off + n * 3 + 1, none⟩) hgl).trans d1
    have g2 := (hb1.cell (p := ⟨g, off + n * 3 + 2, none⟩) hgl).trans d2
    have hg1 : g < w1.heap.size := Nat.lt_of_lt_of_le hgl hb1.size
    clear d0 d1 d2
    have KW := hide kw
    clear kw
    have H := fun W => HF W false hf.symm
    have x0 := (Blk.new ((w1.alloc (.cells #[.int .i64 k5, .bool y5, .int .u64 m5, .string (S l5), .int .i64 c5] 139)).alloc (.cells #[] 246)) 351 #[.bool c.pairs, .int .i64 c.count, .int .i64 c.parts]).cellv 0 _ rfl
    have x1 := (Blk.new ((w1.alloc (.cells #[.int .i64 k5, .bool y5, .int .u64 m5, .string (S l5), .int .i64 c5] 139)).alloc (.cells #[] 246)) 351 #[.bool c.pairs, .int .i64 c.count, .int .i64 c.parts]).cellv 1 _ rfl
    have x2 := (Blk.new ((w1.alloc (.cells #[.int .i64 k5, .bool y5, .int .u64 m5, .string (S l5), .int .i64 c5] 139)).alloc (.cells #[] 246)) 351 #[.bool c.pairs, .int .i64 c.count, .int .i64 c.parts]).cellv 2 _ rfl
    have X := hide (And.intro x0 (And.intro x1 x2))
    clear HF hf x0 x1 x2
    go_wp2_with fail
    (with_reducible refine (unhide (H _)).mono ?_)
    rintro e w3 ⟨rfl, hb3⟩
    clear H
    have hb13 : Below w1.heap.size w1 w3 := (Below.more (Below.more (Below.more (Below.refl _ _) (Nat.le_refl _) _) (Nat.le_refl _) _) (Nat.le_refl _) _).trans (hb3.mono (by simp; omega))
    have x0 : w3.cell? ⟨w1.heap.size + 1 + 1, 0, none⟩ = some (.bool c.pairs) := (hb3.cell (p := ⟨w1.heap.size + 1 + 1, 0, none⟩) (by simp)).trans (by simpa using X.out.1)
    have x1 : w3.cell? ⟨w1.heap.size + 1 + 1, 1, none⟩ = some (.int .i64 c.count) := (hb3.cell (p := ⟨w1.heap.size + 1 + 1, 1, none⟩) (by simp)).trans (by simpa using X.out.2.1)
    have x2 : w3.cell? ⟨w1.heap.size + 1 + 1, 2, none⟩ = some (.int .i64 c.parts) := (hb3.cell (p := ⟨w1.heap.size + 1 + 1, 2, none⟩) (by simp)).trans (by simpa using X.out.2.2)
    clear X hb3
    rw [HPR.out] at x0
    have hbW := hb13
    go_wp2_with fail
    (with_reducible refine (unhide (HCP _)).mono ?_)
    rintro e w9 ⟨rfl, hb9⟩
    have hbX := hbW.trans (hb9.mono hbW.size)
    have q0 := (hbX.cell (p := ⟨g, off + n * 3, none⟩) hg1).trans g0
    have q1 := (hbX.cell (p := ⟨g, off + n * 3 + 1, none⟩) hg1).trans g1
    have q2 := (hbX.cell (p := ⟨g, off + n * 3 + 2, none⟩) hg1).trans g2
    have kq := KW.out.below hbX
    have qc0 := kq.2.1.cellv 0 _ rfl
    have qc1 := kq.2.1.cellv 1 _ rfl
    have qpl := kq.2.1.lt
    have qfz := kq.2.2.fz (off + n * 3 + 2)
    have qf1 := kq.2.1.frozen 1
    have qgl := Nat.lt_of_lt_of_le hg1 hbX.size
    have qne : g ≠ p := fun e => kq.out (by rw [← e]; simp [slB])
    have KQ := hide kq
    have HBW := hide (hb1.trans (hbX.mono hb1.size))
    clear kq hbX hb9 hbW hb13 HB g0 g1 g2 kc0 kc1
    go_wp2_with fail
    go_ret2
    have kq2 := KQ.out
    have kq5 : Wr (w9.setCell ⟨g, off + n * 3 + 2, none⟩ (.int .i64 ((c.parts : Int) + 1))) B p (.slice (some ⟨g, off, none⟩) (n + 1) cap) (M ++ [c.more]) false := by
      have h1 := HTOP.out _ kq2.2.2
      push_cast at h1
      exact ⟨kq2.1, kq2.2.1.far (p := ⟨g, off + n * 3 + 2, none⟩) (Ne.symm qne) _, h1⟩
    exact ⟨rfl, (kq5.done false).alloc _, (((Only.ofBelow HBW.out).setCell (by simp [slB]) _).setCell (by simp) (.bool false)).alloc _⟩
  | true =>
    rw [hpr] at ht
    have HPR := hide hpr
    have HT := hide ht
    clear hpr ht
    have hp20 : (c.parts : Int) ≤ 1000000 := by omega
    obtain ⟨n, hn⟩ : ∃ n, n = M.length := ⟨_, rfl⟩
    obtain ⟨g, off, cap, hv, hgl, d0, d1, d2, _, htop, hdrop⟩ := top_some h.2.2 n hn
    have hcap0 := h.2.2
    subst hv
    have hcap := hcap0.cap_le
    rw [List.length_append, List.length_singleton, ← hn] at hcap
    have hn20 : (n : Int) ≤ 1000000 := by omega
    have hn0 : decide ((n : Int) < 0) = false := by simp
    have HB := fun W r hr => hide (between_any c hp W r hr)
    have HF := fun W r hr => hide (full_any c hp W r hr)
    have HN := hide hn
    have HTOP := hide htop
    have HDROP := hide hdrop
    clear hn hML htop hdrop hcap0
    obtain ⟨k5, y5, m5, l5, c5, hev⟩ := ev_form pt
    have HPL := hide (plain_any pt w)
    rw [hev, hmay] at HPL
    unfold evV at HPL
    clear hev hmay
    go_enter Tryz.func283, Tryz.ntmps283
    go_wp2_with fail
    refine (unhide HPL).mono ?_
    rintro e w1 ⟨rfl, hb1⟩
    have kw := h.below hb1
    have kc0 := kw.2.1.cellv 0 _ rfl
    have kc1 := kw.2.1.cellv 1 _ rfl
    have kpl := kw.2.1.lt
    clear HPL
    have g0 := (hb1.cell (p := ⟨g, off + n * 3, none⟩) hgl).trans d0
    have g1 := (hb1.cell (p := ⟨g, off + n * 3 + 1, none⟩) hgl).trans d1
    have g2 := (hb1.cell (p := ⟨g, off + n * 3 + 2, none⟩) hgl).trans d2
    have hg1 : g < w1.heap.size := Nat.lt_of_lt_of_le hgl hb1.size
    clear d0 d1 d2
    have KW := hide kw
    clear kw
    have H := fun W => HF W false hf.symm
    have x0 := (Blk.new ((w1.alloc (.cells #[.int .i64 k5, .bool y5, .int .u64 m5, .string (S l5), .int .i64 c5] 139)).alloc (.cells #[] 246)) 351 #[.bool c.pairs, .int .i64 c.count, .int .i64 c.parts]).cellv 0 _ rfl
    have x1 := (Blk.new ((w1.alloc (.cells #[.int .i64 k5, .bool y5, .int .u64 m5, .string (S l5), .int .i64 c5] 139)).alloc (.cells #[] 246)) 351 #[.bool c.pairs, .int .i64 c.count, .int .i64 c.parts]).cellv 1 _ rfl
    have x2 := (Blk.new ((w1.alloc (.cells #[.int .i64 k5, .bool y5, .int .u64 m5, .string (S l5), .int .i64 c5] 139)).alloc (.cells #[] 246)) 351 #[.bool c.pairs, .int .i64 c.count, .int .i64 c.parts]).cellv 2 _ rfl
    have X := hide (And.intro x0 (And.intro x1 x2))
    clear HF hf x0 x1 x2
    go_wp2_with fail
    (with_reducible refine (unhide (H _)).mono ?_)
    rintro e w3 ⟨rfl, hb3⟩
    clear H
    have hb13 : Below w1.heap.size w1 w3 := (Below.more (Below.more (Below.more (Below.refl _ _) (Nat.le_refl _) _) (Nat.le_refl _) _) (Nat.le_refl _) _).trans (hb3.mono (by simp; omega))
    have x0 : w3.cell? ⟨w1.heap.size + 1 + 1, 0, none⟩ = some (.bool c.pairs) := (hb3.cell (p := ⟨w1.heap.size + 1 + 1, 0, none⟩) (by simp)).trans (by simpa using X.out.1)
    have x1 : w3.cell? ⟨w1.heap.size + 1 + 1, 1, none⟩ = some (.int .i64 c.count) := (hb3.cell (p := ⟨w1.heap.size + 1 + 1, 1, none⟩) (by simp)).trans (by simpa using X.out.2.1)
    have x2 : w3.cell? ⟨w1.heap.size + 1 + 1, 2, none⟩ = some (.int .i64 c.parts) := (hb3.cell (p := ⟨w1.heap.size + 1 + 1, 2, none⟩) (by simp)).trans (by simpa using X.out.2.2)
    clear X hb3
    rw [HPR.out] at x0
    cases hbt : c.between with
    | true =>
      have H2 := HB w3 true hbt.symm
      rw [HPR.out] at H2
      clear hbt
      go_wp2_with fail
      (with_reducible refine (unhide H2).mono ?_)
      rintro e w4 ⟨rfl, hb4⟩
      have hbW := hb13.trans (hb4.mono hb13.size)
      go_wp2_with fail
      (with_reducible refine (unhide (HCP _)).mono ?_)
      rintro e w9 ⟨rfl, hb9⟩
      have hbX := hbW.trans (hb9.mono hbW.size)
      have q0 := (hbX.cell (p := ⟨g, off + n * 3, none⟩) hg1).trans g0
      have q1 := (hbX.cell (p := ⟨g, off + n * 3 + 1, none⟩) hg1).trans g1
      have q2 := (hbX.cell (p := ⟨g, off + n * 3 + 2, none⟩) hg1).trans g2
      have kq := KW.out.below hbX
      have qc0 := kq.2.1.cellv 0 _ rfl
      have qc1 := kq.2.1.cellv 1 _ rfl
      have qpl := kq.2.1.lt
      have qfz := kq.2.2.fz (off + n * 3 + 2)
      have qf1 := kq.2.1.frozen 1
      have qgl := Nat.lt_of_lt_of_le hg1 hbX.size
      have qne : g ≠ p := fun e => kq.out (by rw [← e]; simp [slB])
      have KQ := hide kq
      have HBW := hide (hb1.trans (hbX.mono hb1.size))
      clear kq hbX hb9 hbW hb13 HB g0 g1 g2 kc0 kc1
      go_wp2_with fail
      go_ret2
      have kq2 := KQ.out
      have kq5 : Wr (w9.setCell ⟨g, off + n * 3 + 2, none⟩ (.int .i64 ((c.parts : Int) + 1))) B p (.slice (some ⟨g, off, none⟩) (n + 1) cap) (M ++ [c.more]) false := by
        have h1 := HTOP.out _ kq2.2.2
        push_cast at h1
        exact ⟨kq2.1, kq2.2.1.far (p := ⟨g, off + n * 3 + 2, none⟩) (Ne.symm qne) _, h1⟩
      exact ⟨rfl, (kq5.done false).alloc _, (((Only.ofBelow HBW.out).setCell (by simp [slB]) _).setCell (by simp) (.bool false)).alloc _⟩
    | false =>
      have H2 := HB w3 false hbt.symm
      rw [HPR.out] at H2
      have hwd : isw = true := by have := HT.out; rw [hbt] at this; simpa using this
      subst hwd
      clear hbt
      go_wp2_with fail
      (with_reducible refine (unhide H2).mono ?_)
      rintro e w4 ⟨rfl, hb4⟩
      have hbW := hb13.trans (hb4.mono hb13.size)
      go_wp2_with fail
      (with_reducible refine (unhide (HCP _)).mono ?_)
      rintro e w9 ⟨rfl, hb9⟩
      have hbX := hbW.trans (hb9.mono hbW.size)
      have q0 := (hbX.cell (p := ⟨g, off + n * 3, none⟩) hg1).trans g0
      have q1 := (hbX.cell (p := ⟨g, off + n * 3 + 1, none⟩) hg1).trans g1
      have q2 := (hbX.cell (p := ⟨g, off + n * 3 + 2, none⟩) hg1).trans g2
      have kq := KW.out.below hbX
      have qc0 := kq.2.1.cellv 0 _ rfl
      have qc1 := kq.2.1.cellv 1 _ rfl
      have qpl := kq.2.1.lt
      have qfz := kq.2.2.fz (off + n * 3 + 2)
      have qf1 := kq.2.1.frozen 1
      have qgl := Nat.lt_of_lt_of_le hg1 hbX.size
      have qne : g ≠ p := fun e => kq.out (by rw [← e]; simp [slB])
      have KQ := hide kq
      have HBW := hide (hb1.trans (hbX.mono hb1.size))
      clear kq hbX hb9 hbW hb13 HB g0 g1 g2 kc0 kc1
      go_wp2_with fail
      go_ret2
      have kq2 := KQ.out
      have kq5 : Wr (w9.setCell ⟨g, off + n * 3 + 2, none⟩ (.int .i64 ((c.parts : Int) + 1))) B p (.slice (some ⟨g, off, none⟩) (n + 1) cap) (M ++ [c.more]) false := by
        have h1 := HTOP.out _ kq2.2.2
        push_cast at h1
        exact ⟨kq2.1, kq2.2.1.far (p := ⟨g, off + n * 3 + 2, none⟩) (Ne.symm qne) _, h1⟩
      exact ⟨rfl, (kq5.done false).alloc _, (((Only.ofBelow HBW.out).setCell (by simp [slB]) _).setCell (by simp) (.bool false)).alloc _⟩
end Go.Proofs.YtkccjfgkbkodiaaGreat
