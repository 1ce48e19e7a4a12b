/-
  PkH · PkI0: parts of the walk of TopTight, under no condition.
-/
import Derived.Test.YtkccjfgkbkodiaaGreatZ09
import Derived.Test.YtkccjfgkbkodiaaGreatZ11
namespace Go.Proofs.YtkccjfgkbkodiaaGreat
open Go.RowKit
set_option maxRecDepth 100000 in
set_option maxHeartbeats 4000000 in
theorem step_begin_top {w : World} {B p : Nat} {v : Value} {M : List Cont} {c : Cont} (h : Wr w B p v (M ++ [c]) false) (hp : c.parts ≤ 1000000) (hML : M.length ≤ 1000000) (m : Bool) (n' : Int) (hn1 : -1 ≤ n') (hf : c.full = false) (ht : c.takes (Part.begin_ m n') = true) (r : List UInt8)
    (hplain : ∀ W, Calls Tryz.prog 286 #[(Part.begin_ m n').val] W fun e w' => e = .returned (.tuple #[.string (S [0xc0]), .int .i64 0]) ∧ Below W.heap.size W w')
    (hbegin : ∀ W, Calls Tryz.prog 287 #[.agg #[.bool m, .int .i64 n']] W fun e w' => e = .returned (.tuple #[.string (S r), .int .i64 0]) ∧ Below W.heap.size W w') :
    Calls Tryz.prog 283 #[.pointer (some ⟨p, 0, none⟩), (Part.begin_ m n').val] w fun e w' => e = .returned (.tuple #[.string (S r), .int .i64 0]) ∧ ∃ v', Wr w' B p v' (M ++ [c.more] ++ [⟨m, n', 0⟩]) false ∧ Only (p :: slB v) w w' ∧ ∀ k ∈ slB v', k ∈ slB v ∨ w.heap.size ≤ k := by
  unfold Cont.takes at ht
  simp only [Part.isWord] at ht
  have t5 := fun W => ta_close (Part.begin_ m n') W
  have t3 := fun W => ta_word (Part.begin_ m n') W
  have t6 := fun W => ta_begin (Part.begin_ m n') W
  simp only [Part.isClose, Part.asWord, Part.isWord, Part.asBegin, Part.isBegin] at t5 t3 t6
  have hmay : (Part.begin_ m n').may = true := by simp only [Part.may]; exact decide_eq_true hn1
  have HCP := fun W => hide (hplain W)
  have HBG := fun W => hide (hbegin W)
  clear hplain hbegin
  obtain ⟨pt, hpt⟩ : ∃ pt, pt = Part.begin_ m n' := ⟨_, rfl⟩
  rw [← hpt] at hmay t5 t3 t6 HCP ⊢
  clear hpt
  cases hpr : c.pairs with
  | false =>
    have HPR := hide hpr
    clear hpr ht
    have hp20 : (c.parts : Int) ≤ 1000000 := by omega
    obtain ⟨n, hn⟩ : ∃ n, n = M.length := ⟨_, rfl⟩
    obtain ⟨g, off, cap, hv, hgl, d0, d1, d2, _, htop, hdrop⟩ := top_some h.2.2 n hn
    have hcap0 := h.2.2
    subst hv
    have hcap := hcap0.cap_le
    rw [List.length_append, List.length_singleton, ← hn] at hcap
    have hn20 : (n : Int) ≤ 1000000 := by omega
    have hn0 : decide ((n : Int) < 0) = false := by simp
    have HB := fun W r hr => hide (between_any c hp W r hr)
    have HF := fun W r hr => hide (full_any c hp W r hr)
    have HN := hide hn
    have HTOP := hide htop
    have HDROP := hide hdrop
    clear hn hML htop hdrop hcap0
    obtain ⟨k5, y5, m5, l5, c5, hev⟩ := ev_form pt
    have HPL := hide (plain_any pt w)
    rw [hev, hmay] at HPL
    unfold evV at HPL
    clear hev hmay
    go_enter Tryz.func283, Tryz.ntmps283
    go_wp2_with fail
    refine (unhide HPL).mono ?_
    rintro e w1 ⟨rfl, hb1⟩
    have kw := h.below hb1
    have kc0 := kw.2.1.cellv 0 _ rfl
    have kc1 := kw.2.1.cellv 1 _ rfl
    have kpl := kw.2.1.lt
    clear HPL
    have g0 := (hb1.cell (p := ⟨g, off + n * 3, none⟩) hgl).trans d0
    have g1 := (hb1.cell (p := ⟨g, off + n * 3 + 1, none⟩) hgl).trans d1
    have g2 := (hb1.cell (p := ⟨g, off + n * 3 + 2, none⟩) hgl).trans d2
    have hg1 : g < w1.heap.size := Nat.lt_of_lt_of_le hgl hb1.size
    clear d0 d1 d2
    have KW := hide kw
    clear kw
    have H := fun W => HF W false hf.symm
    have x0 := (Blk.new ((w1.alloc (.cells #[.int .i64 k5, .bool y5, .int .u64 m5, .string (S l5), .int .i64 c5] 139)).alloc (.cells #[] 246)) 351 #[.bool c.pairs, .int .i64 c.count, .int .i64 c.parts]).cellv 0 _ rfl
    have x1 := (Blk.new ((w1.alloc (.cells #[.int .i64 k5, .bool y5, .int .u64 m5, .string (S l5), .int .i64 c5] 139)).alloc (.cells #[] 246)) 351 #[.bool c.pairs, .int .i64 c.count, .int .i64 c.parts]).cellv 1 _ rfl
    have x2 := (Blk.new ((w1.alloc (.cells #[.int .i64 k5, .bool y5, .int .u64 m5, .string (S l5), .int .i64 c5] 139)).alloc (.cells #[] 246)) 351 #[.bool c.pairs, .int .i64 c.count, .int .i64 c.parts]).cellv 2 _ rfl
    have X := hide (And.intro x0 (And.intro x1 x2))
    clear HF hf x0 x1 x2
    go_wp2_with fail
    (with_reducible refine (unhide (H _)).mono ?_)
    rintro e w3 ⟨rfl, hb3⟩
    clear H
    have hb13 : Below w1.heap.size w1 w3 := (Below.more (Below.more (Below.more (Below.refl _ _) (Nat.le_refl _) _) (Nat.le_refl _) _) (Nat.le_refl _) _).trans (hb3.mono (by simp; omega))
    have x0 : w3.cell? ⟨w1.heap.size + 1 + 1, 0, none⟩ = some (.bool c.pairs) := (hb3.cell (p := ⟨w1.heap.size + 1 + 1, 0, none⟩) (by simp)).trans (by simpa using X.out.1)
    have x1 : w3.cell? ⟨w1.heap.size + 1 + 1, 1, none⟩ = some (.int .i64 c.count) := (hb3.cell (p := ⟨w1.heap.size + 1 + 1, 1, none⟩) (by simp)).trans (by simpa using X.out.2.1)
    have x2 : w3.cell? ⟨w1.heap.size + 1 + 1, 2, none⟩ = some (.int .i64 c.parts) := (hb3.cell (p := ⟨w1.heap.size + 1 + 1, 2, none⟩) (by simp)).trans (by simpa using X.out.2.2)
    clear X hb3
    rw [HPR.out] at x0
    have hbW := hb13
    go_wp2_with fail
    (with_reducible refine (unhide (HCP _)).mono ?_)
    rintro e w9 ⟨rfl, hb9⟩
    have hbX := hbW.trans (hb9.mono hbW.size)
    clear hb9 hbW hb13 HB kc0 kc1
    go_wp2_with fail
    (with_reducible refine (unhide (HBG _)).mono ?_)
    rintro e w10 ⟨rfl, hb10⟩
    have hbY : Below w1.heap.size w1 w10 := (Below.more hbX (Nat.le_refl _) _).trans (hb10.mono (by have := hbX.size; simp; omega))
    have bg10 := (Blk.new w9 243 #[.bool m, .int .i64 n']).below hb10 (by simp)
    have q0 := (hbY.cell (p := ⟨g, off + n * 3, none⟩) hg1).trans g0
    have q1 := (hbY.cell (p := ⟨g, off + n * 3 + 1, none⟩) hg1).trans g1
    have q2 := (hbY.cell (p := ⟨g, off + n * 3 + 2, none⟩) hg1).trans g2
    have kq := KW.out.below hbY
    have qc0 := kq.2.1.cellv 0 _ rfl
    have qc1 := kq.2.1.cellv 1 _ rfl
    have qpl := kq.2.1.lt
    have qfz := kq.2.2.fz (off + n * 3 + 2)
    have qgl := Nat.lt_of_lt_of_le hg1 hbY.size
    have qne : g ≠ p := fun e => kq.out (by rw [← e]; simp [slB])
    have hg9 : w9.heap.size ≠ g := by have := hbX.size; omega
    have kq5 : Wr (w10.setCell ⟨g, off + n * 3 + 2, none⟩ (.int .i64 ((c.parts : Int) + 1))) B p (.slice (some ⟨g, off, none⟩) (n + 1) cap) (M ++ [c.more]) false := by
      have h1 := HTOP.out _ kq.2.2
      push_cast at h1
      exact ⟨kq.1, kq.2.1.far (p := ⟨g, off + n * 3 + 2, none⟩) (Ne.symm qne) _, h1⟩
    have bg11 := bg10.far (p := ⟨g, off + n * 3 + 2, none⟩) hg9 (.int .i64 ((c.parts : Int) + 1))
    have KQ := hide kq5
    have BG := hide bg11
    have HBW := hide (hb1.trans (hbY.mono hb1.size))
    clear kq kq5 hbX hbY hb10 g0 g1 g2 bg10 bg11
    go_upto_region 28 with (fail)
    obtain ⟨W6, hW6⟩ : ∃ W6, W6 = w10.setCell ⟨g, off + n * 3 + 2, none⟩ (.int .i64 ((c.parts : Int) + 1)) := ⟨_, rfl⟩
    have kw6 : Wr W6 B p (.slice (some ⟨g, off, none⟩) (n + 1) cap) (M ++ [c.more]) false := by rw [hW6]; exact KQ.out
    have bgX : Blk W6 w9.heap.size 243 #[.bool m, .int .i64 n'] := by rw [hW6]; exact BG.out
    have hon6 : Only (p :: slB (.slice (some ⟨g, off, none⟩) (n + 1) cap)) w W6 := by
      rw [hW6]
      exact ((Only.ofBelow HBW.out).setCell (by simp [slB]) _)
    rw [← hW6]
    have hln : (M ++ [c.more]).length + 1 ≤ 1000002 := by have := HN.out; rw [List.length_append]; simp; omega
    have hgv : w9.heap.size ∉ slB (Value.slice (some ⟨g, off, none⟩) (n + 1) cap) := by simp [slB]; exact hg9
    obtain ⟨vv, hvv⟩ : ∃ vv, vv = Value.slice (some ⟨g, off, none⟩) (n + 1) cap := ⟨_, rfl⟩
    rw [← hvv] at kw6 hon6 hgv ⊢
    have HON := hide hon6
    have KWZ := hide kw6
    have HVV := hide hvv
    clear hvv kw6 hon6 hW6 KQ BG HBW q0 q1 q2 qc0 qc1 qpl qfz qgl qne x0 x1 x2 HTOP KW hg1 kpl hb1 hgl hp20 hn20 hn0 hg9 h hcap
    have kwX := KWZ.out
    refine wp_region_tree (fun W => W.cell? ⟨p, 0, none⟩ = some vv ∧ W.cell? ⟨w9.heap.size, 0, none⟩ = some (.bool m) ∧ W.cell? ⟨w9.heap.size, 1, none⟩ = some (.int .i64 n')) 14 (.take [0, 1, 2, 3, 4, 5, 6, 7, 8, 9] (.step 10 (.step 11 (.step 12 (.step 13 (.step 14 (.fin))))))) (by kernel_rfl) (by kernel_rfl) (by intro _ _ _ _ _ h; exact h) ?_
    refine wpTree_take (⟨kwX.2.1.cellv 0 _ rfl, bgX.cellv 0 _ rfl, bgX.cellv 1 _ rfl⟩) ?_
    simp only [opsAt, List.getElem?_cons_zero, List.getElem?_cons_succ]
    iterate 10 (first | (refine wpPureH_step (v := ?_) rfl (fun W hS => ?_) ?_; rotate_left; · (obtain ⟨s1, s2, s3⟩ := hS; (try simp only [Act.put, List.setIfInBounds_toArray, List.set_cons_zero, List.set_cons_succ]); go_simp; with_reducible rfl)) | (refine wpPureH_want (v := ?_) (by rfl) (fun W hS => ?_) ?_; rotate_left; · (obtain ⟨s1, s2, s3⟩ := hS; (try simp only [Act.put, List.setIfInBounds_toArray, List.set_cons_zero, List.set_cons_succ]); go_simp; with_reducible rfl)))
    refine wpPureH_nil ?_
    simp only [Act.put, List.setIfInBounds_toArray, List.set_cons_zero, List.set_cons_succ]
    have kw0 := (kwX.alloc (.cells #[.bool m, .int .i64 n', .int .i64 0] 351))
    have bg0 := (bgX.alloc (.cells #[.bool m, .int .i64 n', .int .i64 0] 351))
    have bb0 := Blk.new W6 351 #[.bool m, .int .i64 n', .int .i64 0]
    have hwz : B ≤ W6.heap.size + 1 := by have := kwX.1; have := kwX.2.1.lt; omega
    refine wpTree_step ?_
    simp only [opsAt, List.getElem?_cons_zero, List.getElem?_cons_succ]
    go_wp2_with fail
    refine ⟨.inr ⟨kw0.2.1.cellv 0 _ rfl, bg0.cellv 0 _ rfl, bg0.cellv 1 _ rfl⟩, ?_⟩
    refine wpTree_step ?_
    simp only [opsAt, List.getElem?_cons_zero, List.getElem?_cons_succ]
    refine wpList_append_slN rfl (.tmp 138) (.tmp 144) 174 rfl _ 24 Tryz.underlying174 info_cont rfl (by decide) kw0.2.2.drew (SlN.oneN (base := 0) (Nat.zero_le _) bb0.drew rfl).src rfl rfl rfl (by intro y hy; simp at hy; rcases hy with rfl | rfl | rfl <;> rfl) (by unfold maxLen; omega) (by omega) (by simp; omega) ?_
    intro v' w' hv' ho' hf'
    have hs1 : SlN w' B 351 3 v' ((M ++ [c.more]) ++ [(⟨m, n', 0⟩ : Cont)]).length (contV ((M ++ [c.more]) ++ [⟨m, n', 0⟩])) := by
      rw [contV_append, List.length_append]
      exact hv'
    have hlt1 : ∀ k ∈ slB vv, k < W6.heap.size := fun k hk => (kwX.2.2.lt k hk).2
    have ho1 : Only (slB vv) W6 w' := ((Only.refl _ W6).alloc _).drew.trans ho'
    have hf1 : ∀ k ∈ slB v', k ∈ slB vv ∨ W6.heap.size ≤ k := fun k hk => (hf' k hk).imp_right fun h => by simp at h; omega
    have bg1 := ho'.blk bg0.drew (fun hk => hgv hk)
    have pb1 := (ho'.blk kw0.2.1.drew kw0.out)
    obtain ⟨ln, hln2⟩ : ∃ ln, ln = ((M ++ [c.more]) ++ [(⟨m, n', 0⟩ : Cont)]).length := ⟨_, rfl⟩
    obtain ⟨a', c', hvf⟩ := hs1.form
    rw [← hln2] at hvf
    clear hln2
    subst hvf
    have hput := kwX.put ho1 hs1 hf1
    have pf := pb1.frozen 0
    have HP := hide hput
    have HF := hide hf1
    clear hput hf1 hs1 hv' hf' ho' ho1 bb0 kw0 kwX bgX bg0 hln
    go_wp2_with fail
    refine ⟨.inr ⟨pb1.cellv 0 _ rfl, bg1.cellv 0 _ rfl, bg1.cellv 1 _ rfl⟩, ?_⟩
    refine wpTree_step ?_
    simp only [opsAt, List.getElem?_cons_zero, List.getElem?_cons_succ]
    go_wp2_with fail
    refine ⟨.inr (⟨pb1.cellv 0 _ rfl, bg1.cellv 0 _ rfl, bg1.cellv 1 _ rfl⟩), ?_⟩
    refine wpTree_step ?_
    simp only [opsAt, List.getElem?_cons_zero, List.getElem?_cons_succ]
    go_wp2_with fail
    refine ⟨.inr (⟨pb1.cellv 0 _ rfl, bg1.cellv 0 _ rfl, bg1.cellv 1 _ rfl⟩), ?_⟩
    have pc := pb1.cellv 0 _ rfl
    refine wpTree_step ?_
    simp only [opsAt, List.getElem?_cons_zero, List.getElem?_cons_succ]
    go_wp2_with fail
    refine ⟨.inl trivial, wpTree_fin ?_⟩
    clear pb1 bg1 pf pc hlt1
    go_wp2_with fail
    go_ret2
    have hvv9 := HVV.out
    subst hvv9
    exact ⟨rfl, _, HP.out.1, HON.out.trans HP.out.2, fun k hk => (HF.out k hk).imp_right (Nat.le_trans HON.out.size)⟩
  | true =>
    rw [hpr] at ht
    have HPR := hide hpr
    have HT := hide ht
    clear hpr ht
    have hbt : c.between = true := by have := HT.out; simpa using this
    have hp20 : (c.parts : Int) ≤ 1000000 := by omega
    obtain ⟨n, hn⟩ : ∃ n, n = M.length := ⟨_, rfl⟩
    obtain ⟨g, off, cap, hv, hgl, d0, d1, d2, _, htop, hdrop⟩ := top_some h.2.2 n hn
    have hcap0 := h.2.2
    subst hv
    have hcap := hcap0.cap_le
    rw [List.length_append, List.length_singleton, ← hn] at hcap
    have hn20 : (n : Int) ≤ 1000000 := by omega
    have hn0 : decide ((n : Int) < 0) = false := by simp
    have HB := fun W r hr => hide (between_any c hp W r hr)
    have HF := fun W r hr => hide (full_any c hp W r hr)
    have HN := hide hn
    have HTOP := hide htop
    have HDROP := hide hdrop
    clear hn hML htop hdrop hcap0
    obtain ⟨k5, y5, m5, l5, c5, hev⟩ := ev_form pt
    have HPL := hide (plain_any pt w)
    rw [hev, hmay] at HPL
    unfold evV at HPL
    clear hev hmay
    go_enter Tryz.func283, Tryz.ntmps283
    go_wp2_with fail
    refine (unhide HPL).mono ?_
    rintro e w1 ⟨rfl, hb1⟩
    have kw := h.below hb1
    have kc0 := kw.2.1.cellv 0 _ rfl
    have kc1 := kw.2.1.cellv 1 _ rfl
    have kpl := kw.2.1.lt
    clear HPL
    have g0 := (hb1.cell (p := ⟨g, off + n * 3, none⟩) hgl).trans d0
    have g1 := (hb1.cell (p := ⟨g, off + n * 3 + 1, none⟩) hgl).trans d1
    have g2 := (hb1.cell (p := ⟨g, off + n * 3 + 2, none⟩) hgl).trans d2
    have hg1 : g < w1.heap.size := Nat.lt_of_lt_of_le hgl hb1.size
    clear d0 d1 d2
    have KW := hide kw
    clear kw
    have H := fun W => HF W false hf.symm
    have x0 := (Blk.new ((w1.alloc (.cells #[.int .i64 k5, .bool y5, .int .u64 m5, .string (S l5), .int .i64 c5] 139)).alloc (.cells #[] 246)) 351 #[.bool c.pairs, .int .i64 c.count, .int .i64 c.parts]).cellv 0 _ rfl
    have x1 := (Blk.new ((w1.alloc (.cells #[.int .i64 k5, .bool y5, .int .u64 m5, .string (S l5), .int .i64 c5] 139)).alloc (.cells #[] 246)) 351 #[.bool c.pairs, .int .i64 c.count, .int .i64 c.parts]).cellv 1 _ rfl
    have x2 := (Blk.new ((w1.alloc (.cells #[.int .i64 k5, .bool y5, .int .u64 m5, .string (S l5), .int .i64 c5] 139)).alloc (.cells #[] 246)) 351 #[.bool c.pairs, .int .i64 c.count, .int .i64 c.parts]).cellv 2 _ rfl
    have X := hide (And.intro x0 (And.intro x1 x2))
    clear HF hf x0 x1 x2
    go_wp2_with fail
    (with_reducible refine (unhide (H _)).mono ?_)
    rintro e w3 ⟨rfl, hb3⟩
    clear H
    have hb13 : Below w1.heap.size w1 w3 := (Below.more (Below.more (Below.more (Below.refl _ _) (Nat.le_refl _) _) (Nat.le_refl _) _) (Nat.le_refl _) _).trans (hb3.mono (by simp; omega))
    have x0 : w3.cell? ⟨w1.heap.size + 1 + 1, 0, none⟩ = some (.bool c.pairs) := (hb3.cell (p := ⟨w1.heap.size + 1 + 1, 0, none⟩) (by simp)).trans (by simpa using X.out.1)
    have x1 : w3.cell? ⟨w1.heap.size + 1 + 1, 1, none⟩ = some (.int .i64 c.count) := (hb3.cell (p := ⟨w1.heap.size + 1 + 1, 1, none⟩) (by simp)).trans (by simpa using X.out.2.1)
    have x2 : w3.cell? ⟨w1.heap.size + 1 + 1, 2, none⟩ = some (.int .i64 c.parts) := (hb3.cell (p := ⟨w1.heap.size + 1 + 1, 2, none⟩) (by simp)).trans (by simpa using X.out.2.2)
    clear X hb3
    rw [HPR.out] at x0
    have H2 := HB w3 true hbt.symm
    rw [HPR.out] at H2
    clear hbt
    go_wp2_with fail
    (with_reducible refine (unhide H2).mono ?_)
    rintro e w4 ⟨rfl, hb4⟩
    have hbW := hb13.trans (hb4.mono hb13.size)
    go_wp2_with fail
    (with_reducible refine (unhide (HCP _)).mono ?_)
    rintro e w9 ⟨rfl, hb9⟩
    have hbX := hbW.trans (hb9.mono hbW.size)
    clear hb9 hbW hb13 HB kc0 kc1
    go_wp2_with fail
    (with_reducible refine (unhide (HBG _)).mono ?_)
    rintro e w10 ⟨rfl, hb10⟩
    have hbY : Below w1.heap.size w1 w10 := (Below.more hbX (Nat.le_refl _) _).trans (hb10.mono (by have := hbX.size; simp; omega))
    have bg10 := (Blk.new w9 243 #[.bool m, .int .i64 n']).below hb10 (by simp)
    have q0 := (hbY.cell (p := ⟨g, off + n * 3, none⟩) hg1).trans g0
    have q1 := (hbY.cell (p := ⟨g, off + n * 3 + 1, none⟩) hg1).trans g1
    have q2 := (hbY.cell (p := ⟨g, off + n * 3 + 2, none⟩) hg1).trans g2
    have kq := KW.out.below hbY
    have qc0 := kq.2.1.cellv 0 _ rfl
    have qc1 := kq.2.1.cellv 1 _ rfl
    have qpl := kq.2.1.lt
    have qfz := kq.2.2.fz (off + n * 3 + 2)
    have qgl := Nat.lt_of_lt_of_le hg1 hbY.size
    have qne : g ≠ p := fun e => kq.out (by rw [← e]; simp [slB])
    have hg9 : w9.heap.size ≠ g := by have := hbX.size; omega
    have kq5 : Wr (w10.setCell ⟨g, off + n * 3 + 2, none⟩ (.int .i64 ((c.parts : Int) + 1))) B p (.slice (some ⟨g, off, none⟩) (n + 1) cap) (M ++ [c.more]) false := by
      have h1 := HTOP.out _ kq.2.2
      push_cast at h1
      exact ⟨kq.1, kq.2.1.far (p := ⟨g, off + n * 3 + 2, none⟩) (Ne.symm qne) _, h1⟩
    have bg11 := bg10.far (p := ⟨g, off + n * 3 + 2, none⟩) hg9 (.int .i64 ((c.parts : Int) + 1))
    have KQ := hide kq5
    have BG := hide bg11
    have HBW := hide (hb1.trans (hbY.mono hb1.size))
    clear kq kq5 hbX hbY hb10 g0 g1 g2 bg10 bg11
    go_upto_region 28 with (fail)
    obtain ⟨W6, hW6⟩ : ∃ W6, W6 = w10.setCell ⟨g, off + n * 3 + 2, none⟩ (.int .i64 ((c.parts : Int) + 1)) := ⟨_, rfl⟩
    have kw6 : Wr W6 B p (.slice (some ⟨g, off, none⟩) (n + 1) cap) (M ++ [c.more]) false := by rw [hW6]; exact KQ.out
    have bgX : Blk W6 w9.heap.size 243 #[.bool m, .int .i64 n'] := by rw [hW6]; exact BG.out
    have hon6 : Only (p :: slB (.slice (some ⟨g, off, none⟩) (n + 1) cap)) w W6 := by
      rw [hW6]
      exact ((Only.ofBelow HBW.out).setCell (by simp [slB]) _)
    rw [← hW6]
    have hln : (M ++ [c.more]).length + 1 ≤ 1000002 := by have := HN.out; rw [List.length_append]; simp; omega
    have hgv : w9.heap.size ∉ slB (Value.slice (some ⟨g, off, none⟩) (n + 1) cap) := by simp [slB]; exact hg9
    obtain ⟨vv, hvv⟩ : ∃ vv, vv = Value.slice (some ⟨g, off, none⟩) (n + 1) cap := ⟨_, rfl⟩
    rw [← hvv] at kw6 hon6 hgv ⊢
    have HON := hide hon6
    have KWZ := hide kw6
    have HVV := hide hvv
    clear hvv kw6 hon6 hW6 KQ BG HBW q0 q1 q2 qc0 qc1 qpl qfz qgl qne x0 x1 x2 HTOP KW hg1 kpl hb1 hgl hp20 hn20 hn0 hg9 h hcap
    have kwX := KWZ.out
    refine wp_region_tree (fun W => W.cell? ⟨p, 0, none⟩ = some vv ∧ W.cell? ⟨w9.heap.size, 0, none⟩ = some (.bool m) ∧ W.cell? ⟨w9.heap.size, 1, none⟩ = some (.int .i64 n')) 14 (.take [0, 1, 2, 3, 4, 5, 6, 7, 8, 9] (.step 10 (.step 11 (.step 12 (.step 13 (.step 14 (.fin))))))) (by kernel_rfl) (by kernel_rfl) (by intro _ _ _ _ _ h; exact h) ?_
    refine wpTree_take (⟨kwX.2.1.cellv 0 _ rfl, bgX.cellv 0 _ rfl, bgX.cellv 1 _ rfl⟩) ?_
    simp only [opsAt, List.getElem?_cons_zero, List.getElem?_cons_succ]
    iterate 10 (first | (refine wpPureH_step (v := ?_) rfl (fun W hS => ?_) ?_; rotate_left; · (obtain ⟨s1, s2, s3⟩ := hS; (try simp only [Act.put, List.setIfInBounds_toArray, List.set_cons_zero, List.set_cons_succ]); go_simp; with_reducible rfl)) | (refine wpPureH_want (v := ?_) (by rfl) (fun W hS => ?_) ?_; rotate_left; · (obtain ⟨s1, s2, s3⟩ := hS; (try simp only [Act.put, List.setIfInBounds_toArray, List.set_cons_zero, List.set_cons_succ]); go_simp; with_reducible rfl)))
    refine wpPureH_nil ?_
    simp only [Act.put, List.setIfInBounds_toArray, List.set_cons_zero, List.set_cons_succ]
    have kw0 := (kwX.alloc (.cells #[.bool m, .int .i64 n', .int .i64 0] 351))
    have bg0 := (bgX.alloc (.cells #[.bool m, .int .i64 n', .int .i64 0] 351))
    have bb0 := Blk.new W6 351 #[.bool m, .int .i64 n', .int .i64 0]
    have hwz : B ≤ W6.heap.size + 1 := by have := kwX.1; have := kwX.2.1.lt; omega
    refine wpTree_step ?_
    simp only [opsAt, List.getElem?_cons_zero, List.getElem?_cons_succ]
    go_wp2_with fail
    refine ⟨.inr ⟨kw0.2.1.cellv 0 _ rfl, bg0.cellv 0 _ rfl, bg0.cellv 1 _ rfl⟩, ?_⟩
    refine wpTree_step ?_
    simp only [opsAt, List.getElem?_cons_zero, List.getElem?_cons_succ]
    refine wpList_append_slN rfl (.tmp 138) (.tmp 144) 174 rfl _ 24 Tryz.underlying174 info_cont rfl (by decide) kw0.2.2.drew (SlN.oneN (base := 0) (Nat.zero_le _) bb0.drew rfl).src rfl rfl rfl (by intro y hy; simp at hy; rcases hy with rfl | rfl | rfl <;> rfl) (by unfold maxLen; omega) (by omega) (by simp; omega) ?_
    intro v' w' hv' ho' hf'
    have hs1 : SlN w' B 351 3 v' ((M ++ [c.more]) ++ [(⟨m, n', 0⟩ : Cont)]).length (contV ((M ++ [c.more]) ++ [⟨m, n', 0⟩])) := by
      rw [contV_append, List.length_append]
      exact hv'
    have hlt1 : ∀ k ∈ slB vv, k < W6.heap.size := fun k hk => (kwX.2.2.lt k hk).2
    have ho1 : Only (slB vv) W6 w' := ((Only.refl _ W6).alloc _).drew.trans ho'
    have hf1 : ∀ k ∈ slB v', k ∈ slB vv ∨ W6.heap.size ≤ k := fun k hk => (hf' k hk).imp_right fun h => by simp at h; omega
    have bg1 := ho'.blk bg0.drew (fun hk => hgv hk)
    have pb1 := (ho'.blk kw0.2.1.drew kw0.out)
    obtain ⟨ln, hln2⟩ : ∃ ln, ln = ((M ++ [c.more]) ++ [(⟨m, n', 0⟩ : Cont)]).length := ⟨_, rfl⟩
    obtain ⟨a', c', hvf⟩ := hs1.form
    rw [← hln2] at hvf
    clear hln2
    subst hvf
    have hput := kwX.put ho1 hs1 hf1
    have pf := pb1.frozen 0
    have HP := hide hput
    have HF := hide hf1
    clear hput hf1 hs1 hv' hf' ho' ho1 bb0 kw0 kwX bgX bg0 hln
    go_wp2_with fail
    refine ⟨.inr ⟨pb1.cellv 0 _ rfl, bg1.cellv 0 _ rfl, bg1.cellv 1 _ rfl⟩, ?_⟩
    refine wpTree_step ?_
    simp only [opsAt, List.getElem?_cons_zero, List.getElem?_cons_succ]
    go_wp2_with fail
    refine ⟨.inr (⟨pb1.cellv 0 _ rfl, bg1.cellv 0 _ rfl, bg1.cellv 1 _ rfl⟩), ?_⟩
    refine wpTree_step ?_
    simp only [opsAt, List.getElem?_cons_zero, List.getElem?_cons_succ]
    go_wp2_with fail
    refine ⟨.inr (⟨pb1.cellv 0 _ rfl, bg1.cellv 0 _ rfl, bg1.cellv 1 _ rfl⟩), ?_⟩
    have pc := pb1.cellv 0 _ rfl
    refine wpTree_step ?_
    simp only [opsAt, List.getElem?_cons_zero, List.getElem?_cons_succ]
    go_wp2_with fail
    refine ⟨.inl trivial, wpTree_fin ?_⟩
    clear pb1 bg1 pf pc hlt1
    go_wp2_with fail
    go_ret2
    have hvv9 := HVV.out
    subst hvv9
    exact ⟨rfl, _, HP.out.1, HON.out.trans HP.out.2, fun k hk => (HF.out k hk).imp_right (Nat.le_trans HON.out.size)⟩
end Go.Proofs.YtkccjfgkbkodiaaGreat
namespace Go.Proofs.YtkccjfgkbkodiaaGreat
open Go.RowKit
theorem u64_or_32 (C c : Nat) (hC : C % 32 = 0 ∧ C < 256) (hc : c < 32) : bits .or .u64 (C : Int) (c : Int) = ((C + c : Nat) : Int) := by
  have h7 : (BitVec.ofInt 64 (C : Int) ||| BitVec.ofInt 64 (c : Int)).toNat = C + c := by
    rw [BitVec.ofInt_natCast, BitVec.ofInt_natCast, BitVec.toNat_or, BitVec.toNat_ofNat, BitVec.toNat_ofNat, Nat.mod_eq_of_lt (by omega), Nat.mod_eq_of_lt (by omega)]
    have h2 := Nat.shiftLeft_add_eq_or_of_lt (i := 5) (b := c) hc (C / 32)
    rw [Nat.shiftLeft_eq, show 2 ^ 5 = 32 from rfl, show C / 32 * 32 = C by omega] at h2
    omega
  show IntKind.u64.wrap ((BitVec.ofInt 64 (C : Int) ||| BitVec.ofInt 64 (c : Int)).toNat : Int) = _
  rw [h7, IntKind.wrap_u64]
  omega
set_option maxRecDepth 100000 in
set_option maxHeartbeats 1000000 in
theorem cplain_any (p : Part) (hc : p.isClose = false) (ho : p.may = true) (hm : ∀ g m, p = .whole g m → 0 ≤ m ∧ m < 18446744073709551616) (hl : ∀ l, p = .word l ∨ p = .blob l → l.length ≤ 1000000) (w : World) (r : List UInt8) (k : Int) (hr : (r, k) = plainR p) :
    Calls Tryz.prog 286 #[p.val] w fun e w' => e = .returned (.tuple #[.string (S r), .int .i64 k]) ∧ Below w.heap.size w w' := by
  cases p with
  | null =>
    simp only [plainR] at hr
    injection hr with e1 e2
    subst e1 e2
    unfold Part.val
    have t1 := fun w => ta_bool Part.null w
    have t2 := fun w => ta_whole Part.null w
    have t3 := fun w => ta_word Part.null w
    have t4 := fun w => ta_blob Part.null w
    simp only [Part.val, Part.asBool, Part.isBool, Part.asWhole, Part.isWhole, Part.asWord, Part.isWord, Part.asBlob, Part.isBlob] at t1 t2 t3 t4
    go_enter Tryz.func286, Tryz.ntmps286
    go_wp2_with fail
    go_ret2
    exact ⟨rfl, by repeat refine Below.more ?_ (Nat.le_refl _) _
                   exact Below.refl _ _⟩
  | begin_ m n =>
    simp only [plainR] at hr
    injection hr with e1 e2
    subst e1 e2
    unfold Part.val
    have t1 := fun w => ta_bool (Part.begin_ m n) w
    have t2 := fun w => ta_whole (Part.begin_ m n) w
    have t3 := fun w => ta_word (Part.begin_ m n) w
    have t4 := fun w => ta_blob (Part.begin_ m n) w
    simp only [Part.val, Part.asBool, Part.isBool, Part.asWhole, Part.isWhole, Part.asWord, Part.isWord, Part.asBlob, Part.isBlob] at t1 t2 t3 t4
    go_enter Tryz.func286, Tryz.ntmps286
    go_wp2_with fail
    go_ret2
    exact ⟨rfl, by repeat refine Below.more ?_ (Nat.le_refl _) _
                   exact Below.refl _ _⟩
  | bool b =>
    simp only [plainR] at hr
    injection hr with e1 e2
    subst e1 e2
    unfold Part.val
    have t1 := fun w => ta_bool (Part.bool b) w
    have t2 := fun w => ta_whole (Part.bool b) w
    have t3 := fun w => ta_word (Part.bool b) w
    have t4 := fun w => ta_blob (Part.bool b) w
    simp only [Part.val, Part.asBool, Part.isBool, Part.asWhole, Part.isWhole, Part.asWord, Part.isWord, Part.asBlob, Part.isBlob] at t1 t2 t3 t4
    cases b with
    | true =>
      go_enter Tryz.func286, Tryz.ntmps286
      go_wp2_with fail
      go_ret2
      exact ⟨rfl, Below.refl _ _⟩
    | false =>
      go_enter Tryz.func286, Tryz.ntmps286
      go_wp2_with fail
      go_ret2
      exact ⟨rfl, Below.refl _ _⟩
  | whole g m =>
    obtain ⟨h0, h64⟩ := hm g m rfl
    obtain ⟨c, rfl⟩ := Int.eq_ofNat_of_zero_le h0
    unfold Part.val
    have t1 := fun w => ta_bool (Part.whole g (c : Int)) w
    have t2 := fun w => ta_whole (Part.whole g (c : Int)) w
    have t3 := fun w => ta_word (Part.whole g (c : Int)) w
    have t4 := fun w => ta_blob (Part.whole g (c : Int)) w
    simp only [Part.val, Part.asBool, Part.isBool, Part.asWhole, Part.isWhole, Part.asWord, Part.isWord, Part.asBlob, Part.isBlob] at t1 t2 t3 t4
    simp only [plainR, Int.toNat_natCast] at hr
    cases g with
    | true =>
      rw [if_pos rfl] at hr
      have HP := fun W => hide (below_any c (hide (by omega)) W r k hr)
      clear hr hm hl h0 h64 ho hc
      go_enter Tryz.func286, Tryz.ntmps286
      go_wp2_with fail
      (with_reducible refine (unhide (HP _)).mono ?_)
      rintro e w1 ⟨rfl, hb1⟩
      go_wp2_with fail
      go_ret2
      exact ⟨rfl, (Below.more (Below.refl _ _) (Nat.le_refl _) _).trans (hb1.mono (by simp))⟩
    | false =>
      rw [if_neg (by decide)] at hr
      by_cases h1 : (c : Int) < 128
      · rw [if_pos h1] at hr
        injection hr with e1 e2
        subst e2
        have HP := fun W => hide (big_at c 1 c 1 rfl rfl (by omega) (by omega) r e1 W)
        clear hm hl h0 h64 ho hc e1
        go_enter Tryz.func286, Tryz.ntmps286
        go_wp2_with fail
        (with_reducible refine (unhide (HP _)).mono ?_)
        rintro e w1 ⟨rfl, ho1⟩
        go_wp2_with fail
        go_ret2
        exact ⟨rfl, (Below.more (Below.refl _ _) (Nat.le_refl _) _).trans (ho1.nil_below.mono (by simp))⟩
      · rw [if_neg h1] at hr
        injection hr with e1 e2
        subst e2
        have h1' : decide ((c : Int) < 128) = false := decide_eq_false h1
        have bk : Blk ((w.alloc (.cells #[.bool false, .int .u64 c] 226)).alloc (.cells #[.int .i64 1, .int .i64 2, .int .i64 4, .int .i64 8] 3)) (w.heap.size + 1) 3 #[.int .i64 1, .int .i64 2, .int .i64 4, .int .i64 8] := by simpa using Blk.new (w.alloc (.cells #[.bool false, .int .u64 c] 226)) 3 #[.int .i64 1, .int .i64 2, .int .i64 4, .int .i64 8]
        have H1 := hide (sized_blk 204 (w.heap.size + 1) (by omega) [1, 2, 4, 8] (by simp) (by simp) _ rfl bk 4 rfl c 204 rfl r e1)
        clear hm hl h0 h64 ho hc e1 bk h1
        go_enter Tryz.func286, Tryz.ntmps286
        go_wp2_with fail
        (with_reducible refine (unhide H1).mono ?_)
        rintro e w1 ⟨rfl, hb1⟩
        go_wp2_with fail
        go_ret2
        exact ⟨rfl, (Below.more (Below.more (Below.refl _ _) (Nat.le_refl _) _) (Nat.le_refl _) _).trans (hb1.mono (by simp; omega))⟩
  | word l =>
    have hll := hl l (.inl rfl)
    have hll2 : (l.length : Int) ≤ 1000000 := by omega
    have hwr : IntKind.u64.wrap (l.length : Int) = l.length := by rw [IntKind.wrap_u64]; omega
    simp only [plainR] at hr
    injection hr with e1 e2
    subst e2
    unfold Part.val
    have t1 := fun w => ta_bool (Part.word l) w
    have t2 := fun w => ta_whole (Part.word l) w
    have t3 := fun w => ta_word (Part.word l) w
    have t4 := fun w => ta_blob (Part.word l) w
    simp only [Part.val, Part.asBool, Part.isBool, Part.asWhole, Part.isWhole, Part.asWord, Part.isWord, Part.asBlob, Part.isBlob] at t1 t2 t3 t4
    unfold wordB at e1
    by_cases h1 : l.length < 32
    · rw [if_pos h1] at e1
      have h1' : decide ((l.length : Int) < 32) = true := by simp; omega
      obtain ⟨h, hh⟩ : ∃ h, h = bigL (160 + l.length) 1 := ⟨_, rfl⟩
      rw [← hh] at e1
      have hhl : h.length = 1 := by rw [hh]; simp
      have hadd := run_add_S (P := Tryz.prog) h l (by omega)
      rw [← e1] at hadd
      have hor : bits .or .u64 160 (l.length : Int) = ((160 + l.length : Nat) : Int) := u64_or_32 160 l.length (by decide) h1
      have HP := fun W => hide (big_at (bits .or .u64 160 (l.length : Int)) 1 (160 + l.length) 1 hor rfl (by omega) (by omega) h hh W)
      clear e1 hh hm hl hor h1 ho hc hhl
      go_enter Tryz.func286, Tryz.ntmps286
      go_wp2_with fail
      (with_reducible refine (unhide (HP _)).mono ?_)
      rintro e w1 ⟨rfl, ho1⟩
      go_wp2_with fail
      go_ret2
      exact ⟨rfl, (Below.more (Below.refl _ _) (Nat.le_refl _) _).trans (ho1.nil_below.mono (by simp))⟩
    · rw [if_neg h1] at e1
      have h1' : decide ((l.length : Int) < 32) = false := by simp; omega
      clear h1
      obtain ⟨h, hh⟩ : ∃ h, h = sizedL 217 0 [1, 2, 4] l.length := ⟨_, rfl⟩
      rw [← hh] at e1
      have hhl : h.length ≤ 9 := by rw [hh]; exact sizedL_length _ _ _ _ (by simp)
      have hadd := run_add_S (P := Tryz.prog) h l (by omega)
      rw [← e1] at hadd
      have bk : Blk ((w.alloc (.cells #[.bool false, .int .u64 0] 226)).alloc (.cells #[.int .i64 1, .int .i64 2, .int .i64 4] 3)) (w.heap.size + 1) 3 #[.int .i64 1, .int .i64 2, .int .i64 4] := by simpa using Blk.new (w.alloc (.cells #[.bool false, .int .u64 0] 226)) 3 #[.int .i64 1, .int .i64 2, .int .i64 4]
      have H1 := hide (sized_blk 217 (w.heap.size + 1) (by omega) [1, 2, 4] (by simp) (by simp) _ rfl bk 3 rfl l.length 217 rfl h hh)
      clear hm hl ho hc e1 bk hh hhl
      go_enter Tryz.func286, Tryz.ntmps286
      go_wp2_with fail
      (with_reducible refine (unhide H1).mono ?_)
      rintro e w1 ⟨rfl, hb1⟩
      go_wp2_with fail
      go_ret2
      exact ⟨rfl, (Below.more (Below.more (Below.refl _ _) (Nat.le_refl _) _) (Nat.le_refl _) _).trans (hb1.mono (by simp; omega))⟩
  | blob l =>
    have hll := hl l (.inr rfl)
    have hll2 : (l.length : Int) ≤ 1000000 := by omega
    have hwr : IntKind.u64.wrap (l.length : Int) = l.length := by rw [IntKind.wrap_u64]; omega
    simp only [plainR] at hr
    injection hr with e1 e2
    subst e2
    unfold Part.val
    have t1 := fun w => ta_bool (Part.blob l) w
    have t2 := fun w => ta_whole (Part.blob l) w
    have t3 := fun w => ta_word (Part.blob l) w
    have t4 := fun w => ta_blob (Part.blob l) w
    simp only [Part.val, Part.asBool, Part.isBool, Part.asWhole, Part.isWhole, Part.asWord, Part.isWord, Part.asBlob, Part.isBlob] at t1 t2 t3 t4
    obtain ⟨h, hh⟩ : ∃ h, h = sizedL 196 0 [1, 2, 4] l.length := ⟨_, rfl⟩
    rw [← hh] at e1
    have hhl : h.length ≤ 9 := by rw [hh]; exact sizedL_length _ _ _ _ (by simp)
    have hadd := run_add_S (P := Tryz.prog) h l (by omega)
    rw [← e1] at hadd
    have bk : Blk ((w.alloc (.cells #[.bool false, .int .u64 0] 226)).alloc (.cells #[.int .i64 1, .int .i64 2, .int .i64 4] 3)) (w.heap.size + 1) 3 #[.int .i64 1, .int .i64 2, .int .i64 4] := by simpa using Blk.new (w.alloc (.cells #[.bool false, .int .u64 0] 226)) 3 #[.int .i64 1, .int .i64 2, .int .i64 4]
    have H1 := hide (sized_blk 196 (w.heap.size + 1) (by omega) [1, 2, 4] (by simp) (by simp) _ rfl bk 3 rfl l.length 196 rfl h hh)
    clear hm hl ho hc e1 bk hh hhl
    go_enter Tryz.func286, Tryz.ntmps286
    go_wp2_with fail
    (with_reducible refine (unhide H1).mono ?_)
    rintro e w1 ⟨rfl, hb1⟩
    go_wp2_with fail
    go_ret2
    exact ⟨rfl, (Below.more (Below.more (Below.refl _ _) (Nat.le_refl _) _) (Nat.le_refl _) _).trans (hb1.mono (by simp; omega))⟩
  | close => simp [Part.isClose] at hc
  | odd => simp [Part.may] at ho
end Go.Proofs.YtkccjfgkbkodiaaGreat
