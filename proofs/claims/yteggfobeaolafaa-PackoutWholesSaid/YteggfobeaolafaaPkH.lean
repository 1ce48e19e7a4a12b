/-
  The writer's Step: a container opened within a container.
-/
import Derived.Test.YteggfobeaolafaaPkG
namespace Go.Proofs.Yteggfobeaolafaa
open Go.RowKit

set_option maxRecDepth 100000 in
set_option maxHeartbeats 4000000 in
theorem step_begin_top {w : World} {B p : Nat} {v : Value} {M : List Cont} {c : Cont} (h : Wr w B p v (M ++ [c]) false) (hp : c.parts ≤ 1000000) (hML : M.length ≤ 1000000) (m : Bool) (n' : Int) (hn1 : -1 ≤ n') (hf : c.full = false) (ht : c.takes (Part.begin_ m n') = true) (r : List UInt8)
    (hplain : ∀ W, Calls Try.prog 26 #[(Part.begin_ m n').val] W fun e w' => e = .returned (.tuple #[.string (S [0xc0]), .int .i64 0]) ∧ Below W.heap.size W w')
    (hbegin : ∀ W, Calls Try.prog 27 #[.agg #[.bool m, .int .i64 n']] W fun e w' => e = .returned (.tuple #[.string (S r), .int .i64 0]) ∧ Below W.heap.size W w') :
    Calls Try.prog 12 #[.pointer (some ⟨p, 0, none⟩), (Part.begin_ m n').val] w fun e w' => e = .returned (.tuple #[.string (S r), .int .i64 0]) ∧ ∃ v', Wr w' B p v' (M ++ [c.more] ++ [⟨m, n', 0⟩]) false ∧ Only (p :: slB v) w w' ∧ ∀ k ∈ slB v', k ∈ slB v ∨ w.heap.size ≤ k := by
  unfold Cont.takes at ht
  simp only [Part.isWord] at ht
  have t5 := fun W => ta_close (Part.begin_ m n') W
  have t3 := fun W => ta_word (Part.begin_ m n') W
  have t6 := fun W => ta_begin (Part.begin_ m n') W
  simp only [Part.isClose, Part.asWord, Part.isWord, Part.asBegin, Part.isBegin] at t5 t3 t6
  have hmay : (Part.begin_ m n').may = true := by simp only [Part.may]; exact decide_eq_true hn1
  have HCP := fun W => hide (hplain W)
  have HBG := fun W => hide (hbegin W)
  clear hplain hbegin
  obtain ⟨pt, hpt⟩ : ∃ pt, pt = Part.begin_ m n' := ⟨_, rfl⟩
  rw [← hpt] at hmay t5 t3 t6 HCP ⊢
  clear hpt
  cases hpr : c.pairs with
  | false =>
    have HPR := hide hpr
    clear hpr ht
    have hp20 : (c.parts : Int) ≤ 1000000 := by omega
    obtain ⟨n, hn⟩ : ∃ n, n = M.length := ⟨_, rfl⟩
    obtain ⟨g, off, cap, hv, hgl, d0, d1, d2, _, htop, hdrop⟩ := top_some h.2.2 n hn
    have hcap0 := h.2.2
    subst hv
    have hcap := hcap0.cap_le
    rw [List.length_append, List.length_singleton, ← hn] at hcap
    have hn20 : (n : Int) ≤ 1000000 := by omega
    have hn0 : decide ((n : Int) < 0) = false := by simp
    have HB := fun W r hr => hide (between_any c hp W r hr)
    have HF := fun W r hr => hide (full_any c hp W r hr)
    have HN := hide hn
    have HTOP := hide htop
    have HDROP := hide hdrop
    clear hn hML htop hdrop hcap0
    obtain ⟨k5, y5, m5, l5, c5, hev⟩ := ev_form pt
    have HPL := hide (plain_any pt w)
    rw [hev, hmay] at HPL
    unfold evV at HPL
    clear hev hmay
    go_enter Try.func12, Try.ntmps12
    go_wp2_with fail
    refine (unhide HPL).mono ?_
    rintro e w1 ⟨rfl, hb1⟩
    have kw := h.below hb1
    have kc0 := kw.2.1.cellv 0 _ rfl
    have kc1 := kw.2.1.cellv 1 _ rfl
    have kpl := kw.2.1.lt
    clear HPL
    have g0 := (hb1.cell (p := ⟨g, off + n * 3, none⟩) hgl).trans d0
    have g1 := (hb1.cell (p := ⟨g, off + n * 3 + 1, none⟩) hgl).trans d1
    have g2 := (hb1.cell (p := ⟨g, off + n * 3 + 2, none⟩) hgl).trans d2
    have hg1 : g < w1.heap.size := Nat.lt_of_lt_of_le hgl hb1.size
    clear d0 d1 d2
    have KW := hide kw
    clear kw
    have H := fun W => HF W false hf.symm
    have x0 := (Blk.new ((w1.alloc (.cells #[.int .i64 k5, .bool y5, .int .u64 m5, .string (S l5), .int .i64 c5] 34)).alloc (.cells #[] 67)) 72 #[.bool c.pairs, .int .i64 c.count, .int .i64 c.parts]).cellv 0 _ rfl
    have x1 := (Blk.new ((w1.alloc (.cells #[.int .i64 k5, .bool y5, .int .u64 m5, .string (S l5), .int .i64 c5] 34)).alloc (.cells #[] 67)) 72 #[.bool c.pairs, .int .i64 c.count, .int .i64 c.parts]).cellv 1 _ rfl
    have x2 := (Blk.new ((w1.alloc (.cells #[.int .i64 k5, .bool y5, .int .u64 m5, .string (S l5), .int .i64 c5] 34)).alloc (.cells #[] 67)) 72 #[.bool c.pairs, .int .i64 c.count, .int .i64 c.parts]).cellv 2 _ rfl
    have X := hide (And.intro x0 (And.intro x1 x2))
    clear HF hf x0 x1 x2
    go_wp2_with fail
    (with_reducible refine (unhide (H _)).mono ?_)
    rintro e w3 ⟨rfl, hb3⟩
    clear H
    have hb13 : Below w1.heap.size w1 w3 := (Below.more (Below.more (Below.more (Below.refl _ _) (Nat.le_refl _) _) (Nat.le_refl _) _) (Nat.le_refl _) _).trans (hb3.mono (by simp; omega))
    have x0 : w3.cell? ⟨w1.heap.size + 1 + 1, 0, none⟩ = some (.bool c.pairs) := (hb3.cell (p := ⟨w1.heap.size + 1 + 1, 0, none⟩) (by simp)).trans (by simpa using X.out.1)
    have x1 : w3.cell? ⟨w1.heap.size + 1 + 1, 1, none⟩ = some (.int .i64 c.count) := (hb3.cell (p := ⟨w1.heap.size + 1 + 1, 1, none⟩) (by simp)).trans (by simpa using X.out.2.1)
    have x2 : w3.cell? ⟨w1.heap.size + 1 + 1, 2, none⟩ = some (.int .i64 c.parts) := (hb3.cell (p := ⟨w1.heap.size + 1 + 1, 2, none⟩) (by simp)).trans (by simpa using X.out.2.2)
    clear X hb3
    rw [HPR.out] at x0
    have hbW := hb13
    go_wp2_with fail
    (with_reducible refine (unhide (HCP _)).mono ?_)
    rintro e w9 ⟨rfl, hb9⟩
    have hbX := hbW.trans (hb9.mono hbW.size)
    clear hb9 hbW hb13 HB kc0 kc1
    go_wp2_with fail
    (with_reducible refine (unhide (HBG _)).mono ?_)
    rintro e w10 ⟨rfl, hb10⟩
    have hbY : Below w1.heap.size w1 w10 := (Below.more hbX (Nat.le_refl _) _).trans (hb10.mono (by have := hbX.size; simp; omega))
    have bg10 := (Blk.new w9 62 #[.bool m, .int .i64 n']).below hb10 (by simp)
    have q0 := (hbY.cell (p := ⟨g, off + n * 3, none⟩) hg1).trans g0
    have q1 := (hbY.cell (p := ⟨g, off + n * 3 + 1, none⟩) hg1).trans g1
    have q2 := (hbY.cell (p := ⟨g, off + n * 3 + 2, none⟩) hg1).trans g2
    have kq := KW.out.below hbY
    have qc0 := kq.2.1.cellv 0 _ rfl
    have qc1 := kq.2.1.cellv 1 _ rfl
    have qpl := kq.2.1.lt
    have qfz := kq.2.2.fz (off + n * 3 + 2)
    have qgl := Nat.lt_of_lt_of_le hg1 hbY.size
    have qne : g ≠ p := fun e => kq.out (by rw [← e]; simp [slB])
    have hg9 : w9.heap.size ≠ g := by have := hbX.size; omega
    have kq5 : Wr (w10.setCell ⟨g, off + n * 3 + 2, none⟩ (.int .i64 ((c.parts : Int) + 1))) B p (.slice (some ⟨g, off, none⟩) (n + 1) cap) (M ++ [c.more]) false := by
      have h1 := HTOP.out _ kq.2.2
      push_cast at h1
      exact ⟨kq.1, kq.2.1.far (p := ⟨g, off + n * 3 + 2, none⟩) (Ne.symm qne) _, h1⟩
    have bg11 := bg10.far (p := ⟨g, off + n * 3 + 2, none⟩) hg9 (.int .i64 ((c.parts : Int) + 1))
    have KQ := hide kq5
    have BG := hide bg11
    have HBW := hide (hb1.trans (hbY.mono hb1.size))
    clear kq kq5 hbX hbY hb10 g0 g1 g2 bg10 bg11
    go_upto_region 28 with (fail)
    obtain ⟨W6, hW6⟩ : ∃ W6, W6 = w10.setCell ⟨g, off + n * 3 + 2, none⟩ (.int .i64 ((c.parts : Int) + 1)) := ⟨_, rfl⟩
    have kw6 : Wr W6 B p (.slice (some ⟨g, off, none⟩) (n + 1) cap) (M ++ [c.more]) false := by rw [hW6]; exact KQ.out
    have bgX : Blk W6 w9.heap.size 62 #[.bool m, .int .i64 n'] := by rw [hW6]; exact BG.out
    have hon6 : Only (p :: slB (.slice (some ⟨g, off, none⟩) (n + 1) cap)) w W6 := by
      rw [hW6]
      exact ((Only.ofBelow HBW.out).setCell (by simp [slB]) _)
    rw [← hW6]
    have hln : (M ++ [c.more]).length + 1 ≤ 1000002 := by have := HN.out; rw [List.length_append]; simp; omega
    have hgv : w9.heap.size ∉ slB (Value.slice (some ⟨g, off, none⟩) (n + 1) cap) := by simp [slB]; exact hg9
    obtain ⟨vv, hvv⟩ : ∃ vv, vv = Value.slice (some ⟨g, off, none⟩) (n + 1) cap := ⟨_, rfl⟩
    rw [← hvv] at kw6 hon6 hgv ⊢
    have HON := hide hon6
    have KWZ := hide kw6
    have HVV := hide hvv
    clear hvv kw6 hon6 hW6 KQ BG HBW q0 q1 q2 qc0 qc1 qpl qfz qgl qne x0 x1 x2 HTOP KW hg1 kpl hb1 hgl hp20 hn20 hn0 hg9 h hcap
    have kwX := KWZ.out
    refine wp_region_tree (fun W => W.cell? ⟨p, 0, none⟩ = some vv ∧ W.cell? ⟨w9.heap.size, 0, none⟩ = some (.bool m) ∧ W.cell? ⟨w9.heap.size, 1, none⟩ = some (.int .i64 n')) 14 (.take [0, 1, 2, 3, 4, 5, 6, 7, 8, 9] (.step 10 (.step 11 (.step 12 (.step 13 (.step 14 (.fin))))))) (by kernel_rfl) (by kernel_rfl) (by intro _ _ _ _ _ h; exact h) ?_
    refine wpTree_take (⟨kwX.2.1.cellv 0 _ rfl, bgX.cellv 0 _ rfl, bgX.cellv 1 _ rfl⟩) ?_
    simp only [opsAt, List.getElem?_cons_zero, List.getElem?_cons_succ]
    first | (refine wpPureH_step (v := ?_) rfl (fun W hS => ?_) ?_; rotate_left; · (obtain ⟨s1, s2, s3⟩ := hS; (try simp only [Act.put, List.setIfInBounds_toArray, List.set_cons_zero, List.set_cons_succ]); go_simp; with_reducible rfl)) | (refine wpPureH_want (v := ?_) (by rfl) (fun W hS => ?_) ?_; rotate_left; · (obtain ⟨s1, s2, s3⟩ := hS; (try simp only [Act.put, List.setIfInBounds_toArray, List.set_cons_zero, List.set_cons_succ]); go_simp; with_reducible rfl))
    first | (refine wpPureH_step (v := ?_) rfl (fun W hS => ?_) ?_; rotate_left; · (obtain ⟨s1, s2, s3⟩ := hS; (try simp only [Act.put, List.setIfInBounds_toArray, List.set_cons_zero, List.set_cons_succ]); go_simp; with_reducible rfl)) | (refine wpPureH_want (v := ?_) (by rfl) (fun W hS => ?_) ?_; rotate_left; · (obtain ⟨s1, s2, s3⟩ := hS; (try simp only [Act.put, List.setIfInBounds_toArray, List.set_cons_zero, List.set_cons_succ]); go_simp; with_reducible rfl))
    first | (refine wpPureH_step (v := ?_) rfl (fun W hS => ?_) ?_; rotate_left; · (obtain ⟨s1, s2, s3⟩ := hS; (try simp only [Act.put, List.setIfInBounds_toArray, List.set_cons_zero, List.set_cons_succ]); go_simp; with_reducible rfl)) | (refine wpPureH_want (v := ?_) (by rfl) (fun W hS => ?_) ?_; rotate_left; · (obtain ⟨s1, s2, s3⟩ := hS; (try simp only [Act.put, List.setIfInBounds_toArray, List.set_cons_zero, List.set_cons_succ]); go_simp; with_reducible rfl))
    first | (refine wpPureH_step (v := ?_) rfl (fun W hS => ?_) ?_; rotate_left; · (obtain ⟨s1, s2, s3⟩ := hS; (try simp only [Act.put, List.setIfInBounds_toArray, List.set_cons_zero, List.set_cons_succ]); go_simp; with_reducible rfl)) | (refine wpPureH_want (v := ?_) (by rfl) (fun W hS => ?_) ?_; rotate_left; · (obtain ⟨s1, s2, s3⟩ := hS; (try simp only [Act.put, List.setIfInBounds_toArray, List.set_cons_zero, List.set_cons_succ]); go_simp; with_reducible rfl))
    first | (refine wpPureH_step (v := ?_) rfl (fun W hS => ?_) ?_; rotate_left; · (obtain ⟨s1, s2, s3⟩ := hS; (try simp only [Act.put, List.setIfInBounds_toArray, List.set_cons_zero, List.set_cons_succ]); go_simp; with_reducible rfl)) | (refine wpPureH_want (v := ?_) (by rfl) (fun W hS => ?_) ?_; rotate_left; · (obtain ⟨s1, s2, s3⟩ := hS; (try simp only [Act.put, List.setIfInBounds_toArray, List.set_cons_zero, List.set_cons_succ]); go_simp; with_reducible rfl))
    first | (refine wpPureH_step (v := ?_) rfl (fun W hS => ?_) ?_; rotate_left; · (obtain ⟨s1, s2, s3⟩ := hS; (try simp only [Act.put, List.setIfInBounds_toArray, List.set_cons_zero, List.set_cons_succ]); go_simp; with_reducible rfl)) | (refine wpPureH_want (v := ?_) (by rfl) (fun W hS => ?_) ?_; rotate_left; · (obtain ⟨s1, s2, s3⟩ := hS; (try simp only [Act.put, List.setIfInBounds_toArray, List.set_cons_zero, List.set_cons_succ]); go_simp; with_reducible rfl))
    first | (refine wpPureH_step (v := ?_) rfl (fun W hS => ?_) ?_; rotate_left; · (obtain ⟨s1, s2, s3⟩ := hS; (try simp only [Act.put, List.setIfInBounds_toArray, List.set_cons_zero, List.set_cons_succ]); go_simp; with_reducible rfl)) | (refine wpPureH_want (v := ?_) (by rfl) (fun W hS => ?_) ?_; rotate_left; · (obtain ⟨s1, s2, s3⟩ := hS; (try simp only [Act.put, List.setIfInBounds_toArray, List.set_cons_zero, List.set_cons_succ]); go_simp; with_reducible rfl))
    first | (refine wpPureH_step (v := ?_) rfl (fun W hS => ?_) ?_; rotate_left; · (obtain ⟨s1, s2, s3⟩ := hS; (try simp only [Act.put, List.setIfInBounds_toArray, List.set_cons_zero, List.set_cons_succ]); go_simp; with_reducible rfl)) | (refine wpPureH_want (v := ?_) (by rfl) (fun W hS => ?_) ?_; rotate_left; · (obtain ⟨s1, s2, s3⟩ := hS; (try simp only [Act.put, List.setIfInBounds_toArray, List.set_cons_zero, List.set_cons_succ]); go_simp; with_reducible rfl))
    first | (refine wpPureH_step (v := ?_) rfl (fun W hS => ?_) ?_; rotate_left; · (obtain ⟨s1, s2, s3⟩ := hS; (try simp only [Act.put, List.setIfInBounds_toArray, List.set_cons_zero, List.set_cons_succ]); go_simp; with_reducible rfl)) | (refine wpPureH_want (v := ?_) (by rfl) (fun W hS => ?_) ?_; rotate_left; · (obtain ⟨s1, s2, s3⟩ := hS; (try simp only [Act.put, List.setIfInBounds_toArray, List.set_cons_zero, List.set_cons_succ]); go_simp; with_reducible rfl))
    first | (refine wpPureH_step (v := ?_) rfl (fun W hS => ?_) ?_; rotate_left; · (obtain ⟨s1, s2, s3⟩ := hS; (try simp only [Act.put, List.setIfInBounds_toArray, List.set_cons_zero, List.set_cons_succ]); go_simp; with_reducible rfl)) | (refine wpPureH_want (v := ?_) (by rfl) (fun W hS => ?_) ?_; rotate_left; · (obtain ⟨s1, s2, s3⟩ := hS; (try simp only [Act.put, List.setIfInBounds_toArray, List.set_cons_zero, List.set_cons_succ]); go_simp; with_reducible rfl))
    refine wpPureH_nil ?_
    simp only [Act.put, List.setIfInBounds_toArray, List.set_cons_zero, List.set_cons_succ]
    have kw0 := (kwX.alloc (.cells #[.bool m, .int .i64 n', .int .i64 0] 72))
    have bg0 := (bgX.alloc (.cells #[.bool m, .int .i64 n', .int .i64 0] 72))
    have bb0 := Blk.new W6 72 #[.bool m, .int .i64 n', .int .i64 0]
    have hwz : B ≤ W6.heap.size + 1 := by have := kwX.1; have := kwX.2.1.lt; omega
    refine wpTree_step ?_
    simp only [opsAt, List.getElem?_cons_zero, List.getElem?_cons_succ]
    go_wp2_with fail
    refine ⟨.inr ⟨kw0.2.1.cellv 0 _ rfl, bg0.cellv 0 _ rfl, bg0.cellv 1 _ rfl⟩, ?_⟩
    refine wpTree_step ?_
    simp only [opsAt, List.getElem?_cons_zero, List.getElem?_cons_succ]
    refine wpList_append_slN rfl (.tmp 138) (.tmp 144) 25 rfl _ 24 Try.underlying25 info_cont rfl (by decide) kw0.2.2.drew (SlN.oneN (base := 0) (Nat.zero_le _) bb0.drew rfl).src rfl rfl rfl (by intro y hy; simp at hy; rcases hy with rfl | rfl | rfl <;> rfl) (by unfold maxLen; omega) (by omega) (by simp; omega) ?_
    intro v' w' hv' ho' hf'
    have hs1 : SlN w' B 72 3 v' ((M ++ [c.more]) ++ [(⟨m, n', 0⟩ : Cont)]).length (contV ((M ++ [c.more]) ++ [⟨m, n', 0⟩])) := by
      rw [contV_append, List.length_append]
      exact hv'
    have hlt1 : ∀ k ∈ slB vv, k < W6.heap.size := fun k hk => (kwX.2.2.lt k hk).2
    have ho1 : Only (slB vv) W6 w' := ((Only.refl _ W6).alloc _).drew.trans ho'
    have hf1 : ∀ k ∈ slB v', k ∈ slB vv ∨ W6.heap.size ≤ k := fun k hk => (hf' k hk).imp_right fun h => by simp at h; omega
    have bg1 := ho'.blk bg0.drew (fun hk => hgv hk)
    have pb1 := (ho'.blk kw0.2.1.drew kw0.out)
    obtain ⟨ln, hln2⟩ : ∃ ln, ln = ((M ++ [c.more]) ++ [(⟨m, n', 0⟩ : Cont)]).length := ⟨_, rfl⟩
    obtain ⟨a', c', hvf⟩ := hs1.form
    rw [← hln2] at hvf
    clear hln2
    subst hvf
    have hput := kwX.put ho1 hs1 hf1
    have pf := pb1.frozen 0
    have HP := hide hput
    have HF := hide hf1
    clear hput hf1 hs1 hv' hf' ho' ho1 bb0 kw0 kwX bgX bg0 hln
    go_wp2_with fail
    refine ⟨.inr ⟨pb1.cellv 0 _ rfl, bg1.cellv 0 _ rfl, bg1.cellv 1 _ rfl⟩, ?_⟩
    refine wpTree_step ?_
    simp only [opsAt, List.getElem?_cons_zero, List.getElem?_cons_succ]
    go_wp2_with fail
    refine ⟨.inr (⟨pb1.cellv 0 _ rfl, bg1.cellv 0 _ rfl, bg1.cellv 1 _ rfl⟩), ?_⟩
    refine wpTree_step ?_
    simp only [opsAt, List.getElem?_cons_zero, List.getElem?_cons_succ]
    go_wp2_with fail
    refine ⟨.inr (⟨pb1.cellv 0 _ rfl, bg1.cellv 0 _ rfl, bg1.cellv 1 _ rfl⟩), ?_⟩
    have pc := pb1.cellv 0 _ rfl
    refine wpTree_step ?_
    simp only [opsAt, List.getElem?_cons_zero, List.getElem?_cons_succ]
    go_wp2_with fail
    refine ⟨.inl trivial, wpTree_fin ?_⟩
    clear pb1 bg1 pf pc hlt1
    go_wp2_with fail
    go_ret2
    have hvv9 := HVV.out
    subst hvv9
    exact ⟨rfl, _, HP.out.1, HON.out.trans HP.out.2, fun k hk => (HF.out k hk).imp_right (Nat.le_trans HON.out.size)⟩
  | true =>
    rw [hpr] at ht
    have HPR := hide hpr
    have HT := hide ht
    clear hpr ht
    have hbt : c.between = true := by have := HT.out; simpa using this
    have hp20 : (c.parts : Int) ≤ 1000000 := by omega
    obtain ⟨n, hn⟩ : ∃ n, n = M.length := ⟨_, rfl⟩
    obtain ⟨g, off, cap, hv, hgl, d0, d1, d2, _, htop, hdrop⟩ := top_some h.2.2 n hn
    have hcap0 := h.2.2
    subst hv
    have hcap := hcap0.cap_le
    rw [List.length_append, List.length_singleton, ← hn] at hcap
    have hn20 : (n : Int) ≤ 1000000 := by omega
    have hn0 : decide ((n : Int) < 0) = false := by simp
    have HB := fun W r hr => hide (between_any c hp W r hr)
    have HF := fun W r hr => hide (full_any c hp W r hr)
    have HN := hide hn
    have HTOP := hide htop
    have HDROP := hide hdrop
    clear hn hML htop hdrop hcap0
    obtain ⟨k5, y5, m5, l5, c5, hev⟩ := ev_form pt
    have HPL := hide (plain_any pt w)
    rw [hev, hmay] at HPL
    unfold evV at HPL
    clear hev hmay
    go_enter Try.func12, Try.ntmps12
    go_wp2_with fail
    refine (unhide HPL).mono ?_
    rintro e w1 ⟨rfl, hb1⟩
    have kw := h.below hb1
    have kc0 := kw.2.1.cellv 0 _ rfl
    have kc1 := kw.2.1.cellv 1 _ rfl
    have kpl := kw.2.1.lt
    clear HPL
    have g0 := (hb1.cell (p := ⟨g, off + n * 3, none⟩) hgl).trans d0
    have g1 := (hb1.cell (p := ⟨g, off + n * 3 + 1, none⟩) hgl).trans d1
    have g2 := (hb1.cell (p := ⟨g, off + n * 3 + 2, none⟩) hgl).trans d2
    have hg1 : g < w1.heap.size := Nat.lt_of_lt_of_le hgl hb1.size
    clear d0 d1 d2
    have KW := hide kw
    clear kw
    have H := fun W => HF W false hf.symm
    have x0 := (Blk.new ((w1.alloc (.cells #[.int .i64 k5, .bool y5, .int .u64 m5, .string (S l5), .int .i64 c5] 34)).alloc (.cells #[] 67)) 72 #[.bool c.pairs, .int .i64 c.count, .int .i64 c.parts]).cellv 0 _ rfl
    have x1 := (Blk.new ((w1.alloc (.cells #[.int .i64 k5, .bool y5, .int .u64 m5, .string (S l5), .int .i64 c5] 34)).alloc (.cells #[] 67)) 72 #[.bool c.pairs, .int .i64 c.count, .int .i64 c.parts]).cellv 1 _ rfl
    have x2 := (Blk.new ((w1.alloc (.cells #[.int .i64 k5, .bool y5, .int .u64 m5, .string (S l5), .int .i64 c5] 34)).alloc (.cells #[] 67)) 72 #[.bool c.pairs, .int .i64 c.count, .int .i64 c.parts]).cellv 2 _ rfl
    have X := hide (And.intro x0 (And.intro x1 x2))
    clear HF hf x0 x1 x2
    go_wp2_with fail
    (with_reducible refine (unhide (H _)).mono ?_)
    rintro e w3 ⟨rfl, hb3⟩
    clear H
    have hb13 : Below w1.heap.size w1 w3 := (Below.more (Below.more (Below.more (Below.refl _ _) (Nat.le_refl _) _) (Nat.le_refl _) _) (Nat.le_refl _) _).trans (hb3.mono (by simp; omega))
    have x0 : w3.cell? ⟨w1.heap.size + 1 + 1, 0, none⟩ = some (.bool c.pairs) := (hb3.cell (p := ⟨w1.heap.size + 1 + 1, 0, none⟩) (by simp)).trans (by simpa using X.out.1)
    have x1 : w3.cell? ⟨w1.heap.size + 1 + 1, 1, none⟩ = some (.int .i64 c.count) := (hb3.cell (p := ⟨w1.heap.size + 1 + 1, 1, none⟩) (by simp)).trans (by simpa using X.out.2.1)
    have x2 : w3.cell? ⟨w1.heap.size + 1 + 1, 2, none⟩ = some (.int .i64 c.parts) := (hb3.cell (p := ⟨w1.heap.size + 1 + 1, 2, none⟩) (by simp)).trans (by simpa using X.out.2.2)
    clear X hb3
    rw [HPR.out] at x0
    have H2 := HB w3 true hbt.symm
    rw [HPR.out] at H2
    clear hbt
    go_wp2_with fail
    (with_reducible refine (unhide H2).mono ?_)
    rintro e w4 ⟨rfl, hb4⟩
    have hbW := hb13.trans (hb4.mono hb13.size)
    go_wp2_with fail
    (with_reducible refine (unhide (HCP _)).mono ?_)
    rintro e w9 ⟨rfl, hb9⟩
    have hbX := hbW.trans (hb9.mono hbW.size)
    clear hb9 hbW hb13 HB kc0 kc1
    go_wp2_with fail
    (with_reducible refine (unhide (HBG _)).mono ?_)
    rintro e w10 ⟨rfl, hb10⟩
    have hbY : Below w1.heap.size w1 w10 := (Below.more hbX (Nat.le_refl _) _).trans (hb10.mono (by have := hbX.size; simp; omega))
    have bg10 := (Blk.new w9 62 #[.bool m, .int .i64 n']).below hb10 (by simp)
    have q0 := (hbY.cell (p := ⟨g, off + n * 3, none⟩) hg1).trans g0
    have q1 := (hbY.cell (p := ⟨g, off + n * 3 + 1, none⟩) hg1).trans g1
    have q2 := (hbY.cell (p := ⟨g, off + n * 3 + 2, none⟩) hg1).trans g2
    have kq := KW.out.below hbY
    have qc0 := kq.2.1.cellv 0 _ rfl
    have qc1 := kq.2.1.cellv 1 _ rfl
    have qpl := kq.2.1.lt
    have qfz := kq.2.2.fz (off + n * 3 + 2)
    have qgl := Nat.lt_of_lt_of_le hg1 hbY.size
    have qne : g ≠ p := fun e => kq.out (by rw [← e]; simp [slB])
    have hg9 : w9.heap.size ≠ g := by have := hbX.size; omega
    have kq5 : Wr (w10.setCell ⟨g, off + n * 3 + 2, none⟩ (.int .i64 ((c.parts : Int) + 1))) B p (.slice (some ⟨g, off, none⟩) (n + 1) cap) (M ++ [c.more]) false := by
      have h1 := HTOP.out _ kq.2.2
      push_cast at h1
      exact ⟨kq.1, kq.2.1.far (p := ⟨g, off + n * 3 + 2, none⟩) (Ne.symm qne) _, h1⟩
    have bg11 := bg10.far (p := ⟨g, off + n * 3 + 2, none⟩) hg9 (.int .i64 ((c.parts : Int) + 1))
    have KQ := hide kq5
    have BG := hide bg11
    have HBW := hide (hb1.trans (hbY.mono hb1.size))
    clear kq kq5 hbX hbY hb10 g0 g1 g2 bg10 bg11
    go_upto_region 28 with (fail)
    obtain ⟨W6, hW6⟩ : ∃ W6, W6 = w10.setCell ⟨g, off + n * 3 + 2, none⟩ (.int .i64 ((c.parts : Int) + 1)) := ⟨_, rfl⟩
    have kw6 : Wr W6 B p (.slice (some ⟨g, off, none⟩) (n + 1) cap) (M ++ [c.more]) false := by rw [hW6]; exact KQ.out
    have bgX : Blk W6 w9.heap.size 62 #[.bool m, .int .i64 n'] := by rw [hW6]; exact BG.out
    have hon6 : Only (p :: slB (.slice (some ⟨g, off, none⟩) (n + 1) cap)) w W6 := by
      rw [hW6]
      exact ((Only.ofBelow HBW.out).setCell (by simp [slB]) _)
    rw [← hW6]
    have hln : (M ++ [c.more]).length + 1 ≤ 1000002 := by have := HN.out; rw [List.length_append]; simp; omega
    have hgv : w9.heap.size ∉ slB (Value.slice (some ⟨g, off, none⟩) (n + 1) cap) := by simp [slB]; exact hg9
    obtain ⟨vv, hvv⟩ : ∃ vv, vv = Value.slice (some ⟨g, off, none⟩) (n + 1) cap := ⟨_, rfl⟩
    rw [← hvv] at kw6 hon6 hgv ⊢
    have HON := hide hon6
    have KWZ := hide kw6
    have HVV := hide hvv
    clear hvv kw6 hon6 hW6 KQ BG HBW q0 q1 q2 qc0 qc1 qpl qfz qgl qne x0 x1 x2 HTOP KW hg1 kpl hb1 hgl hp20 hn20 hn0 hg9 h hcap
    have kwX := KWZ.out
    refine wp_region_tree (fun W => W.cell? ⟨p, 0, none⟩ = some vv ∧ W.cell? ⟨w9.heap.size, 0, none⟩ = some (.bool m) ∧ W.cell? ⟨w9.heap.size, 1, none⟩ = some (.int .i64 n')) 14 (.take [0, 1, 2, 3, 4, 5, 6, 7, 8, 9] (.step 10 (.step 11 (.step 12 (.step 13 (.step 14 (.fin))))))) (by kernel_rfl) (by kernel_rfl) (by intro _ _ _ _ _ h; exact h) ?_
    refine wpTree_take (⟨kwX.2.1.cellv 0 _ rfl, bgX.cellv 0 _ rfl, bgX.cellv 1 _ rfl⟩) ?_
    simp only [opsAt, List.getElem?_cons_zero, List.getElem?_cons_succ]
    first | (refine wpPureH_step (v := ?_) rfl (fun W hS => ?_) ?_; rotate_left; · (obtain ⟨s1, s2, s3⟩ := hS; (try simp only [Act.put, List.setIfInBounds_toArray, List.set_cons_zero, List.set_cons_succ]); go_simp; with_reducible rfl)) | (refine wpPureH_want (v := ?_) (by rfl) (fun W hS => ?_) ?_; rotate_left; · (obtain ⟨s1, s2, s3⟩ := hS; (try simp only [Act.put, List.setIfInBounds_toArray, List.set_cons_zero, List.set_cons_succ]); go_simp; with_reducible rfl))
    first | (refine wpPureH_step (v := ?_) rfl (fun W hS => ?_) ?_; rotate_left; · (obtain ⟨s1, s2, s3⟩ := hS; (try simp only [Act.put, List.setIfInBounds_toArray, List.set_cons_zero, List.set_cons_succ]); go_simp; with_reducible rfl)) | (refine wpPureH_want (v := ?_) (by rfl) (fun W hS => ?_) ?_; rotate_left; · (obtain ⟨s1, s2, s3⟩ := hS; (try simp only [Act.put, List.setIfInBounds_toArray, List.set_cons_zero, List.set_cons_succ]); go_simp; with_reducible rfl))
    first | (refine wpPureH_step (v := ?_) rfl (fun W hS => ?_) ?_; rotate_left; · (obtain ⟨s1, s2, s3⟩ := hS; (try simp only [Act.put, List.setIfInBounds_toArray, List.set_cons_zero, List.set_cons_succ]); go_simp; with_reducible rfl)) | (refine wpPureH_want (v := ?_) (by rfl) (fun W hS => ?_) ?_; rotate_left; · (obtain ⟨s1, s2, s3⟩ := hS; (try simp only [Act.put, List.setIfInBounds_toArray, List.set_cons_zero, List.set_cons_succ]); go_simp; with_reducible rfl))
    first | (refine wpPureH_step (v := ?_) rfl (fun W hS => ?_) ?_; rotate_left; · (obtain ⟨s1, s2, s3⟩ := hS; (try simp only [Act.put, List.setIfInBounds_toArray, List.set_cons_zero, List.set_cons_succ]); go_simp; with_reducible rfl)) | (refine wpPureH_want (v := ?_) (by rfl) (fun W hS => ?_) ?_; rotate_left; · (obtain ⟨s1, s2, s3⟩ := hS; (try simp only [Act.put, List.setIfInBounds_toArray, List.set_cons_zero, List.set_cons_succ]); go_simp; with_reducible rfl))
    first | (refine wpPureH_step (v := ?_) rfl (fun W hS => ?_) ?_; rotate_left; · (obtain ⟨s1, s2, s3⟩ := hS; (try simp only [Act.put, List.setIfInBounds_toArray, List.set_cons_zero, List.set_cons_succ]); go_simp; with_reducible rfl)) | (refine wpPureH_want (v := ?_) (by rfl) (fun W hS => ?_) ?_; rotate_left; · (obtain ⟨s1, s2, s3⟩ := hS; (try simp only [Act.put, List.setIfInBounds_toArray, List.set_cons_zero, List.set_cons_succ]); go_simp; with_reducible rfl))
    first | (refine wpPureH_step (v := ?_) rfl (fun W hS => ?_) ?_; rotate_left; · (obtain ⟨s1, s2, s3⟩ := hS; (try simp only [Act.put, List.setIfInBounds_toArray, List.set_cons_zero, List.set_cons_succ]); go_simp; with_reducible rfl)) | (refine wpPureH_want (v := ?_) (by rfl) (fun W hS => ?_) ?_; rotate_left; · (obtain ⟨s1, s2, s3⟩ := hS; (try simp only [Act.put, List.setIfInBounds_toArray, List.set_cons_zero, List.set_cons_succ]); go_simp; with_reducible rfl))
    first | (refine wpPureH_step (v := ?_) rfl (fun W hS => ?_) ?_; rotate_left; · (obtain ⟨s1, s2, s3⟩ := hS; (try simp only [Act.put, List.setIfInBounds_toArray, List.set_cons_zero, List.set_cons_succ]); go_simp; with_reducible rfl)) | (refine wpPureH_want (v := ?_) (by rfl) (fun W hS => ?_) ?_; rotate_left; · (obtain ⟨s1, s2, s3⟩ := hS; (try simp only [Act.put, List.setIfInBounds_toArray, List.set_cons_zero, List.set_cons_succ]); go_simp; with_reducible rfl))
    first | (refine wpPureH_step (v := ?_) rfl (fun W hS => ?_) ?_; rotate_left; · (obtain ⟨s1, s2, s3⟩ := hS; (try simp only [Act.put, List.setIfInBounds_toArray, List.set_cons_zero, List.set_cons_succ]); go_simp; with_reducible rfl)) | (refine wpPureH_want (v := ?_) (by rfl) (fun W hS => ?_) ?_; rotate_left; · (obtain ⟨s1, s2, s3⟩ := hS; (try simp only [Act.put, List.setIfInBounds_toArray, List.set_cons_zero, List.set_cons_succ]); go_simp; with_reducible rfl))
    first | (refine wpPureH_step (v := ?_) rfl (fun W hS => ?_) ?_; rotate_left; · (obtain ⟨s1, s2, s3⟩ := hS; (try simp only [Act.put, List.setIfInBounds_toArray, List.set_cons_zero, List.set_cons_succ]); go_simp; with_reducible rfl)) | (refine wpPureH_want (v := ?_) (by rfl) (fun W hS => ?_) ?_; rotate_left; · (obtain ⟨s1, s2, s3⟩ := hS; (try simp only [Act.put, List.setIfInBounds_toArray, List.set_cons_zero, List.set_cons_succ]); go_simp; with_reducible rfl))
    first | (refine wpPureH_step (v := ?_) rfl (fun W hS => ?_) ?_; rotate_left; · (obtain ⟨s1, s2, s3⟩ := hS; (try simp only [Act.put, List.setIfInBounds_toArray, List.set_cons_zero, List.set_cons_succ]); go_simp; with_reducible rfl)) | (refine wpPureH_want (v := ?_) (by rfl) (fun W hS => ?_) ?_; rotate_left; · (obtain ⟨s1, s2, s3⟩ := hS; (try simp only [Act.put, List.setIfInBounds_toArray, List.set_cons_zero, List.set_cons_succ]); go_simp; with_reducible rfl))
    refine wpPureH_nil ?_
    simp only [Act.put, List.setIfInBounds_toArray, List.set_cons_zero, List.set_cons_succ]
    have kw0 := (kwX.alloc (.cells #[.bool m, .int .i64 n', .int .i64 0] 72))
    have bg0 := (bgX.alloc (.cells #[.bool m, .int .i64 n', .int .i64 0] 72))
    have bb0 := Blk.new W6 72 #[.bool m, .int .i64 n', .int .i64 0]
    have hwz : B ≤ W6.heap.size + 1 := by have := kwX.1; have := kwX.2.1.lt; omega
    refine wpTree_step ?_
    simp only [opsAt, List.getElem?_cons_zero, List.getElem?_cons_succ]
    go_wp2_with fail
    refine ⟨.inr ⟨kw0.2.1.cellv 0 _ rfl, bg0.cellv 0 _ rfl, bg0.cellv 1 _ rfl⟩, ?_⟩
    refine wpTree_step ?_
    simp only [opsAt, List.getElem?_cons_zero, List.getElem?_cons_succ]
    refine wpList_append_slN rfl (.tmp 138) (.tmp 144) 25 rfl _ 24 Try.underlying25 info_cont rfl (by decide) kw0.2.2.drew (SlN.oneN (base := 0) (Nat.zero_le _) bb0.drew rfl).src rfl rfl rfl (by intro y hy; simp at hy; rcases hy with rfl | rfl | rfl <;> rfl) (by unfold maxLen; omega) (by omega) (by simp; omega) ?_
    intro v' w' hv' ho' hf'
    have hs1 : SlN w' B 72 3 v' ((M ++ [c.more]) ++ [(⟨m, n', 0⟩ : Cont)]).length (contV ((M ++ [c.more]) ++ [⟨m, n', 0⟩])) := by
      rw [contV_append, List.length_append]
      exact hv'
    have hlt1 : ∀ k ∈ slB vv, k < W6.heap.size := fun k hk => (kwX.2.2.lt k hk).2
    have ho1 : Only (slB vv) W6 w' := ((Only.refl _ W6).alloc _).drew.trans ho'
    have hf1 : ∀ k ∈ slB v', k ∈ slB vv ∨ W6.heap.size ≤ k := fun k hk => (hf' k hk).imp_right fun h => by simp at h; omega
    have bg1 := ho'.blk bg0.drew (fun hk => hgv hk)
    have pb1 := (ho'.blk kw0.2.1.drew kw0.out)
    obtain ⟨ln, hln2⟩ : ∃ ln, ln = ((M ++ [c.more]) ++ [(⟨m, n', 0⟩ : Cont)]).length := ⟨_, rfl⟩
    obtain ⟨a', c', hvf⟩ := hs1.form
    rw [← hln2] at hvf
    clear hln2
    subst hvf
    have hput := kwX.put ho1 hs1 hf1
    have pf := pb1.frozen 0
    have HP := hide hput
    have HF := hide hf1
    clear hput hf1 hs1 hv' hf' ho' ho1 bb0 kw0 kwX bgX bg0 hln
    go_wp2_with fail
    refine ⟨.inr ⟨pb1.cellv 0 _ rfl, bg1.cellv 0 _ rfl, bg1.cellv 1 _ rfl⟩, ?_⟩
    refine wpTree_step ?_
    simp only [opsAt, List.getElem?_cons_zero, List.getElem?_cons_succ]
    go_wp2_with fail
    refine ⟨.inr (⟨pb1.cellv 0 _ rfl, bg1.cellv 0 _ rfl, bg1.cellv 1 _ rfl⟩), ?_⟩
    refine wpTree_step ?_
    simp only [opsAt, List.getElem?_cons_zero, List.getElem?_cons_succ]
    go_wp2_with fail
    refine ⟨.inr (⟨pb1.cellv 0 _ rfl, bg1.cellv 0 _ rfl, bg1.cellv 1 _ rfl⟩), ?_⟩
    have pc := pb1.cellv 0 _ rfl
    refine wpTree_step ?_
    simp only [opsAt, List.getElem?_cons_zero, List.getElem?_cons_succ]
    go_wp2_with fail
    refine ⟨.inl trivial, wpTree_fin ?_⟩
    clear pb1 bg1 pf pc hlt1
    go_wp2_with fail
    go_ret2
    have hvv9 := HVV.out
    subst hvv9
    exact ⟨rfl, _, HP.out.1, HON.out.trans HP.out.2, fun k hk => (HF.out k hk).imp_right (Nat.le_trans HON.out.size)⟩
end Go.Proofs.Yteggfobeaolafaa
