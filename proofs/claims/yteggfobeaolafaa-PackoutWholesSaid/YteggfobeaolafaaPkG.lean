/-
  The writer's Step: a container opened at the top level.
-/
import Derived.Test.YteggfobeaolafaaPkE
namespace Go.Proofs.Yteggfobeaolafaa
open Go.RowKit

theorem info_cont : (Try.prog.info? 72).map (fun i => (i.zero, i.size, i.bytes)) = some (some (.agg #[.bool false, .int .i64 0, .int .i64 0]), 3, 24) := by kernel_rfl
section
variable {w : World} {B p : Nat} {v : Value} {L : List Cont} {d : Bool}
theorem Wr.put {W : World} {v' : Value} {L' : List Cont} (h : Wr w B p v L d) (ho : Only (slB v) w W) (hs : SlN W B 72 3 v' L'.length (contV L')) (hf : ∀ k ∈ slB v', k ∈ slB v ∨ w.heap.size ≤ k) :
    Wr (W.setCell ⟨p, 0, none⟩ v') B p v' L' d ∧ Only (p :: slB v) w (W.setCell ⟨p, 0, none⟩ v') := by
  have hp := ho.blk h.2.1 h.out
  have hpv : p ∉ slB v' := fun hk => by
    rcases hf p hk with h1 | h1
    · exact h.out h1
    · have := h.2.1.lt; omega
  exact ⟨⟨h.1, hp.set_ 0 v', hs.far (p := ⟨p, 0, none⟩) hpv v'⟩, (ho.mono (fun k hk => List.mem_cons_of_mem _ hk)).setCell (by simp) v'⟩
end
set_option maxRecDepth 100000 in
set_option maxHeartbeats 2000000 in
theorem step_begin_nil {w : World} {B p : Nat} {v : Value} (h : Wr w B p v [] false) (m : Bool) (n' : Int) (hn1 : -1 ≤ n') (r : List UInt8)
    (hplain : ∀ W, Calls Try.prog 26 #[(Part.begin_ m n').val] W fun e w' => e = .returned (.tuple #[.string (S [0xc0]), .int .i64 0]) ∧ Below W.heap.size W w')
    (hbegin : ∀ W, Calls Try.prog 27 #[.agg #[.bool m, .int .i64 n']] W fun e w' => e = .returned (.tuple #[.string (S r), .int .i64 0]) ∧ Below W.heap.size W w') :
    Calls Try.prog 12 #[.pointer (some ⟨p, 0, none⟩), (Part.begin_ m n').val] w fun e w' => e = .returned (.tuple #[.string (S r), .int .i64 0]) ∧ ∃ v', Wr w' B p v' ([] ++ [⟨m, n', 0⟩]) false ∧ Only (p :: slB v) w w' ∧ ∀ k ∈ slB v', k ∈ slB v ∨ w.heap.size ≤ k := by
  have t5 := fun W => ta_close (Part.begin_ m n') W
  have t3 := fun W => ta_word (Part.begin_ m n') W
  have t6 := fun W => ta_begin (Part.begin_ m n') W
  simp only [Part.isClose, Part.asWord, Part.isWord, Part.asBegin, Part.isBegin] at t5 t3 t6
  have hmay : (Part.begin_ m n').may = true := by simp only [Part.may]; exact decide_eq_true hn1
  have HCP := fun W => hide (hplain W)
  have HBG := fun W => hide (hbegin W)
  clear hplain hbegin
  obtain ⟨pt, hpt⟩ : ∃ pt, pt = Part.begin_ m n' := ⟨_, rfl⟩
  rw [← hpt] at hmay t5 t3 t6 HCP ⊢
  clear hpt
  obtain ⟨a9, c9, rfl⟩ := h.2.2.form
  obtain ⟨k5, y5, m5, l5, c5, hev⟩ := ev_form pt
  have HPL := hide (plain_any pt w)
  rw [hev, hmay] at HPL
  unfold evV at HPL
  clear hev hmay
  go_enter Try.func12, Try.ntmps12
  go_wp2_with fail
  refine (unhide HPL).mono ?_
  rintro e w1 ⟨rfl, hb1⟩
  have kw := h.below hb1
  have kc0 := kw.2.1.cellv 0 _ rfl
  have kc1 := kw.2.1.cellv 1 _ rfl
  have kpl := kw.2.1.lt
  clear HPL
  have KW := hide kw
  clear kw
  go_wp2_with fail
  (with_reducible refine (unhide (HCP _)).mono ?_)
  rintro e w3 ⟨rfl, hb3⟩
  have hbx : Below w1.heap.size w1 w3 := (Below.more (Below.more (Below.refl _ _) (Nat.le_refl _) _) (Nat.le_refl _) _).trans (hb3.mono (by simp; omega))
  go_wp2_with fail
  (with_reducible refine (unhide (HBG _)).mono ?_)
  rintro e w4 ⟨rfl, hb4⟩
  have hby : Below w1.heap.size w1 w4 := (Below.more hbx (Nat.le_refl _) _).trans (hb4.mono (by have := hbx.size; simp; omega))
  have kw4 := KW.out.below hby
  have hc0 := kw4.2.1.cellv 0 _ rfl
  have bgX := (Blk.new w3 62 #[.bool m, .int .i64 n']).below hb4 (by simp)
  have hln : ([] : List Cont).length + 1 ≤ 1000002 := by simp
  go_upto_region 28 with (fail)
  obtain ⟨vv, hvv⟩ : ∃ vv, vv = Value.slice a9 ([] : List Cont).length c9 := ⟨_, rfl⟩
  have hgv : w3.heap.size ∉ slB vv := fun hk => by
    rw [hvv] at hk
    have := (KW.out.2.2.lt _ hk).2
    have := hbx.size
    omega
  have hon : Only (p :: slB (Value.slice a9 ([] : List Cont).length c9)) w w4 := Only.ofBelow (hb1.trans (hby.mono hb1.size))
  rw [← hvv] at kw4 hon
  have hvv0 : vv = Value.slice a9 0 c9 := hvv
  rw [← hvv0]
  clear hvv0
  have HON := hide hon
  have KWZ := hide kw4
  have HVV := hide hvv
  clear hvv kw4 hon hc0 KW hb1 hbx hby hb3 hb4 h
  have kwX := KWZ.out
  refine wp_region_tree (fun W => W.cell? ⟨p, 0, none⟩ = some vv ∧ W.cell? ⟨w3.heap.size, 0, none⟩ = some (.bool m) ∧ W.cell? ⟨w3.heap.size, 1, none⟩ = some (.int .i64 n')) 14 (.take [0, 1, 2, 3, 4, 5, 6, 7, 8, 9] (.step 10 (.step 11 (.step 12 (.step 13 (.step 14 (.fin))))))) (by kernel_rfl) (by kernel_rfl) (by intro _ _ _ _ _ h; exact h) ?_
  refine wpTree_take (⟨kwX.2.1.cellv 0 _ rfl, bgX.cellv 0 _ rfl, bgX.cellv 1 _ rfl⟩) ?_
  simp only [opsAt, List.getElem?_cons_zero, List.getElem?_cons_succ]
  first | (refine wpPureH_step (v := ?_) rfl (fun W hS => ?_) ?_; rotate_left; · (obtain ⟨s1, s2, s3⟩ := hS; (try simp only [Act.put, List.setIfInBounds_toArray, List.set_cons_zero, List.set_cons_succ]); go_simp; with_reducible rfl)) | (refine wpPureH_want (v := ?_) (by rfl) (fun W hS => ?_) ?_; rotate_left; · (obtain ⟨s1, s2, s3⟩ := hS; (try simp only [Act.put, List.setIfInBounds_toArray, List.set_cons_zero, List.set_cons_succ]); go_simp; with_reducible rfl))
  first | (refine wpPureH_step (v := ?_) rfl (fun W hS => ?_) ?_; rotate_left; · (obtain ⟨s1, s2, s3⟩ := hS; (try simp only [Act.put, List.setIfInBounds_toArray, List.set_cons_zero, List.set_cons_succ]); go_simp; with_reducible rfl)) | (refine wpPureH_want (v := ?_) (by rfl) (fun W hS => ?_) ?_; rotate_left; · (obtain ⟨s1, s2, s3⟩ := hS; (try simp only [Act.put, List.setIfInBounds_toArray, List.set_cons_zero, List.set_cons_succ]); go_simp; with_reducible rfl))
  first | (refine wpPureH_step (v := ?_) rfl (fun W hS => ?_) ?_; rotate_left; · (obtain ⟨s1, s2, s3⟩ := hS; (try simp only [Act.put, List.setIfInBounds_toArray, List.set_cons_zero, List.set_cons_succ]); go_simp; with_reducible rfl)) | (refine wpPureH_want (v := ?_) (by rfl) (fun W hS => ?_) ?_; rotate_left; · (obtain ⟨s1, s2, s3⟩ := hS; (try simp only [Act.put, List.setIfInBounds_toArray, List.set_cons_zero, List.set_cons_succ]); go_simp; with_reducible rfl))
  first | (refine wpPureH_step (v := ?_) rfl (fun W hS => ?_) ?_; rotate_left; · (obtain ⟨s1, s2, s3⟩ := hS; (try simp only [Act.put, List.setIfInBounds_toArray, List.set_cons_zero, List.set_cons_succ]); go_simp; with_reducible rfl)) | (refine wpPureH_want (v := ?_) (by rfl) (fun W hS => ?_) ?_; rotate_left; · (obtain ⟨s1, s2, s3⟩ := hS; (try simp only [Act.put, List.setIfInBounds_toArray, List.set_cons_zero, List.set_cons_succ]); go_simp; with_reducible rfl))
  first | (refine wpPureH_step (v := ?_) rfl (fun W hS => ?_) ?_; rotate_left; · (obtain ⟨s1, s2, s3⟩ := hS; (try simp only [Act.put, List.setIfInBounds_toArray, List.set_cons_zero, List.set_cons_succ]); go_simp; with_reducible rfl)) | (refine wpPureH_want (v := ?_) (by rfl) (fun W hS => ?_) ?_; rotate_left; · (obtain ⟨s1, s2, s3⟩ := hS; (try simp only [Act.put, List.setIfInBounds_toArray, List.set_cons_zero, List.set_cons_succ]); go_simp; with_reducible rfl))
  first | (refine wpPureH_step (v := ?_) rfl (fun W hS => ?_) ?_; rotate_left; · (obtain ⟨s1, s2, s3⟩ := hS; (try simp only [Act.put, List.setIfInBounds_toArray, List.set_cons_zero, List.set_cons_succ]); go_simp; with_reducible rfl)) | (refine wpPureH_want (v := ?_) (by rfl) (fun W hS => ?_) ?_; rotate_left; · (obtain ⟨s1, s2, s3⟩ := hS; (try simp only [Act.put, List.setIfInBounds_toArray, List.set_cons_zero, List.set_cons_succ]); go_simp; with_reducible rfl))
  first | (refine wpPureH_step (v := ?_) rfl (fun W hS => ?_) ?_; rotate_left; · (obtain ⟨s1, s2, s3⟩ := hS; (try simp only [Act.put, List.setIfInBounds_toArray, List.set_cons_zero, List.set_cons_succ]); go_simp; with_reducible rfl)) | (refine wpPureH_want (v := ?_) (by rfl) (fun W hS => ?_) ?_; rotate_left; · (obtain ⟨s1, s2, s3⟩ := hS; (try simp only [Act.put, List.setIfInBounds_toArray, List.set_cons_zero, List.set_cons_succ]); go_simp; with_reducible rfl))
  first | (refine wpPureH_step (v := ?_) rfl (fun W hS => ?_) ?_; rotate_left; · (obtain ⟨s1, s2, s3⟩ := hS; (try simp only [Act.put, List.setIfInBounds_toArray, List.set_cons_zero, List.set_cons_succ]); go_simp; with_reducible rfl)) | (refine wpPureH_want (v := ?_) (by rfl) (fun W hS => ?_) ?_; rotate_left; · (obtain ⟨s1, s2, s3⟩ := hS; (try simp only [Act.put, List.setIfInBounds_toArray, List.set_cons_zero, List.set_cons_succ]); go_simp; with_reducible rfl))
  first | (refine wpPureH_step (v := ?_) rfl (fun W hS => ?_) ?_; rotate_left; · (obtain ⟨s1, s2, s3⟩ := hS; (try simp only [Act.put, List.setIfInBounds_toArray, List.set_cons_zero, List.set_cons_succ]); go_simp; with_reducible rfl)) | (refine wpPureH_want (v := ?_) (by rfl) (fun W hS => ?_) ?_; rotate_left; · (obtain ⟨s1, s2, s3⟩ := hS; (try simp only [Act.put, List.setIfInBounds_toArray, List.set_cons_zero, List.set_cons_succ]); go_simp; with_reducible rfl))
  first | (refine wpPureH_step (v := ?_) rfl (fun W hS => ?_) ?_; rotate_left; · (obtain ⟨s1, s2, s3⟩ := hS; (try simp only [Act.put, List.setIfInBounds_toArray, List.set_cons_zero, List.set_cons_succ]); go_simp; with_reducible rfl)) | (refine wpPureH_want (v := ?_) (by rfl) (fun W hS => ?_) ?_; rotate_left; · (obtain ⟨s1, s2, s3⟩ := hS; (try simp only [Act.put, List.setIfInBounds_toArray, List.set_cons_zero, List.set_cons_succ]); go_simp; with_reducible rfl))
  refine wpPureH_nil ?_
  simp only [Act.put, List.setIfInBounds_toArray, List.set_cons_zero, List.set_cons_succ]
  have kw0 := (kwX.alloc (.cells #[.bool m, .int .i64 n', .int .i64 0] 72))
  have bg0 := (bgX.alloc (.cells #[.bool m, .int .i64 n', .int .i64 0] 72))
  have bb0 := Blk.new w4 72 #[.bool m, .int .i64 n', .int .i64 0]
  have hwz : B ≤ w4.heap.size + 1 := by have := kwX.1; have := kwX.2.1.lt; omega
  refine wpTree_step ?_
  simp only [opsAt, List.getElem?_cons_zero, List.getElem?_cons_succ]
  go_wp2_with fail
  refine ⟨.inr ⟨kw0.2.1.cellv 0 _ rfl, bg0.cellv 0 _ rfl, bg0.cellv 1 _ rfl⟩, ?_⟩
  refine wpTree_step ?_
  simp only [opsAt, List.getElem?_cons_zero, List.getElem?_cons_succ]
  refine wpList_append_slN rfl (.tmp 138) (.tmp 144) 25 rfl _ 24 Try.underlying25 info_cont rfl (by decide) kw0.2.2.drew (SlN.oneN (base := 0) (Nat.zero_le _) bb0.drew rfl).src rfl rfl rfl (by intro y hy; simp at hy; rcases hy with rfl | rfl | rfl <;> rfl) (by unfold maxLen; omega) (by omega) (by simp; omega) ?_
  intro v' w' hv' ho' hf'
  have hs1 : SlN w' B 72 3 v' (([] : List Cont) ++ [(⟨m, n', 0⟩ : Cont)]).length (contV (([] : List Cont) ++ [⟨m, n', 0⟩])) := by
    rw [contV_append, List.length_append]
    exact hv'
  have hlt1 : ∀ k ∈ slB vv, k < w4.heap.size := fun k hk => (kwX.2.2.lt k hk).2
  have ho1 : Only (slB vv) w4 w' := ((Only.refl _ w4).alloc _).drew.trans ho'
  have hf1 : ∀ k ∈ slB v', k ∈ slB vv ∨ w4.heap.size ≤ k := fun k hk => (hf' k hk).imp_right fun h => by simp at h; omega
  have bg1 := ho'.blk bg0.drew (fun hk => hgv hk)
  have pb1 := (ho'.blk kw0.2.1.drew kw0.out)
  obtain ⟨ln, hln2⟩ : ∃ ln, ln = (([] : List Cont) ++ [(⟨m, n', 0⟩ : Cont)]).length := ⟨_, rfl⟩
  obtain ⟨a', c', hvf⟩ := hs1.form
  rw [← hln2] at hvf
  clear hln2
  subst hvf
  have hput := kwX.put ho1 hs1 hf1
  have pf := pb1.frozen 0
  have HP := hide hput
  have HF := hide hf1
  clear hput hf1 hs1 hv' hf' ho' ho1 bb0 kw0 kwX bgX bg0 hln
  go_wp2_with fail
  refine ⟨.inr ⟨pb1.cellv 0 _ rfl, bg1.cellv 0 _ rfl, bg1.cellv 1 _ rfl⟩, ?_⟩
  refine wpTree_step ?_
  simp only [opsAt, List.getElem?_cons_zero, List.getElem?_cons_succ]
  go_wp2_with fail
  refine ⟨.inr (⟨pb1.cellv 0 _ rfl, bg1.cellv 0 _ rfl, bg1.cellv 1 _ rfl⟩), ?_⟩
  refine wpTree_step ?_
  simp only [opsAt, List.getElem?_cons_zero, List.getElem?_cons_succ]
  go_wp2_with fail
  refine ⟨.inr (⟨pb1.cellv 0 _ rfl, bg1.cellv 0 _ rfl, bg1.cellv 1 _ rfl⟩), ?_⟩
  have pc := pb1.cellv 0 _ rfl
  refine wpTree_step ?_
  simp only [opsAt, List.getElem?_cons_zero, List.getElem?_cons_succ]
  go_wp2_with fail
  refine ⟨.inl trivial, wpTree_fin ?_⟩
  clear pb1 bg1 pf pc hlt1
  go_wp2_with fail
  go_ret2
  have hvv9 := HVV.out
  subst hvv9
  exact ⟨rfl, _, HP.out.1, HON.out.trans HP.out.2, fun k hk => (HF.out k hk).imp_right (Nat.le_trans HON.out.size)⟩
end Go.Proofs.Yteggfobeaolafaa
