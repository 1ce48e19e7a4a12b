/-
  The reference's Step: a part that is no container, within a map (a value).
-/
import Derived.Test.YteggfobeaolafaaPkT
namespace Go.Proofs.Yteggfobeaolafaa
open Go.RowKit
set_option maxRecDepth 100000 in
set_option maxHeartbeats 4000000 in
theorem refstep_plain_topB {w : World} {B p : Nat} {v : Value} {M : List Cont} {c : Cont} (h : RWr w B p v (M ++ [c]) false) (hp20 : c.parts ≤ 1000000) (hML : M.length ≤ 1000000) (e : EvM) (hok : e.ok) (pt : Part) (hpt : e.part = some pt) (hcl : pt.isClose = false) (hbg : pt.isBegin = false) (hi : c.inv) (hf : c.full = false) (ht : c.takes pt = true) (r : List UInt8) (hr : (r, 0) = plainR pt) (hpr : c.pairs = true) (hkd : c.between = true) :
    Calls Try.prog 13 #[.pointer (some ⟨p, 0, none⟩), .agg e.cells] w fun r' w' => r' = .returned (.tuple #[.string (S r), .int .i64 0]) ∧ ∃ v', RWr w' B p v' (M ++ [c.more]) false ∧ Only [p] w w' ∧ ∀ k ∈ slB v', k ∈ slB v ∨ w.heap.size ≤ k := by
  obtain ⟨pr, cn, ps⟩ := c
  have hroom := hide (room_t pr cn ps hi hf)
  have hp21 : (ps : Int) ≤ 1000000 := by simp only at hp20; omega
  have hk := part_plain hpt hbg hcl
  have hrl : r.length ≤ 1000010 := by
    have h9 := partR_length (EvM.fits hok hpt)
    have h8 : partR pt = plainR pt := by cases pt <;> first | rfl | simp [Part.isBegin] at hbg
    rw [h8, ← hr] at h9
    exact h9
  obtain ⟨k, y, m, l, c5⟩ := e
  obtain ⟨hk0, hk4, hkw⟩ := hk
  simp only at hk0 hk4 hkw
  have hk7 : (k == 7) = false := by simp; omega
  have hk5 : (k == 5) = false := by simp; omega
  have hk6 : (k == 6) = false := by simp; omega
  simp only [EvM.cells, evV]
  simp only at hpr
  subst hpr
  have t4 : ((ps : Int) % 2 == 0) = false := by simp [Cont.between] at hkd; simp; omega
  clear hf hp20 ht hi hkw
  obtain ⟨n, hn⟩ : ∃ n, n = M.length := ⟨_, rfl⟩
  obtain ⟨g, off, cap, hv, hgl, d0, d1, d2, t7, t8, t9⟩ := top_some h.2.2 n hn
  subst hv
  have c1 := h.2.1.cellv 1 _ rfl
  have hpl := h.2.1.lt
  have hn20 : (n : Int) ≤ 1000000 := by omega
  have HN := hide hn
  clear hn hML t7 t8 t9
  have hn1 : ((n : Int) + 1 == 0) = false := by simp; omega
  have HLN : Hid (n + 1 = (M ++ [(⟨true, cn, ps⟩ : Cont)]).length) := hide (by simp [HN.out])
  have hn19 : n ≤ 1000000 := by omega
  have HM0 := fun W => refmay_any ⟨k, y, m, l, c5⟩ W true (by rw [hpt]; rfl)
  have HP0 := fun W => refplain_any ⟨k, y, m, l, c5⟩ pt hpt hbg hcl hok r 0 hr W
  simp only [EvM.cells, evV] at HM0 HP0
  have HM := fun W => hide (HM0 W)
  have HP := fun W => hide (HP0 W)
  have hadd := run_add_S (P := Try.prog) [] r (by simp; omega)
  rw [List.nil_append] at hadd
  clear HM0 HP0 hpt hok hr
  go_enter Try.func13, Try.ntmps13
  go_wp2_with fail
  (with_reducible refine (unhide (HM _)).mono ?_)
  rintro e w1 ⟨rfl, hb1⟩
  have kw := (h.alloc (.cells #[.int .i64 k, .bool y, .int .u64 m, .string (S l), .int .i64 c5] 34)).below hb1
  have bx := (Blk.new w 34 #[.int .i64 k, .bool y, .int .u64 m, .string (S l), .int .i64 c5]).below hb1 (by simp)
  have HB1 : Hid (Below w.heap.size w w1) := hide (((Below.refl _ _).alloc (Nat.le_refl _) _).trans (hb1.mono (by simp)))
  have kc0 := kw.2.1.cellv 0 _ rfl
  have kc1 := kw.2.1.cellv 1 _ rfl
  have kc2 := kw.2.1.cellv 2 _ rfl
  have kpl := kw.2.1.lt
  have bc0 := bx.cellv 0 _ rfl
  have bpl := bx.lt
  have KW := hide kw
  have BX := hide bx
  clear HM hb1 c1 bx kw h
  have hg1 : g < w1.heap.size := Nat.lt_of_lt_of_le hgl HB1.out.size
  have e0 := (HB1.out.cell (p := ⟨g, off + n * 3, none⟩) hgl).trans d0
  have e1 := (HB1.out.cell (p := ⟨g, off + n * 3 + 1, none⟩) hgl).trans d1
  have e2 := (HB1.out.cell (p := ⟨g, off + n * 3 + 2, none⟩) hgl).trans d2
  clear d0 d1 d2
  go_upto_if 129 with (fail)
  go_cut [9] (fun s9 wx => s9 = .string (S []) ∧ Below w1.heap.size w1 wx)
  case first =>
    rcases hroom.out with t1 | ⟨t1, t2⟩ | ⟨t1, t2, t3⟩
    · go_wp2_with fail
      all_goals
        go_meet
        exact ⟨rfl, Below.more (Below.refl _ _) (Nat.le_refl _) _⟩
    · go_wp2_with fail
      all_goals
        go_meet
        exact ⟨rfl, Below.more (Below.refl _ _) (Nat.le_refl _) _⟩
    · simp only [if_true] at t3
      go_wp2_with fail
      all_goals
        go_meet
        exact ⟨rfl, Below.more (Below.refl _ _) (Nat.le_refl _) _⟩
  case rest =>
    obtain ⟨rfl, hbx⟩ := hcut
    have kwz := KW.out.below hbx
    have bxz := BX.out.below hbx bpl
    have HBX : Hid (Below w.heap.size w wc) := hide (HB1.out.trans (hbx.mono HB1.out.size))
    clear kc0 kc1 kc2 bc0 e0 e1 e2 hbx
    have yk : wc.cell? ⟨w.heap.size, 0, none⟩ = some (.int .i64 k) := bxz.cellv 0 _ rfl
    go_upto_region 61 with (fail)
    clear yk
    have z0 := kwz.2.1.cellv 0 _ rfl
    have y0 : wc.cell? ⟨w.heap.size, 0, none⟩ = some (.int .i64 k) := bxz.cellv 0 _ rfl
    have y1 : wc.cell? ⟨w.heap.size, 1, none⟩ = some (.bool y) := bxz.cellv 1 _ rfl
    have y2 : wc.cell? ⟨w.heap.size, 2, none⟩ = some (.int .u64 m) := bxz.cellv 2 _ rfl
    have y3 : wc.cell? ⟨w.heap.size, 3, none⟩ = some (.string (S l)) := bxz.cellv 3 _ rfl
    have y4 : wc.cell? ⟨w.heap.size, 4, none⟩ = some (.int .i64 c5) := bxz.cellv 4 _ rfl
    refine wp_region_tree (fun W => W.cell? ⟨p, 0, none⟩ = some (.int .i64 3) ∧ W.cell? ⟨w.heap.size, 0, none⟩ = some (.int .i64 k) ∧ W.cell? ⟨w.heap.size, 1, none⟩ = some (.bool y) ∧ W.cell? ⟨w.heap.size, 2, none⟩ = some (.int .u64 m) ∧ W.cell? ⟨w.heap.size, 3, none⟩ = some (.string (S l)) ∧ W.cell? ⟨w.heap.size, 4, none⟩ = some (.int .i64 c5)) 11 (.take [0, 1, 2, 3, 4] (.step 5 (.step 6 (.take [7, 8] (.step 9 (.step 10 (.fin))))))) (by kernel_rfl) (by kernel_rfl) (by intro _ _ _ _ _ h; exact h) ?_
    refine wpTree_take (⟨z0, y0, y1, y2, y3, y4⟩) ?_
    simp only [opsAt, List.getElem?_cons_zero, List.getElem?_cons_succ]
    first | (refine wpPureH_step (v := ?_) rfl (fun W hS => ?_) ?_; rotate_left; · (obtain ⟨s0, s1, s2, s3, s4, s5⟩ := hS; (try simp only [Act.put, List.setIfInBounds_toArray, List.set_cons_zero, List.set_cons_succ]); go_simp; with_reducible rfl)) | (refine wpPureH_want (v := ?_) (by rfl) (fun W hS => ?_) ?_; rotate_left; · (obtain ⟨s0, s1, s2, s3, s4, s5⟩ := hS; (try simp only [Act.put, List.setIfInBounds_toArray, List.set_cons_zero, List.set_cons_succ]); go_simp; with_reducible rfl))
    first | (refine wpPureH_step (v := ?_) rfl (fun W hS => ?_) ?_; rotate_left; · (obtain ⟨s0, s1, s2, s3, s4, s5⟩ := hS; (try simp only [Act.put, List.setIfInBounds_toArray, List.set_cons_zero, List.set_cons_succ]); go_simp; with_reducible rfl)) | (refine wpPureH_want (v := ?_) (by rfl) (fun W hS => ?_) ?_; rotate_left; · (obtain ⟨s0, s1, s2, s3, s4, s5⟩ := hS; (try simp only [Act.put, List.setIfInBounds_toArray, List.set_cons_zero, List.set_cons_succ]); go_simp; with_reducible rfl))
    first | (refine wpPureH_step (v := ?_) rfl (fun W hS => ?_) ?_; rotate_left; · (obtain ⟨s0, s1, s2, s3, s4, s5⟩ := hS; (try simp only [Act.put, List.setIfInBounds_toArray, List.set_cons_zero, List.set_cons_succ]); go_simp; with_reducible rfl)) | (refine wpPureH_want (v := ?_) (by rfl) (fun W hS => ?_) ?_; rotate_left; · (obtain ⟨s0, s1, s2, s3, s4, s5⟩ := hS; (try simp only [Act.put, List.setIfInBounds_toArray, List.set_cons_zero, List.set_cons_succ]); go_simp; with_reducible rfl))
    first | (refine wpPureH_step (v := ?_) rfl (fun W hS => ?_) ?_; rotate_left; · (obtain ⟨s0, s1, s2, s3, s4, s5⟩ := hS; (try simp only [Act.put, List.setIfInBounds_toArray, List.set_cons_zero, List.set_cons_succ]); go_simp; with_reducible rfl)) | (refine wpPureH_want (v := ?_) (by rfl) (fun W hS => ?_) ?_; rotate_left; · (obtain ⟨s0, s1, s2, s3, s4, s5⟩ := hS; (try simp only [Act.put, List.setIfInBounds_toArray, List.set_cons_zero, List.set_cons_succ]); go_simp; with_reducible rfl))
    first | (refine wpPureH_step (v := ?_) rfl (fun W hS => ?_) ?_; rotate_left; · (obtain ⟨s0, s1, s2, s3, s4, s5⟩ := hS; (try simp only [Act.put, List.setIfInBounds_toArray, List.set_cons_zero, List.set_cons_succ]); go_simp; with_reducible rfl)) | (refine wpPureH_want (v := ?_) (by rfl) (fun W hS => ?_) ?_; rotate_left; · (obtain ⟨s0, s1, s2, s3, s4, s5⟩ := hS; (try simp only [Act.put, List.setIfInBounds_toArray, List.set_cons_zero, List.set_cons_succ]); go_simp; with_reducible rfl))
    refine wpPureH_nil ?_
    simp only [Act.put, List.setIfInBounds_toArray, List.set_cons_zero, List.set_cons_succ]
    refine wpTree_step ?_
    simp only [opsAt, List.getElem?_cons_zero, List.getElem?_cons_succ]
    go_wp2_with fail
    (with_reducible refine (unhide (HP _)).mono ?_)
    rintro e w3 ⟨rfl, hb3⟩
    have kw3 := kwz.drew.below hb3
    have bx3 := bxz.drew.below hb3 bxz.lt
    clear z0 y0 y1 y2 y3 y4 HP
    have z0 := kw3.2.1.cellv 0 _ rfl
    have y0 := bx3.cellv 0 _ rfl
    have HS3 : Hid (w3.cell? ⟨p, 0, none⟩ = some (.int .i64 3) ∧ w3.cell? ⟨w.heap.size, 0, none⟩ = some (.int .i64 k) ∧ w3.cell? ⟨w.heap.size, 1, none⟩ = some (.bool y) ∧ w3.cell? ⟨w.heap.size, 2, none⟩ = some (.int .u64 m) ∧ w3.cell? ⟨w.heap.size, 3, none⟩ = some (.string (S l)) ∧ w3.cell? ⟨w.heap.size, 4, none⟩ = some (.int .i64 c5)) := hide ⟨kw3.2.1.cellv 0 _ rfl, bx3.cellv 0 _ rfl, bx3.cellv 1 _ rfl, bx3.cellv 2 _ rfl, bx3.cellv 3 _ rfl, bx3.cellv 4 _ rfl⟩
    go_wp2_with fail
    refine ⟨.inr HS3.out, ?_⟩
    refine wpTree_step ?_
    simp only [opsAt, List.getElem?_cons_zero, List.getElem?_cons_succ]
    go_wp2_with fail
    refine ⟨.inr (HS3.out), ?_⟩
    refine wpTree_take (HS3.out) ?_
    simp only [opsAt, List.getElem?_cons_zero, List.getElem?_cons_succ]
    first | (refine wpPureH_step (v := ?_) rfl (fun W hS => ?_) ?_; rotate_left; · (obtain ⟨s0, s1, s2, s3, s4, s5⟩ := hS; (try simp only [Act.put, List.setIfInBounds_toArray, List.set_cons_zero, List.set_cons_succ]); go_simp; with_reducible rfl)) | (refine wpPureH_want (v := ?_) (by rfl) (fun W hS => ?_) ?_; rotate_left; · (obtain ⟨s0, s1, s2, s3, s4, s5⟩ := hS; (try simp only [Act.put, List.setIfInBounds_toArray, List.set_cons_zero, List.set_cons_succ]); go_simp; with_reducible rfl))
    first | (refine wpPureH_step (v := ?_) rfl (fun W hS => ?_) ?_; rotate_left; · (obtain ⟨s0, s1, s2, s3, s4, s5⟩ := hS; (try simp only [Act.put, List.setIfInBounds_toArray, List.set_cons_zero, List.set_cons_succ]); go_simp; with_reducible rfl)) | (refine wpPureH_want (v := ?_) (by rfl) (fun W hS => ?_) ?_; rotate_left; · (obtain ⟨s0, s1, s2, s3, s4, s5⟩ := hS; (try simp only [Act.put, List.setIfInBounds_toArray, List.set_cons_zero, List.set_cons_succ]); go_simp; with_reducible rfl))
    refine wpPureH_nil ?_
    simp only [Act.put, List.setIfInBounds_toArray, List.set_cons_zero, List.set_cons_succ]
    refine wpTree_step ?_
    simp only [opsAt, List.getElem?_cons_zero, List.getElem?_cons_succ]
    go_wp2_with fail
    refine ⟨.inr (HS3.out), ?_⟩
    refine wpTree_step ?_
    simp only [opsAt, List.getElem?_cons_zero, List.getElem?_cons_succ]
    go_wp2_with fail
    refine ⟨.inr (HS3.out), ?_⟩
    refine wpTree_fin ?_
    have kf2 := kw3.2.1.frozen 2
    have z2 := kw3.2.1.cellv 2 _ rfl
    have zpl := kw3.2.1.lt
    have HK4 := hide (kw3.done false)
    have HON : Hid (Only [p] w (w3.setCell ⟨p, 2, none⟩ (.bool false))) := hide ((Only.ofBelow (HBX.out.drew.trans (hb3.mono HBX.out.size))).setCell (by simp) _)
    have H04 := hide ((bx3.far (p := ⟨p, 2, none⟩) (by simp only; omega) (.bool false)))
    clear kw3 hb3 kwz bxz bx3 HS3
    have e1w : (w3.setCell ⟨p, 2, none⟩ (.bool false)).cell? ⟨p, 1, none⟩ = some (.slice (some ⟨g, off, none⟩) (n + 1) cap) := HK4.out.2.1.cellv 1 _ rfl
    have e1p := HK4.out.2.1.lt
    go_wp2_with (at_builtin; refine wpList_append_slN rfl (.const (.slice none 0 0)) (.tmp 326) 29 rfl _ 24 Try.underlying29 info_box rfl (by decide) (SlN.nil _ (w3.setCell ⟨p, 2, none⟩ (.bool false)).heap.size 77 3) HK4.out.2.2.src rfl rfl (by rw [contV_length]) (contV_one _) (by rw [← HLN.out]; unfold maxLen; omega) (by rw [← HLN.out]; omega) (Nat.le_refl _) ?_; intro v' w5 hs ho hf; rw [Nat.zero_add, List.nil_append] at hs; have hs2 := hs.mono HK4.out.lt; obtain ⟨g', off', cap', hv', hgl', x0, x1, x2, xf, hinc, _⟩ := top_some hs2 n HN.out; subst hv'; have hgf : (w3.setCell ⟨p, 2, none⟩ (.bool false)).heap.size ≤ g' := (hs.lt g' (by simp [slB])).1; have pb := ho.blk HK4.out.2.1 (by simp [slB]); simp only at x0 x1 x2; have d1 := pb.cellv 1 _ rfl; have g1 := pb.frozen 1; have hp5 := pb.lt; have b5 := ho.blk H04.out (by simp [slB]); have y5 := b5.cellv 0 _ rfl; have hbg5 : w.heap.size < g' := Nat.lt_of_lt_of_le H04.out.lt hgf; have hpg5 : p < g' := Nat.lt_of_lt_of_le e1p hgf)
    have hfp : p ∉ slB (.slice (some ⟨g', off', none⟩) (n + 1) cap') := by simp [slB]; omega
    have hput := HK4.out.put ho (by simp [slB]) hs2 hfp
    have hinc2 := hinc _ hput.1.2.2
    push_cast at hinc2
    go_ret2
    refine ⟨rfl, _, hput.1.inc (by omega) hinc2, ?_, fun k hk => ?_⟩
    · exact (HON.out.trans hput.2).setNew (by have := HON.out.size; simp only; omega) _
    · right
      simp [slB] at hk
      have := HON.out.size
      omega
end Go.Proofs.Yteggfobeaolafaa
