/-
  The reference's Step: a container (kind 5) opened within an array.
-/
import Derived.Test.YteggfobeaolafaaPkU
namespace Go.Proofs.Yteggfobeaolafaa
open Go.RowKit
set_option maxRecDepth 100000 in
set_option maxHeartbeats 4000000 in
theorem refstep_begin_top_A5 {w : World} {B p : Nat} {v : Value} {M : List Cont} {c : Cont} (h : RWr w B p v (M ++ [c]) false) (hp20 : c.parts ≤ 1000000) (hML : M.length ≤ 1000000) (y : Bool) (m5 : Int) (l : List UInt8) (cc : Nat) (hpt : (EvM.mk 5 y m5 l (cc : Int)).part = some (.begin_ false (cc : Int))) (hmax : cc ≤ 4294967295) (hi : c.inv) (hf : c.full = false) (r : List UInt8) (hr : r = headB false cc) (hpr : c.pairs = false) (_ : True) :
    Calls Try.prog 13 #[.pointer (some ⟨p, 0, none⟩), .agg #[.int .i64 5, .bool y, .int .u64 m5, .string (S l), .int .i64 (cc : Int)]] w fun r' w' => r' = .returned (.tuple #[.string (S r), .int .i64 0]) ∧ ∃ v', RWr w' B p v' (M ++ [c.more] ++ [⟨false, (cc : Int), 0⟩]) false ∧ Only [p] w w' ∧ ∀ k ∈ slB v', k ∈ slB v ∨ w.heap.size ≤ k := by
  obtain ⟨pr, cn, ps⟩ := c
  have hroom := hide (room_t pr cn ps hi hf)
  have hp21 : (ps : Int) ≤ 1000000 := by simp only at hp20; omega
  have hrl : r.length ≤ 9 := by rw [hr]; exact headB_length _ _
  have HR := hide hr
  clear hr
  simp only at hpr
  subst hpr
  skip
  clear hf hp20 hi
  obtain ⟨n, hn⟩ : ∃ n, n = M.length := ⟨_, rfl⟩
  obtain ⟨g, off, cap, hv, hgl, d0, d1, d2, t7, t8, t9⟩ := top_some h.2.2 n hn
  subst hv
  have c1 := h.2.1.cellv 1 _ rfl
  have hpl := h.2.1.lt
  have hn20 : (n : Int) ≤ 1000000 := by omega
  have HN := hide hn
  clear hn hML t7 t8 t9
  have hn1 : ((n : Int) + 1 == 0) = false := by simp; omega
  have HLN : Hid (n + 1 = (M ++ [(⟨false, cn, ps⟩ : Cont)]).length) := hide (by simp [HN.out])
  have hn19 : n ≤ 1000000 := by omega
  have HM0 := fun W => refmay_any ⟨5, y, m5, l, (cc : Int)⟩ W true (by rw [hpt]; rfl)
  simp only [EvM.cells, evV] at HM0
  have HM := fun W => hide (HM0 W)
  have hadd := run_add_S (P := Try.prog) [] r (by simp; omega)
  rw [List.nil_append] at hadd
  clear HM0 hpt
  go_enter Try.func13, Try.ntmps13
  go_wp2_with fail
  (with_reducible refine (unhide (HM _)).mono ?_)
  rintro e w1 ⟨rfl, hb1⟩
  have kw := (h.alloc (.cells #[.int .i64 5, .bool y, .int .u64 m5, .string (S l), .int .i64 (cc : Int)] 34)).below hb1
  have bx := (Blk.new w 34 #[.int .i64 5, .bool y, .int .u64 m5, .string (S l), .int .i64 (cc : Int)]).below hb1 (by simp)
  have HB1 : Hid (Below w.heap.size w w1) := hide (((Below.refl _ _).alloc (Nat.le_refl _) _).trans (hb1.mono (by simp)))
  have kc0 := kw.2.1.cellv 0 _ rfl
  have kc1 := kw.2.1.cellv 1 _ rfl
  have kc2 := kw.2.1.cellv 2 _ rfl
  have kpl := kw.2.1.lt
  have bc0 := bx.cellv 0 _ rfl
  have bc4 := bx.cellv 4 _ rfl
  have bpl := bx.lt
  have KW := hide kw
  have BX := hide bx
  clear HM hb1 c1 bx kw h
  have hg1 : g < w1.heap.size := Nat.lt_of_lt_of_le hgl HB1.out.size
  have e0 := (HB1.out.cell (p := ⟨g, off + n * 3, none⟩) hgl).trans d0
  have e1 := (HB1.out.cell (p := ⟨g, off + n * 3 + 1, none⟩) hgl).trans d1
  have e2 := (HB1.out.cell (p := ⟨g, off + n * 3 + 2, none⟩) hgl).trans d2
  clear d0 d1 d2
  go_upto_if 129 with (fail)
  go_cut [9] (fun s9 wx => s9 = .string (S []) ∧ Below w1.heap.size w1 wx)
  case first =>
    as_aux_lemma =>
    rcases hroom.out with t1 | ⟨t1, t2⟩ | ⟨t1, t2, t3⟩
    · go_wp2_with fail
      all_goals
        go_meet
        exact ⟨rfl, Below.more (Below.refl _ _) (Nat.le_refl _) _⟩
    · go_wp2_with fail
      all_goals
        go_meet
        exact ⟨rfl, Below.more (Below.refl _ _) (Nat.le_refl _) _⟩
    · simp only [Bool.false_eq_true, if_false] at t3
      go_wp2_with fail
      all_goals
        go_meet
        exact ⟨rfl, Below.more (Below.refl _ _) (Nat.le_refl _) _⟩
  case rest =>
    as_aux_lemma =>
    obtain ⟨rfl, hbx⟩ := hcut
    have kwz := KW.out.below hbx
    have bxz := BX.out.below hbx bpl
    have HBX : Hid (Below w.heap.size w wc) := hide (HB1.out.trans (hbx.mono HB1.out.size))
    clear kc0 kc1 kc2 bc0 e0 e1 e2 hbx
    obtain ⟨wd, hwd⟩ : ∃ wd, wd = wc := ⟨_, rfl⟩
    subst hwd
    have z0 := kwz.2.1.cellv 0 _ rfl
    have yk : wd.cell? ⟨w.heap.size, 0, none⟩ = some (.int .i64 5) := bxz.cellv 0 _ rfl
    have y4 : wd.cell? ⟨w.heap.size, 4, none⟩ = some (.int .i64 (cc : Int)) := bxz.cellv 4 _ rfl
    go_upto_if 203 with (fail)
    go_cut [12] (fun s12 wx => s12 = .string (S r) ∧ Hid (Below wd.heap.size wd wx))
    case first =>
      as_aux_lemma =>
      have dneg : decide ((cc : Int) < 0) = false := by simp
      have dmax : decide (4294967295 < (cc : Int)) = false := decide_eq_false (by omega)
      have hwr : IntKind.u64.wrap (cc : Int) = cc := by rw [IntKind.wrap_u64]; omega
      by_cases h16 : cc < 16
      · have hcv := run_string_one (P := Try.prog) Try.underlying59 Try.underlying5 Try.underlying9 (144 + cc) (by omega) (144 + (cc : Int)) (by push_cast; rfl)
        rw [show bigL (144 + cc) 1 = r from by rw [HR.out]; unfold headB; rw [if_pos h16]; rfl] at hcv
        have hw8 : IntKind.u8.wrap (144 + (cc : Int)) = 144 + (cc : Int) := by rw [IntKind.wrap_u8]; omega
        have hw64 : IntKind.u64.wrap (144 + (cc : Int)) = 144 + (cc : Int) := by rw [IntKind.wrap_u64]; omega
        have d16 : decide ((cc : Int) < 16) = true := decide_eq_true (by omega)
        clear h16
        go_wp2_with fail
        go_meet
        exact ⟨rfl, hide (by repeat refine Below.more ?_ (Nat.le_refl _) _
                             exact Below.refl _ _)⟩
      · have d16 : decide ((cc : Int) < 16) = false := decide_eq_false (by omega)
        have HP := fun W => hide (reflen_any 0 220 221 cc (by omega) (by omega) (by omega) cc 0 220 221 rfl rfl rfl rfl (hide (by omega)) W r (by rw [HR.out]; unfold headB; rw [if_neg h16]; exact sized_len2 220 cc (by omega)))
        clear h16
        go_wp2_with fail
        (with_reducible refine (unhide (HP _)).mono ?_)
        rintro e w7 ⟨rfl, ho7⟩
        go_wp2_with fail
        go_meet
        exact ⟨rfl, hide ho7.nil_below⟩
    case rest =>
      as_aux_lemma =>
      obtain ⟨rfl, hbz⟩ := hcut
      have HK4 := hide (kwz.below hbz.out)
      have H04 := hide (bxz.below hbz.out bxz.lt)
      have zpl := HK4.out.2.1.lt
      have HON : Hid (Only [p] w wc) := hide (Only.ofBelow (HBX.out.trans (hbz.out.mono HBX.out.size)))
      clear hbz kwz bxz bc4 z0 yk y4
      have yk : wc.cell? ⟨w.heap.size, 0, none⟩ = some (.int .i64 5) := H04.out.cellv 0 _ rfl
      have e1w : wc.cell? ⟨p, 1, none⟩ = some (.slice (some ⟨g, off, none⟩) (n + 1) cap) := HK4.out.2.1.cellv 1 _ rfl
      have e1p := HK4.out.2.1.lt
      go_wp2_with (at_builtin; refine wpList_append_slN rfl (.const (.slice none 0 0)) (.tmp 326) 29 rfl _ 24 Try.underlying29 info_box rfl (by decide) (SlN.nil _ wc.heap.size 77 3) HK4.out.2.2.src rfl rfl (by rw [contV_length]) (contV_one _) (by rw [← HLN.out]; unfold maxLen; omega) (by rw [← HLN.out]; omega) (Nat.le_refl _) ?_; intro v' w5 hs ho hf; rw [Nat.zero_add, List.nil_append] at hs; have hs2 := hs.mono HK4.out.lt; obtain ⟨g', off', cap', hv', hgl', x0, x1, x2, xf, hinc, _⟩ := top_some hs2 n HN.out; subst hv'; have hgf : wc.heap.size ≤ g' := (hs.lt g' (by simp [slB])).1; have pb := ho.blk HK4.out.2.1 (by simp [slB]); simp only at x0 x1 x2; have d1 := pb.cellv 1 _ rfl; have g1 := pb.frozen 1; have hp5 := pb.lt; have b5 := ho.blk H04.out (by simp [slB]); have y5 := b5.cellv 0 _ rfl; have hbg5 : w.heap.size < g' := Nat.lt_of_lt_of_le H04.out.lt hgf; have hpg5 : p < g' := Nat.lt_of_lt_of_le e1p hgf)
      have hfp : p ∉ slB (.slice (some ⟨g', off', none⟩) (n + 1) cap') := by simp [slB]; omega
      have hput := HK4.out.put ho (by simp [slB]) hs2 hfp
      have hinc2 := hinc _ hput.1.2.2
      push_cast at hinc2
      have hk6 := hput.1.inc (by omega) hinc2
      have hx6 := (b5.far (p := ⟨p, 1, none⟩) (by simp only; omega) (.slice (some ⟨g', off', none⟩) (n + 1) cap')).far (p := ⟨g', off' + n * 3 + 2, none⟩) (by simp only; omega) (.int .i64 ((ps : Int) + 1))
      have ho6 := (HON.out.trans hput.2).setNew (q := ⟨g', off' + n * 3 + 2, none⟩) (by have := HON.out.size; simp only; omega) (.int .i64 ((ps : Int) + 1))
      obtain ⟨W6, hW6⟩ : ∃ W6, W6 = (w5.setCell ⟨p, 1, none⟩ (.slice (some ⟨g', off', none⟩) (n + 1) cap')).setCell ⟨g', off' + n * 3 + 2, none⟩ (.int .i64 ((ps : Int) + 1)) := ⟨_, rfl⟩
      obtain ⟨vv, hvv⟩ : ∃ vv, vv = Value.slice (some ⟨g', off', none⟩) (n + 1) cap' := ⟨_, rfl⟩
      rw [← hW6] at hk6 hx6 ho6 ⊢
      rw [← hvv] at hk6 ⊢
      have kwz := hk6
      have bxz := hx6
      have HLEN : Hid ((M ++ [(⟨false, cn, ps⟩ : Cont).more]).length ≤ 1000001) := hide (by rw [List.length_append, ← HN.out]; simp; omega)
      clear HON
      have HON : Hid (Only [p] w W6) := hide ho6
      clear hW6 hvv hk6 hx6 ho6 hinc2 hput hfp hs2 hs hinc x0 x1 x2 xf d1 g1 pb b5 y5 ho hf e1w hgf hbg5 hpg5 hp5 hgl' e1p yk zpl
      have HLL := contV_length (M ++ [(⟨false, cn, ps⟩ : Cont).more])
      obtain ⟨nl, hnl⟩ : ∃ nl, nl = (M ++ [(⟨false, cn, ps⟩ : Cont).more]).length := ⟨_, rfl⟩
      have HNL := hide hnl
      obtain ⟨xs, hxs⟩ : ∃ xs, xs = contV (M ++ [(⟨false, cn, ps⟩ : Cont).more]) := ⟨_, rfl⟩
      rw [← hxs, ← hnl] at HLL
      have hone : ∀ y ∈ xs, y.oneCell' = true := by rw [hxs]; exact contV_one _
      have HXS := hide hxs
      have hsrc : SlN W6 B 77 3 vv nl xs := by rw [hxs, hnl]; exact kwz.2.2
      have hlen : nl ≤ 1000001 := by rw [hnl]; exact HLEN.out
      have hsrc0 := hsrc.alloc (.cells #[.bool false, .int .i64 (cc : Int), .int .i64 0] 77)
      have q1 := kwz.2.1.cellv 1 _ rfl
      have q2 : W6.cell? ⟨w.heap.size, 0, none⟩ = some (.int .i64 5) := bxz.cellv 0 _ rfl
      have q3 : W6.cell? ⟨w.heap.size, 4, none⟩ = some (.int .i64 (cc : Int)) := bxz.cellv 4 _ rfl
      have hxl : xs.length = nl * 3 := HLL
      clear hxs HLL hnl
      refine wp_region_tree (fun W => W.cell? ⟨p, 1, none⟩ = some vv ∧ W.cell? ⟨w.heap.size, 0, none⟩ = some (.int .i64 5) ∧ W.cell? ⟨w.heap.size, 4, none⟩ = some (.int .i64 (cc : Int))) 16 (.take [0, 1, 2, 3, 4, 6, 7, 8, 9, 10, 11] (.two 5 (.step 12 (.step 13 (.step 14 (.step 15 (.step 16 (.fin)))))) 12 (.step 5 (.step 13 (.step 14 (.step 15 (.step 16 (.fin)))))))) (by kernel_rfl) (by kernel_rfl) (by intro _ _ _ _ _ h; exact h) ?_
      refine wpTree_take (⟨q1, q2, q3⟩) ?_
      simp only [opsAt, List.getElem?_cons_zero, List.getElem?_cons_succ]
      first | (refine wpPureH_step (v := ?_) rfl (fun W hS => ?_) ?_; rotate_left; · (obtain ⟨s1, s2, s3⟩ := hS; (try simp only [Act.put, List.setIfInBounds_toArray, List.set_cons_zero, List.set_cons_succ]); go_simp; with_reducible rfl)) | (refine wpPureH_want (v := ?_) (by rfl) (fun W hS => ?_) ?_; rotate_left; · (obtain ⟨s1, s2, s3⟩ := hS; (try simp only [Act.put, List.setIfInBounds_toArray, List.set_cons_zero, List.set_cons_succ]); go_simp; with_reducible rfl))
      first | (refine wpPureH_step (v := ?_) rfl (fun W hS => ?_) ?_; rotate_left; · (obtain ⟨s1, s2, s3⟩ := hS; (try simp only [Act.put, List.setIfInBounds_toArray, List.set_cons_zero, List.set_cons_succ]); go_simp; with_reducible rfl)) | (refine wpPureH_want (v := ?_) (by rfl) (fun W hS => ?_) ?_; rotate_left; · (obtain ⟨s1, s2, s3⟩ := hS; (try simp only [Act.put, List.setIfInBounds_toArray, List.set_cons_zero, List.set_cons_succ]); go_simp; with_reducible rfl))
      first | (refine wpPureH_step (v := ?_) rfl (fun W hS => ?_) ?_; rotate_left; · (obtain ⟨s1, s2, s3⟩ := hS; (try simp only [Act.put, List.setIfInBounds_toArray, List.set_cons_zero, List.set_cons_succ]); go_simp; with_reducible rfl)) | (refine wpPureH_want (v := ?_) (by rfl) (fun W hS => ?_) ?_; rotate_left; · (obtain ⟨s1, s2, s3⟩ := hS; (try simp only [Act.put, List.setIfInBounds_toArray, List.set_cons_zero, List.set_cons_succ]); go_simp; with_reducible rfl))
      first | (refine wpPureH_step (v := ?_) rfl (fun W hS => ?_) ?_; rotate_left; · (obtain ⟨s1, s2, s3⟩ := hS; (try simp only [Act.put, List.setIfInBounds_toArray, List.set_cons_zero, List.set_cons_succ]); go_simp; with_reducible rfl)) | (refine wpPureH_want (v := ?_) (by rfl) (fun W hS => ?_) ?_; rotate_left; · (obtain ⟨s1, s2, s3⟩ := hS; (try simp only [Act.put, List.setIfInBounds_toArray, List.set_cons_zero, List.set_cons_succ]); go_simp; with_reducible rfl))
      first | (refine wpPureH_step (v := ?_) rfl (fun W hS => ?_) ?_; rotate_left; · (obtain ⟨s1, s2, s3⟩ := hS; (try simp only [Act.put, List.setIfInBounds_toArray, List.set_cons_zero, List.set_cons_succ]); go_simp; with_reducible rfl)) | (refine wpPureH_want (v := ?_) (by rfl) (fun W hS => ?_) ?_; rotate_left; · (obtain ⟨s1, s2, s3⟩ := hS; (try simp only [Act.put, List.setIfInBounds_toArray, List.set_cons_zero, List.set_cons_succ]); go_simp; with_reducible rfl))
      first | (refine wpPureH_step (v := ?_) rfl (fun W hS => ?_) ?_; rotate_left; · (obtain ⟨s1, s2, s3⟩ := hS; (try simp only [Act.put, List.setIfInBounds_toArray, List.set_cons_zero, List.set_cons_succ]); go_simp; with_reducible rfl)) | (refine wpPureH_want (v := ?_) (by rfl) (fun W hS => ?_) ?_; rotate_left; · (obtain ⟨s1, s2, s3⟩ := hS; (try simp only [Act.put, List.setIfInBounds_toArray, List.set_cons_zero, List.set_cons_succ]); go_simp; with_reducible rfl))
      first | (refine wpPureH_step (v := ?_) rfl (fun W hS => ?_) ?_; rotate_left; · (obtain ⟨s1, s2, s3⟩ := hS; (try simp only [Act.put, List.setIfInBounds_toArray, List.set_cons_zero, List.set_cons_succ]); go_simp; with_reducible rfl)) | (refine wpPureH_want (v := ?_) (by rfl) (fun W hS => ?_) ?_; rotate_left; · (obtain ⟨s1, s2, s3⟩ := hS; (try simp only [Act.put, List.setIfInBounds_toArray, List.set_cons_zero, List.set_cons_succ]); go_simp; with_reducible rfl))
      first | (refine wpPureH_step (v := ?_) rfl (fun W hS => ?_) ?_; rotate_left; · (obtain ⟨s1, s2, s3⟩ := hS; (try simp only [Act.put, List.setIfInBounds_toArray, List.set_cons_zero, List.set_cons_succ]); go_simp; with_reducible rfl)) | (refine wpPureH_want (v := ?_) (by rfl) (fun W hS => ?_) ?_; rotate_left; · (obtain ⟨s1, s2, s3⟩ := hS; (try simp only [Act.put, List.setIfInBounds_toArray, List.set_cons_zero, List.set_cons_succ]); go_simp; with_reducible rfl))
      first | (refine wpPureH_step (v := ?_) rfl (fun W hS => ?_) ?_; rotate_left; · (obtain ⟨s1, s2, s3⟩ := hS; (try simp only [Act.put, List.setIfInBounds_toArray, List.set_cons_zero, List.set_cons_succ]); go_simp; with_reducible rfl)) | (refine wpPureH_want (v := ?_) (by rfl) (fun W hS => ?_) ?_; rotate_left; · (obtain ⟨s1, s2, s3⟩ := hS; (try simp only [Act.put, List.setIfInBounds_toArray, List.set_cons_zero, List.set_cons_succ]); go_simp; with_reducible rfl))
      first | (refine wpPureH_step (v := ?_) rfl (fun W hS => ?_) ?_; rotate_left; · (obtain ⟨s1, s2, s3⟩ := hS; (try simp only [Act.put, List.setIfInBounds_toArray, List.set_cons_zero, List.set_cons_succ]); go_simp; with_reducible rfl)) | (refine wpPureH_want (v := ?_) (by rfl) (fun W hS => ?_) ?_; rotate_left; · (obtain ⟨s1, s2, s3⟩ := hS; (try simp only [Act.put, List.setIfInBounds_toArray, List.set_cons_zero, List.set_cons_succ]); go_simp; with_reducible rfl))
      first | (refine wpPureH_step (v := ?_) rfl (fun W hS => ?_) ?_; rotate_left; · (obtain ⟨s1, s2, s3⟩ := hS; (try simp only [Act.put, List.setIfInBounds_toArray, List.set_cons_zero, List.set_cons_succ]); go_simp; with_reducible rfl)) | (refine wpPureH_want (v := ?_) (by rfl) (fun W hS => ?_) ?_; rotate_left; · (obtain ⟨s1, s2, s3⟩ := hS; (try simp only [Act.put, List.setIfInBounds_toArray, List.set_cons_zero, List.set_cons_succ]); go_simp; with_reducible rfl))
      refine wpPureH_nil ?_
      simp only [Act.put, List.setIfInBounds_toArray, List.set_cons_zero, List.set_cons_succ]
      clear q1 q2 q3
      refine wpTree_two ?_ ?_
      · refine wpTree_step ?_
        simp only [opsAt, List.getElem?_cons_zero, List.getElem?_cons_succ]
        refine wpList_append_slN rfl (.const (.slice none 0 0)) (.tmp 354) 29 rfl _ 24 Try.underlying29 info_box rfl (by decide) (SlN.nil W6.drew W6.heap.size 77 3) hsrc.drew.src rfl rfl hxl hone (by unfold maxLen; omega) (by omega) (Nat.le_refl _) ?_
        intro v1 W1 hs1 ho1 hf1
        rw [Nat.zero_add, List.nil_append] at hs1
        have kp1 := ho1.blk kwz.2.1.drew (by simp [slB])
        have bx1 := ho1.blk bxz.drew (by simp [slB])
        have HS1 : Hid (W1.cell? ⟨p, 1, none⟩ = some vv ∧ W1.cell? ⟨w.heap.size, 0, none⟩ = some (.int .i64 5) ∧ W1.cell? ⟨w.heap.size, 4, none⟩ = some (.int .i64 (cc : Int))) := hide ⟨kp1.cellv 1 _ rfl, bx1.cellv 0 _ rfl, bx1.cellv 4 _ rfl⟩
        obtain ⟨a1, c1, rfl⟩ := hs1.form
        go_wp2_with fail
        refine ⟨.inr HS1.out, ?_⟩
        have kp2 := kp1.alloc (.cells #[.bool false, .int .i64 (cc : Int), .int .i64 0] 77)
        have bx2 := bx1.alloc (.cells #[.bool false, .int .i64 (cc : Int), .int .i64 0] 77)
        have bb2 := Blk.new W1 77 #[.bool false, .int .i64 (cc : Int), .int .i64 0]
        have hs1a := hs1.alloc (.cells #[.bool false, .int .i64 (cc : Int), .int .i64 0] 77)
        refine wpTree_step ?_
        simp only [opsAt, List.getElem?_cons_zero, List.getElem?_cons_succ]
        go_wp2_with fail
        refine ⟨.inr ⟨kp2.cellv 1 _ rfl, bx2.cellv 0 _ rfl, bx2.cellv 4 _ rfl⟩, ?_⟩
        refine wpTree_step ?_
        simp only [opsAt, List.getElem?_cons_zero, List.getElem?_cons_succ]
        refine wpList_append_slN rfl (.tmp 355) (.tmp 362) 29 rfl _ 24 Try.underlying29 info_box rfl (by decide) hs1a (SlN.oneN (base := 0) (Nat.zero_le _) bb2 rfl).src rfl rfl rfl (by intro y hy; simp at hy; rcases hy with rfl | rfl | rfl <;> rfl) (by unfold maxLen; omega) (by omega) (by have := ho1.size; simp at this ⊢; omega) ?_
        intro v2 W2 hs2 ho2 hf2
        have hpn : p ∉ slB (.slice a1 nl c1) := fun hk => by
          rcases hf1 p hk with h9 | h9
          · simp [slB] at h9
          · have := kwz.2.1.lt; simp at h9; omega
        have hbn : w.heap.size ∉ slB (.slice a1 nl c1) := fun hk => by
          rcases hf1 _ hk with h9 | h9
          · simp [slB] at h9
          · have := bxz.lt; simp at h9; omega
        have kp3 := ho2.blk kp2 hpn
        have bx3 := ho2.blk bx2 hbn
        have hfin := begun_fin (v1 := .slice a1 nl c1) (v2 := v2) (c := ⟨false, (cc : Int), 0⟩) kwz.drew hf1 ((((ho1.mono (fun k hk => by simp [slB] at hk)).alloc _).trans ho2)) (fun k hk => (hf2 k hk).imp_right (fun h9 => by have h8 := ho1.size; have h7 : W6.drew.heap.size = W6.heap.size := rfl; simp at h9; omega)) (by rw [← HXS.out, ← HNL.out]; exact hs2)
        obtain ⟨a2, c2, rfl⟩ := hs2.form
        have kf3 := kp3.frozen 1
        have kc3 := kp3.cellv 1 _ rfl
        have HS3 : Hid (W2.cell? ⟨p, 1, none⟩ = some vv ∧ W2.cell? ⟨w.heap.size, 0, none⟩ = some (.int .i64 5) ∧ W2.cell? ⟨w.heap.size, 4, none⟩ = some (.int .i64 (cc : Int))) := hide ⟨kp3.cellv 1 _ rfl, bx3.cellv 0 _ rfl, bx3.cellv 4 _ rfl⟩
        have HF := hide hfin
        clear hfin kp3 bx3 hs2 hf2 hs1 hf1
        go_wp2_with fail
        refine ⟨.inr HS3.out, ?_⟩
        refine wpTree_step ?_
        simp only [opsAt, List.getElem?_cons_zero, List.getElem?_cons_succ]
        go_wp2_with fail
        refine ⟨.inr (HS3.out), ?_⟩
        refine wpTree_step ?_
        simp only [opsAt, List.getElem?_cons_zero, List.getElem?_cons_succ]
        go_wp2_with fail
        refine ⟨.inr (HS3.out), ?_⟩
        refine wpTree_step ?_
        simp only [opsAt, List.getElem?_cons_zero, List.getElem?_cons_succ]
        go_wp2_with fail
        refine ⟨.inl trivial, wpTree_fin ?_⟩
        go_wp2_with fail
        go_ret2
        exact ⟨rfl, _, HF.out.1, HON.out.drew.trans HF.out.2.1, fun k hk => .inr (Nat.le_trans HON.out.size (HF.out.2.2 k hk))⟩
      · refine wpTree_step ?_
        simp only [opsAt, List.getElem?_cons_zero, List.getElem?_cons_succ]
        go_wp2_with fail
        have kp0 := kwz.2.1.drew.alloc (.cells #[.bool false, .int .i64 (cc : Int), .int .i64 0] 77)
        have bx0 := bxz.drew.alloc (.cells #[.bool false, .int .i64 (cc : Int), .int .i64 0] 77)
        have bb0 := Blk.new W6.drew 77 #[.bool false, .int .i64 (cc : Int), .int .i64 0]
        refine ⟨.inr ⟨kp0.cellv 1 _ rfl, bx0.cellv 0 _ rfl, bx0.cellv 4 _ rfl⟩, ?_⟩
        refine wpTree_step ?_
        simp only [opsAt, List.getElem?_cons_zero, List.getElem?_cons_succ]
        refine wpList_append_slN rfl (.const (.slice none 0 0)) (.tmp 354) 29 rfl _ 24 Try.underlying29 info_box rfl (by decide) (SlN.nil _ W6.heap.size 77 3) hsrc0.drew.src rfl rfl hxl hone (by unfold maxLen; omega) (by omega) (by simp) ?_
        intro v1 W1 hs1 ho1 hf1
        rw [Nat.zero_add, List.nil_append] at hs1
        have kp1 := ho1.blk kp0 (by simp [slB])
        have bx1 := ho1.blk bx0 (by simp [slB])
        have bb1 := ho1.blk bb0 (by simp [slB])
        have HS1 : Hid (W1.cell? ⟨p, 1, none⟩ = some vv ∧ W1.cell? ⟨w.heap.size, 0, none⟩ = some (.int .i64 5) ∧ W1.cell? ⟨w.heap.size, 4, none⟩ = some (.int .i64 (cc : Int))) := hide ⟨kp1.cellv 1 _ rfl, bx1.cellv 0 _ rfl, bx1.cellv 4 _ rfl⟩
        obtain ⟨a1, c1, rfl⟩ := hs1.form
        go_wp2_with fail
        refine ⟨.inr HS1.out, ?_⟩
        refine wpTree_step ?_
        simp only [opsAt, List.getElem?_cons_zero, List.getElem?_cons_succ]
        refine wpList_append_slN rfl (.tmp 355) (.tmp 362) 29 rfl _ 24 Try.underlying29 info_box rfl (by decide) hs1 (SlN.oneN (base := 0) (Nat.zero_le _) bb1 rfl).src rfl rfl rfl (by intro y hy; simp at hy; rcases hy with rfl | rfl | rfl <;> rfl) (by unfold maxLen; omega) (by omega) (by have h8 := ho1.size; simp at h8; omega) ?_
        intro v2 W2 hs2 ho2 hf2
        have hpn : p ∉ slB (.slice a1 nl c1) := fun hk => by
          rcases hf1 p hk with h9 | h9
          · simp [slB] at h9
          · have := kwz.2.1.lt; simp at h9; omega
        have hbn : w.heap.size ∉ slB (.slice a1 nl c1) := fun hk => by
          rcases hf1 _ hk with h9 | h9
          · simp [slB] at h9
          · have := bxz.lt; simp at h9; omega
        have kp3 := ho2.blk kp1 hpn
        have bx3 := ho2.blk bx1 hbn
        have h7 : W6.drew.heap.size = W6.heap.size := rfl
        have hfin := begun_fin (v1 := .slice a1 nl c1) (v2 := v2) (c := ⟨false, (cc : Int), 0⟩) kwz.drew (fun k hk => (hf1 k hk).imp_right (fun h9 => by simp at h9; omega)) (((((Only.refl _ _).alloc _).trans (ho1.mono (fun k hk => by simp [slB] at hk))).trans ho2)) (fun k hk => (hf2 k hk).imp_right (fun h9 => by have h8 := ho1.size; simp at h8; omega)) (by rw [← HXS.out, ← HNL.out]; exact hs2)
        obtain ⟨a2, c2, rfl⟩ := hs2.form
        have kf3 := kp3.frozen 1
        have kc3 := kp3.cellv 1 _ rfl
        have HS3 : Hid (W2.cell? ⟨p, 1, none⟩ = some vv ∧ W2.cell? ⟨w.heap.size, 0, none⟩ = some (.int .i64 5) ∧ W2.cell? ⟨w.heap.size, 4, none⟩ = some (.int .i64 (cc : Int))) := hide ⟨kp3.cellv 1 _ rfl, bx3.cellv 0 _ rfl, bx3.cellv 4 _ rfl⟩
        have HF := hide hfin
        clear hfin kp3 bx3 hs2 hf2 hs1 hf1
        go_wp2_with fail
        refine ⟨.inr HS3.out, ?_⟩
        refine wpTree_step ?_
        simp only [opsAt, List.getElem?_cons_zero, List.getElem?_cons_succ]
        go_wp2_with fail
        refine ⟨.inr (HS3.out), ?_⟩
        refine wpTree_step ?_
        simp only [opsAt, List.getElem?_cons_zero, List.getElem?_cons_succ]
        go_wp2_with fail
        refine ⟨.inr (HS3.out), ?_⟩
        refine wpTree_step ?_
        simp only [opsAt, List.getElem?_cons_zero, List.getElem?_cons_succ]
        go_wp2_with fail
        refine ⟨.inl trivial, wpTree_fin ?_⟩
        go_wp2_with fail
        go_ret2
        exact ⟨rfl, _, HF.out.1, HON.out.drew.trans HF.out.2.1, fun k hk => .inr (Nat.le_trans HON.out.size (HF.out.2.2 k hk))⟩
end Go.Proofs.Yteggfobeaolafaa
