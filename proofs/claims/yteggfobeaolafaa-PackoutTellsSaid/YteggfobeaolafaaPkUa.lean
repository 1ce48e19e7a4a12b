/-
  The reference's Step: a container opened at the top level.
-/
import Derived.Test.YteggfobeaolafaaPkU
namespace Go.Proofs.Yteggfobeaolafaa
open Go.RowKit
set_option maxRecDepth 100000 in
set_option maxHeartbeats 4000000 in
theorem refstep_begin_nil_5 {w : World} {B p : Nat} {v : Value} (h : RWr w B p v [] false) (y : Bool) (m5 : Int) (l : List UInt8) (cc : Nat) (hpt : (EvM.mk 5 y m5 l (cc : Int)).part = some (.begin_ false (cc : Int))) (hmax : cc ≤ 4294967295) (r : List UInt8) (hr : r = headB false cc) :
    Calls Try.prog 13 #[.pointer (some ⟨p, 0, none⟩), .agg #[.int .i64 5, .bool y, .int .u64 m5, .string (S l), .int .i64 (cc : Int)]] w fun r' w' => r' = .returned (.tuple #[.string (S r), .int .i64 0]) ∧ ∃ v', RWr w' B p v' ([] ++ [⟨false, (cc : Int), 0⟩]) false ∧ Only [p] w w' ∧ ∀ k ∈ slB v', k ∈ slB v ∨ w.heap.size ≤ k := by
  obtain ⟨a9, c9, rfl⟩ := h.2.2.form
  have c1 := h.2.1.cellv 1 _ rfl
  have hpl := h.2.1.lt
  have hrl : r.length ≤ 9 := by rw [hr]; exact headB_length _ _
  have HR := hide hr
  clear hr
  have HM0 := fun W => refmay_any ⟨5, y, m5, l, (cc : Int)⟩ W true (by rw [hpt]; rfl)
  simp only [EvM.cells, evV] at HM0
  have HM := fun W => hide (HM0 W)
  have hadd := run_add_S (P := Try.prog) [] r (by simp; omega)
  rw [List.nil_append] at hadd
  clear HM0 hpt
  go_enter Try.func13, Try.ntmps13
  go_wp2_with fail
  (with_reducible refine (unhide (HM _)).mono ?_)
  rintro e w1 ⟨rfl, hb1⟩
  have kw := (h.alloc (.cells #[.int .i64 5, .bool y, .int .u64 m5, .string (S l), .int .i64 (cc : Int)] 34)).below hb1
  have bx := (Blk.new w 34 #[.int .i64 5, .bool y, .int .u64 m5, .string (S l), .int .i64 (cc : Int)]).below hb1 (by simp)
  have HB1 : Hid (Below w.heap.size w w1) := hide (((Below.refl _ _).alloc (Nat.le_refl _) _).trans (hb1.mono (by simp)))
  have kc0 := kw.2.1.cellv 0 _ rfl
  have kc1 := kw.2.1.cellv 1 _ rfl
  have kc2 := kw.2.1.cellv 2 _ rfl
  have kpl := kw.2.1.lt
  have bc0 := bx.cellv 0 _ rfl
  have bc4 := bx.cellv 4 _ rfl
  have bpl := bx.lt
  have KW := hide kw
  have BX := hide bx
  clear HM hb1 c1 bx kw h
  go_upto_if 203 with (fail)
  go_cut [12] (fun s12 wx => s12 = .string (S r) ∧ Hid (Below w1.heap.size w1 wx))
  case first =>
    have dneg : decide ((cc : Int) < 0) = false := by simp
    have dmax : decide (4294967295 < (cc : Int)) = false := decide_eq_false (by omega)
    have hwr : IntKind.u64.wrap (cc : Int) = cc := by rw [IntKind.wrap_u64]; omega
    by_cases h16 : cc < 16
    · have hcv := run_string_one (P := Try.prog) Try.underlying59 Try.underlying5 Try.underlying9 (144 + cc) (by omega) (144 + (cc : Int)) (by push_cast; rfl)
      rw [show bigL (144 + cc) 1 = r from by rw [HR.out]; unfold headB; rw [if_pos h16]; rfl] at hcv
      have hw8 : IntKind.u8.wrap (144 + (cc : Int)) = 144 + (cc : Int) := by rw [IntKind.wrap_u8]; omega
      have hw64 : IntKind.u64.wrap (144 + (cc : Int)) = 144 + (cc : Int) := by rw [IntKind.wrap_u64]; omega
      have d16 : decide ((cc : Int) < 16) = true := decide_eq_true (by omega)
      clear h16
      go_wp2_with fail
      go_meet
      exact ⟨rfl, hide (by repeat refine Below.more ?_ (Nat.le_refl _) _
                           exact Below.refl _ _)⟩
    · have d16 : decide ((cc : Int) < 16) = false := decide_eq_false (by omega)
      have HP := fun W => hide (reflen_any 0 220 221 cc (by omega) (by omega) (by omega) cc 0 220 221 rfl rfl rfl rfl (hide (by omega)) W r (by rw [HR.out]; unfold headB; rw [if_neg h16]; exact sized_len2 220 cc (by omega)))
      clear h16
      go_wp2_with fail
      (with_reducible refine (unhide (HP _)).mono ?_)
      rintro e w7 ⟨rfl, ho7⟩
      go_wp2_with fail
      go_meet
      exact ⟨rfl, hide ho7.nil_below⟩
  case rest =>
    obtain ⟨rfl, hbx⟩ := hcut
    have kwy := KW.out.below hbx.out
    have bxz := BX.out.below hbx.out bpl
    have HON : Hid (Only [p] w wc) := hide (Only.ofBelow (HB1.out.trans (hbx.out.mono HB1.out.size)))
    clear kc0 kc1 kc2 bc0 bc4 hbx
    have yk : wc.cell? ⟨w.heap.size, 0, none⟩ = some (.int .i64 5) := bxz.cellv 0 _ rfl
    go_upto_region 70 with (fail)
    clear yk
    obtain ⟨vv, hvv⟩ : ∃ vv, vv = Value.slice a9 0 c9 := ⟨_, rfl⟩
    have kwz : RWr wc B p vv [] false := by rw [hvv]; exact kwy
    have HLEN : Hid (([] : List Cont).length ≤ 1000001) := hide (by simp)
    clear hvv kwy
    have HLL := contV_length ([] : List Cont)
    obtain ⟨nl, hnl⟩ : ∃ nl, nl = ([] : List Cont).length := ⟨_, rfl⟩
    have HNL := hide hnl
    obtain ⟨xs, hxs⟩ : ∃ xs, xs = contV ([] : List Cont) := ⟨_, rfl⟩
    rw [← hxs, ← hnl] at HLL
    have hone : ∀ y ∈ xs, y.oneCell' = true := by rw [hxs]; exact contV_one _
    have HXS := hide hxs
    have hsrc : SlN wc B 77 3 vv nl xs := by rw [hxs, hnl]; exact kwz.2.2
    have hlen : nl ≤ 1000001 := by rw [hnl]; exact HLEN.out
    have hsrc0 := hsrc.alloc (.cells #[.bool false, .int .i64 (cc : Int), .int .i64 0] 77)
    have q1 := kwz.2.1.cellv 1 _ rfl
    have q2 : wc.cell? ⟨w.heap.size, 0, none⟩ = some (.int .i64 5) := bxz.cellv 0 _ rfl
    have q3 : wc.cell? ⟨w.heap.size, 4, none⟩ = some (.int .i64 (cc : Int)) := bxz.cellv 4 _ rfl
    have hxl : xs.length = nl * 3 := HLL
    clear hxs HLL hnl
    refine wp_region_tree (fun W => W.cell? ⟨p, 1, none⟩ = some vv ∧ W.cell? ⟨w.heap.size, 0, none⟩ = some (.int .i64 5) ∧ W.cell? ⟨w.heap.size, 4, none⟩ = some (.int .i64 (cc : Int))) 16 (.take [0, 1, 2, 3, 4, 6, 7, 8, 9, 10, 11] (.two 5 (.step 12 (.step 13 (.step 14 (.step 15 (.step 16 (.fin)))))) 12 (.step 5 (.step 13 (.step 14 (.step 15 (.step 16 (.fin)))))))) (by kernel_rfl) (by kernel_rfl) (by intro _ _ _ _ _ h; exact h) ?_
    refine wpTree_take (⟨q1, q2, q3⟩) ?_
    simp only [opsAt, List.getElem?_cons_zero, List.getElem?_cons_succ]
    first | (refine wpPureH_step (v := ?_) rfl (fun W hS => ?_) ?_; rotate_left; · (obtain ⟨s1, s2, s3⟩ := hS; (try simp only [Act.put, List.setIfInBounds_toArray, List.set_cons_zero, List.set_cons_succ]); go_simp; with_reducible rfl)) | (refine wpPureH_want (v := ?_) (by rfl) (fun W hS => ?_) ?_; rotate_left; · (obtain ⟨s1, s2, s3⟩ := hS; (try simp only [Act.put, List.setIfInBounds_toArray, List.set_cons_zero, List.set_cons_succ]); go_simp; with_reducible rfl))
    first | (refine wpPureH_step (v := ?_) rfl (fun W hS => ?_) ?_; rotate_left; · (obtain ⟨s1, s2, s3⟩ := hS; (try simp only [Act.put, List.setIfInBounds_toArray, List.set_cons_zero, List.set_cons_succ]); go_simp; with_reducible rfl)) | (refine wpPureH_want (v := ?_) (by rfl) (fun W hS => ?_) ?_; rotate_left; · (obtain ⟨s1, s2, s3⟩ := hS; (try simp only [Act.put, List.setIfInBounds_toArray, List.set_cons_zero, List.set_cons_succ]); go_simp; with_reducible rfl))
    first | (refine wpPureH_step (v := ?_) rfl (fun W hS => ?_) ?_; rotate_left; · (obtain ⟨s1, s2, s3⟩ := hS; (try simp only [Act.put, List.setIfInBounds_toArray, List.set_cons_zero, List.set_cons_succ]); go_simp; with_reducible rfl)) | (refine wpPureH_want (v := ?_) (by rfl) (fun W hS => ?_) ?_; rotate_left; · (obtain ⟨s1, s2, s3⟩ := hS; (try simp only [Act.put, List.setIfInBounds_toArray, List.set_cons_zero, List.set_cons_succ]); go_simp; with_reducible rfl))
    first | (refine wpPureH_step (v := ?_) rfl (fun W hS => ?_) ?_; rotate_left; · (obtain ⟨s1, s2, s3⟩ := hS; (try simp only [Act.put, List.setIfInBounds_toArray, List.set_cons_zero, List.set_cons_succ]); go_simp; with_reducible rfl)) | (refine wpPureH_want (v := ?_) (by rfl) (fun W hS => ?_) ?_; rotate_left; · (obtain ⟨s1, s2, s3⟩ := hS; (try simp only [Act.put, List.setIfInBounds_toArray, List.set_cons_zero, List.set_cons_succ]); go_simp; with_reducible rfl))
    first | (refine wpPureH_step (v := ?_) rfl (fun W hS => ?_) ?_; rotate_left; · (obtain ⟨s1, s2, s3⟩ := hS; (try simp only [Act.put, List.setIfInBounds_toArray, List.set_cons_zero, List.set_cons_succ]); go_simp; with_reducible rfl)) | (refine wpPureH_want (v := ?_) (by rfl) (fun W hS => ?_) ?_; rotate_left; · (obtain ⟨s1, s2, s3⟩ := hS; (try simp only [Act.put, List.setIfInBounds_toArray, List.set_cons_zero, List.set_cons_succ]); go_simp; with_reducible rfl))
    first | (refine wpPureH_step (v := ?_) rfl (fun W hS => ?_) ?_; rotate_left; · (obtain ⟨s1, s2, s3⟩ := hS; (try simp only [Act.put, List.setIfInBounds_toArray, List.set_cons_zero, List.set_cons_succ]); go_simp; with_reducible rfl)) | (refine wpPureH_want (v := ?_) (by rfl) (fun W hS => ?_) ?_; rotate_left; · (obtain ⟨s1, s2, s3⟩ := hS; (try simp only [Act.put, List.setIfInBounds_toArray, List.set_cons_zero, List.set_cons_succ]); go_simp; with_reducible rfl))
    first | (refine wpPureH_step (v := ?_) rfl (fun W hS => ?_) ?_; rotate_left; · (obtain ⟨s1, s2, s3⟩ := hS; (try simp only [Act.put, List.setIfInBounds_toArray, List.set_cons_zero, List.set_cons_succ]); go_simp; with_reducible rfl)) | (refine wpPureH_want (v := ?_) (by rfl) (fun W hS => ?_) ?_; rotate_left; · (obtain ⟨s1, s2, s3⟩ := hS; (try simp only [Act.put, List.setIfInBounds_toArray, List.set_cons_zero, List.set_cons_succ]); go_simp; with_reducible rfl))
    first | (refine wpPureH_step (v := ?_) rfl (fun W hS => ?_) ?_; rotate_left; · (obtain ⟨s1, s2, s3⟩ := hS; (try simp only [Act.put, List.setIfInBounds_toArray, List.set_cons_zero, List.set_cons_succ]); go_simp; with_reducible rfl)) | (refine wpPureH_want (v := ?_) (by rfl) (fun W hS => ?_) ?_; rotate_left; · (obtain ⟨s1, s2, s3⟩ := hS; (try simp only [Act.put, List.setIfInBounds_toArray, List.set_cons_zero, List.set_cons_succ]); go_simp; with_reducible rfl))
    first | (refine wpPureH_step (v := ?_) rfl (fun W hS => ?_) ?_; rotate_left; · (obtain ⟨s1, s2, s3⟩ := hS; (try simp only [Act.put, List.setIfInBounds_toArray, List.set_cons_zero, List.set_cons_succ]); go_simp; with_reducible rfl)) | (refine wpPureH_want (v := ?_) (by rfl) (fun W hS => ?_) ?_; rotate_left; · (obtain ⟨s1, s2, s3⟩ := hS; (try simp only [Act.put, List.setIfInBounds_toArray, List.set_cons_zero, List.set_cons_succ]); go_simp; with_reducible rfl))
    first | (refine wpPureH_step (v := ?_) rfl (fun W hS => ?_) ?_; rotate_left; · (obtain ⟨s1, s2, s3⟩ := hS; (try simp only [Act.put, List.setIfInBounds_toArray, List.set_cons_zero, List.set_cons_succ]); go_simp; with_reducible rfl)) | (refine wpPureH_want (v := ?_) (by rfl) (fun W hS => ?_) ?_; rotate_left; · (obtain ⟨s1, s2, s3⟩ := hS; (try simp only [Act.put, List.setIfInBounds_toArray, List.set_cons_zero, List.set_cons_succ]); go_simp; with_reducible rfl))
    first | (refine wpPureH_step (v := ?_) rfl (fun W hS => ?_) ?_; rotate_left; · (obtain ⟨s1, s2, s3⟩ := hS; (try simp only [Act.put, List.setIfInBounds_toArray, List.set_cons_zero, List.set_cons_succ]); go_simp; with_reducible rfl)) | (refine wpPureH_want (v := ?_) (by rfl) (fun W hS => ?_) ?_; rotate_left; · (obtain ⟨s1, s2, s3⟩ := hS; (try simp only [Act.put, List.setIfInBounds_toArray, List.set_cons_zero, List.set_cons_succ]); go_simp; with_reducible rfl))
    refine wpPureH_nil ?_
    simp only [Act.put, List.setIfInBounds_toArray, List.set_cons_zero, List.set_cons_succ]
    clear q1 q2 q3
    refine wpTree_two ?_ ?_
    · refine wpTree_step ?_
      simp only [opsAt, List.getElem?_cons_zero, List.getElem?_cons_succ]
      refine wpList_append_slN rfl (.const (.slice none 0 0)) (.tmp 354) 29 rfl _ 24 Try.underlying29 info_box rfl (by decide) (SlN.nil wc.drew wc.heap.size 77 3) hsrc.drew.src rfl rfl hxl hone (by unfold maxLen; omega) (by omega) (Nat.le_refl _) ?_
      intro v1 W1 hs1 ho1 hf1
      rw [Nat.zero_add, List.nil_append] at hs1
      have kp1 := ho1.blk kwz.2.1.drew (by simp [slB])
      have bx1 := ho1.blk bxz.drew (by simp [slB])
      have HS1 : Hid (W1.cell? ⟨p, 1, none⟩ = some vv ∧ W1.cell? ⟨w.heap.size, 0, none⟩ = some (.int .i64 5) ∧ W1.cell? ⟨w.heap.size, 4, none⟩ = some (.int .i64 (cc : Int))) := hide ⟨kp1.cellv 1 _ rfl, bx1.cellv 0 _ rfl, bx1.cellv 4 _ rfl⟩
      obtain ⟨a1, c1, rfl⟩ := hs1.form
      go_wp2_with fail
      refine ⟨.inr HS1.out, ?_⟩
      have kp2 := kp1.alloc (.cells #[.bool false, .int .i64 (cc : Int), .int .i64 0] 77)
      have bx2 := bx1.alloc (.cells #[.bool false, .int .i64 (cc : Int), .int .i64 0] 77)
      have bb2 := Blk.new W1 77 #[.bool false, .int .i64 (cc : Int), .int .i64 0]
      have hs1a := hs1.alloc (.cells #[.bool false, .int .i64 (cc : Int), .int .i64 0] 77)
      refine wpTree_step ?_
      simp only [opsAt, List.getElem?_cons_zero, List.getElem?_cons_succ]
      go_wp2_with fail
      refine ⟨.inr ⟨kp2.cellv 1 _ rfl, bx2.cellv 0 _ rfl, bx2.cellv 4 _ rfl⟩, ?_⟩
      refine wpTree_step ?_
      simp only [opsAt, List.getElem?_cons_zero, List.getElem?_cons_succ]
      refine wpList_append_slN rfl (.tmp 355) (.tmp 362) 29 rfl _ 24 Try.underlying29 info_box rfl (by decide) hs1a (SlN.oneN (base := 0) (Nat.zero_le _) bb2 rfl).src rfl rfl rfl (by intro y hy; simp at hy; rcases hy with rfl | rfl | rfl <;> rfl) (by unfold maxLen; omega) (by omega) (by have := ho1.size; simp at this ⊢; omega) ?_
      intro v2 W2 hs2 ho2 hf2
      have hpn : p ∉ slB (.slice a1 nl c1) := fun hk => by
        rcases hf1 p hk with h9 | h9
        · simp [slB] at h9
        · have := kwz.2.1.lt; simp at h9; omega
      have hbn : w.heap.size ∉ slB (.slice a1 nl c1) := fun hk => by
        rcases hf1 _ hk with h9 | h9
        · simp [slB] at h9
        · have := bxz.lt; simp at h9; omega
      have kp3 := ho2.blk kp2 hpn
      have bx3 := ho2.blk bx2 hbn
      have hfin := begun_fin (v1 := .slice a1 nl c1) (v2 := v2) (c := ⟨false, (cc : Int), 0⟩) kwz.drew hf1 ((((ho1.mono (fun k hk => by simp [slB] at hk)).alloc _).trans ho2)) (fun k hk => (hf2 k hk).imp_right (fun h9 => by have h8 := ho1.size; have h7 : wc.drew.heap.size = wc.heap.size := rfl; simp at h9; omega)) (by rw [← HXS.out, ← HNL.out]; exact hs2)
      obtain ⟨a2, c2, rfl⟩ := hs2.form
      have kf3 := kp3.frozen 1
      have kc3 := kp3.cellv 1 _ rfl
      have HS3 : Hid (W2.cell? ⟨p, 1, none⟩ = some vv ∧ W2.cell? ⟨w.heap.size, 0, none⟩ = some (.int .i64 5) ∧ W2.cell? ⟨w.heap.size, 4, none⟩ = some (.int .i64 (cc : Int))) := hide ⟨kp3.cellv 1 _ rfl, bx3.cellv 0 _ rfl, bx3.cellv 4 _ rfl⟩
      have HF := hide hfin
      clear hfin kp3 bx3 hs2 hf2 hs1 hf1
      go_wp2_with fail
      refine ⟨.inr HS3.out, ?_⟩
      refine wpTree_step ?_
      simp only [opsAt, List.getElem?_cons_zero, List.getElem?_cons_succ]
      go_wp2_with fail
      refine ⟨.inr (HS3.out), ?_⟩
      refine wpTree_step ?_
      simp only [opsAt, List.getElem?_cons_zero, List.getElem?_cons_succ]
      go_wp2_with fail
      refine ⟨.inr (HS3.out), ?_⟩
      refine wpTree_step ?_
      simp only [opsAt, List.getElem?_cons_zero, List.getElem?_cons_succ]
      go_wp2_with fail
      refine ⟨.inl trivial, wpTree_fin ?_⟩
      go_wp2_with fail
      go_ret2
      exact ⟨rfl, _, HF.out.1, HON.out.drew.trans HF.out.2.1, fun k hk => .inr (Nat.le_trans HON.out.size (HF.out.2.2 k hk))⟩
    · refine wpTree_step ?_
      simp only [opsAt, List.getElem?_cons_zero, List.getElem?_cons_succ]
      go_wp2_with fail
      have kp0 := kwz.2.1.drew.alloc (.cells #[.bool false, .int .i64 (cc : Int), .int .i64 0] 77)
      have bx0 := bxz.drew.alloc (.cells #[.bool false, .int .i64 (cc : Int), .int .i64 0] 77)
      have bb0 := Blk.new wc.drew 77 #[.bool false, .int .i64 (cc : Int), .int .i64 0]
      refine ⟨.inr ⟨kp0.cellv 1 _ rfl, bx0.cellv 0 _ rfl, bx0.cellv 4 _ rfl⟩, ?_⟩
      refine wpTree_step ?_
      simp only [opsAt, List.getElem?_cons_zero, List.getElem?_cons_succ]
      refine wpList_append_slN rfl (.const (.slice none 0 0)) (.tmp 354) 29 rfl _ 24 Try.underlying29 info_box rfl (by decide) (SlN.nil _ wc.heap.size 77 3) hsrc0.drew.src rfl rfl hxl hone (by unfold maxLen; omega) (by omega) (by simp) ?_
      intro v1 W1 hs1 ho1 hf1
      rw [Nat.zero_add, List.nil_append] at hs1
      have kp1 := ho1.blk kp0 (by simp [slB])
      have bx1 := ho1.blk bx0 (by simp [slB])
      have bb1 := ho1.blk bb0 (by simp [slB])
      have HS1 : Hid (W1.cell? ⟨p, 1, none⟩ = some vv ∧ W1.cell? ⟨w.heap.size, 0, none⟩ = some (.int .i64 5) ∧ W1.cell? ⟨w.heap.size, 4, none⟩ = some (.int .i64 (cc : Int))) := hide ⟨kp1.cellv 1 _ rfl, bx1.cellv 0 _ rfl, bx1.cellv 4 _ rfl⟩
      obtain ⟨a1, c1, rfl⟩ := hs1.form
      go_wp2_with fail
      refine ⟨.inr HS1.out, ?_⟩
      refine wpTree_step ?_
      simp only [opsAt, List.getElem?_cons_zero, List.getElem?_cons_succ]
      refine wpList_append_slN rfl (.tmp 355) (.tmp 362) 29 rfl _ 24 Try.underlying29 info_box rfl (by decide) hs1 (SlN.oneN (base := 0) (Nat.zero_le _) bb1 rfl).src rfl rfl rfl (by intro y hy; simp at hy; rcases hy with rfl | rfl | rfl <;> rfl) (by unfold maxLen; omega) (by omega) (by have h8 := ho1.size; simp at h8; omega) ?_
      intro v2 W2 hs2 ho2 hf2
      have hpn : p ∉ slB (.slice a1 nl c1) := fun hk => by
        rcases hf1 p hk with h9 | h9
        · simp [slB] at h9
        · have := kwz.2.1.lt; simp at h9; omega
      have hbn : w.heap.size ∉ slB (.slice a1 nl c1) := fun hk => by
        rcases hf1 _ hk with h9 | h9
        · simp [slB] at h9
        · have := bxz.lt; simp at h9; omega
      have kp3 := ho2.blk kp1 hpn
      have bx3 := ho2.blk bx1 hbn
      have h7 : wc.drew.heap.size = wc.heap.size := rfl
      have hfin := begun_fin (v1 := .slice a1 nl c1) (v2 := v2) (c := ⟨false, (cc : Int), 0⟩) kwz.drew (fun k hk => (hf1 k hk).imp_right (fun h9 => by simp at h9; omega)) (((((Only.refl _ _).alloc _).trans (ho1.mono (fun k hk => by simp [slB] at hk))).trans ho2)) (fun k hk => (hf2 k hk).imp_right (fun h9 => by have h8 := ho1.size; simp at h8; omega)) (by rw [← HXS.out, ← HNL.out]; exact hs2)
      obtain ⟨a2, c2, rfl⟩ := hs2.form
      have kf3 := kp3.frozen 1
      have kc3 := kp3.cellv 1 _ rfl
      have HS3 : Hid (W2.cell? ⟨p, 1, none⟩ = some vv ∧ W2.cell? ⟨w.heap.size, 0, none⟩ = some (.int .i64 5) ∧ W2.cell? ⟨w.heap.size, 4, none⟩ = some (.int .i64 (cc : Int))) := hide ⟨kp3.cellv 1 _ rfl, bx3.cellv 0 _ rfl, bx3.cellv 4 _ rfl⟩
      have HF := hide hfin
      clear hfin kp3 bx3 hs2 hf2 hs1 hf1
      go_wp2_with fail
      refine ⟨.inr HS3.out, ?_⟩
      refine wpTree_step ?_
      simp only [opsAt, List.getElem?_cons_zero, List.getElem?_cons_succ]
      go_wp2_with fail
      refine ⟨.inr (HS3.out), ?_⟩
      refine wpTree_step ?_
      simp only [opsAt, List.getElem?_cons_zero, List.getElem?_cons_succ]
      go_wp2_with fail
      refine ⟨.inr (HS3.out), ?_⟩
      refine wpTree_step ?_
      simp only [opsAt, List.getElem?_cons_zero, List.getElem?_cons_succ]
      go_wp2_with fail
      refine ⟨.inl trivial, wpTree_fin ?_⟩
      go_wp2_with fail
      go_ret2
      exact ⟨rfl, _, HF.out.1, HON.out.drew.trans HF.out.2.1, fun k hk => .inr (Nat.le_trans HON.out.size (HF.out.2.2 k hk))⟩
set_option maxRecDepth 100000 in
set_option maxHeartbeats 4000000 in
theorem refstep_begin_nil_6 {w : World} {B p : Nat} {v : Value} (h : RWr w B p v [] false) (y : Bool) (m5 : Int) (l : List UInt8) (cc : Nat) (hpt : (EvM.mk 6 y m5 l (cc : Int)).part = some (.begin_ true (cc : Int))) (hmax : cc ≤ 4294967295) (r : List UInt8) (hr : r = headB true cc) :
    Calls Try.prog 13 #[.pointer (some ⟨p, 0, none⟩), .agg #[.int .i64 6, .bool y, .int .u64 m5, .string (S l), .int .i64 (cc : Int)]] w fun r' w' => r' = .returned (.tuple #[.string (S r), .int .i64 0]) ∧ ∃ v', RWr w' B p v' ([] ++ [⟨true, (cc : Int), 0⟩]) false ∧ Only [p] w w' ∧ ∀ k ∈ slB v', k ∈ slB v ∨ w.heap.size ≤ k := by
  obtain ⟨a9, c9, rfl⟩ := h.2.2.form
  have c1 := h.2.1.cellv 1 _ rfl
  have hpl := h.2.1.lt
  have hrl : r.length ≤ 9 := by rw [hr]; exact headB_length _ _
  have HR := hide hr
  clear hr
  have HM0 := fun W => refmay_any ⟨6, y, m5, l, (cc : Int)⟩ W true (by rw [hpt]; rfl)
  simp only [EvM.cells, evV] at HM0
  have HM := fun W => hide (HM0 W)
  have hadd := run_add_S (P := Try.prog) [] r (by simp; omega)
  rw [List.nil_append] at hadd
  clear HM0 hpt
  go_enter Try.func13, Try.ntmps13
  go_wp2_with fail
  (with_reducible refine (unhide (HM _)).mono ?_)
  rintro e w1 ⟨rfl, hb1⟩
  have kw := (h.alloc (.cells #[.int .i64 6, .bool y, .int .u64 m5, .string (S l), .int .i64 (cc : Int)] 34)).below hb1
  have bx := (Blk.new w 34 #[.int .i64 6, .bool y, .int .u64 m5, .string (S l), .int .i64 (cc : Int)]).below hb1 (by simp)
  have HB1 : Hid (Below w.heap.size w w1) := hide (((Below.refl _ _).alloc (Nat.le_refl _) _).trans (hb1.mono (by simp)))
  have kc0 := kw.2.1.cellv 0 _ rfl
  have kc1 := kw.2.1.cellv 1 _ rfl
  have kc2 := kw.2.1.cellv 2 _ rfl
  have kpl := kw.2.1.lt
  have bc0 := bx.cellv 0 _ rfl
  have bc4 := bx.cellv 4 _ rfl
  have bpl := bx.lt
  have KW := hide kw
  have BX := hide bx
  clear HM hb1 c1 bx kw h
  go_upto_if 203 with (fail)
  go_cut [12] (fun s12 wx => s12 = .string (S r) ∧ Hid (Below w1.heap.size w1 wx))
  case first =>
    have dneg : decide ((cc : Int) < 0) = false := by simp
    have dmax : decide (4294967295 < (cc : Int)) = false := decide_eq_false (by omega)
    have hwr : IntKind.u64.wrap (cc : Int) = cc := by rw [IntKind.wrap_u64]; omega
    by_cases h16 : cc < 16
    · have hcv := run_string_one (P := Try.prog) Try.underlying59 Try.underlying5 Try.underlying9 (128 + cc) (by omega) (128 + (cc : Int)) (by push_cast; rfl)
      rw [show bigL (128 + cc) 1 = r from by rw [HR.out]; unfold headB; rw [if_pos h16]; rfl] at hcv
      have hw8 : IntKind.u8.wrap (128 + (cc : Int)) = 128 + (cc : Int) := by rw [IntKind.wrap_u8]; omega
      have hw64 : IntKind.u64.wrap (128 + (cc : Int)) = 128 + (cc : Int) := by rw [IntKind.wrap_u64]; omega
      have d16 : decide ((cc : Int) < 16) = true := decide_eq_true (by omega)
      clear h16
      go_wp2_with fail
      go_meet
      exact ⟨rfl, hide (by repeat refine Below.more ?_ (Nat.le_refl _) _
                           exact Below.refl _ _)⟩
    · have d16 : decide ((cc : Int) < 16) = false := decide_eq_false (by omega)
      have HP := fun W => hide (reflen_any 0 222 223 cc (by omega) (by omega) (by omega) cc 0 222 223 rfl rfl rfl rfl (hide (by omega)) W r (by rw [HR.out]; unfold headB; rw [if_neg h16]; exact sized_len2 222 cc (by omega)))
      clear h16
      go_wp2_with fail
      (with_reducible refine (unhide (HP _)).mono ?_)
      rintro e w7 ⟨rfl, ho7⟩
      go_wp2_with fail
      go_meet
      exact ⟨rfl, hide ho7.nil_below⟩
  case rest =>
    obtain ⟨rfl, hbx⟩ := hcut
    have kwy := KW.out.below hbx.out
    have bxz := BX.out.below hbx.out bpl
    have HON : Hid (Only [p] w wc) := hide (Only.ofBelow (HB1.out.trans (hbx.out.mono HB1.out.size)))
    clear kc0 kc1 kc2 bc0 bc4 hbx
    have yk : wc.cell? ⟨w.heap.size, 0, none⟩ = some (.int .i64 6) := bxz.cellv 0 _ rfl
    go_upto_region 70 with (fail)
    clear yk
    obtain ⟨vv, hvv⟩ : ∃ vv, vv = Value.slice a9 0 c9 := ⟨_, rfl⟩
    have kwz : RWr wc B p vv [] false := by rw [hvv]; exact kwy
    have HLEN : Hid (([] : List Cont).length ≤ 1000001) := hide (by simp)
    clear hvv kwy
    have HLL := contV_length ([] : List Cont)
    obtain ⟨nl, hnl⟩ : ∃ nl, nl = ([] : List Cont).length := ⟨_, rfl⟩
    have HNL := hide hnl
    obtain ⟨xs, hxs⟩ : ∃ xs, xs = contV ([] : List Cont) := ⟨_, rfl⟩
    rw [← hxs, ← hnl] at HLL
    have hone : ∀ y ∈ xs, y.oneCell' = true := by rw [hxs]; exact contV_one _
    have HXS := hide hxs
    have hsrc : SlN wc B 77 3 vv nl xs := by rw [hxs, hnl]; exact kwz.2.2
    have hlen : nl ≤ 1000001 := by rw [hnl]; exact HLEN.out
    have hsrc0 := hsrc.alloc (.cells #[.bool true, .int .i64 (cc : Int), .int .i64 0] 77)
    have q1 := kwz.2.1.cellv 1 _ rfl
    have q2 : wc.cell? ⟨w.heap.size, 0, none⟩ = some (.int .i64 6) := bxz.cellv 0 _ rfl
    have q3 : wc.cell? ⟨w.heap.size, 4, none⟩ = some (.int .i64 (cc : Int)) := bxz.cellv 4 _ rfl
    have hxl : xs.length = nl * 3 := HLL
    clear hxs HLL hnl
    refine wp_region_tree (fun W => W.cell? ⟨p, 1, none⟩ = some vv ∧ W.cell? ⟨w.heap.size, 0, none⟩ = some (.int .i64 6) ∧ W.cell? ⟨w.heap.size, 4, none⟩ = some (.int .i64 (cc : Int))) 16 (.take [0, 1, 2, 3, 4, 6, 7, 8, 9, 10, 11] (.two 5 (.step 12 (.step 13 (.step 14 (.step 15 (.step 16 (.fin)))))) 12 (.step 5 (.step 13 (.step 14 (.step 15 (.step 16 (.fin)))))))) (by kernel_rfl) (by kernel_rfl) (by intro _ _ _ _ _ h; exact h) ?_
    refine wpTree_take (⟨q1, q2, q3⟩) ?_
    simp only [opsAt, List.getElem?_cons_zero, List.getElem?_cons_succ]
    first | (refine wpPureH_step (v := ?_) rfl (fun W hS => ?_) ?_; rotate_left; · (obtain ⟨s1, s2, s3⟩ := hS; (try simp only [Act.put, List.setIfInBounds_toArray, List.set_cons_zero, List.set_cons_succ]); go_simp; with_reducible rfl)) | (refine wpPureH_want (v := ?_) (by rfl) (fun W hS => ?_) ?_; rotate_left; · (obtain ⟨s1, s2, s3⟩ := hS; (try simp only [Act.put, List.setIfInBounds_toArray, List.set_cons_zero, List.set_cons_succ]); go_simp; with_reducible rfl))
    first | (refine wpPureH_step (v := ?_) rfl (fun W hS => ?_) ?_; rotate_left; · (obtain ⟨s1, s2, s3⟩ := hS; (try simp only [Act.put, List.setIfInBounds_toArray, List.set_cons_zero, List.set_cons_succ]); go_simp; with_reducible rfl)) | (refine wpPureH_want (v := ?_) (by rfl) (fun W hS => ?_) ?_; rotate_left; · (obtain ⟨s1, s2, s3⟩ := hS; (try simp only [Act.put, List.setIfInBounds_toArray, List.set_cons_zero, List.set_cons_succ]); go_simp; with_reducible rfl))
    first | (refine wpPureH_step (v := ?_) rfl (fun W hS => ?_) ?_; rotate_left; · (obtain ⟨s1, s2, s3⟩ := hS; (try simp only [Act.put, List.setIfInBounds_toArray, List.set_cons_zero, List.set_cons_succ]); go_simp; with_reducible rfl)) | (refine wpPureH_want (v := ?_) (by rfl) (fun W hS => ?_) ?_; rotate_left; · (obtain ⟨s1, s2, s3⟩ := hS; (try simp only [Act.put, List.setIfInBounds_toArray, List.set_cons_zero, List.set_cons_succ]); go_simp; with_reducible rfl))
    first | (refine wpPureH_step (v := ?_) rfl (fun W hS => ?_) ?_; rotate_left; · (obtain ⟨s1, s2, s3⟩ := hS; (try simp only [Act.put, List.setIfInBounds_toArray, List.set_cons_zero, List.set_cons_succ]); go_simp; with_reducible rfl)) | (refine wpPureH_want (v := ?_) (by rfl) (fun W hS => ?_) ?_; rotate_left; · (obtain ⟨s1, s2, s3⟩ := hS; (try simp only [Act.put, List.setIfInBounds_toArray, List.set_cons_zero, List.set_cons_succ]); go_simp; with_reducible rfl))
    first | (refine wpPureH_step (v := ?_) rfl (fun W hS => ?_) ?_; rotate_left; · (obtain ⟨s1, s2, s3⟩ := hS; (try simp only [Act.put, List.setIfInBounds_toArray, List.set_cons_zero, List.set_cons_succ]); go_simp; with_reducible rfl)) | (refine wpPureH_want (v := ?_) (by rfl) (fun W hS => ?_) ?_; rotate_left; · (obtain ⟨s1, s2, s3⟩ := hS; (try simp only [Act.put, List.setIfInBounds_toArray, List.set_cons_zero, List.set_cons_succ]); go_simp; with_reducible rfl))
    first | (refine wpPureH_step (v := ?_) rfl (fun W hS => ?_) ?_; rotate_left; · (obtain ⟨s1, s2, s3⟩ := hS; (try simp only [Act.put, List.setIfInBounds_toArray, List.set_cons_zero, List.set_cons_succ]); go_simp; with_reducible rfl)) | (refine wpPureH_want (v := ?_) (by rfl) (fun W hS => ?_) ?_; rotate_left; · (obtain ⟨s1, s2, s3⟩ := hS; (try simp only [Act.put, List.setIfInBounds_toArray, List.set_cons_zero, List.set_cons_succ]); go_simp; with_reducible rfl))
    first | (refine wpPureH_step (v := ?_) rfl (fun W hS => ?_) ?_; rotate_left; · (obtain ⟨s1, s2, s3⟩ := hS; (try simp only [Act.put, List.setIfInBounds_toArray, List.set_cons_zero, List.set_cons_succ]); go_simp; with_reducible rfl)) | (refine wpPureH_want (v := ?_) (by rfl) (fun W hS => ?_) ?_; rotate_left; · (obtain ⟨s1, s2, s3⟩ := hS; (try simp only [Act.put, List.setIfInBounds_toArray, List.set_cons_zero, List.set_cons_succ]); go_simp; with_reducible rfl))
    first | (refine wpPureH_step (v := ?_) rfl (fun W hS => ?_) ?_; rotate_left; · (obtain ⟨s1, s2, s3⟩ := hS; (try simp only [Act.put, List.setIfInBounds_toArray, List.set_cons_zero, List.set_cons_succ]); go_simp; with_reducible rfl)) | (refine wpPureH_want (v := ?_) (by rfl) (fun W hS => ?_) ?_; rotate_left; · (obtain ⟨s1, s2, s3⟩ := hS; (try simp only [Act.put, List.setIfInBounds_toArray, List.set_cons_zero, List.set_cons_succ]); go_simp; with_reducible rfl))
    first | (refine wpPureH_step (v := ?_) rfl (fun W hS => ?_) ?_; rotate_left; · (obtain ⟨s1, s2, s3⟩ := hS; (try simp only [Act.put, List.setIfInBounds_toArray, List.set_cons_zero, List.set_cons_succ]); go_simp; with_reducible rfl)) | (refine wpPureH_want (v := ?_) (by rfl) (fun W hS => ?_) ?_; rotate_left; · (obtain ⟨s1, s2, s3⟩ := hS; (try simp only [Act.put, List.setIfInBounds_toArray, List.set_cons_zero, List.set_cons_succ]); go_simp; with_reducible rfl))
    first | (refine wpPureH_step (v := ?_) rfl (fun W hS => ?_) ?_; rotate_left; · (obtain ⟨s1, s2, s3⟩ := hS; (try simp only [Act.put, List.setIfInBounds_toArray, List.set_cons_zero, List.set_cons_succ]); go_simp; with_reducible rfl)) | (refine wpPureH_want (v := ?_) (by rfl) (fun W hS => ?_) ?_; rotate_left; · (obtain ⟨s1, s2, s3⟩ := hS; (try simp only [Act.put, List.setIfInBounds_toArray, List.set_cons_zero, List.set_cons_succ]); go_simp; with_reducible rfl))
    first | (refine wpPureH_step (v := ?_) rfl (fun W hS => ?_) ?_; rotate_left; · (obtain ⟨s1, s2, s3⟩ := hS; (try simp only [Act.put, List.setIfInBounds_toArray, List.set_cons_zero, List.set_cons_succ]); go_simp; with_reducible rfl)) | (refine wpPureH_want (v := ?_) (by rfl) (fun W hS => ?_) ?_; rotate_left; · (obtain ⟨s1, s2, s3⟩ := hS; (try simp only [Act.put, List.setIfInBounds_toArray, List.set_cons_zero, List.set_cons_succ]); go_simp; with_reducible rfl))
    refine wpPureH_nil ?_
    simp only [Act.put, List.setIfInBounds_toArray, List.set_cons_zero, List.set_cons_succ]
    clear q1 q2 q3
    refine wpTree_two ?_ ?_
    · refine wpTree_step ?_
      simp only [opsAt, List.getElem?_cons_zero, List.getElem?_cons_succ]
      refine wpList_append_slN rfl (.const (.slice none 0 0)) (.tmp 354) 29 rfl _ 24 Try.underlying29 info_box rfl (by decide) (SlN.nil wc.drew wc.heap.size 77 3) hsrc.drew.src rfl rfl hxl hone (by unfold maxLen; omega) (by omega) (Nat.le_refl _) ?_
      intro v1 W1 hs1 ho1 hf1
      rw [Nat.zero_add, List.nil_append] at hs1
      have kp1 := ho1.blk kwz.2.1.drew (by simp [slB])
      have bx1 := ho1.blk bxz.drew (by simp [slB])
      have HS1 : Hid (W1.cell? ⟨p, 1, none⟩ = some vv ∧ W1.cell? ⟨w.heap.size, 0, none⟩ = some (.int .i64 6) ∧ W1.cell? ⟨w.heap.size, 4, none⟩ = some (.int .i64 (cc : Int))) := hide ⟨kp1.cellv 1 _ rfl, bx1.cellv 0 _ rfl, bx1.cellv 4 _ rfl⟩
      obtain ⟨a1, c1, rfl⟩ := hs1.form
      go_wp2_with fail
      refine ⟨.inr HS1.out, ?_⟩
      have kp2 := kp1.alloc (.cells #[.bool true, .int .i64 (cc : Int), .int .i64 0] 77)
      have bx2 := bx1.alloc (.cells #[.bool true, .int .i64 (cc : Int), .int .i64 0] 77)
      have bb2 := Blk.new W1 77 #[.bool true, .int .i64 (cc : Int), .int .i64 0]
      have hs1a := hs1.alloc (.cells #[.bool true, .int .i64 (cc : Int), .int .i64 0] 77)
      refine wpTree_step ?_
      simp only [opsAt, List.getElem?_cons_zero, List.getElem?_cons_succ]
      go_wp2_with fail
      refine ⟨.inr ⟨kp2.cellv 1 _ rfl, bx2.cellv 0 _ rfl, bx2.cellv 4 _ rfl⟩, ?_⟩
      refine wpTree_step ?_
      simp only [opsAt, List.getElem?_cons_zero, List.getElem?_cons_succ]
      refine wpList_append_slN rfl (.tmp 355) (.tmp 362) 29 rfl _ 24 Try.underlying29 info_box rfl (by decide) hs1a (SlN.oneN (base := 0) (Nat.zero_le _) bb2 rfl).src rfl rfl rfl (by intro y hy; simp at hy; rcases hy with rfl | rfl | rfl <;> rfl) (by unfold maxLen; omega) (by omega) (by have := ho1.size; simp at this ⊢; omega) ?_
      intro v2 W2 hs2 ho2 hf2
      have hpn : p ∉ slB (.slice a1 nl c1) := fun hk => by
        rcases hf1 p hk with h9 | h9
        · simp [slB] at h9
        · have := kwz.2.1.lt; simp at h9; omega
      have hbn : w.heap.size ∉ slB (.slice a1 nl c1) := fun hk => by
        rcases hf1 _ hk with h9 | h9
        · simp [slB] at h9
        · have := bxz.lt; simp at h9; omega
      have kp3 := ho2.blk kp2 hpn
      have bx3 := ho2.blk bx2 hbn
      have hfin := begun_fin (v1 := .slice a1 nl c1) (v2 := v2) (c := ⟨true, (cc : Int), 0⟩) kwz.drew hf1 ((((ho1.mono (fun k hk => by simp [slB] at hk)).alloc _).trans ho2)) (fun k hk => (hf2 k hk).imp_right (fun h9 => by have h8 := ho1.size; have h7 : wc.drew.heap.size = wc.heap.size := rfl; simp at h9; omega)) (by rw [← HXS.out, ← HNL.out]; exact hs2)
      obtain ⟨a2, c2, rfl⟩ := hs2.form
      have kf3 := kp3.frozen 1
      have kc3 := kp3.cellv 1 _ rfl
      have HS3 : Hid (W2.cell? ⟨p, 1, none⟩ = some vv ∧ W2.cell? ⟨w.heap.size, 0, none⟩ = some (.int .i64 6) ∧ W2.cell? ⟨w.heap.size, 4, none⟩ = some (.int .i64 (cc : Int))) := hide ⟨kp3.cellv 1 _ rfl, bx3.cellv 0 _ rfl, bx3.cellv 4 _ rfl⟩
      have HF := hide hfin
      clear hfin kp3 bx3 hs2 hf2 hs1 hf1
      go_wp2_with fail
      refine ⟨.inr HS3.out, ?_⟩
      refine wpTree_step ?_
      simp only [opsAt, List.getElem?_cons_zero, List.getElem?_cons_succ]
      go_wp2_with fail
      refine ⟨.inr (HS3.out), ?_⟩
      refine wpTree_step ?_
      simp only [opsAt, List.getElem?_cons_zero, List.getElem?_cons_succ]
      go_wp2_with fail
      refine ⟨.inr (HS3.out), ?_⟩
      refine wpTree_step ?_
      simp only [opsAt, List.getElem?_cons_zero, List.getElem?_cons_succ]
      go_wp2_with fail
      refine ⟨.inl trivial, wpTree_fin ?_⟩
      go_wp2_with fail
      go_ret2
      exact ⟨rfl, _, HF.out.1, HON.out.drew.trans HF.out.2.1, fun k hk => .inr (Nat.le_trans HON.out.size (HF.out.2.2 k hk))⟩
    · refine wpTree_step ?_
      simp only [opsAt, List.getElem?_cons_zero, List.getElem?_cons_succ]
      go_wp2_with fail
      have kp0 := kwz.2.1.drew.alloc (.cells #[.bool true, .int .i64 (cc : Int), .int .i64 0] 77)
      have bx0 := bxz.drew.alloc (.cells #[.bool true, .int .i64 (cc : Int), .int .i64 0] 77)
      have bb0 := Blk.new wc.drew 77 #[.bool true, .int .i64 (cc : Int), .int .i64 0]
      refine ⟨.inr ⟨kp0.cellv 1 _ rfl, bx0.cellv 0 _ rfl, bx0.cellv 4 _ rfl⟩, ?_⟩
      refine wpTree_step ?_
      simp only [opsAt, List.getElem?_cons_zero, List.getElem?_cons_succ]
      refine wpList_append_slN rfl (.const (.slice none 0 0)) (.tmp 354) 29 rfl _ 24 Try.underlying29 info_box rfl (by decide) (SlN.nil _ wc.heap.size 77 3) hsrc0.drew.src rfl rfl hxl hone (by unfold maxLen; omega) (by omega) (by simp) ?_
      intro v1 W1 hs1 ho1 hf1
      rw [Nat.zero_add, List.nil_append] at hs1
      have kp1 := ho1.blk kp0 (by simp [slB])
      have bx1 := ho1.blk bx0 (by simp [slB])
      have bb1 := ho1.blk bb0 (by simp [slB])
      have HS1 : Hid (W1.cell? ⟨p, 1, none⟩ = some vv ∧ W1.cell? ⟨w.heap.size, 0, none⟩ = some (.int .i64 6) ∧ W1.cell? ⟨w.heap.size, 4, none⟩ = some (.int .i64 (cc : Int))) := hide ⟨kp1.cellv 1 _ rfl, bx1.cellv 0 _ rfl, bx1.cellv 4 _ rfl⟩
      obtain ⟨a1, c1, rfl⟩ := hs1.form
      go_wp2_with fail
      refine ⟨.inr HS1.out, ?_⟩
      refine wpTree_step ?_
      simp only [opsAt, List.getElem?_cons_zero, List.getElem?_cons_succ]
      refine wpList_append_slN rfl (.tmp 355) (.tmp 362) 29 rfl _ 24 Try.underlying29 info_box rfl (by decide) hs1 (SlN.oneN (base := 0) (Nat.zero_le _) bb1 rfl).src rfl rfl rfl (by intro y hy; simp at hy; rcases hy with rfl | rfl | rfl <;> rfl) (by unfold maxLen; omega) (by omega) (by have h8 := ho1.size; simp at h8; omega) ?_
      intro v2 W2 hs2 ho2 hf2
      have hpn : p ∉ slB (.slice a1 nl c1) := fun hk => by
        rcases hf1 p hk with h9 | h9
        · simp [slB] at h9
        · have := kwz.2.1.lt; simp at h9; omega
      have hbn : w.heap.size ∉ slB (.slice a1 nl c1) := fun hk => by
        rcases hf1 _ hk with h9 | h9
        · simp [slB] at h9
        · have := bxz.lt; simp at h9; omega
      have kp3 := ho2.blk kp1 hpn
      have bx3 := ho2.blk bx1 hbn
      have h7 : wc.drew.heap.size = wc.heap.size := rfl
      have hfin := begun_fin (v1 := .slice a1 nl c1) (v2 := v2) (c := ⟨true, (cc : Int), 0⟩) kwz.drew (fun k hk => (hf1 k hk).imp_right (fun h9 => by simp at h9; omega)) (((((Only.refl _ _).alloc _).trans (ho1.mono (fun k hk => by simp [slB] at hk))).trans ho2)) (fun k hk => (hf2 k hk).imp_right (fun h9 => by have h8 := ho1.size; simp at h8; omega)) (by rw [← HXS.out, ← HNL.out]; exact hs2)
      obtain ⟨a2, c2, rfl⟩ := hs2.form
      have kf3 := kp3.frozen 1
      have kc3 := kp3.cellv 1 _ rfl
      have HS3 : Hid (W2.cell? ⟨p, 1, none⟩ = some vv ∧ W2.cell? ⟨w.heap.size, 0, none⟩ = some (.int .i64 6) ∧ W2.cell? ⟨w.heap.size, 4, none⟩ = some (.int .i64 (cc : Int))) := hide ⟨kp3.cellv 1 _ rfl, bx3.cellv 0 _ rfl, bx3.cellv 4 _ rfl⟩
      have HF := hide hfin
      clear hfin kp3 bx3 hs2 hf2 hs1 hf1
      go_wp2_with fail
      refine ⟨.inr HS3.out, ?_⟩
      refine wpTree_step ?_
      simp only [opsAt, List.getElem?_cons_zero, List.getElem?_cons_succ]
      go_wp2_with fail
      refine ⟨.inr (HS3.out), ?_⟩
      refine wpTree_step ?_
      simp only [opsAt, List.getElem?_cons_zero, List.getElem?_cons_succ]
      go_wp2_with fail
      refine ⟨.inr (HS3.out), ?_⟩
      refine wpTree_step ?_
      simp only [opsAt, List.getElem?_cons_zero, List.getElem?_cons_succ]
      go_wp2_with fail
      refine ⟨.inl trivial, wpTree_fin ?_⟩
      go_wp2_with fail
      go_ret2
      exact ⟨rfl, _, HF.out.1, HON.out.drew.trans HF.out.2.1, fun k hk => .inr (Nat.le_trans HON.out.size (HF.out.2.2 k hk))⟩
end Go.Proofs.Yteggfobeaolafaa
