/-
  The writer's Step: a container begins.
-/
import Derived.Test.YtjegeoeebbfajaaCbF
namespace Go.Proofs.Ytjegeoeebbfajaa
open Go.RowKit

def headB (m : Bool) (n : Int) : List UInt8 := if n < 0 then bigL (if m then 191 else 159) 1 else putL (if m then 5 else 4) n.toNat
theorem info_cont : (Try.prog.info? 69).map (fun i => (i.zero, i.size, i.bytes)) = some (some (.agg #[.bool false, .int .i64 0, .int .i64 0]), 3, 24) := by kernel_rfl
section
variable {w : World} {B p : Nat} {v : Value} {L : List Cont} {d : Bool}
theorem Wr.put {W : World} {v' : Value} {L' : List Cont} (h : Wr w B p v L d) (ho : Only (slB v) w W) (hs : SlN W B 69 3 v' L'.length (contV L')) (hf : ∀ k ∈ slB v', k ∈ slB v ∨ w.heap.size ≤ k) :
    Wr (W.setCell ⟨p, 0, none⟩ v') B p v' L' d ∧ Only (p :: slB v) w (W.setCell ⟨p, 0, none⟩ v') := by
  have hp := ho.blk h.2.1 h.out
  have hpv : p ∉ slB v' := fun hk => by
    rcases hf p hk with h1 | h1
    · exact h.out h1
    · have := h.2.1.lt; omega
  exact ⟨⟨h.1, hp.set_ 0 v', hs.far (p := ⟨p, 0, none⟩) hpv v'⟩, (ho.mono (fun k hk => List.mem_cons_of_mem _ hk)).setCell (by simp) v'⟩
end
set_option maxRecDepth 100000 in
set_option maxHeartbeats 2000000 in
theorem step_begin_nil {w : World} {B p : Nat} {v : Value} (h : Wr w B p v [] false) (m : Bool) (n : Int) (hn1 : -1 ≤ n) (hn2 : n ≤ 9223372036854775807) (r : List UInt8) (hr : r = headB m n) :
    Calls Try.prog 12 #[.pointer (some ⟨p, 0, none⟩), (Part.begin_ m n).val] w fun e w' => e = .returned (.tuple #[.string (S r), .int .i64 0]) ∧ ∃ v', Wr w' B p v' ([] ++ [⟨m, n, 0⟩]) false ∧ Only (p :: slB v) w w' ∧ ∀ k ∈ slB v', k ∈ slB v ∨ w.heap.size ≤ k := by
  have t5 := fun W => ta_close (Part.begin_ m n) W
  have t3 := fun W => ta_word (Part.begin_ m n) W
  have t6 := fun W => ta_begin (Part.begin_ m n) W
  simp only [Part.isClose, Part.asWord, Part.isWord, Part.asBegin, Part.isBegin] at t5 t3 t6
  have hmay : (Part.begin_ m n).may = true := by simp only [Part.may]; exact decide_eq_true hn1
  obtain ⟨pt, hpt⟩ : ∃ pt, pt = Part.begin_ m n := ⟨_, rfl⟩
  rw [← hpt] at hmay t5 t3 t6 ⊢
  clear hpt
  have HR := hide hr
  have hn64 := Lib.hid hn2
  obtain ⟨a9, c9, rfl⟩ := h.2.2.form
  clear hr hn2
  obtain ⟨k5, y5, m5, l5, c5, hev⟩ := ev_form pt
  have HPL := hide (plain_any pt w)
  rw [hev, hmay] at HPL
  unfold evV at HPL
  clear hev hmay
  go_enter Try.func12, Try.ntmps12
  go_wp2_with fail
  (with_reducible refine (unhide HPL).mono ?_)
  rintro e w1 ⟨rfl, hb1⟩
  have kw := h.below hb1
  have kc0 := kw.2.1.cellv 0 _ rfl
  have kc1 := kw.2.1.cellv 1 _ rfl
  have kpl := kw.2.1.lt
  clear HPL
  have kwX := ((kw.alloc (.cells #[.int .i64 k5, .bool y5, .int .u64 m5, .string (S l5), .int .i64 c5] 34)).alloc (.cells #[] 60)).alloc (.cells #[.bool m, .int .i64 n] 57)
  have bgX : Blk (((w1.alloc (.cells #[.int .i64 k5, .bool y5, .int .u64 m5, .string (S l5), .int .i64 c5] 34)).alloc (.cells #[] 60)).alloc (.cells #[.bool m, .int .i64 n] 57)) (w1.heap.size + 1 + 1) 57 #[.bool m, .int .i64 n] := by simpa using Blk.new ((w1.alloc (.cells #[.int .i64 k5, .bool y5, .int .u64 m5, .string (S l5), .int .i64 c5] 34)).alloc (.cells #[] 60)) 57 #[.bool m, .int .i64 n]
  go_upto_region 20 with (fail)
  refine wp_region_tree (fun W => W.cell? ⟨p, 0, none⟩ = some (.slice a9 ([] : List Cont).length c9) ∧ W.cell? ⟨w1.heap.size + 1 + 1, 0, none⟩ = some (.bool m) ∧ W.cell? ⟨w1.heap.size + 1 + 1, 1, none⟩ = some (.int .i64 n)) 14 (.take [0, 1, 2, 3, 4, 5, 6, 7, 8, 9] (.step 10 (.step 11 (.step 12 (.step 13 (.step 14 (.fin))))))) (by kernel_rfl) (by kernel_rfl) (by intro _ _ _ _ _ h; exact h) ?_
  refine wpTree_take (⟨kwX.2.1.cellv 0 _ rfl, bgX.cellv 0 _ rfl, bgX.cellv 1 _ rfl⟩) ?_
  simp only [opsAt, List.getElem?_cons_zero, List.getElem?_cons_succ]
  first | (refine wpPureH_step (v := ?_) rfl (fun W hS => ?_) ?_; rotate_left; · (obtain ⟨s1, s2, s3⟩ := hS; (try simp only [Act.put, List.setIfInBounds_toArray, List.set_cons_zero, List.set_cons_succ]); go_simp; with_reducible rfl)) | (refine wpPureH_want (v := ?_) (by rfl) (fun W hS => ?_) ?_; rotate_left; · (obtain ⟨s1, s2, s3⟩ := hS; (try simp only [Act.put, List.setIfInBounds_toArray, List.set_cons_zero, List.set_cons_succ]); go_simp; with_reducible rfl))
  first | (refine wpPureH_step (v := ?_) rfl (fun W hS => ?_) ?_; rotate_left; · (obtain ⟨s1, s2, s3⟩ := hS; (try simp only [Act.put, List.setIfInBounds_toArray, List.set_cons_zero, List.set_cons_succ]); go_simp; with_reducible rfl)) | (refine wpPureH_want (v := ?_) (by rfl) (fun W hS => ?_) ?_; rotate_left; · (obtain ⟨s1, s2, s3⟩ := hS; (try simp only [Act.put, List.setIfInBounds_toArray, List.set_cons_zero, List.set_cons_succ]); go_simp; with_reducible rfl))
  first | (refine wpPureH_step (v := ?_) rfl (fun W hS => ?_) ?_; rotate_left; · (obtain ⟨s1, s2, s3⟩ := hS; (try simp only [Act.put, List.setIfInBounds_toArray, List.set_cons_zero, List.set_cons_succ]); go_simp; with_reducible rfl)) | (refine wpPureH_want (v := ?_) (by rfl) (fun W hS => ?_) ?_; rotate_left; · (obtain ⟨s1, s2, s3⟩ := hS; (try simp only [Act.put, List.setIfInBounds_toArray, List.set_cons_zero, List.set_cons_succ]); go_simp; with_reducible rfl))
  first | (refine wpPureH_step (v := ?_) rfl (fun W hS => ?_) ?_; rotate_left; · (obtain ⟨s1, s2, s3⟩ := hS; (try simp only [Act.put, List.setIfInBounds_toArray, List.set_cons_zero, List.set_cons_succ]); go_simp; with_reducible rfl)) | (refine wpPureH_want (v := ?_) (by rfl) (fun W hS => ?_) ?_; rotate_left; · (obtain ⟨s1, s2, s3⟩ := hS; (try simp only [Act.put, List.setIfInBounds_toArray, List.set_cons_zero, List.set_cons_succ]); go_simp; with_reducible rfl))
  first | (refine wpPureH_step (v := ?_) rfl (fun W hS => ?_) ?_; rotate_left; · (obtain ⟨s1, s2, s3⟩ := hS; (try simp only [Act.put, List.setIfInBounds_toArray, List.set_cons_zero, List.set_cons_succ]); go_simp; with_reducible rfl)) | (refine wpPureH_want (v := ?_) (by rfl) (fun W hS => ?_) ?_; rotate_left; · (obtain ⟨s1, s2, s3⟩ := hS; (try simp only [Act.put, List.setIfInBounds_toArray, List.set_cons_zero, List.set_cons_succ]); go_simp; with_reducible rfl))
  first | (refine wpPureH_step (v := ?_) rfl (fun W hS => ?_) ?_; rotate_left; · (obtain ⟨s1, s2, s3⟩ := hS; (try simp only [Act.put, List.setIfInBounds_toArray, List.set_cons_zero, List.set_cons_succ]); go_simp; with_reducible rfl)) | (refine wpPureH_want (v := ?_) (by rfl) (fun W hS => ?_) ?_; rotate_left; · (obtain ⟨s1, s2, s3⟩ := hS; (try simp only [Act.put, List.setIfInBounds_toArray, List.set_cons_zero, List.set_cons_succ]); go_simp; with_reducible rfl))
  first | (refine wpPureH_step (v := ?_) rfl (fun W hS => ?_) ?_; rotate_left; · (obtain ⟨s1, s2, s3⟩ := hS; (try simp only [Act.put, List.setIfInBounds_toArray, List.set_cons_zero, List.set_cons_succ]); go_simp; with_reducible rfl)) | (refine wpPureH_want (v := ?_) (by rfl) (fun W hS => ?_) ?_; rotate_left; · (obtain ⟨s1, s2, s3⟩ := hS; (try simp only [Act.put, List.setIfInBounds_toArray, List.set_cons_zero, List.set_cons_succ]); go_simp; with_reducible rfl))
  first | (refine wpPureH_step (v := ?_) rfl (fun W hS => ?_) ?_; rotate_left; · (obtain ⟨s1, s2, s3⟩ := hS; (try simp only [Act.put, List.setIfInBounds_toArray, List.set_cons_zero, List.set_cons_succ]); go_simp; with_reducible rfl)) | (refine wpPureH_want (v := ?_) (by rfl) (fun W hS => ?_) ?_; rotate_left; · (obtain ⟨s1, s2, s3⟩ := hS; (try simp only [Act.put, List.setIfInBounds_toArray, List.set_cons_zero, List.set_cons_succ]); go_simp; with_reducible rfl))
  first | (refine wpPureH_step (v := ?_) rfl (fun W hS => ?_) ?_; rotate_left; · (obtain ⟨s1, s2, s3⟩ := hS; (try simp only [Act.put, List.setIfInBounds_toArray, List.set_cons_zero, List.set_cons_succ]); go_simp; with_reducible rfl)) | (refine wpPureH_want (v := ?_) (by rfl) (fun W hS => ?_) ?_; rotate_left; · (obtain ⟨s1, s2, s3⟩ := hS; (try simp only [Act.put, List.setIfInBounds_toArray, List.set_cons_zero, List.set_cons_succ]); go_simp; with_reducible rfl))
  first | (refine wpPureH_step (v := ?_) rfl (fun W hS => ?_) ?_; rotate_left; · (obtain ⟨s1, s2, s3⟩ := hS; (try simp only [Act.put, List.setIfInBounds_toArray, List.set_cons_zero, List.set_cons_succ]); go_simp; with_reducible rfl)) | (refine wpPureH_want (v := ?_) (by rfl) (fun W hS => ?_) ?_; rotate_left; · (obtain ⟨s1, s2, s3⟩ := hS; (try simp only [Act.put, List.setIfInBounds_toArray, List.set_cons_zero, List.set_cons_succ]); go_simp; with_reducible rfl))
  refine wpPureH_nil ?_
  simp only [Act.put, List.setIfInBounds_toArray, List.set_cons_zero, List.set_cons_succ]
  have kw0 := (kwX.alloc (.cells #[.bool m, .int .i64 n, .int .i64 0] 69))
  have bg0 := (bgX.alloc (.cells #[.bool m, .int .i64 n, .int .i64 0] 69))
  have bb0 : Blk ((((w1.alloc (.cells #[.int .i64 k5, .bool y5, .int .u64 m5, .string (S l5), .int .i64 c5] 34)).alloc (.cells #[] 60)).alloc (.cells #[.bool m, .int .i64 n] 57)).alloc (.cells #[.bool m, .int .i64 n, .int .i64 0] 69)) (w1.heap.size + 1 + 1 + 1) 69 #[.bool m, .int .i64 n, .int .i64 0] := by simpa using Blk.new (((w1.alloc (.cells #[.int .i64 k5, .bool y5, .int .u64 m5, .string (S l5), .int .i64 c5] 34)).alloc (.cells #[] 60)).alloc (.cells #[.bool m, .int .i64 n] 57)) 69 #[.bool m, .int .i64 n, .int .i64 0]
  refine wpTree_step ?_
  simp only [opsAt, List.getElem?_cons_zero, List.getElem?_cons_succ]
  go_wp2_with fail
  refine ⟨.inr ⟨kw0.2.1.cellv 0 _ rfl, bg0.cellv 0 _ rfl, bg0.cellv 1 _ rfl⟩, ?_⟩
  refine wpTree_step ?_
  simp only [opsAt, List.getElem?_cons_zero, List.getElem?_cons_succ]
  refine wpList_append_slN rfl (.tmp 106) (.tmp 112) 25 rfl _ 24 Try.underlying25 info_cont rfl (by decide) kw0.2.2.drew (SlN.oneN (base := 0) (Nat.zero_le _) bb0.drew rfl).src rfl rfl rfl (by intro y hy; simp at hy; rcases hy with rfl | rfl | rfl <;> rfl) (by unfold maxLen; simp) (by simp) ?_ ?_
  · have := kw0.1
    have := kw0.2.1.lt
    simp at this ⊢
    omega
  intro v' w' hv' ho' hf'
  have hs1 : SlN w' B 69 3 v' ([] ++ [(⟨m, n, 0⟩ : Cont)]).length (contV ([] ++ [⟨m, n, 0⟩])) := by
    rw [contV_append, List.length_append]
    exact hv'
  have hlt1 : ∀ k ∈ slB (.slice a9 ([] : List Cont).length c9), k < w1.heap.size := fun k hk => (kw.2.2.lt k hk).2
  have ho1 : Only (slB (.slice a9 ([] : List Cont).length c9)) w1 w' := (((((Only.refl _ w1).alloc _).alloc _).alloc _).alloc _).drew.trans ho'
  have hf1 : ∀ k ∈ slB v', k ∈ slB (.slice a9 ([] : List Cont).length c9) ∨ w1.heap.size ≤ k := fun k hk => (hf' k hk).imp_right fun h => by simp at h; omega
  have bg1 := ho'.blk bg0.drew (fun hk => by have := hlt1 _ hk; omega)
  have pb1 := (ho'.blk kw0.2.1.drew kw.out)
  obtain ⟨a', c', rfl⟩ := hs1.form
  have hput := kw.put ho1 hs1 hf1
  have bgne : w1.heap.size + 1 + 1 ≠ p := by omega
  have bg2 := bg1.far (p := ⟨p, 0, none⟩) bgne (.slice a' ([] ++ [(⟨m, n, 0⟩ : Cont)]).length c')
  have pf := pb1.frozen 0
  have HP := hide hput
  have HF := hide hf1
  clear hput hf1 hs1 hv' hf' ho' ho1 bb0 kw0 kwX bgX bg0
  go_wp2_with fail
  refine ⟨.inr ⟨pb1.cellv 0 _ rfl, bg1.cellv 0 _ rfl, bg1.cellv 1 _ rfl⟩, ?_⟩
  refine wpTree_step ?_
  simp only [opsAt, List.getElem?_cons_zero, List.getElem?_cons_succ]
  go_wp2_with fail
  refine ⟨.inr (⟨pb1.cellv 0 _ rfl, bg1.cellv 0 _ rfl, bg1.cellv 1 _ rfl⟩), ?_⟩
  refine wpTree_step ?_
  simp only [opsAt, List.getElem?_cons_zero, List.getElem?_cons_succ]
  go_wp2_with fail
  refine ⟨.inr (⟨pb1.cellv 0 _ rfl, bg1.cellv 0 _ rfl, bg1.cellv 1 _ rfl⟩), ?_⟩
  have pc := pb1.cellv 0 _ rfl
  refine wpTree_step ?_
  simp only [opsAt, List.getElem?_cons_zero, List.getElem?_cons_succ]
  go_wp2_with fail
  refine ⟨.inl trivial, wpTree_fin ?_⟩
  obtain ⟨W5, hW5⟩ : ∃ W5, W5 = w'.setCell ⟨p, 0, none⟩ (.slice a' 1 c') := ⟨_, rfl⟩
  have bg3 : Blk W5 (w1.heap.size + 1 + 1) 57 #[.bool m, .int .i64 n] := by rw [hW5]; exact bg2
  have HP5 : Hid (Wr W5 B p (.slice a' ([] ++ [(⟨m, n, 0⟩ : Cont)]).length c') ([] ++ [⟨m, n, 0⟩]) false ∧ Only (p :: slB (.slice a9 ([] : List Cont).length c9)) w1 W5) := hide (by rw [hW5]; exact HP.out)
  rw [← hW5]
  have hsz5 := HP5.out.2.size
  have b0 := bg3.cellv 0 _ rfl
  have b1 := bg3.cellv 1 _ rfl
  clear hW5 HP bg1 bg2 bg3 pb1 pf pc kw t5 t3 t6 hlt1 kc0 kc1
  cases m with
  | false =>
    by_cases hn0 : n < 0
    · have hneg : decide (n < 0) = true := decide_eq_true hn0
      have HB := fun W => hide (big_at (IntKind.u64.wrap (bits BinOp.or IntKind.i64 128 31)) 1 159 1 (by decide) rfl (by omega) (by omega) r (by rw [HR.out]; unfold headB; rw [if_pos hn0]; rfl) W)
      go_wp2_with fail
      (with_reducible refine (unhide (HB _)).mono ?_)
      rintro e w9 ⟨rfl, ho9⟩
      go_wp2_with fail
      go_ret2
      refine ⟨rfl, _, HP5.out.1.below ho9.nil_below, ((Only.ofBelow hb1).trans HP5.out.2).thenBelow ho9.nil_below (Nat.le_trans hb1.size hsz5), fun k hk => (HF.out k hk).imp_right (Nat.le_trans hb1.size)⟩
    · have hneg : decide (n < 0) = false := decide_eq_false hn0
      have h64 : n ≤ 9223372036854775807 := hn64.out
      have hw : wrap64 n = n := by unfold wrap64; omega
      have HB := fun W => hide (put_s 4 n.toNat (IntKind.u64.wrap n) (by rw [show IntKind.u64.wrap n = n % 18446744073709551616 from rfl]; omega) r (by rw [HR.out]; unfold headB; rw [if_neg hn0]; rfl) W)
      clear h64
      go_wp2_with fail
      (with_reducible refine (unhide (HB _)).mono ?_)
      rintro e w9 ⟨rfl, ho9⟩
      go_wp2_with fail
      go_ret2
      refine ⟨rfl, _, HP5.out.1.below ho9.nil_below, ((Only.ofBelow hb1).trans HP5.out.2).thenBelow ho9.nil_below (Nat.le_trans hb1.size hsz5), fun k hk => (HF.out k hk).imp_right (Nat.le_trans hb1.size)⟩
  | true =>
    by_cases hn0 : n < 0
    · have hneg : decide (n < 0) = true := decide_eq_true hn0
      have HB := fun W => hide (big_at (IntKind.u64.wrap (bits BinOp.or IntKind.i64 160 31)) 1 191 1 (by decide) rfl (by omega) (by omega) r (by rw [HR.out]; unfold headB; rw [if_pos hn0]; rfl) W)
      go_wp2_with fail
      (with_reducible refine (unhide (HB _)).mono ?_)
      rintro e w9 ⟨rfl, ho9⟩
      go_wp2_with fail
      go_ret2
      refine ⟨rfl, _, HP5.out.1.below ho9.nil_below, ((Only.ofBelow hb1).trans HP5.out.2).thenBelow ho9.nil_below (Nat.le_trans hb1.size hsz5), fun k hk => (HF.out k hk).imp_right (Nat.le_trans hb1.size)⟩
    · have hneg : decide (n < 0) = false := decide_eq_false hn0
      have h64 : n ≤ 9223372036854775807 := hn64.out
      have hw : wrap64 n = n := by unfold wrap64; omega
      have HB := fun W => hide (put_s 5 n.toNat (IntKind.u64.wrap n) (by rw [show IntKind.u64.wrap n = n % 18446744073709551616 from rfl]; omega) r (by rw [HR.out]; unfold headB; rw [if_neg hn0]; rfl) W)
      clear h64
      go_wp2_with fail
      (with_reducible refine (unhide (HB _)).mono ?_)
      rintro e w9 ⟨rfl, ho9⟩
      go_wp2_with fail
      go_ret2
      refine ⟨rfl, _, HP5.out.1.below ho9.nil_below, ((Only.ofBelow hb1).trans HP5.out.2).thenBelow ho9.nil_below (Nat.le_trans hb1.size hsz5), fun k hk => (HF.out k hk).imp_right (Nat.le_trans hb1.size)⟩
end Go.Proofs.Ytjegeoeebbfajaa
