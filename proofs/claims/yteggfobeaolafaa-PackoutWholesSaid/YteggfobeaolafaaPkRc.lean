/-
  The reference's reader: a document that is one whole number.
-/
import Derived.Test.YteggfobeaolafaaPkRb
namespace Go.Proofs.Yteggfobeaolafaa
open Go.RowKit

theorem only_new {S T : List Nat} {a w w' : World} (h : Only S a w) (k : Only (S ++ T) w w') (hT : ∀ x ∈ T, a.heap.size ≤ x) : Only S a w' :=
  ⟨k.os.trans h.os, k.tape.trans h.tape, k.output.trans h.output, Nat.le_trans h.size k.size, fun i hi hn => (k.block i (Nat.lt_of_lt_of_le hi h.size) (fun hm => by
    rcases List.mem_append.1 hm with hm | hm
    · exact hn hm
    · have := hT i hm; omega)).trans (h.block i hi hn)⟩
theorem Took.drewN {w w' : World} {p q : Nat} {l : List UInt8} {g : Bool} {m : Int} {k : Nat} (h : Took (w.drewN k) w' p q l g m) : Took w w' p q l g m := by
  obtain ⟨a, c, h1, h2, h3⟩ := h
  exact ⟨a, c, h1, h2, (Only.of_below (below_drewN (Below.refl w.heap.size w) k) [p, q]).trans h3⟩
theorem InS.held {w : World} {p q : Nat} {l : List UInt8} {i : Int} {lv : Value} {d : Bool} (h : InS w p q l i lv d) : InS (w.setCell ⟨q, 3, none⟩ (.int .i64 0)) p q l i lv d := ⟨h.pb.far (p := ⟨q, 3, none⟩) h.ne _, by simpa using h.qb.set_ 3 (.int .i64 0)⟩
set_option maxHeartbeats 1000000 in
theorem end_any {w : World} {p q : Nat} {l : List UInt8} {i : Int} {a : Option Addr} {c : Nat} (h : InS w p q l i (.slice a 1 c) true) :
    Calls Try.prog 38 #[.pointer (some ⟨p, 0, none⟩)] w fun e w' => e = .returned (.agg #[.slice a 1 c, .int .i64 0, .bool true, .int .i64 0]) ∧ Only [q] w w' := by
  have hb1 := (Below.refl w.heap.size w).alloc (Nat.le_refl _) (.cells #[.slice none 0 0, .int .i64 0, .bool false, .int .i64 0] 56)
  obtain ⟨W1, hW1⟩ : ∃ W1, W1 = w.alloc (.cells #[.slice none 0 0, .int .i64 0, .bool false, .int .i64 0] 56) := ⟨_, rfl⟩
  obtain ⟨bx, hbx⟩ : ∃ bx, bx = w.heap.size := ⟨_, rfl⟩
  have hblk := Blk.new w 56 #[.slice none 0 0, .int .i64 0, .bool false, .int .i64 0]
  have h1 := h.below hb1
  rw [← hW1] at hb1 h1 hblk
  rw [← hbx] at hblk
  have s1 : W1.cell? ⟨p, 3, none⟩ = some (.pointer (some ⟨q, 0, none⟩)) := h1.pb.cellv 3 _ rfl
  have s2 : W1.cell? ⟨p, 4, none⟩ = some (.slice none 0 0) := h1.pb.cellv 4 _ rfl
  have s3 : W1.cell? ⟨q, 3, none⟩ = some (.int .i64 0) := h1.qb.cellv 3 _ rfl
  have f3 := h1.qb.frozen 3
  have hqb : bx ≠ q := by have := h.qb.lt; omega
  have hpq := h.ne
  have HW := hide hW1
  have HBX := hide hbx
  have H1 := hide h1
  have HBK := hide hblk
  have HB1 := hide hb1
  clear h h1 hblk hb1
  go_enter Try.func38, Try.ntmps38
  go_wp2_with fail
  rw [← HW.out, ← HBX.out]
  clear hW1 hbx
  refine wp_region_tree (fun W => W.cell? ⟨p, 3, none⟩ = some (.pointer (some ⟨q, 0, none⟩)) ∧ W.cell? ⟨p, 4, none⟩ = some (.slice none 0 0) ∧ W.cell? ⟨q, 3, none⟩ = some (.int .i64 0)) 20 (.take [0, 1, 2, 3, 4, 5, 6, 7, 8, 9, 10, 11, 12, 13, 14, 15, 16, 17, 18] (.step 19 (.fin))) (by kernel_rfl) (by kernel_rfl) (by intro _ _ _ _ _ h; exact h) ?_
  refine wpTree_take (⟨s1, s2, s3⟩) ?_
  simp only [opsAt, List.getElem?_cons_zero, List.getElem?_cons_succ]
  first | (refine wpPureH_step (v := ?_) rfl (fun W hS => ?_) ?_; rotate_left; · (obtain ⟨t1, t2, t3⟩ := hS; (try simp only [Act.put, List.setIfInBounds_toArray, List.set_cons_zero, List.set_cons_succ]); go_simp; with_reducible rfl)) | (refine wpPureH_want (v := ?_) (by rfl) (fun W hS => ?_) ?_; rotate_left; · (obtain ⟨t1, t2, t3⟩ := hS; (try simp only [Act.put, List.setIfInBounds_toArray, List.set_cons_zero, List.set_cons_succ]); go_simp; with_reducible rfl))
  first | (refine wpPureH_step (v := ?_) rfl (fun W hS => ?_) ?_; rotate_left; · (obtain ⟨t1, t2, t3⟩ := hS; (try simp only [Act.put, List.setIfInBounds_toArray, List.set_cons_zero, List.set_cons_succ]); go_simp; with_reducible rfl)) | (refine wpPureH_want (v := ?_) (by rfl) (fun W hS => ?_) ?_; rotate_left; · (obtain ⟨t1, t2, t3⟩ := hS; (try simp only [Act.put, List.setIfInBounds_toArray, List.set_cons_zero, List.set_cons_succ]); go_simp; with_reducible rfl))
  first | (refine wpPureH_step (v := ?_) rfl (fun W hS => ?_) ?_; rotate_left; · (obtain ⟨t1, t2, t3⟩ := hS; (try simp only [Act.put, List.setIfInBounds_toArray, List.set_cons_zero, List.set_cons_succ]); go_simp; with_reducible rfl)) | (refine wpPureH_want (v := ?_) (by rfl) (fun W hS => ?_) ?_; rotate_left; · (obtain ⟨t1, t2, t3⟩ := hS; (try simp only [Act.put, List.setIfInBounds_toArray, List.set_cons_zero, List.set_cons_succ]); go_simp; with_reducible rfl))
  first | (refine wpPureH_step (v := ?_) rfl (fun W hS => ?_) ?_; rotate_left; · (obtain ⟨t1, t2, t3⟩ := hS; (try simp only [Act.put, List.setIfInBounds_toArray, List.set_cons_zero, List.set_cons_succ]); go_simp; with_reducible rfl)) | (refine wpPureH_want (v := ?_) (by rfl) (fun W hS => ?_) ?_; rotate_left; · (obtain ⟨t1, t2, t3⟩ := hS; (try simp only [Act.put, List.setIfInBounds_toArray, List.set_cons_zero, List.set_cons_succ]); go_simp; with_reducible rfl))
  first | (refine wpPureH_step (v := ?_) rfl (fun W hS => ?_) ?_; rotate_left; · (obtain ⟨t1, t2, t3⟩ := hS; (try simp only [Act.put, List.setIfInBounds_toArray, List.set_cons_zero, List.set_cons_succ]); go_simp; with_reducible rfl)) | (refine wpPureH_want (v := ?_) (by rfl) (fun W hS => ?_) ?_; rotate_left; · (obtain ⟨t1, t2, t3⟩ := hS; (try simp only [Act.put, List.setIfInBounds_toArray, List.set_cons_zero, List.set_cons_succ]); go_simp; with_reducible rfl))
  first | (refine wpPureH_step (v := ?_) rfl (fun W hS => ?_) ?_; rotate_left; · (obtain ⟨t1, t2, t3⟩ := hS; (try simp only [Act.put, List.setIfInBounds_toArray, List.set_cons_zero, List.set_cons_succ]); go_simp; with_reducible rfl)) | (refine wpPureH_want (v := ?_) (by rfl) (fun W hS => ?_) ?_; rotate_left; · (obtain ⟨t1, t2, t3⟩ := hS; (try simp only [Act.put, List.setIfInBounds_toArray, List.set_cons_zero, List.set_cons_succ]); go_simp; with_reducible rfl))
  first | (refine wpPureH_step (v := ?_) rfl (fun W hS => ?_) ?_; rotate_left; · (obtain ⟨t1, t2, t3⟩ := hS; (try simp only [Act.put, List.setIfInBounds_toArray, List.set_cons_zero, List.set_cons_succ]); go_simp; with_reducible rfl)) | (refine wpPureH_want (v := ?_) (by rfl) (fun W hS => ?_) ?_; rotate_left; · (obtain ⟨t1, t2, t3⟩ := hS; (try simp only [Act.put, List.setIfInBounds_toArray, List.set_cons_zero, List.set_cons_succ]); go_simp; with_reducible rfl))
  first | (refine wpPureH_step (v := ?_) rfl (fun W hS => ?_) ?_; rotate_left; · (obtain ⟨t1, t2, t3⟩ := hS; (try simp only [Act.put, List.setIfInBounds_toArray, List.set_cons_zero, List.set_cons_succ]); go_simp; with_reducible rfl)) | (refine wpPureH_want (v := ?_) (by rfl) (fun W hS => ?_) ?_; rotate_left; · (obtain ⟨t1, t2, t3⟩ := hS; (try simp only [Act.put, List.setIfInBounds_toArray, List.set_cons_zero, List.set_cons_succ]); go_simp; with_reducible rfl))
  first | (refine wpPureH_step (v := ?_) rfl (fun W hS => ?_) ?_; rotate_left; · (obtain ⟨t1, t2, t3⟩ := hS; (try simp only [Act.put, List.setIfInBounds_toArray, List.set_cons_zero, List.set_cons_succ]); go_simp; with_reducible rfl)) | (refine wpPureH_want (v := ?_) (by rfl) (fun W hS => ?_) ?_; rotate_left; · (obtain ⟨t1, t2, t3⟩ := hS; (try simp only [Act.put, List.setIfInBounds_toArray, List.set_cons_zero, List.set_cons_succ]); go_simp; with_reducible rfl))
  first | (refine wpPureH_step (v := ?_) rfl (fun W hS => ?_) ?_; rotate_left; · (obtain ⟨t1, t2, t3⟩ := hS; (try simp only [Act.put, List.setIfInBounds_toArray, List.set_cons_zero, List.set_cons_succ]); go_simp; with_reducible rfl)) | (refine wpPureH_want (v := ?_) (by rfl) (fun W hS => ?_) ?_; rotate_left; · (obtain ⟨t1, t2, t3⟩ := hS; (try simp only [Act.put, List.setIfInBounds_toArray, List.set_cons_zero, List.set_cons_succ]); go_simp; with_reducible rfl))
  first | (refine wpPureH_step (v := ?_) rfl (fun W hS => ?_) ?_; rotate_left; · (obtain ⟨t1, t2, t3⟩ := hS; (try simp only [Act.put, List.setIfInBounds_toArray, List.set_cons_zero, List.set_cons_succ]); go_simp; with_reducible rfl)) | (refine wpPureH_want (v := ?_) (by rfl) (fun W hS => ?_) ?_; rotate_left; · (obtain ⟨t1, t2, t3⟩ := hS; (try simp only [Act.put, List.setIfInBounds_toArray, List.set_cons_zero, List.set_cons_succ]); go_simp; with_reducible rfl))
  first | (refine wpPureH_step (v := ?_) rfl (fun W hS => ?_) ?_; rotate_left; · (obtain ⟨t1, t2, t3⟩ := hS; (try simp only [Act.put, List.setIfInBounds_toArray, List.set_cons_zero, List.set_cons_succ]); go_simp; with_reducible rfl)) | (refine wpPureH_want (v := ?_) (by rfl) (fun W hS => ?_) ?_; rotate_left; · (obtain ⟨t1, t2, t3⟩ := hS; (try simp only [Act.put, List.setIfInBounds_toArray, List.set_cons_zero, List.set_cons_succ]); go_simp; with_reducible rfl))
  first | (refine wpPureH_step (v := ?_) rfl (fun W hS => ?_) ?_; rotate_left; · (obtain ⟨t1, t2, t3⟩ := hS; (try simp only [Act.put, List.setIfInBounds_toArray, List.set_cons_zero, List.set_cons_succ]); go_simp; with_reducible rfl)) | (refine wpPureH_want (v := ?_) (by rfl) (fun W hS => ?_) ?_; rotate_left; · (obtain ⟨t1, t2, t3⟩ := hS; (try simp only [Act.put, List.setIfInBounds_toArray, List.set_cons_zero, List.set_cons_succ]); go_simp; with_reducible rfl))
  first | (refine wpPureH_step (v := ?_) rfl (fun W hS => ?_) ?_; rotate_left; · (obtain ⟨t1, t2, t3⟩ := hS; (try simp only [Act.put, List.setIfInBounds_toArray, List.set_cons_zero, List.set_cons_succ]); go_simp; with_reducible rfl)) | (refine wpPureH_want (v := ?_) (by rfl) (fun W hS => ?_) ?_; rotate_left; · (obtain ⟨t1, t2, t3⟩ := hS; (try simp only [Act.put, List.setIfInBounds_toArray, List.set_cons_zero, List.set_cons_succ]); go_simp; with_reducible rfl))
  first | (refine wpPureH_step (v := ?_) rfl (fun W hS => ?_) ?_; rotate_left; · (obtain ⟨t1, t2, t3⟩ := hS; (try simp only [Act.put, List.setIfInBounds_toArray, List.set_cons_zero, List.set_cons_succ]); go_simp; with_reducible rfl)) | (refine wpPureH_want (v := ?_) (by rfl) (fun W hS => ?_) ?_; rotate_left; · (obtain ⟨t1, t2, t3⟩ := hS; (try simp only [Act.put, List.setIfInBounds_toArray, List.set_cons_zero, List.set_cons_succ]); go_simp; with_reducible rfl))
  first | (refine wpPureH_step (v := ?_) rfl (fun W hS => ?_) ?_; rotate_left; · (obtain ⟨t1, t2, t3⟩ := hS; (try simp only [Act.put, List.setIfInBounds_toArray, List.set_cons_zero, List.set_cons_succ]); go_simp; with_reducible rfl)) | (refine wpPureH_want (v := ?_) (by rfl) (fun W hS => ?_) ?_; rotate_left; · (obtain ⟨t1, t2, t3⟩ := hS; (try simp only [Act.put, List.setIfInBounds_toArray, List.set_cons_zero, List.set_cons_succ]); go_simp; with_reducible rfl))
  first | (refine wpPureH_step (v := ?_) rfl (fun W hS => ?_) ?_; rotate_left; · (obtain ⟨t1, t2, t3⟩ := hS; (try simp only [Act.put, List.setIfInBounds_toArray, List.set_cons_zero, List.set_cons_succ]); go_simp; with_reducible rfl)) | (refine wpPureH_want (v := ?_) (by rfl) (fun W hS => ?_) ?_; rotate_left; · (obtain ⟨t1, t2, t3⟩ := hS; (try simp only [Act.put, List.setIfInBounds_toArray, List.set_cons_zero, List.set_cons_succ]); go_simp; with_reducible rfl))
  first | (refine wpPureH_step (v := ?_) rfl (fun W hS => ?_) ?_; rotate_left; · (obtain ⟨t1, t2, t3⟩ := hS; (try simp only [Act.put, List.setIfInBounds_toArray, List.set_cons_zero, List.set_cons_succ]); go_simp; with_reducible rfl)) | (refine wpPureH_want (v := ?_) (by rfl) (fun W hS => ?_) ?_; rotate_left; · (obtain ⟨t1, t2, t3⟩ := hS; (try simp only [Act.put, List.setIfInBounds_toArray, List.set_cons_zero, List.set_cons_succ]); go_simp; with_reducible rfl))
  first | (refine wpPureH_step (v := ?_) rfl (fun W hS => ?_) ?_; rotate_left; · (obtain ⟨t1, t2, t3⟩ := hS; (try simp only [Act.put, List.setIfInBounds_toArray, List.set_cons_zero, List.set_cons_succ]); go_simp; with_reducible rfl)) | (refine wpPureH_want (v := ?_) (by rfl) (fun W hS => ?_) ?_; rotate_left; · (obtain ⟨t1, t2, t3⟩ := hS; (try simp only [Act.put, List.setIfInBounds_toArray, List.set_cons_zero, List.set_cons_succ]); go_simp; with_reducible rfl))
  refine wpPureH_nil ?_
  simp only [Act.put, List.setIfInBounds_toArray, List.set_cons_zero, List.set_cons_succ]
  refine wpTree_step ?_
  simp only [opsAt, List.getElem?_cons_zero, List.getElem?_cons_succ]
  go_wp2_with fail
  have h2 := H1.out.held
  have hbk2 := HBK.out.far (p := ⟨q, 3, none⟩) hqb (.int .i64 0)
  have ho2 : Only [q] w (W1.setCell ⟨q, 3, none⟩ (.int .i64 0)) := (Only.of_below HB1.out [q]).setCell (p := ⟨q, 3, none⟩) (by simp) _
  obtain ⟨W2, hW2⟩ : ∃ W2, W2 = W1.setCell ⟨q, 3, none⟩ (.int .i64 0) := ⟨_, rfl⟩
  rw [← hW2] at h2 hbk2 ho2 ⊢
  have x3 : W2.cell? ⟨p, 3, none⟩ = some (.pointer (some ⟨q, 0, none⟩)) := h2.pb.cellv 3 _ rfl
  have x4 : W2.cell? ⟨p, 4, none⟩ = some (.slice none 0 0) := h2.pb.cellv 4 _ rfl
  have q0 : W2.cell? ⟨q, 0, none⟩ = some (.slice a 1 c) := h2.qb.cellv 0 _ rfl
  have q1 : W2.cell? ⟨q, 1, none⟩ = some (.int .i64 0) := h2.qb.cellv 1 _ rfl
  have q2 : W2.cell? ⟨q, 2, none⟩ = some (.bool true) := h2.qb.cellv 2 _ rfl
  have q3 : W2.cell? ⟨q, 3, none⟩ = some (.int .i64 0) := h2.qb.cellv 3 _ rfl
  refine ⟨.inr ⟨x3, x4, q3⟩, wpTree_fin ?_⟩
  clear s1 s2 s3 f3 hW2
  have g0 := hbk2.frozen 0
  have g1 := hbk2.frozen 1
  have g2 := hbk2.frozen 2
  have g3 := hbk2.frozen 3
  have b0 := hbk2.cellv 0 _ rfl
  have b1 := hbk2.cellv 1 _ rfl
  have b2 := hbk2.cellv 2 _ rfl
  have b3 := hbk2.cellv 3 _ rfl
  go_wp2_with fail
  have z0 := hbk2.set_ 0 (.slice a 1 c)
  have z1 := z0.set_ 1 (.int .i64 0)
  have z2 := z1.set_ 2 (.bool true)
  have z3 := z2.set_ 3 (.int .i64 0)
  have e3 : ((((W2.setCell ⟨bx, 0, none⟩ (.slice a 1 c)).setCell ⟨bx, 1, none⟩ (.int .i64 0)).setCell ⟨bx, 2, none⟩ (.bool true)).setCell ⟨bx, 3, none⟩ (.int .i64 0)).cell? ⟨bx, 3, none⟩ = some (.int .i64 0) := z3.cellv 3 _ (by simp)
  have y0 := (z3.cellv 0 (.slice a 1 c) (by simp))
  have y1 := (z3.cellv 1 (.int .i64 0) (by simp))
  have y2 := (z3.cellv 2 (.bool true) (by simp))
  refine bodyPost_ret (v := .agg #[.slice a 1 c, .int .i64 0, .bool true, .int .i64 0]) (by simp [results, Try.results38, go_sem, e3, y0, y1, y2]; try rfl) rfl ⟨rfl, ?_⟩
  refine only_new (T := [bx]) ho2 ?_ (fun k hk => by rw [List.mem_singleton.1 hk, HBX.out]; exact Nat.le_refl _)
  exact (((((Only.refl ([q] ++ [bx]) W2).setCell (p := ⟨bx, 0, none⟩) (by simp) _).setCell (p := ⟨bx, 1, none⟩) (by simp) _).setCell (p := ⟨bx, 2, none⟩) (by simp) _).setCell (p := ⟨bx, 3, none⟩) (by simp) _).drew
theorem pack_all {w : World} (l : List UInt8) (hl : 0 < l.length) (hl9 : l.length ≤ 9) (g : Bool) (m : Int) (H : ∀ (W : World) (p q : Nat), InS W p q l 0 (.slice none 0 0) false → Calls Try.prog 37 #[.pointer (some ⟨p, 0, none⟩)] W fun e w' => e = .returned (.bool true) ∧ Took W w' p q l g m) :
    Calls Try.prog 22 #[.string (S l), .int .i64 1] w fun e w' => ∃ a c, e = .returned (.agg #[.slice a 1 c, .int .i64 0, .bool true, .int .i64 0]) ∧ SlN w' w.heap.size 34 5 (.slice a 1 c) 1 [.int .i64 2, .bool g, .int .u64 m, .string (⟨#[]⟩ : ByteArray), .int .i64 0] ∧ Below w.heap.size w w' := by
  obtain ⟨W1, hW1⟩ : ∃ W1, W1 = ((w.alloc (.cells #[.slice none 0 0, .int .i64 0, .bool false, .int .i64 0] 56)).alloc (.cells #[.slice none 0 0, .int .i64 0, .bool false, .int .i64 0] 56)).alloc (.cells #[.string (S l), .int .i64 0, .int .i64 1, .pointer (some ⟨w.heap.size + 1, 0, none⟩), .slice none 0 0] 88) := ⟨_, rfl⟩
  obtain ⟨bx, hbx⟩ : ∃ bx, bx = w.heap.size := ⟨_, rfl⟩
  obtain ⟨q, hq⟩ : ∃ q, q = w.heap.size + 1 := ⟨_, rfl⟩
  obtain ⟨p, hp⟩ : ∃ p, p = w.heap.size + 1 + 1 := ⟨_, rfl⟩
  have hin : InS W1 p q l 0 (.slice none 0 0) false := by
    subst hW1 hq hp
    exact ⟨by simpa using Blk.new ((w.alloc (.cells #[.slice none 0 0, .int .i64 0, .bool false, .int .i64 0] 56)).alloc (.cells #[.slice none 0 0, .int .i64 0, .bool false, .int .i64 0] 56)) 88 #[.string (S l), .int .i64 0, .int .i64 1, .pointer (some ⟨w.heap.size + 1, 0, none⟩), .slice none 0 0], by simpa using (Blk.new (w.alloc (.cells #[.slice none 0 0, .int .i64 0, .bool false, .int .i64 0] 56)) 56 #[.slice none 0 0, .int .i64 0, .bool false, .int .i64 0]).alloc (.cells #[.string (S l), .int .i64 0, .int .i64 1, .pointer (some ⟨w.heap.size + 1, 0, none⟩), .slice none 0 0] 88)⟩
  have hbk : Blk W1 bx 56 #[.slice none 0 0, .int .i64 0, .bool false, .int .i64 0] := by
    subst hW1 hbx
    exact ((Blk.new w 56 #[.slice none 0 0, .int .i64 0, .bool false, .int .i64 0]).alloc _).alloc _
  have hb1 : Below w.heap.size w W1 := by
    subst hW1
    exact (((Below.refl _ _).alloc (Nat.le_refl _) _).alloc (by simp) _).alloc (by simp; omega) _
  have HIN := hide hin
  have HBK := hide hbk
  have HB1 := hide hb1
  have HLK := fun m => hide (lack_any (hin.drewN m) false (decide_eq_false (by omega)).symm)
  have HLK0 := hide (lack_any hin false (decide_eq_false (by omega)).symm)
  have HPK := fun k => hide (H _ _ _ (hin.drewN k))
  have HW := hide hW1
  have HQP := hide hq
  have HPP := hide hp
  have HBP := hide hbx
  have HH := hide H
  have hbq : bx ≠ q ∧ bx ≠ p := by omega
  have HBQ := hide hbq
  clear hin hbk hb1 H hbq
  go_enter Try.func22, Try.ntmps22
  go_wp2_with fail
  rw [← HW.out, ← HPP.out, ← HQP.out, ← HBP.out]
  clear hW1 hbx hq hp
  go_loopg [] 1 (fun gg wr => (gg = 1 ∧ wr = W1) ∨ (gg = 0 ∧ Hid (Took W1 wr p q l g m)))
  case atStart => exact .inl ⟨rfl, rfl⟩
  case round =>
    rcases hrel with ⟨rfl, rfl⟩ | ⟨rfl, ht⟩
    · go_wp2_with fail
      (with_reducible refine (unhide HLK0).mono ?_)
      rintro e1 w1 ⟨rfl, m1, rfl⟩
      go_wp2_with fail
      (with_reducible refine (unhide (HPK _)).mono ?_)
      rintro e2 w2 ⟨rfl, ht⟩
      have HT := hide ht.drewN
      clear ht
      go_wp2_with fail
      go_roundg 0
      case measure => omega
      case rel => exact .inr ⟨rfl, HT⟩
    · obtain ⟨a, c, h3, hs3, ho3⟩ := ht.out
      have HLK2 := hide (lack_any h3 true (decide_eq_true (by omega)).symm)
      have HEN := fun k => hide (end_any (h3.drewN k))
      have hqs := hs3.notBlk h3.qb (by decide)
      have hbk3 := ho3.blk HBK.out (by simp; exact ⟨HBQ.out.2, HBQ.out.1⟩)
      have hxs := hs3.notBlk hbk3 (by decide)
      have HS3 := hide hs3
      have HQS := hide hqs
      have HXS := hide hxs
      have HB3 := hide hbk3
      have HO3 := hide ho3
      clear ht h3 hs3 ho3 hqs hbk3 hxs HLK HLK0 HPK HH
      go_wp2_with fail
      (with_reducible refine (unhide HLK2).mono ?_)
      rintro e1 w1 ⟨rfl, m1, rfl⟩
      go_wp2_with fail
      (with_reducible refine (unhide (HEN _)).mono ?_)
      rintro e2 w2 ⟨rfl, ho4⟩
      have ho5 : Only [q] wr w2 := (Only.of_below (below_drewN (Below.refl wr.heap.size wr) m1) [q]).trans ho4
      have hbk2 := ho5.blk HB3.out (by simp; exact HBQ.out.1)
      have HS4 := hide (HS3.out.keep ho5 (fun k hk hk2 => HQS.out (by rw [List.mem_singleton.1 hk2] at hk; exact hk)))
      have hsz := HB1.out.size
      have hb3 : Below w.heap.size w w2 := (HB1.out.trans (HO3.out.below hsz (fun k hk => by
        have h1 := HQP.out; have h2 := HPP.out
        simp at hk
        omega))).trans (ho5.below (Nat.le_trans hsz HO3.out.size) (fun k hk => by have h1 := HQP.out; rw [List.mem_singleton.1 hk]; omega))
      have HB5 := hide hb3
      have g0 := hbk2.frozen 0
      have g1 := hbk2.frozen 1
      have g2 := hbk2.frozen 2
      have g3 := hbk2.frozen 3
      have b0 := hbk2.cellv 0 _ rfl
      have b1 := hbk2.cellv 1 _ rfl
      have b2 := hbk2.cellv 2 _ rfl
      have b3 := hbk2.cellv 3 _ rfl
      have HK2 := hide hbk2
      clear ho4 ho5 hbk2 hb3 HEN HLK2
      go_wp2_with fail
      have z0 := HK2.out.set_ 0 (.slice a 1 c)
      have z1 := z0.set_ 1 (.int .i64 0)
      have z2 := z1.set_ 2 (.bool true)
      have z3 := z2.set_ 3 (.int .i64 0)
      have e3 : ((((w2.setCell ⟨bx, 0, none⟩ (.slice a 1 c)).setCell ⟨bx, 1, none⟩ (.int .i64 0)).setCell ⟨bx, 2, none⟩ (.bool true)).setCell ⟨bx, 3, none⟩ (.int .i64 0)).cell? ⟨bx, 3, none⟩ = some (.int .i64 0) := z3.cellv 3 _ (by simp)
      have y0 := (z3.cellv 0 (.slice a 1 c) (by simp))
      have y1 := (z3.cellv 1 (.int .i64 0) (by simp))
      have y2 := (z3.cellv 2 (.bool true) (by simp))
      have hbw : w.heap.size ≤ bx := by rw [HBP.out]; exact Nat.le_refl _
      refine bodyPost_ret (v := .agg #[.slice a 1 c, .int .i64 0, .bool true, .int .i64 0]) (by simp [results, Try.results22, go_sem, e3, y0, y1, y2]; try rfl) rfl ⟨a, c, rfl, ?_, ?_⟩
      · exact ((((HS4.out.mono hsz).far (p := ⟨bx, 0, none⟩) HXS.out _).far (p := ⟨bx, 1, none⟩) HXS.out _).far (p := ⟨bx, 2, none⟩) HXS.out _).far (p := ⟨bx, 3, none⟩) HXS.out _
      · exact (((HB5.out.setCell (p := ⟨bx, 0, none⟩) hbw _).setCell (p := ⟨bx, 1, none⟩) hbw _).setCell (p := ⟨bx, 2, none⟩) hbw _).setCell (p := ⟨bx, 3, none⟩) hbw _
end Go.Proofs.Yteggfobeaolafaa
