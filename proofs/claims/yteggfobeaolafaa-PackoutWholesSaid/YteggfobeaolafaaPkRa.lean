/-
  The reference's reader: its small methods, while no container is open.
-/
import Derived.Test.YteggfobeaolafaaPkX
import Derived.Test.YteggfobeaolafaaStr
import Derived.Test.YteggfobeaolafaaHeldOne
namespace Go.Proofs.Yteggfobeaolafaa
open Go.RowKit

/-- The reader at p, at place i of l, nothing open; what it has read is at q. -/
structure InS (w : World) (p q : Nat) (l : List UInt8) (i : Int) (lv : Value) (d : Bool) : Prop where
  pb : Blk w p 88 #[.string (S l), .int .i64 i, .int .i64 1, .pointer (some ⟨q, 0, none⟩), .slice none 0 0]
  qb : Blk w q 56 #[lv, .int .i64 0, .bool d, .int .i64 0]
section
variable {w w' : World} {p q : Nat} {l : List UInt8} {i : Int} {lv : Value} {d : Bool}
theorem InS.ne (h : InS w p q l i lv d) : p ≠ q := fun e => (e ▸ h.pb).ne_ h.qb (by decide) rfl
theorem InS.drewN (h : InS w p q l i lv d) (m : Nat) : InS (w.drewN m) p q l i lv d := ⟨h.pb, h.qb⟩
theorem InS.below (h : InS w p q l i lv d) (hb : Below w.heap.size w w') : InS w' p q l i lv d := ⟨h.pb.below hb h.pb.lt, h.qb.below hb h.qb.lt⟩
theorem InS.at (h : InS w p q l i lv d) (j : Int) : InS (w.setCell ⟨p, 1, none⟩ (.int .i64 j)) p q l j lv d := ⟨by simpa using h.pb.set_ 1 (.int .i64 j), h.qb.far (p := ⟨p, 1, none⟩) h.ne.symm _⟩
theorem InS.done (h : InS w p q l i lv d) : InS (w.setCell ⟨q, 2, none⟩ (.bool true)) p q l i lv true := ⟨h.pb.far (p := ⟨q, 2, none⟩) h.ne _, by simpa using h.qb.set_ 2 (.bool true)⟩
theorem InS.list (h : InS w p q l i lv d) (u : Value) : InS (w.setCell ⟨q, 0, none⟩ u) p q l i u d := ⟨h.pb.far (p := ⟨q, 0, none⟩) h.ne _, by simpa using h.qb.set_ 0 u⟩
end
theorem lack_any {w : World} {p q : Nat} {l : List UInt8} {i : Int} {lv : Value} {d : Bool} (h : InS w p q l i lv d) (r : Bool) (hr : r = decide ((l.length : Int) ≤ i)) :
    Calls Try.prog 36 #[.pointer (some ⟨p, 0, none⟩)] w fun e w' => e = .returned (.bool r) ∧ ∃ m, w' = w.drewN m := by
  have c0 := h.pb.cellv 0 _ rfl
  have c1 := h.pb.cellv 1 _ rfl
  have hr2 := hr.symm
  clear h hr
  go_enter Try.func36, Try.ntmps36
  go_wp2_with fail
  go_quiet (fail)
  go_wp2_with fail
  go_ret
  exact ⟨rfl, _, rfl⟩
theorem key_any {w : World} {p q : Nat} {l : List UInt8} {i : Int} {lv : Value} {d : Bool} (h : InS w p q l i lv d) :
    Calls Try.prog 48 #[.pointer (some ⟨p, 0, none⟩)] w fun e w' => e = .returned (.bool false) ∧ w' = w := by
  have c4 := h.pb.cellv 4 _ rfl
  clear h
  go_enter Try.func48, Try.ntmps48
  go_wp2_with fail
  go_ret
  exact ⟨rfl, rfl⟩
theorem had_any {w : World} {p q : Nat} {l : List UInt8} {i : Int} {lv : Value} {d : Bool} (h : InS w p q l i lv d) :
    Calls Try.prog 54 #[.pointer (some ⟨p, 0, none⟩)] w fun e w' => e = .returned (.tuple #[]) ∧ InS w' p q l i lv true ∧ Only [q] w w' := by
  have c4 := h.pb.cellv 4 _ rfl
  have c3 := h.pb.cellv 3 _ rfl
  have q2 := h.qb.cellv 2 _ rfl
  have f2 := h.qb.frozen 2
  have HI := hide h.done
  clear h
  go_enter Try.func54, Try.ntmps54
  go_wp2_with fail
  go_loopg [2] 0 (fun g s2 wr => s2 = .int .i64 0 ∧ wr = w)
  case atStart => exact ⟨rfl, rfl⟩
  case round =>
    obtain ⟨rfl, rfl⟩ := hrel
    go_wp2_with fail
    exact bodyPost_end (results_none rfl _ _ _) rfl ⟨rfl, HI.out, (Only.refl [q] wr).setCell (by simp) _⟩
/-- A number of bytes, the greatest ahead. -/
def ofL (l : List UInt8) : Nat := l.foldl (fun v b => v * 256 + b.toNat) 0
theorem ofL_snoc (l : List UInt8) (b : UInt8) : ofL (l ++ [b]) = ofL l * 256 + b.toNat := by simp [ofL]
theorem ofL_lt_from (l : List UInt8) : ∀ v : Nat, l.foldl (fun v b => v * 256 + b.toNat) v < (v + 1) * 256 ^ l.length := by
  induction l with
  | nil => intro v; simp
  | cons b l ih =>
    intro v
    have h1 := ih (v * 256 + b.toNat)
    have h2 : v * 256 + b.toNat + 1 ≤ (v + 1) * 256 := by have := b.toNat_lt; omega
    have h3 := Nat.mul_le_mul_right (256 ^ l.length) h2
    rw [List.foldl_cons, List.length_cons, Nat.pow_succ, Nat.mul_comm (256 ^ l.length), ← Nat.mul_assoc]
    omega
theorem ofL_lt (l : List UInt8) : ofL l < 256 ^ l.length := by have := ofL_lt_from l 0; rw [Nat.zero_add, Nat.one_mul] at this; exact this
theorem ofL_small (l : List UInt8) (h : l.length ≤ 8) : ofL l < 18446744073709551616 := by
  have h1 := ofL_lt l
  have h2 : 256 ^ l.length ≤ 256 ^ 8 := Nat.pow_le_pow_right (by decide) h
  omega
set_option maxRecDepth 100000 in
theorem ofn_any (l : List UInt8) (hl : l.length ≤ 8) (v : Int) (hv : v = ofL l) (w : World) :
    Calls Try.prog 57 #[.string (S l)] w fun e w' => e = .returned (.int .u64 v) ∧ w' = w := by
  have HV := hide hv
  obtain ⟨n, hn⟩ : ∃ n, n = l.length := ⟨_, rfl⟩
  have HN := hide hn
  have hn8 : n ≤ 8 := by omega
  have hlen : l.length = n := hn.symm
  clear hv hn hl
  go_enter Try.func57, Try.ntmps57
  go_wp2_with fail
  go_loopg [3, 4] n (fun g s3 s4 wr => ∃ (i : Nat) (u : Int), s3 = .int .u64 u ∧ s4 = .int .i64 i ∧ i + g = n ∧ wr = w ∧ Hid (u = ofL (l.take i)))
  case atStart => exact ⟨0, 0, rfl, rfl, by omega, rfl, hide (by simp [ofL])⟩
  case round =>
    obtain ⟨i, u, rfl, rfl, hi, rfl, hu⟩ := hrel
    have HL2 := hide hlen
    by_cases hlt : i < n
    · have hil : i < l.length := by rw [← HN.out]; exact hlt
      obtain ⟨b, hb⟩ : ∃ b : Int, b = (l[i].toNat : Int) := ⟨_, rfl⟩
      have hix := index_S (P := Try.prog) Try.underlying9 l i hil i rfl b hb
      have hb0 : 0 ≤ b := by omega
      have hb1 : b < 256 := by have := l[i].toNat_lt; omega
      have hu2 : u * 256 + b = ofL (l.take (i + 1)) := by rw [List.take_succ_eq_append_getElem hil, ofL_snoc, hu.out, hb]; push_cast; rfl
      have hu0 : 0 ≤ u := by rw [hu.out]; omega
      have hub : u * 256 + b < 18446744073709551616 := by
        rw [hu2]
        have := ofL_small (l.take (i + 1)) (by rw [List.length_take]; omega)
        omega
      have HU2 := hide hu2
      clear hu hb hu2 hil
      go_wp2_with fail
      go_roundg (gk - 1)
      case measure => omega
      case rel => exact ⟨i + 1, u * 256 + b, by go_num, by go_num, by omega, rfl, HU2⟩
    · obtain rfl : i = n := by omega
      obtain rfl : u = v := by rw [HV.out, hu.out, HN.out, List.take_length]
      clear hu
      go_wp2_with fail
      go_ret
      exact ⟨rfl, rfl⟩
theorem quiet_sum {P : Program} {f : FuncId} {args : Array Value} {w : World} {m x : Nat} {v : Value}
    (h : Calls P f args (w.drewN (m + x)) fun e w' => e = .returned v ∧ w' = w.drewN (m + x)) : Calls P f args (w.drewN (m + x)) fun e w'' => e = .returned v ∧ ∃ n, w'' = w.drewN (m + n) :=
  h.mono fun _ _ ⟨he, hn⟩ => ⟨he, x, hn⟩
theorem size_any {w : World} {p q : Nat} {l : List UInt8} {lv : Value} {d : Bool} (k n : Nat) (i ni : Int) (hi : i = k) (hni : ni = n) (h : InS w p q l i lv d) (hn : n ≤ 8) (hk : k + n ≤ l.length) (hk2 : k ≤ 1000) (v j : Int) (hv : v = ofL ((l.drop k).take n)) (hj : j = i + ni) :
    Calls Try.prog 52 #[.pointer (some ⟨p, 0, none⟩), .int .i64 ni] w fun e w' => e = .returned (.tuple #[.int .u64 v, .bool true]) ∧ InS w' p q l j lv d ∧ Only [p] w w' := by
  have c0 := h.pb.cellv 0 _ rfl
  have c1 := h.pb.cellv 1 _ rfl
  have f1 := h.pb.frozen 1
  obtain ⟨s, hs⟩ : ∃ s, s = (l.drop k).take n := ⟨_, rfl⟩
  have hsl := slice_mid (P := Try.prog) Try.underlying9 l k (k + n) (by omega) hk i j hi (by omega) s (by rw [hs, Nat.add_sub_cancel_left])
  have HOF := fun W => hide (ofn_any s (by rw [hs, List.length_take]; omega) v (by rw [hs]; exact hv) W)
  have HH := fun m => hide ((h.drewN m).at j)
  have hi0 : 0 ≤ i := by omega
  have hi1 : i ≤ 1000 := by omega
  have hn0 : 0 ≤ ni := by omega
  have hn1 : ni ≤ 8 := by omega
  have hjl : j ≤ l.length := by omega
  have hd : decide ((l.length : Int) < j) = false := decide_eq_false (by omega)
  have hw1 : wrap64 (i + ni) = j := by unfold wrap64; omega
  have hw2 : i + ni = j := hj.symm
  have hw3 : IntKind.i64.wrap j = j := by rw [IntKind.wrap_i64]; omega
  clear h hs hv hj hi hni hk
  go_enter Try.func52, Try.ntmps52
  go_wp2_with fail
  go_quiet (fail)
  go_wp2_with fail
  go_quiet ((go_at_call 57; first | exact quiet_sum (unhide (HOF _)) | exact Calls.quiet_of_same (unhide (HOF _))))
  go_wp2_with fail
  go_ret2
  exact ⟨rfl, (HH _).out, (Only.of_below (below_drewN (Below.refl w.heap.size w) _) [p]).setCell (p := ⟨p, 1, none⟩) (by simp) _⟩
set_option maxHeartbeats 1000000 in
theorem put_any {w : World} {p q : Nat} {l : List UInt8} {i : Int} {d : Bool} (h : InS w p q l i (.slice none 0 0) d) (k : Int) (y : Bool) (m : Int) (c5 : Int) (x : ByteArray) :
    Calls Try.prog 49 #[.pointer (some ⟨p, 0, none⟩), .agg #[.int .i64 k, .bool y, .int .u64 m, .string x, .int .i64 c5]] w fun e w' => e = .returned (.tuple #[]) ∧ ∃ a c, InS w' p q l i (.slice a 1 c) true ∧ SlN w' w.heap.size 34 5 (.slice a 1 c) 1 [.int .i64 k, .bool y, .int .u64 m, .string x, .int .i64 c5] ∧ Only [q] w w' := by
  have c3 := h.pb.cellv 3 _ rfl
  have q0 := h.qb.cellv 0 _ rfl
  have HI := hide h
  clear h
  go_enter Try.func49, Try.ntmps49
  go_wp2_with fail
  obtain ⟨W1, hW1⟩ : ∃ W1, W1 = w.alloc (.cells #[.int .i64 k, .bool y, .int .u64 m, .string x, .int .i64 c5] 34) := ⟨_, rfl⟩
  obtain ⟨bx, hbx⟩ : ∃ bx, bx = w.heap.size := ⟨_, rfl⟩
  have hblk := Blk.new w 34 #[.int .i64 k, .bool y, .int .u64 m, .string x, .int .i64 c5]
  have hb1 := (Below.refl w.heap.size w).alloc (Nat.le_refl _) (.cells #[.int .i64 k, .bool y, .int .u64 m, .string x, .int .i64 c5] 34)
  have h1 := HI.out.below hb1
  rw [← hW1] at hblk hb1 h1 ⊢
  rw [← hbx] at hblk ⊢
  have s1 : W1.cell? ⟨p, 3, none⟩ = some (.pointer (some ⟨q, 0, none⟩)) := h1.pb.cellv 3 _ rfl
  have s2 : W1.cell? ⟨q, 0, none⟩ = some (.slice none 0 0) := h1.qb.cellv 0 _ rfl
  have b0 : W1.cell? ⟨bx, 0, none⟩ = some (.int .i64 k) := hblk.cellv 0 _ rfl
  have b1 : W1.cell? ⟨bx, 1, none⟩ = some (.bool y) := hblk.cellv 1 _ rfl
  have b2 : W1.cell? ⟨bx, 2, none⟩ = some (.int .u64 m) := hblk.cellv 2 _ rfl
  have b3 : W1.cell? ⟨bx, 3, none⟩ = some (.string x) := hblk.cellv 3 _ rfl
  have b4 : W1.cell? ⟨bx, 4, none⟩ = some (.int .i64 c5) := hblk.cellv 4 _ rfl
  have H1 := hide h1
  have HB1 := hide hb1
  have hpl := h1.pb.lt
  have hql := h1.qb.lt
  have hbl := hblk.lt
  have HBW := hide hbx
  clear h1 hb1 hblk hW1 hbx c3 q0
  have hS : ∀ W, Below W1.heap.size W1 W → (fun W => W.cell? ⟨p, 3, none⟩ = some (.pointer (some ⟨q, 0, none⟩)) ∧ W.cell? ⟨q, 0, none⟩ = some (.slice none 0 0) ∧ W.cell? ⟨bx, 0, none⟩ = some (.int .i64 k) ∧ W.cell? ⟨bx, 1, none⟩ = some (.bool y) ∧ W.cell? ⟨bx, 2, none⟩ = some (.int .u64 m) ∧ W.cell? ⟨bx, 3, none⟩ = some (.string x) ∧ W.cell? ⟨bx, 4, none⟩ = some (.int .i64 c5)) W := fun W hb => ⟨(hb.cell (p := ⟨p, 3, none⟩) hpl).trans s1, (hb.cell (p := ⟨q, 0, none⟩) hql).trans s2, (hb.cell (p := ⟨bx, 0, none⟩) hbl).trans b0, (hb.cell (p := ⟨bx, 1, none⟩) hbl).trans b1, (hb.cell (p := ⟨bx, 2, none⟩) hbl).trans b2, (hb.cell (p := ⟨bx, 3, none⟩) hbl).trans b3, (hb.cell (p := ⟨bx, 4, none⟩) hbl).trans b4⟩
  have HS := hide hS
  have HS0 := hide (hS W1 (Below.refl _ _))
  clear hS s1 s2 b0 b1 b2 b3 b4
  refine wp_region_tree (fun W => W.cell? ⟨p, 3, none⟩ = some (.pointer (some ⟨q, 0, none⟩)) ∧ W.cell? ⟨q, 0, none⟩ = some (.slice none 0 0) ∧ W.cell? ⟨bx, 0, none⟩ = some (.int .i64 k) ∧ W.cell? ⟨bx, 1, none⟩ = some (.bool y) ∧ W.cell? ⟨bx, 2, none⟩ = some (.int .u64 m) ∧ W.cell? ⟨bx, 3, none⟩ = some (.string x) ∧ W.cell? ⟨bx, 4, none⟩ = some (.int .i64 c5)) 16 (.take [0, 1, 2, 3, 4, 5, 6, 7, 8, 9, 10, 11] (.step 12 (.step 13 (.step 14 (.step 15 (.step 16 (.fin))))))) (by kernel_rfl) (by kernel_rfl) (by intro _ _ _ _ _ h; exact h) ?_
  refine wpTree_take (HS0.out) ?_
  simp only [opsAt, List.getElem?_cons_zero, List.getElem?_cons_succ]
  first | (refine wpPureH_step (v := ?_) rfl (fun W hS => ?_) ?_; rotate_left; · (obtain ⟨t1, t2, t3, t4, t5, t6, t7⟩ := hS; (try simp only [Act.put, List.setIfInBounds_toArray, List.set_cons_zero, List.set_cons_succ]); go_simp; with_reducible rfl)) | (refine wpPureH_want (v := ?_) (by rfl) (fun W hS => ?_) ?_; rotate_left; · (obtain ⟨t1, t2, t3, t4, t5, t6, t7⟩ := hS; (try simp only [Act.put, List.setIfInBounds_toArray, List.set_cons_zero, List.set_cons_succ]); go_simp; with_reducible rfl))
  first | (refine wpPureH_step (v := ?_) rfl (fun W hS => ?_) ?_; rotate_left; · (obtain ⟨t1, t2, t3, t4, t5, t6, t7⟩ := hS; (try simp only [Act.put, List.setIfInBounds_toArray, List.set_cons_zero, List.set_cons_succ]); go_simp; with_reducible rfl)) | (refine wpPureH_want (v := ?_) (by rfl) (fun W hS => ?_) ?_; rotate_left; · (obtain ⟨t1, t2, t3, t4, t5, t6, t7⟩ := hS; (try simp only [Act.put, List.setIfInBounds_toArray, List.set_cons_zero, List.set_cons_succ]); go_simp; with_reducible rfl))
  first | (refine wpPureH_step (v := ?_) rfl (fun W hS => ?_) ?_; rotate_left; · (obtain ⟨t1, t2, t3, t4, t5, t6, t7⟩ := hS; (try simp only [Act.put, List.setIfInBounds_toArray, List.set_cons_zero, List.set_cons_succ]); go_simp; with_reducible rfl)) | (refine wpPureH_want (v := ?_) (by rfl) (fun W hS => ?_) ?_; rotate_left; · (obtain ⟨t1, t2, t3, t4, t5, t6, t7⟩ := hS; (try simp only [Act.put, List.setIfInBounds_toArray, List.set_cons_zero, List.set_cons_succ]); go_simp; with_reducible rfl))
  first | (refine wpPureH_step (v := ?_) rfl (fun W hS => ?_) ?_; rotate_left; · (obtain ⟨t1, t2, t3, t4, t5, t6, t7⟩ := hS; (try simp only [Act.put, List.setIfInBounds_toArray, List.set_cons_zero, List.set_cons_succ]); go_simp; with_reducible rfl)) | (refine wpPureH_want (v := ?_) (by rfl) (fun W hS => ?_) ?_; rotate_left; · (obtain ⟨t1, t2, t3, t4, t5, t6, t7⟩ := hS; (try simp only [Act.put, List.setIfInBounds_toArray, List.set_cons_zero, List.set_cons_succ]); go_simp; with_reducible rfl))
  first | (refine wpPureH_step (v := ?_) rfl (fun W hS => ?_) ?_; rotate_left; · (obtain ⟨t1, t2, t3, t4, t5, t6, t7⟩ := hS; (try simp only [Act.put, List.setIfInBounds_toArray, List.set_cons_zero, List.set_cons_succ]); go_simp; with_reducible rfl)) | (refine wpPureH_want (v := ?_) (by rfl) (fun W hS => ?_) ?_; rotate_left; · (obtain ⟨t1, t2, t3, t4, t5, t6, t7⟩ := hS; (try simp only [Act.put, List.setIfInBounds_toArray, List.set_cons_zero, List.set_cons_succ]); go_simp; with_reducible rfl))
  first | (refine wpPureH_step (v := ?_) rfl (fun W hS => ?_) ?_; rotate_left; · (obtain ⟨t1, t2, t3, t4, t5, t6, t7⟩ := hS; (try simp only [Act.put, List.setIfInBounds_toArray, List.set_cons_zero, List.set_cons_succ]); go_simp; with_reducible rfl)) | (refine wpPureH_want (v := ?_) (by rfl) (fun W hS => ?_) ?_; rotate_left; · (obtain ⟨t1, t2, t3, t4, t5, t6, t7⟩ := hS; (try simp only [Act.put, List.setIfInBounds_toArray, List.set_cons_zero, List.set_cons_succ]); go_simp; with_reducible rfl))
  first | (refine wpPureH_step (v := ?_) rfl (fun W hS => ?_) ?_; rotate_left; · (obtain ⟨t1, t2, t3, t4, t5, t6, t7⟩ := hS; (try simp only [Act.put, List.setIfInBounds_toArray, List.set_cons_zero, List.set_cons_succ]); go_simp; with_reducible rfl)) | (refine wpPureH_want (v := ?_) (by rfl) (fun W hS => ?_) ?_; rotate_left; · (obtain ⟨t1, t2, t3, t4, t5, t6, t7⟩ := hS; (try simp only [Act.put, List.setIfInBounds_toArray, List.set_cons_zero, List.set_cons_succ]); go_simp; with_reducible rfl))
  first | (refine wpPureH_step (v := ?_) rfl (fun W hS => ?_) ?_; rotate_left; · (obtain ⟨t1, t2, t3, t4, t5, t6, t7⟩ := hS; (try simp only [Act.put, List.setIfInBounds_toArray, List.set_cons_zero, List.set_cons_succ]); go_simp; with_reducible rfl)) | (refine wpPureH_want (v := ?_) (by rfl) (fun W hS => ?_) ?_; rotate_left; · (obtain ⟨t1, t2, t3, t4, t5, t6, t7⟩ := hS; (try simp only [Act.put, List.setIfInBounds_toArray, List.set_cons_zero, List.set_cons_succ]); go_simp; with_reducible rfl))
  first | (refine wpPureH_step (v := ?_) rfl (fun W hS => ?_) ?_; rotate_left; · (obtain ⟨t1, t2, t3, t4, t5, t6, t7⟩ := hS; (try simp only [Act.put, List.setIfInBounds_toArray, List.set_cons_zero, List.set_cons_succ]); go_simp; with_reducible rfl)) | (refine wpPureH_want (v := ?_) (by rfl) (fun W hS => ?_) ?_; rotate_left; · (obtain ⟨t1, t2, t3, t4, t5, t6, t7⟩ := hS; (try simp only [Act.put, List.setIfInBounds_toArray, List.set_cons_zero, List.set_cons_succ]); go_simp; with_reducible rfl))
  first | (refine wpPureH_step (v := ?_) rfl (fun W hS => ?_) ?_; rotate_left; · (obtain ⟨t1, t2, t3, t4, t5, t6, t7⟩ := hS; (try simp only [Act.put, List.setIfInBounds_toArray, List.set_cons_zero, List.set_cons_succ]); go_simp; with_reducible rfl)) | (refine wpPureH_want (v := ?_) (by rfl) (fun W hS => ?_) ?_; rotate_left; · (obtain ⟨t1, t2, t3, t4, t5, t6, t7⟩ := hS; (try simp only [Act.put, List.setIfInBounds_toArray, List.set_cons_zero, List.set_cons_succ]); go_simp; with_reducible rfl))
  first | (refine wpPureH_step (v := ?_) rfl (fun W hS => ?_) ?_; rotate_left; · (obtain ⟨t1, t2, t3, t4, t5, t6, t7⟩ := hS; (try simp only [Act.put, List.setIfInBounds_toArray, List.set_cons_zero, List.set_cons_succ]); go_simp; with_reducible rfl)) | (refine wpPureH_want (v := ?_) (by rfl) (fun W hS => ?_) ?_; rotate_left; · (obtain ⟨t1, t2, t3, t4, t5, t6, t7⟩ := hS; (try simp only [Act.put, List.setIfInBounds_toArray, List.set_cons_zero, List.set_cons_succ]); go_simp; with_reducible rfl))
  first | (refine wpPureH_step (v := ?_) rfl (fun W hS => ?_) ?_; rotate_left; · (obtain ⟨t1, t2, t3, t4, t5, t6, t7⟩ := hS; (try simp only [Act.put, List.setIfInBounds_toArray, List.set_cons_zero, List.set_cons_succ]); go_simp; with_reducible rfl)) | (refine wpPureH_want (v := ?_) (by rfl) (fun W hS => ?_) ?_; rotate_left; · (obtain ⟨t1, t2, t3, t4, t5, t6, t7⟩ := hS; (try simp only [Act.put, List.setIfInBounds_toArray, List.set_cons_zero, List.set_cons_succ]); go_simp; with_reducible rfl))
  refine wpPureH_nil ?_
  simp only [Act.put, List.setIfInBounds_toArray, List.set_cons_zero, List.set_cons_succ]
  refine wpTree_step ?_
  simp only [opsAt, List.getElem?_cons_zero, List.getElem?_cons_succ]
  go_wp2_with fail
  refine ⟨by first | exact HS0.out | exact .inr HS0.out, ?_⟩
  have hb2 := (Below.refl W1.heap.size W1).alloc (Nat.le_refl _) (.cells #[.int .i64 k, .bool y, .int .u64 m, .string x, .int .i64 c5] 34)
  refine wpTree_step ?_
  simp only [opsAt, List.getElem?_cons_zero, List.getElem?_cons_succ]
  refine wpList_append_slN rfl (.tmp 14) (.tmp 16) 22 rfl _ 48 Try.underlying22 info_ev rfl (by decide) (SlN.nil _ w.heap.size 34 5) (SlN.oneN (base := 0) (Nat.zero_le _) (Blk.new W1 34 #[.int .i64 k, .bool y, .int .u64 m, .string x, .int .i64 c5]) rfl).src rfl rfl rfl (by intro y hy; simp at hy; rcases hy with rfl | rfl | rfl | rfl | rfl <;> rfl) (by unfold maxLen; omega) (by omega) (Nat.le_trans HB1.out.size hb2.size) ?_
  intro v2 w2 hs2 ho2 hf2
  rw [Nat.zero_add, List.nil_append] at hs2
  have hb3 : Below W1.heap.size W1 w2 := hb2.drew.trans (ho2.below hb2.size (fun k hk => by simp [slB] at hk))
  obtain ⟨a2, c2, hvv⟩ := hs2.form
  subst hvv
  have h2 := H1.out.below hb3
  have hqs : q ∉ slB (.slice a2 1 c2) := hs2.notBlk h2.qb (by decide)
  have HS2 := hide (HS.out w2 hb3)
  have HF0 := hide (h2.qb.frozen 0)
  have H3 := hide (h2.list (.slice a2 1 c2))
  have HSL := hide (hs2.far (p := ⟨q, 0, none⟩) hqs (.slice a2 1 c2))
  have HQS := hide hqs
  have HON := hide (((Only.of_below HB1.out [q]).trans (Only.of_below hb3 [q])).setCell (p := ⟨q, 0, none⟩) (by simp) (.slice a2 1 c2))
  have HAD := hide (had_any H3.out)
  clear hb2 ho2 hf2 hs2 hb3 h2 hqs
  go_wp2_with fail
  refine ⟨by first | exact HS2.out | exact .inr HS2.out, ?_⟩
  refine wpTree_step ?_
  simp only [opsAt, List.getElem?_cons_zero, List.getElem?_cons_succ]
  go_wp2_with fail
  refine ⟨by first | exact HS2.out | exact .inr HS2.out, ?_⟩
  refine wpTree_step ?_
  simp only [opsAt, List.getElem?_cons_zero, List.getElem?_cons_succ]
  go_wp2_with fail
  refine ⟨by first | exact HS2.out | exact .inr HS2.out, ?_⟩
  refine wpTree_step ?_
  simp only [opsAt, List.getElem?_cons_zero, List.getElem?_cons_succ]
  have q0 : w2.cell? ⟨q, 0, none⟩ = some (.slice none 0 0) := HS2.out.2.1
  have f0 := HF0.out
  go_wp2_with fail
  refine ⟨.inl trivial, wpTree_fin ?_⟩
  go_wp2_with fail
  (with_reducible refine (unhide HAD).mono ?_)
  rintro e w4 ⟨rfl, h4, ho4⟩
  have hfin := HON.out.trans ho4
  have hs4 := HSL.out.keep ho4 (fun k hk hk2 => HQS.out (by rw [List.mem_singleton.1 hk2] at hk; exact hk))
  clear HAD HS HS0 HS2
  go_wp2_with fail
  exact bodyPost_end (results_none rfl _ _ _) rfl ⟨rfl, _, _, h4, hs4, hfin⟩
end Go.Proofs.Yteggfobeaolafaa
