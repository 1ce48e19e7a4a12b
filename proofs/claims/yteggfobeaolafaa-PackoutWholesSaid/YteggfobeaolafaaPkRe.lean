/-
  The walk of PackoutWholes.
-/
import Derived.Test.YteggfobeaolafaaPkRd
namespace Go.Proofs.Yteggfobeaolafaa
open Go.RowKit

set_option maxRecDepth 100000 in
set_option maxHeartbeats 1000000 in
theorem wholes_far (M : Nat) (mi : Int) (hm : mi = M) (w : World) (h : 9223372036854775808 ≤ M) (h2 : M < 18446744073709551616) :
    Calls Try.prog 7 #[.agg #[.bool true, .int .u64 mi]] w fun e w' => e = .returned (.bool true) ∧ Below w.heap.size w w' := by
  have hall := all_far M h
  rw [← hm] at hall
  have hd : decide (9223372036854775808 ≤ mi) = true := decide_eq_true (by omega)
  have HA := fun W => hide (alive_any W)
  have H := fun W B hB => all_any (evs_built W [⟨2, true, mi, [], 0⟩] 1 rfl #[.int .i64 2, .bool true, .int .u64 mi, .string (⟨#[]⟩ : ByteArray), .int .i64 0] rfl B hB) (by intro e he; simp at he; subst he; refine ⟨?_, ?_, ?_, ?_⟩ <;> simp <;> omega) (by simp) [] 7 hall.symm
  have HH := fun W B hB => hide (H W B hB)
  clear H hall hm h h2
  go_enter Try.func7, Try.ntmps7
  go_wp2_with fail
  (with_reducible refine (unhide (HA _)).mono ?_)
  rintro e w1 ⟨rfl, hb⟩
  have hx1 := (Blk.new w 53 #[.bool true, .int .u64 mi]).below hb (Blk.new w 53 #[.bool true, .int .u64 mi]).lt
  have hb1 : Below w.heap.size w w1 := ((Below.refl w.heap.size w).alloc (Nat.le_refl _) (.cells #[.bool true, .int .u64 mi] 53)).trans (hb.mono (by simp))
  have HB := hide hb1
  have HX1 := hide hx1
  have x0 : w1.cell? ⟨w.heap.size, 0, none⟩ = some (.bool true) := hx1.cellv 0 _ rfl
  have x1 : w1.cell? ⟨w.heap.size, 1, none⟩ = some (.int .u64 mi) := hx1.cellv 1 _ rfl
  clear HA hb hx1 hb1
  go_wp2_with fail
  (with_reducible refine (unhide (HH _ _ (by first | rfl | simp))).mono ?_)
  rintro e w4 ⟨rfl, hb4⟩
  have hx4 := (HX1.out.alloc (.cells #[.int .i64 2, .bool true, .int .u64 mi, .string (⟨#[]⟩ : ByteArray), .int .i64 0] 34)).below hb4 (HX1.out.alloc (.cells #[.int .i64 2, .bool true, .int .u64 mi, .string (⟨#[]⟩ : ByteArray), .int .i64 0] 34)).lt
  have HB4 : Hid (Below w.heap.size w w4) := hide ((HB.out.alloc HB.out.size (.cells #[.int .i64 2, .bool true, .int .u64 mi, .string (⟨#[]⟩ : ByteArray), .int .i64 0] 34)).trans (hb4.mono (by have := HB.out.size; simp; omega)))
  have HX4 := hide hx4
  have hlt4 := hx4.lt
  clear x0 x1
  have x0 : w4.cell? ⟨w.heap.size, 0, none⟩ = some (.bool true) := hx4.cellv 0 _ rfl
  have x1 : w4.cell? ⟨w.heap.size, 1, none⟩ = some (.int .u64 mi) := hx4.cellv 1 _ rfl
  clear HX1 hb4 HB hx4 HH
  go_wp2_with fail
  go_ret
  exact ⟨rfl, HB4.out⟩
set_option maxRecDepth 100000 in
set_option maxHeartbeats 1000000 in
theorem wholes_up1 (M : Nat) (mi : Int) (hm : mi = M) (w : World) (h0 : 0 ≤ M) (h : M < 128) (h2 : M < 18446744073709551616) :
    Calls Try.prog 7 #[.agg #[.bool false, .int .u64 mi]] w fun e w' => e = .returned (.bool true) ∧ Below w.heap.size w w' := by
  have _hx0 := And.intro h0 h2
  obtain ⟨r, hall, hrl, hrd⟩ := all_up1 M h
  rw [← hm] at hall hrd
  skip
  have e1 : decide (mi < 128) = true := by first | exact decide_eq_true (by omega) | exact decide_eq_false (by omega)
  have e2 : decide (mi < 256) = true := by first | exact decide_eq_true (by omega) | exact decide_eq_false (by omega)
  have e3 : decide (mi < 65536) = true := by first | exact decide_eq_true (by omega) | exact decide_eq_false (by omega)
  have e4 : decide (mi < 4294967296) = true := by first | exact decide_eq_true (by omega) | exact decide_eq_false (by omega)
  have HPK := fun W => hide (pack_all (w := W) r (by omega) (by omega) false mi hrd)
  have hrli : (r.length : Int) = 1 := by omega
  clear hrl hrd
  have HA := fun W => hide (alive_any W)
  have H := fun W B hB => all_any (evs_built W [⟨2, false, mi, [], 0⟩] 1 rfl #[.int .i64 2, .bool false, .int .u64 mi, .string (⟨#[]⟩ : ByteArray), .int .i64 0] rfl B hB) (by intro e he; simp at he; subst he; refine ⟨?_, ?_, ?_, ?_⟩ <;> simp <;> omega) (by simp) r 0 hall.symm
  have HH := fun W B hB => hide (H W B hB)
  clear H hall hm _hx0 h0 h h2
  go_enter Try.func7, Try.ntmps7
  go_wp2_with fail
  (with_reducible refine (unhide (HA _)).mono ?_)
  rintro e w1 ⟨rfl, hb⟩
  have hx1 := (Blk.new w 53 #[.bool false, .int .u64 mi]).below hb (Blk.new w 53 #[.bool false, .int .u64 mi]).lt
  have hb1 : Below w.heap.size w w1 := ((Below.refl w.heap.size w).alloc (Nat.le_refl _) (.cells #[.bool false, .int .u64 mi] 53)).trans (hb.mono (by simp))
  have HB := hide hb1
  have HX1 := hide hx1
  have x0 : w1.cell? ⟨w.heap.size, 0, none⟩ = some (.bool false) := hx1.cellv 0 _ rfl
  have x1 : w1.cell? ⟨w.heap.size, 1, none⟩ = some (.int .u64 mi) := hx1.cellv 1 _ rfl
  clear HA hb hx1 hb1
  go_wp2_with fail
  (with_reducible refine (unhide (HH _ _ (by first | rfl | simp))).mono ?_)
  rintro e w4 ⟨rfl, hb4⟩
  have hx4 := (HX1.out.alloc (.cells #[.int .i64 2, .bool false, .int .u64 mi, .string (⟨#[]⟩ : ByteArray), .int .i64 0] 34)).below hb4 (HX1.out.alloc (.cells #[.int .i64 2, .bool false, .int .u64 mi, .string (⟨#[]⟩ : ByteArray), .int .i64 0] 34)).lt
  have HB4 : Hid (Below w.heap.size w w4) := hide ((HB.out.alloc HB.out.size (.cells #[.int .i64 2, .bool false, .int .u64 mi, .string (⟨#[]⟩ : ByteArray), .int .i64 0] 34)).trans (hb4.mono (by have := HB.out.size; simp; omega)))
  have HX4 := hide hx4
  have hlt4 := hx4.lt
  clear x0 x1
  have x0 : w4.cell? ⟨w.heap.size, 0, none⟩ = some (.bool false) := hx4.cellv 0 _ rfl
  have x1 : w4.cell? ⟨w.heap.size, 1, none⟩ = some (.int .u64 mi) := hx4.cellv 1 _ rfl
  clear HX1 hb4 HB hx4 HH
  go_wp2_with fail
  (with_reducible refine (unhide (HPK _)).mono ?_)
  rintro e w5 ⟨a, c, rfl, hs5, hb5⟩
  have hbz : Below w4.heap.size w4 w5 := by
    first
    | exact (below_drewN ((Below.refl w4.heap.size w4).alloc (Nat.le_refl _) (.cells #[.int .u64 256, .int .u64 65536, .int .u64 4294967296] 32)) _).trans (hb5.mono (by simp))
    | exact ((Below.refl w4.heap.size w4).alloc (Nat.le_refl _) (.cells #[.int .u64 256, .int .u64 65536, .int .u64 4294967296] 32)).trans (hb5.mono (by simp))
    | exact (below_drewN (((Below.refl w4.heap.size w4).alloc (Nat.le_refl _) (.cells #[.int .u64 256, .int .u64 65536, .int .u64 4294967296] 32)).alloc (by simp) (.cells #[.int .u64 256, .int .u64 65536, .int .u64 4294967296] 32)) _).trans (hb5.mono (by simp; omega))
    | exact (((Below.refl w4.heap.size w4).alloc (Nat.le_refl _) (.cells #[.int .u64 256, .int .u64 65536, .int .u64 4294967296] 32)).alloc (by simp) (.cells #[.int .u64 256, .int .u64 65536, .int .u64 4294967296] 32)).trans (hb5.mono (by simp; omega))
  have hx5 := HX4.out.below hbz HX4.out.lt
  have hbw := HB4.out.trans (hbz.mono HB4.out.size)
  clear x0 x1
  have x0 : w5.cell? ⟨w.heap.size, 0, none⟩ = some (.bool false) := hx5.cellv 0 _ rfl
  have x1 : w5.cell? ⟨w.heap.size, 1, none⟩ = some (.int .u64 mi) := hx5.cellv 1 _ rfl
  obtain ⟨g1, o1, k1, hv1, y0, _⟩ := hs5.cell 0 (by simp)
  obtain ⟨g2, o2, k2, hv2, y1, _⟩ := hs5.cell 1 (by simp)
  obtain ⟨g3, o3, k3, hv3, y2, _⟩ := hs5.cell 2 (by simp)
  obtain ⟨g4, o4, k4, hv4, y3, _⟩ := hs5.cell 3 (by simp)
  obtain ⟨g5, o5, k5, hv5, y4, _⟩ := hs5.cell 4 (by simp)
  have hlt := (hs5.lt g1 (by rw [hv1]; simp [slB])).2
  injection hv1 with v1 v2 v3
  subst v1 v3
  injection hv2 with v1; injection v1 with v1; injection v1 with v1 v2; subst v1 v2
  injection hv3 with v1; injection v1 with v1; injection v1 with v1 v2; subst v1 v2
  injection hv4 with v1; injection v1 with v1; injection v1 with v1 v2; subst v1 v2
  injection hv5 with v1; injection v1 with v1; injection v1 with v1 v2; subst v1 v2
  have y0' : w5.cell? ⟨g1, o1, none⟩ = some (.int .i64 2) := y0
  have y1' : w5.cell? ⟨g1, o1 + 1, none⟩ = some (.bool false) := y1
  have y2' : w5.cell? ⟨g1, o1 + 2, none⟩ = some (.int .u64 mi) := y2
  have y3' : w5.cell? ⟨g1, o1 + 3, none⟩ = some (.string (⟨#[]⟩ : ByteArray)) := y3
  have y4' : w5.cell? ⟨g1, o1 + 4, none⟩ = some (.int .i64 0) := y4
  clear y0 y1 y2 y3 y4
  have HBW := hide hbw
  have hxl := hx5.lt
  clear hs5 hb5 hbz hx5 hbw HX4 HB4 HPK v2 e1 e2 e3 e4
  go_wp2_with fail
  go_quiet (fail)
  go_wp2_with fail
  go_ret
  exact ⟨rfl, below_drewN (HBW.out.alloc HBW.out.size _) _⟩
set_option maxRecDepth 100000 in
set_option maxHeartbeats 1000000 in
theorem wholes_up2 (M : Nat) (mi : Int) (hm : mi = M) (w : World) (h0 : 128 ≤ M) (h : M < 256) (h2 : M < 18446744073709551616) :
    Calls Try.prog 7 #[.agg #[.bool false, .int .u64 mi]] w fun e w' => e = .returned (.bool true) ∧ Below w.heap.size w w' := by
  have _hx0 := And.intro h0 h2
  obtain ⟨r, hall, hrl, hrd⟩ := all_up2 M h0 h
  rw [← hm] at hall hrd
  skip
  have e1 : decide (mi < 128) = false := by first | exact decide_eq_true (by omega) | exact decide_eq_false (by omega)
  have e2 : decide (mi < 256) = true := by first | exact decide_eq_true (by omega) | exact decide_eq_false (by omega)
  have e3 : decide (mi < 65536) = true := by first | exact decide_eq_true (by omega) | exact decide_eq_false (by omega)
  have e4 : decide (mi < 4294967296) = true := by first | exact decide_eq_true (by omega) | exact decide_eq_false (by omega)
  have HPK := fun W => hide (pack_all (w := W) r (by omega) (by omega) false mi hrd)
  have hrli : (r.length : Int) = 2 := by omega
  clear hrl hrd
  have HA := fun W => hide (alive_any W)
  have H := fun W B hB => all_any (evs_built W [⟨2, false, mi, [], 0⟩] 1 rfl #[.int .i64 2, .bool false, .int .u64 mi, .string (⟨#[]⟩ : ByteArray), .int .i64 0] rfl B hB) (by intro e he; simp at he; subst he; refine ⟨?_, ?_, ?_, ?_⟩ <;> simp <;> omega) (by simp) r 0 hall.symm
  have HH := fun W B hB => hide (H W B hB)
  clear H hall hm _hx0 h0 h h2
  go_enter Try.func7, Try.ntmps7
  go_wp2_with fail
  (with_reducible refine (unhide (HA _)).mono ?_)
  rintro e w1 ⟨rfl, hb⟩
  have hx1 := (Blk.new w 53 #[.bool false, .int .u64 mi]).below hb (Blk.new w 53 #[.bool false, .int .u64 mi]).lt
  have hb1 : Below w.heap.size w w1 := ((Below.refl w.heap.size w).alloc (Nat.le_refl _) (.cells #[.bool false, .int .u64 mi] 53)).trans (hb.mono (by simp))
  have HB := hide hb1
  have HX1 := hide hx1
  have x0 : w1.cell? ⟨w.heap.size, 0, none⟩ = some (.bool false) := hx1.cellv 0 _ rfl
  have x1 : w1.cell? ⟨w.heap.size, 1, none⟩ = some (.int .u64 mi) := hx1.cellv 1 _ rfl
  clear HA hb hx1 hb1
  go_wp2_with fail
  (with_reducible refine (unhide (HH _ _ (by first | rfl | simp))).mono ?_)
  rintro e w4 ⟨rfl, hb4⟩
  have hx4 := (HX1.out.alloc (.cells #[.int .i64 2, .bool false, .int .u64 mi, .string (⟨#[]⟩ : ByteArray), .int .i64 0] 34)).below hb4 (HX1.out.alloc (.cells #[.int .i64 2, .bool false, .int .u64 mi, .string (⟨#[]⟩ : ByteArray), .int .i64 0] 34)).lt
  have HB4 : Hid (Below w.heap.size w w4) := hide ((HB.out.alloc HB.out.size (.cells #[.int .i64 2, .bool false, .int .u64 mi, .string (⟨#[]⟩ : ByteArray), .int .i64 0] 34)).trans (hb4.mono (by have := HB.out.size; simp; omega)))
  have HX4 := hide hx4
  have hlt4 := hx4.lt
  clear x0 x1
  have x0 : w4.cell? ⟨w.heap.size, 0, none⟩ = some (.bool false) := hx4.cellv 0 _ rfl
  have x1 : w4.cell? ⟨w.heap.size, 1, none⟩ = some (.int .u64 mi) := hx4.cellv 1 _ rfl
  clear HX1 hb4 HB hx4 HH
  (go_wp2_with fail; go_quiet (fail); go_wp2_with fail)
  (with_reducible refine (unhide (HPK _)).mono ?_)
  rintro e w5 ⟨a, c, rfl, hs5, hb5⟩
  have hbz : Below w4.heap.size w4 w5 := by
    first
    | exact (below_drewN ((Below.refl w4.heap.size w4).alloc (Nat.le_refl _) (.cells #[.int .u64 256, .int .u64 65536, .int .u64 4294967296] 32)) _).trans (hb5.mono (by simp))
    | exact ((Below.refl w4.heap.size w4).alloc (Nat.le_refl _) (.cells #[.int .u64 256, .int .u64 65536, .int .u64 4294967296] 32)).trans (hb5.mono (by simp))
    | exact (below_drewN (((Below.refl w4.heap.size w4).alloc (Nat.le_refl _) (.cells #[.int .u64 256, .int .u64 65536, .int .u64 4294967296] 32)).alloc (by simp) (.cells #[.int .u64 256, .int .u64 65536, .int .u64 4294967296] 32)) _).trans (hb5.mono (by simp; omega))
    | exact (((Below.refl w4.heap.size w4).alloc (Nat.le_refl _) (.cells #[.int .u64 256, .int .u64 65536, .int .u64 4294967296] 32)).alloc (by simp) (.cells #[.int .u64 256, .int .u64 65536, .int .u64 4294967296] 32)).trans (hb5.mono (by simp; omega))
  have hx5 := HX4.out.below hbz HX4.out.lt
  have hbw := HB4.out.trans (hbz.mono HB4.out.size)
  clear x0 x1
  have x0 : w5.cell? ⟨w.heap.size, 0, none⟩ = some (.bool false) := hx5.cellv 0 _ rfl
  have x1 : w5.cell? ⟨w.heap.size, 1, none⟩ = some (.int .u64 mi) := hx5.cellv 1 _ rfl
  obtain ⟨g1, o1, k1, hv1, y0, _⟩ := hs5.cell 0 (by simp)
  obtain ⟨g2, o2, k2, hv2, y1, _⟩ := hs5.cell 1 (by simp)
  obtain ⟨g3, o3, k3, hv3, y2, _⟩ := hs5.cell 2 (by simp)
  obtain ⟨g4, o4, k4, hv4, y3, _⟩ := hs5.cell 3 (by simp)
  obtain ⟨g5, o5, k5, hv5, y4, _⟩ := hs5.cell 4 (by simp)
  have hlt := (hs5.lt g1 (by rw [hv1]; simp [slB])).2
  injection hv1 with v1 v2 v3
  subst v1 v3
  injection hv2 with v1; injection v1 with v1; injection v1 with v1 v2; subst v1 v2
  injection hv3 with v1; injection v1 with v1; injection v1 with v1 v2; subst v1 v2
  injection hv4 with v1; injection v1 with v1; injection v1 with v1 v2; subst v1 v2
  injection hv5 with v1; injection v1 with v1; injection v1 with v1 v2; subst v1 v2
  have y0' : w5.cell? ⟨g1, o1, none⟩ = some (.int .i64 2) := y0
  have y1' : w5.cell? ⟨g1, o1 + 1, none⟩ = some (.bool false) := y1
  have y2' : w5.cell? ⟨g1, o1 + 2, none⟩ = some (.int .u64 mi) := y2
  have y3' : w5.cell? ⟨g1, o1 + 3, none⟩ = some (.string (⟨#[]⟩ : ByteArray)) := y3
  have y4' : w5.cell? ⟨g1, o1 + 4, none⟩ = some (.int .i64 0) := y4
  clear y0 y1 y2 y3 y4
  have HBW := hide hbw
  have hxl := hx5.lt
  clear hs5 hb5 hbz hx5 hbw HX4 HB4 HPK v2 e1 e2 e3 e4
  go_wp2_with fail
  go_quiet (fail)
  go_wp2_with fail
  go_ret
  exact ⟨rfl, below_drewN (HBW.out.alloc HBW.out.size _) _⟩
set_option maxRecDepth 100000 in
set_option maxHeartbeats 1000000 in
theorem wholes_up3 (M : Nat) (mi : Int) (hm : mi = M) (w : World) (h0 : 256 ≤ M) (h : M < 65536) (h2 : M < 18446744073709551616) :
    Calls Try.prog 7 #[.agg #[.bool false, .int .u64 mi]] w fun e w' => e = .returned (.bool true) ∧ Below w.heap.size w w' := by
  have _hx0 := And.intro h0 h2
  obtain ⟨r, hall, hrl, hrd⟩ := all_up3 M h0 h
  rw [← hm] at hall hrd
  skip
  have e1 : decide (mi < 128) = false := by first | exact decide_eq_true (by omega) | exact decide_eq_false (by omega)
  have e2 : decide (mi < 256) = false := by first | exact decide_eq_true (by omega) | exact decide_eq_false (by omega)
  have e3 : decide (mi < 65536) = true := by first | exact decide_eq_true (by omega) | exact decide_eq_false (by omega)
  have e4 : decide (mi < 4294967296) = true := by first | exact decide_eq_true (by omega) | exact decide_eq_false (by omega)
  have HPK := fun W => hide (pack_all (w := W) r (by omega) (by omega) false mi hrd)
  have hrli : (r.length : Int) = 3 := by omega
  clear hrl hrd
  have HA := fun W => hide (alive_any W)
  have H := fun W B hB => all_any (evs_built W [⟨2, false, mi, [], 0⟩] 1 rfl #[.int .i64 2, .bool false, .int .u64 mi, .string (⟨#[]⟩ : ByteArray), .int .i64 0] rfl B hB) (by intro e he; simp at he; subst he; refine ⟨?_, ?_, ?_, ?_⟩ <;> simp <;> omega) (by simp) r 0 hall.symm
  have HH := fun W B hB => hide (H W B hB)
  clear H hall hm _hx0 h0 h h2
  go_enter Try.func7, Try.ntmps7
  go_wp2_with fail
  (with_reducible refine (unhide (HA _)).mono ?_)
  rintro e w1 ⟨rfl, hb⟩
  have hx1 := (Blk.new w 53 #[.bool false, .int .u64 mi]).below hb (Blk.new w 53 #[.bool false, .int .u64 mi]).lt
  have hb1 : Below w.heap.size w w1 := ((Below.refl w.heap.size w).alloc (Nat.le_refl _) (.cells #[.bool false, .int .u64 mi] 53)).trans (hb.mono (by simp))
  have HB := hide hb1
  have HX1 := hide hx1
  have x0 : w1.cell? ⟨w.heap.size, 0, none⟩ = some (.bool false) := hx1.cellv 0 _ rfl
  have x1 : w1.cell? ⟨w.heap.size, 1, none⟩ = some (.int .u64 mi) := hx1.cellv 1 _ rfl
  clear HA hb hx1 hb1
  go_wp2_with fail
  (with_reducible refine (unhide (HH _ _ (by first | rfl | simp))).mono ?_)
  rintro e w4 ⟨rfl, hb4⟩
  have hx4 := (HX1.out.alloc (.cells #[.int .i64 2, .bool false, .int .u64 mi, .string (⟨#[]⟩ : ByteArray), .int .i64 0] 34)).below hb4 (HX1.out.alloc (.cells #[.int .i64 2, .bool false, .int .u64 mi, .string (⟨#[]⟩ : ByteArray), .int .i64 0] 34)).lt
  have HB4 : Hid (Below w.heap.size w w4) := hide ((HB.out.alloc HB.out.size (.cells #[.int .i64 2, .bool false, .int .u64 mi, .string (⟨#[]⟩ : ByteArray), .int .i64 0] 34)).trans (hb4.mono (by have := HB.out.size; simp; omega)))
  have HX4 := hide hx4
  have hlt4 := hx4.lt
  clear x0 x1
  have x0 : w4.cell? ⟨w.heap.size, 0, none⟩ = some (.bool false) := hx4.cellv 0 _ rfl
  have x1 : w4.cell? ⟨w.heap.size, 1, none⟩ = some (.int .u64 mi) := hx4.cellv 1 _ rfl
  clear HX1 hb4 HB hx4 HH
  (go_wp2_with fail; go_quiet (fail); go_wp2_with fail; go_quiet (fail); go_wp2_with fail)
  (with_reducible refine (unhide (HPK _)).mono ?_)
  rintro e w5 ⟨a, c, rfl, hs5, hb5⟩
  have hbz : Below w4.heap.size w4 w5 := by
    first
    | exact (below_drewN ((Below.refl w4.heap.size w4).alloc (Nat.le_refl _) (.cells #[.int .u64 256, .int .u64 65536, .int .u64 4294967296] 32)) _).trans (hb5.mono (by simp))
    | exact ((Below.refl w4.heap.size w4).alloc (Nat.le_refl _) (.cells #[.int .u64 256, .int .u64 65536, .int .u64 4294967296] 32)).trans (hb5.mono (by simp))
    | exact (below_drewN (((Below.refl w4.heap.size w4).alloc (Nat.le_refl _) (.cells #[.int .u64 256, .int .u64 65536, .int .u64 4294967296] 32)).alloc (by simp) (.cells #[.int .u64 256, .int .u64 65536, .int .u64 4294967296] 32)) _).trans (hb5.mono (by simp; omega))
    | exact (((Below.refl w4.heap.size w4).alloc (Nat.le_refl _) (.cells #[.int .u64 256, .int .u64 65536, .int .u64 4294967296] 32)).alloc (by simp) (.cells #[.int .u64 256, .int .u64 65536, .int .u64 4294967296] 32)).trans (hb5.mono (by simp; omega))
  have hx5 := HX4.out.below hbz HX4.out.lt
  have hbw := HB4.out.trans (hbz.mono HB4.out.size)
  clear x0 x1
  have x0 : w5.cell? ⟨w.heap.size, 0, none⟩ = some (.bool false) := hx5.cellv 0 _ rfl
  have x1 : w5.cell? ⟨w.heap.size, 1, none⟩ = some (.int .u64 mi) := hx5.cellv 1 _ rfl
  obtain ⟨g1, o1, k1, hv1, y0, _⟩ := hs5.cell 0 (by simp)
  obtain ⟨g2, o2, k2, hv2, y1, _⟩ := hs5.cell 1 (by simp)
  obtain ⟨g3, o3, k3, hv3, y2, _⟩ := hs5.cell 2 (by simp)
  obtain ⟨g4, o4, k4, hv4, y3, _⟩ := hs5.cell 3 (by simp)
  obtain ⟨g5, o5, k5, hv5, y4, _⟩ := hs5.cell 4 (by simp)
  have hlt := (hs5.lt g1 (by rw [hv1]; simp [slB])).2
  injection hv1 with v1 v2 v3
  subst v1 v3
  injection hv2 with v1; injection v1 with v1; injection v1 with v1 v2; subst v1 v2
  injection hv3 with v1; injection v1 with v1; injection v1 with v1 v2; subst v1 v2
  injection hv4 with v1; injection v1 with v1; injection v1 with v1 v2; subst v1 v2
  injection hv5 with v1; injection v1 with v1; injection v1 with v1 v2; subst v1 v2
  have y0' : w5.cell? ⟨g1, o1, none⟩ = some (.int .i64 2) := y0
  have y1' : w5.cell? ⟨g1, o1 + 1, none⟩ = some (.bool false) := y1
  have y2' : w5.cell? ⟨g1, o1 + 2, none⟩ = some (.int .u64 mi) := y2
  have y3' : w5.cell? ⟨g1, o1 + 3, none⟩ = some (.string (⟨#[]⟩ : ByteArray)) := y3
  have y4' : w5.cell? ⟨g1, o1 + 4, none⟩ = some (.int .i64 0) := y4
  clear y0 y1 y2 y3 y4
  have HBW := hide hbw
  have hxl := hx5.lt
  clear hs5 hb5 hbz hx5 hbw HX4 HB4 HPK v2 e1 e2 e3 e4
  go_wp2_with fail
  go_quiet (fail)
  go_wp2_with fail
  go_ret
  exact ⟨rfl, below_drewN (HBW.out.alloc HBW.out.size _) _⟩
set_option maxRecDepth 100000 in
set_option maxHeartbeats 1000000 in
theorem wholes_up5 (M : Nat) (mi : Int) (hm : mi = M) (w : World) (h0 : 65536 ≤ M) (h : M < 4294967296) (h2 : M < 18446744073709551616) :
    Calls Try.prog 7 #[.agg #[.bool false, .int .u64 mi]] w fun e w' => e = .returned (.bool true) ∧ Below w.heap.size w w' := by
  have _hx0 := And.intro h0 h2
  obtain ⟨r, hall, hrl, hrd⟩ := all_up5 M h0 h
  rw [← hm] at hall hrd
  skip
  have e1 : decide (mi < 128) = false := by first | exact decide_eq_true (by omega) | exact decide_eq_false (by omega)
  have e2 : decide (mi < 256) = false := by first | exact decide_eq_true (by omega) | exact decide_eq_false (by omega)
  have e3 : decide (mi < 65536) = false := by first | exact decide_eq_true (by omega) | exact decide_eq_false (by omega)
  have e4 : decide (mi < 4294967296) = true := by first | exact decide_eq_true (by omega) | exact decide_eq_false (by omega)
  have HPK := fun W => hide (pack_all (w := W) r (by omega) (by omega) false mi hrd)
  have hrli : (r.length : Int) = 5 := by omega
  clear hrl hrd
  have HA := fun W => hide (alive_any W)
  have H := fun W B hB => all_any (evs_built W [⟨2, false, mi, [], 0⟩] 1 rfl #[.int .i64 2, .bool false, .int .u64 mi, .string (⟨#[]⟩ : ByteArray), .int .i64 0] rfl B hB) (by intro e he; simp at he; subst he; refine ⟨?_, ?_, ?_, ?_⟩ <;> simp <;> omega) (by simp) r 0 hall.symm
  have HH := fun W B hB => hide (H W B hB)
  clear H hall hm _hx0 h0 h h2
  go_enter Try.func7, Try.ntmps7
  go_wp2_with fail
  (with_reducible refine (unhide (HA _)).mono ?_)
  rintro e w1 ⟨rfl, hb⟩
  have hx1 := (Blk.new w 53 #[.bool false, .int .u64 mi]).below hb (Blk.new w 53 #[.bool false, .int .u64 mi]).lt
  have hb1 : Below w.heap.size w w1 := ((Below.refl w.heap.size w).alloc (Nat.le_refl _) (.cells #[.bool false, .int .u64 mi] 53)).trans (hb.mono (by simp))
  have HB := hide hb1
  have HX1 := hide hx1
  have x0 : w1.cell? ⟨w.heap.size, 0, none⟩ = some (.bool false) := hx1.cellv 0 _ rfl
  have x1 : w1.cell? ⟨w.heap.size, 1, none⟩ = some (.int .u64 mi) := hx1.cellv 1 _ rfl
  clear HA hb hx1 hb1
  go_wp2_with fail
  (with_reducible refine (unhide (HH _ _ (by first | rfl | simp))).mono ?_)
  rintro e w4 ⟨rfl, hb4⟩
  have hx4 := (HX1.out.alloc (.cells #[.int .i64 2, .bool false, .int .u64 mi, .string (⟨#[]⟩ : ByteArray), .int .i64 0] 34)).below hb4 (HX1.out.alloc (.cells #[.int .i64 2, .bool false, .int .u64 mi, .string (⟨#[]⟩ : ByteArray), .int .i64 0] 34)).lt
  have HB4 : Hid (Below w.heap.size w w4) := hide ((HB.out.alloc HB.out.size (.cells #[.int .i64 2, .bool false, .int .u64 mi, .string (⟨#[]⟩ : ByteArray), .int .i64 0] 34)).trans (hb4.mono (by have := HB.out.size; simp; omega)))
  have HX4 := hide hx4
  have hlt4 := hx4.lt
  clear x0 x1
  have x0 : w4.cell? ⟨w.heap.size, 0, none⟩ = some (.bool false) := hx4.cellv 0 _ rfl
  have x1 : w4.cell? ⟨w.heap.size, 1, none⟩ = some (.int .u64 mi) := hx4.cellv 1 _ rfl
  clear HX1 hb4 HB hx4 HH
  (go_wp2_with fail; go_quiet (fail); go_wp2_with fail; go_quiet (fail); go_wp2_with fail; go_quiet (fail); go_wp2_with fail)
  (with_reducible refine (unhide (HPK _)).mono ?_)
  rintro e w5 ⟨a, c, rfl, hs5, hb5⟩
  have hbz : Below w4.heap.size w4 w5 := by
    first
    | exact (below_drewN ((Below.refl w4.heap.size w4).alloc (Nat.le_refl _) (.cells #[.int .u64 256, .int .u64 65536, .int .u64 4294967296] 32)) _).trans (hb5.mono (by simp))
    | exact ((Below.refl w4.heap.size w4).alloc (Nat.le_refl _) (.cells #[.int .u64 256, .int .u64 65536, .int .u64 4294967296] 32)).trans (hb5.mono (by simp))
    | exact (below_drewN (((Below.refl w4.heap.size w4).alloc (Nat.le_refl _) (.cells #[.int .u64 256, .int .u64 65536, .int .u64 4294967296] 32)).alloc (by simp) (.cells #[.int .u64 256, .int .u64 65536, .int .u64 4294967296] 32)) _).trans (hb5.mono (by simp; omega))
    | exact (((Below.refl w4.heap.size w4).alloc (Nat.le_refl _) (.cells #[.int .u64 256, .int .u64 65536, .int .u64 4294967296] 32)).alloc (by simp) (.cells #[.int .u64 256, .int .u64 65536, .int .u64 4294967296] 32)).trans (hb5.mono (by simp; omega))
  have hx5 := HX4.out.below hbz HX4.out.lt
  have hbw := HB4.out.trans (hbz.mono HB4.out.size)
  clear x0 x1
  have x0 : w5.cell? ⟨w.heap.size, 0, none⟩ = some (.bool false) := hx5.cellv 0 _ rfl
  have x1 : w5.cell? ⟨w.heap.size, 1, none⟩ = some (.int .u64 mi) := hx5.cellv 1 _ rfl
  obtain ⟨g1, o1, k1, hv1, y0, _⟩ := hs5.cell 0 (by simp)
  obtain ⟨g2, o2, k2, hv2, y1, _⟩ := hs5.cell 1 (by simp)
  obtain ⟨g3, o3, k3, hv3, y2, _⟩ := hs5.cell 2 (by simp)
  obtain ⟨g4, o4, k4, hv4, y3, _⟩ := hs5.cell 3 (by simp)
  obtain ⟨g5, o5, k5, hv5, y4, _⟩ := hs5.cell 4 (by simp)
  have hlt := (hs5.lt g1 (by rw [hv1]; simp [slB])).2
  injection hv1 with v1 v2 v3
  subst v1 v3
  injection hv2 with v1; injection v1 with v1; injection v1 with v1 v2; subst v1 v2
  injection hv3 with v1; injection v1 with v1; injection v1 with v1 v2; subst v1 v2
  injection hv4 with v1; injection v1 with v1; injection v1 with v1 v2; subst v1 v2
  injection hv5 with v1; injection v1 with v1; injection v1 with v1 v2; subst v1 v2
  have y0' : w5.cell? ⟨g1, o1, none⟩ = some (.int .i64 2) := y0
  have y1' : w5.cell? ⟨g1, o1 + 1, none⟩ = some (.bool false) := y1
  have y2' : w5.cell? ⟨g1, o1 + 2, none⟩ = some (.int .u64 mi) := y2
  have y3' : w5.cell? ⟨g1, o1 + 3, none⟩ = some (.string (⟨#[]⟩ : ByteArray)) := y3
  have y4' : w5.cell? ⟨g1, o1 + 4, none⟩ = some (.int .i64 0) := y4
  clear y0 y1 y2 y3 y4
  have HBW := hide hbw
  have hxl := hx5.lt
  clear hs5 hb5 hbz hx5 hbw HX4 HB4 HPK v2 e1 e2 e3 e4
  go_wp2_with fail
  go_quiet (fail)
  go_wp2_with fail
  go_ret
  exact ⟨rfl, below_drewN (HBW.out.alloc HBW.out.size _) _⟩
set_option maxRecDepth 100000 in
set_option maxHeartbeats 1000000 in
theorem wholes_up9 (M : Nat) (mi : Int) (hm : mi = M) (w : World) (h0 : 4294967296 ≤ M) (h : M < 18446744073709551616) (h2 : M < 18446744073709551616) :
    Calls Try.prog 7 #[.agg #[.bool false, .int .u64 mi]] w fun e w' => e = .returned (.bool true) ∧ Below w.heap.size w w' := by
  have _hx0 := And.intro h0 h2
  obtain ⟨r, hall, hrl, hrd⟩ := all_up9 M h0 h
  rw [← hm] at hall hrd
  skip
  have e1 : decide (mi < 128) = false := by first | exact decide_eq_true (by omega) | exact decide_eq_false (by omega)
  have e2 : decide (mi < 256) = false := by first | exact decide_eq_true (by omega) | exact decide_eq_false (by omega)
  have e3 : decide (mi < 65536) = false := by first | exact decide_eq_true (by omega) | exact decide_eq_false (by omega)
  have e4 : decide (mi < 4294967296) = false := by first | exact decide_eq_true (by omega) | exact decide_eq_false (by omega)
  have HPK := fun W => hide (pack_all (w := W) r (by omega) (by omega) false mi hrd)
  have hrli : (r.length : Int) = 9 := by omega
  clear hrl hrd
  have HA := fun W => hide (alive_any W)
  have H := fun W B hB => all_any (evs_built W [⟨2, false, mi, [], 0⟩] 1 rfl #[.int .i64 2, .bool false, .int .u64 mi, .string (⟨#[]⟩ : ByteArray), .int .i64 0] rfl B hB) (by intro e he; simp at he; subst he; refine ⟨?_, ?_, ?_, ?_⟩ <;> simp <;> omega) (by simp) r 0 hall.symm
  have HH := fun W B hB => hide (H W B hB)
  clear H hall hm _hx0 h0 h h2
  go_enter Try.func7, Try.ntmps7
  go_wp2_with fail
  (with_reducible refine (unhide (HA _)).mono ?_)
  rintro e w1 ⟨rfl, hb⟩
  have hx1 := (Blk.new w 53 #[.bool false, .int .u64 mi]).below hb (Blk.new w 53 #[.bool false, .int .u64 mi]).lt
  have hb1 : Below w.heap.size w w1 := ((Below.refl w.heap.size w).alloc (Nat.le_refl _) (.cells #[.bool false, .int .u64 mi] 53)).trans (hb.mono (by simp))
  have HB := hide hb1
  have HX1 := hide hx1
  have x0 : w1.cell? ⟨w.heap.size, 0, none⟩ = some (.bool false) := hx1.cellv 0 _ rfl
  have x1 : w1.cell? ⟨w.heap.size, 1, none⟩ = some (.int .u64 mi) := hx1.cellv 1 _ rfl
  clear HA hb hx1 hb1
  go_wp2_with fail
  (with_reducible refine (unhide (HH _ _ (by first | rfl | simp))).mono ?_)
  rintro e w4 ⟨rfl, hb4⟩
  have hx4 := (HX1.out.alloc (.cells #[.int .i64 2, .bool false, .int .u64 mi, .string (⟨#[]⟩ : ByteArray), .int .i64 0] 34)).below hb4 (HX1.out.alloc (.cells #[.int .i64 2, .bool false, .int .u64 mi, .string (⟨#[]⟩ : ByteArray), .int .i64 0] 34)).lt
  have HB4 : Hid (Below w.heap.size w w4) := hide ((HB.out.alloc HB.out.size (.cells #[.int .i64 2, .bool false, .int .u64 mi, .string (⟨#[]⟩ : ByteArray), .int .i64 0] 34)).trans (hb4.mono (by have := HB.out.size; simp; omega)))
  have HX4 := hide hx4
  have hlt4 := hx4.lt
  clear x0 x1
  have x0 : w4.cell? ⟨w.heap.size, 0, none⟩ = some (.bool false) := hx4.cellv 0 _ rfl
  have x1 : w4.cell? ⟨w.heap.size, 1, none⟩ = some (.int .u64 mi) := hx4.cellv 1 _ rfl
  clear HX1 hb4 HB hx4 HH
  (go_wp2_with fail; go_quiet (fail); go_wp2_with fail; go_quiet (fail); go_wp2_with fail; go_quiet (fail); go_wp2_with fail)
  (with_reducible refine (unhide (HPK _)).mono ?_)
  rintro e w5 ⟨a, c, rfl, hs5, hb5⟩
  have hbz : Below w4.heap.size w4 w5 := by
    first
    | exact (below_drewN ((Below.refl w4.heap.size w4).alloc (Nat.le_refl _) (.cells #[.int .u64 256, .int .u64 65536, .int .u64 4294967296] 32)) _).trans (hb5.mono (by simp))
    | exact ((Below.refl w4.heap.size w4).alloc (Nat.le_refl _) (.cells #[.int .u64 256, .int .u64 65536, .int .u64 4294967296] 32)).trans (hb5.mono (by simp))
    | exact (below_drewN (((Below.refl w4.heap.size w4).alloc (Nat.le_refl _) (.cells #[.int .u64 256, .int .u64 65536, .int .u64 4294967296] 32)).alloc (by simp) (.cells #[.int .u64 256, .int .u64 65536, .int .u64 4294967296] 32)) _).trans (hb5.mono (by simp; omega))
    | exact (((Below.refl w4.heap.size w4).alloc (Nat.le_refl _) (.cells #[.int .u64 256, .int .u64 65536, .int .u64 4294967296] 32)).alloc (by simp) (.cells #[.int .u64 256, .int .u64 65536, .int .u64 4294967296] 32)).trans (hb5.mono (by simp; omega))
  have hx5 := HX4.out.below hbz HX4.out.lt
  have hbw := HB4.out.trans (hbz.mono HB4.out.size)
  clear x0 x1
  have x0 : w5.cell? ⟨w.heap.size, 0, none⟩ = some (.bool false) := hx5.cellv 0 _ rfl
  have x1 : w5.cell? ⟨w.heap.size, 1, none⟩ = some (.int .u64 mi) := hx5.cellv 1 _ rfl
  obtain ⟨g1, o1, k1, hv1, y0, _⟩ := hs5.cell 0 (by simp)
  obtain ⟨g2, o2, k2, hv2, y1, _⟩ := hs5.cell 1 (by simp)
  obtain ⟨g3, o3, k3, hv3, y2, _⟩ := hs5.cell 2 (by simp)
  obtain ⟨g4, o4, k4, hv4, y3, _⟩ := hs5.cell 3 (by simp)
  obtain ⟨g5, o5, k5, hv5, y4, _⟩ := hs5.cell 4 (by simp)
  have hlt := (hs5.lt g1 (by rw [hv1]; simp [slB])).2
  injection hv1 with v1 v2 v3
  subst v1 v3
  injection hv2 with v1; injection v1 with v1; injection v1 with v1 v2; subst v1 v2
  injection hv3 with v1; injection v1 with v1; injection v1 with v1 v2; subst v1 v2
  injection hv4 with v1; injection v1 with v1; injection v1 with v1 v2; subst v1 v2
  injection hv5 with v1; injection v1 with v1; injection v1 with v1 v2; subst v1 v2
  have y0' : w5.cell? ⟨g1, o1, none⟩ = some (.int .i64 2) := y0
  have y1' : w5.cell? ⟨g1, o1 + 1, none⟩ = some (.bool false) := y1
  have y2' : w5.cell? ⟨g1, o1 + 2, none⟩ = some (.int .u64 mi) := y2
  have y3' : w5.cell? ⟨g1, o1 + 3, none⟩ = some (.string (⟨#[]⟩ : ByteArray)) := y3
  have y4' : w5.cell? ⟨g1, o1 + 4, none⟩ = some (.int .i64 0) := y4
  clear y0 y1 y2 y3 y4
  have HBW := hide hbw
  have hxl := hx5.lt
  clear hs5 hb5 hbz hx5 hbw HX4 HB4 HPK v2 e1 e2 e3 e4
  go_wp2_with fail
  go_quiet (fail)
  go_wp2_with fail
  go_ret
  exact ⟨rfl, below_drewN (HBW.out.alloc HBW.out.size _) _⟩
set_option maxRecDepth 100000 in
set_option maxHeartbeats 1000000 in
theorem wholes_down1 (M : Nat) (mi : Int) (hm : mi = M) (w : World) (h0 : 0 ≤ M) (h : M < 32) (h2 : M < 18446744073709551616) :
    Calls Try.prog 7 #[.agg #[.bool true, .int .u64 mi]] w fun e w' => e = .returned (.bool true) ∧ Below w.heap.size w w' := by
  have _hx0 := And.intro h0 h2
  obtain ⟨r, hall, hrl, hrd⟩ := all_down1 M h
  rw [← hm] at hall hrd
  have hd : decide (9223372036854775808 ≤ mi) = false := decide_eq_false (by omega)
  have e1 : decide (mi < 32) = true := by first | exact decide_eq_true (by omega) | exact decide_eq_false (by omega)
  have e2 : decide (mi < 128) = true := by first | exact decide_eq_true (by omega) | exact decide_eq_false (by omega)
  have e3 : decide (mi < 32768) = true := by first | exact decide_eq_true (by omega) | exact decide_eq_false (by omega)
  have e4 : decide (mi < 2147483648) = true := by first | exact decide_eq_true (by omega) | exact decide_eq_false (by omega)
  have HPK := fun W => hide (pack_all (w := W) r (by omega) (by omega) true mi hrd)
  have hrli : (r.length : Int) = 1 := by omega
  clear hrl hrd
  have HA := fun W => hide (alive_any W)
  have H := fun W B hB => all_any (evs_built W [⟨2, true, mi, [], 0⟩] 1 rfl #[.int .i64 2, .bool true, .int .u64 mi, .string (⟨#[]⟩ : ByteArray), .int .i64 0] rfl B hB) (by intro e he; simp at he; subst he; refine ⟨?_, ?_, ?_, ?_⟩ <;> simp <;> omega) (by simp) r 0 hall.symm
  have HH := fun W B hB => hide (H W B hB)
  clear H hall hm _hx0 h0 h h2
  go_enter Try.func7, Try.ntmps7
  go_wp2_with fail
  (with_reducible refine (unhide (HA _)).mono ?_)
  rintro e w1 ⟨rfl, hb⟩
  have hx1 := (Blk.new w 53 #[.bool true, .int .u64 mi]).below hb (Blk.new w 53 #[.bool true, .int .u64 mi]).lt
  have hb1 : Below w.heap.size w w1 := ((Below.refl w.heap.size w).alloc (Nat.le_refl _) (.cells #[.bool true, .int .u64 mi] 53)).trans (hb.mono (by simp))
  have HB := hide hb1
  have HX1 := hide hx1
  have x0 : w1.cell? ⟨w.heap.size, 0, none⟩ = some (.bool true) := hx1.cellv 0 _ rfl
  have x1 : w1.cell? ⟨w.heap.size, 1, none⟩ = some (.int .u64 mi) := hx1.cellv 1 _ rfl
  clear HA hb hx1 hb1
  go_wp2_with fail
  (with_reducible refine (unhide (HH _ _ (by first | rfl | simp))).mono ?_)
  rintro e w4 ⟨rfl, hb4⟩
  have hx4 := (HX1.out.alloc (.cells #[.int .i64 2, .bool true, .int .u64 mi, .string (⟨#[]⟩ : ByteArray), .int .i64 0] 34)).below hb4 (HX1.out.alloc (.cells #[.int .i64 2, .bool true, .int .u64 mi, .string (⟨#[]⟩ : ByteArray), .int .i64 0] 34)).lt
  have HB4 : Hid (Below w.heap.size w w4) := hide ((HB.out.alloc HB.out.size (.cells #[.int .i64 2, .bool true, .int .u64 mi, .string (⟨#[]⟩ : ByteArray), .int .i64 0] 34)).trans (hb4.mono (by have := HB.out.size; simp; omega)))
  have HX4 := hide hx4
  have hlt4 := hx4.lt
  clear x0 x1
  have x0 : w4.cell? ⟨w.heap.size, 0, none⟩ = some (.bool true) := hx4.cellv 0 _ rfl
  have x1 : w4.cell? ⟨w.heap.size, 1, none⟩ = some (.int .u64 mi) := hx4.cellv 1 _ rfl
  clear HX1 hb4 HB hx4 HH
  (go_wp2_with fail)
  (with_reducible refine (unhide (HPK _)).mono ?_)
  rintro e w5 ⟨a, c, rfl, hs5, hb5⟩
  have hbz : Below w4.heap.size w4 w5 := by
    first
    | exact (below_drewN ((Below.refl w4.heap.size w4).alloc (Nat.le_refl _) (.cells #[.int .u64 128, .int .u64 32768, .int .u64 2147483648] 32)) _).trans (hb5.mono (by simp))
    | exact ((Below.refl w4.heap.size w4).alloc (Nat.le_refl _) (.cells #[.int .u64 128, .int .u64 32768, .int .u64 2147483648] 32)).trans (hb5.mono (by simp))
    | exact (below_drewN (((Below.refl w4.heap.size w4).alloc (Nat.le_refl _) (.cells #[.int .u64 256, .int .u64 65536, .int .u64 4294967296] 32)).alloc (by simp) (.cells #[.int .u64 128, .int .u64 32768, .int .u64 2147483648] 32)) _).trans (hb5.mono (by simp; omega))
    | exact (((Below.refl w4.heap.size w4).alloc (Nat.le_refl _) (.cells #[.int .u64 256, .int .u64 65536, .int .u64 4294967296] 32)).alloc (by simp) (.cells #[.int .u64 128, .int .u64 32768, .int .u64 2147483648] 32)).trans (hb5.mono (by simp; omega))
  have hx5 := HX4.out.below hbz HX4.out.lt
  have hbw := HB4.out.trans (hbz.mono HB4.out.size)
  clear x0 x1
  have x0 : w5.cell? ⟨w.heap.size, 0, none⟩ = some (.bool true) := hx5.cellv 0 _ rfl
  have x1 : w5.cell? ⟨w.heap.size, 1, none⟩ = some (.int .u64 mi) := hx5.cellv 1 _ rfl
  obtain ⟨g1, o1, k1, hv1, y0, _⟩ := hs5.cell 0 (by simp)
  obtain ⟨g2, o2, k2, hv2, y1, _⟩ := hs5.cell 1 (by simp)
  obtain ⟨g3, o3, k3, hv3, y2, _⟩ := hs5.cell 2 (by simp)
  obtain ⟨g4, o4, k4, hv4, y3, _⟩ := hs5.cell 3 (by simp)
  obtain ⟨g5, o5, k5, hv5, y4, _⟩ := hs5.cell 4 (by simp)
  have hlt := (hs5.lt g1 (by rw [hv1]; simp [slB])).2
  injection hv1 with v1 v2 v3
  subst v1 v3
  injection hv2 with v1; injection v1 with v1; injection v1 with v1 v2; subst v1 v2
  injection hv3 with v1; injection v1 with v1; injection v1 with v1 v2; subst v1 v2
  injection hv4 with v1; injection v1 with v1; injection v1 with v1 v2; subst v1 v2
  injection hv5 with v1; injection v1 with v1; injection v1 with v1 v2; subst v1 v2
  have y0' : w5.cell? ⟨g1, o1, none⟩ = some (.int .i64 2) := y0
  have y1' : w5.cell? ⟨g1, o1 + 1, none⟩ = some (.bool true) := y1
  have y2' : w5.cell? ⟨g1, o1 + 2, none⟩ = some (.int .u64 mi) := y2
  have y3' : w5.cell? ⟨g1, o1 + 3, none⟩ = some (.string (⟨#[]⟩ : ByteArray)) := y3
  have y4' : w5.cell? ⟨g1, o1 + 4, none⟩ = some (.int .i64 0) := y4
  clear y0 y1 y2 y3 y4
  have HBW := hide hbw
  have hxl := hx5.lt
  clear hs5 hb5 hbz hx5 hbw HX4 HB4 HPK v2 e1 e2 e3 e4
  go_wp2_with fail
  go_quiet (fail)
  go_wp2_with fail
  go_ret
  exact ⟨rfl, below_drewN (HBW.out.alloc HBW.out.size _) _⟩
set_option maxRecDepth 100000 in
set_option maxHeartbeats 1000000 in
theorem wholes_down2 (M : Nat) (mi : Int) (hm : mi = M) (w : World) (h0 : 32 ≤ M) (h : M < 128) (h2 : M < 18446744073709551616) :
    Calls Try.prog 7 #[.agg #[.bool true, .int .u64 mi]] w fun e w' => e = .returned (.bool true) ∧ Below w.heap.size w w' := by
  have _hx0 := And.intro h0 h2
  obtain ⟨r, hall, hrl, hrd⟩ := all_down2 M h0 h
  rw [← hm] at hall hrd
  have hd : decide (9223372036854775808 ≤ mi) = false := decide_eq_false (by omega)
  have e1 : decide (mi < 32) = false := by first | exact decide_eq_true (by omega) | exact decide_eq_false (by omega)
  have e2 : decide (mi < 128) = true := by first | exact decide_eq_true (by omega) | exact decide_eq_false (by omega)
  have e3 : decide (mi < 32768) = true := by first | exact decide_eq_true (by omega) | exact decide_eq_false (by omega)
  have e4 : decide (mi < 2147483648) = true := by first | exact decide_eq_true (by omega) | exact decide_eq_false (by omega)
  have HPK := fun W => hide (pack_all (w := W) r (by omega) (by omega) true mi hrd)
  have hrli : (r.length : Int) = 2 := by omega
  clear hrl hrd
  have HA := fun W => hide (alive_any W)
  have H := fun W B hB => all_any (evs_built W [⟨2, true, mi, [], 0⟩] 1 rfl #[.int .i64 2, .bool true, .int .u64 mi, .string (⟨#[]⟩ : ByteArray), .int .i64 0] rfl B hB) (by intro e he; simp at he; subst he; refine ⟨?_, ?_, ?_, ?_⟩ <;> simp <;> omega) (by simp) r 0 hall.symm
  have HH := fun W B hB => hide (H W B hB)
  clear H hall hm _hx0 h0 h h2
  go_enter Try.func7, Try.ntmps7
  go_wp2_with fail
  (with_reducible refine (unhide (HA _)).mono ?_)
  rintro e w1 ⟨rfl, hb⟩
  have hx1 := (Blk.new w 53 #[.bool true, .int .u64 mi]).below hb (Blk.new w 53 #[.bool true, .int .u64 mi]).lt
  have hb1 : Below w.heap.size w w1 := ((Below.refl w.heap.size w).alloc (Nat.le_refl _) (.cells #[.bool true, .int .u64 mi] 53)).trans (hb.mono (by simp))
  have HB := hide hb1
  have HX1 := hide hx1
  have x0 : w1.cell? ⟨w.heap.size, 0, none⟩ = some (.bool true) := hx1.cellv 0 _ rfl
  have x1 : w1.cell? ⟨w.heap.size, 1, none⟩ = some (.int .u64 mi) := hx1.cellv 1 _ rfl
  clear HA hb hx1 hb1
  go_wp2_with fail
  (with_reducible refine (unhide (HH _ _ (by first | rfl | simp))).mono ?_)
  rintro e w4 ⟨rfl, hb4⟩
  have hx4 := (HX1.out.alloc (.cells #[.int .i64 2, .bool true, .int .u64 mi, .string (⟨#[]⟩ : ByteArray), .int .i64 0] 34)).below hb4 (HX1.out.alloc (.cells #[.int .i64 2, .bool true, .int .u64 mi, .string (⟨#[]⟩ : ByteArray), .int .i64 0] 34)).lt
  have HB4 : Hid (Below w.heap.size w w4) := hide ((HB.out.alloc HB.out.size (.cells #[.int .i64 2, .bool true, .int .u64 mi, .string (⟨#[]⟩ : ByteArray), .int .i64 0] 34)).trans (hb4.mono (by have := HB.out.size; simp; omega)))
  have HX4 := hide hx4
  have hlt4 := hx4.lt
  clear x0 x1
  have x0 : w4.cell? ⟨w.heap.size, 0, none⟩ = some (.bool true) := hx4.cellv 0 _ rfl
  have x1 : w4.cell? ⟨w.heap.size, 1, none⟩ = some (.int .u64 mi) := hx4.cellv 1 _ rfl
  clear HX1 hb4 HB hx4 HH
  (go_wp2_with fail; go_quiet (fail); go_wp2_with fail)
  (with_reducible refine (unhide (HPK _)).mono ?_)
  rintro e w5 ⟨a, c, rfl, hs5, hb5⟩
  have hbz : Below w4.heap.size w4 w5 := by
    first
    | exact (below_drewN ((Below.refl w4.heap.size w4).alloc (Nat.le_refl _) (.cells #[.int .u64 128, .int .u64 32768, .int .u64 2147483648] 32)) _).trans (hb5.mono (by simp))
    | exact ((Below.refl w4.heap.size w4).alloc (Nat.le_refl _) (.cells #[.int .u64 128, .int .u64 32768, .int .u64 2147483648] 32)).trans (hb5.mono (by simp))
    | exact (below_drewN (((Below.refl w4.heap.size w4).alloc (Nat.le_refl _) (.cells #[.int .u64 256, .int .u64 65536, .int .u64 4294967296] 32)).alloc (by simp) (.cells #[.int .u64 128, .int .u64 32768, .int .u64 2147483648] 32)) _).trans (hb5.mono (by simp; omega))
    | exact (((Below.refl w4.heap.size w4).alloc (Nat.le_refl _) (.cells #[.int .u64 256, .int .u64 65536, .int .u64 4294967296] 32)).alloc (by simp) (.cells #[.int .u64 128, .int .u64 32768, .int .u64 2147483648] 32)).trans (hb5.mono (by simp; omega))
  have hx5 := HX4.out.below hbz HX4.out.lt
  have hbw := HB4.out.trans (hbz.mono HB4.out.size)
  clear x0 x1
  have x0 : w5.cell? ⟨w.heap.size, 0, none⟩ = some (.bool true) := hx5.cellv 0 _ rfl
  have x1 : w5.cell? ⟨w.heap.size, 1, none⟩ = some (.int .u64 mi) := hx5.cellv 1 _ rfl
  obtain ⟨g1, o1, k1, hv1, y0, _⟩ := hs5.cell 0 (by simp)
  obtain ⟨g2, o2, k2, hv2, y1, _⟩ := hs5.cell 1 (by simp)
  obtain ⟨g3, o3, k3, hv3, y2, _⟩ := hs5.cell 2 (by simp)
  obtain ⟨g4, o4, k4, hv4, y3, _⟩ := hs5.cell 3 (by simp)
  obtain ⟨g5, o5, k5, hv5, y4, _⟩ := hs5.cell 4 (by simp)
  have hlt := (hs5.lt g1 (by rw [hv1]; simp [slB])).2
  injection hv1 with v1 v2 v3
  subst v1 v3
  injection hv2 with v1; injection v1 with v1; injection v1 with v1 v2; subst v1 v2
  injection hv3 with v1; injection v1 with v1; injection v1 with v1 v2; subst v1 v2
  injection hv4 with v1; injection v1 with v1; injection v1 with v1 v2; subst v1 v2
  injection hv5 with v1; injection v1 with v1; injection v1 with v1 v2; subst v1 v2
  have y0' : w5.cell? ⟨g1, o1, none⟩ = some (.int .i64 2) := y0
  have y1' : w5.cell? ⟨g1, o1 + 1, none⟩ = some (.bool true) := y1
  have y2' : w5.cell? ⟨g1, o1 + 2, none⟩ = some (.int .u64 mi) := y2
  have y3' : w5.cell? ⟨g1, o1 + 3, none⟩ = some (.string (⟨#[]⟩ : ByteArray)) := y3
  have y4' : w5.cell? ⟨g1, o1 + 4, none⟩ = some (.int .i64 0) := y4
  clear y0 y1 y2 y3 y4
  have HBW := hide hbw
  have hxl := hx5.lt
  clear hs5 hb5 hbz hx5 hbw HX4 HB4 HPK v2 e1 e2 e3 e4
  go_wp2_with fail
  go_quiet (fail)
  go_wp2_with fail
  go_ret
  exact ⟨rfl, below_drewN (HBW.out.alloc HBW.out.size _) _⟩
set_option maxRecDepth 100000 in
set_option maxHeartbeats 1000000 in
theorem wholes_down3 (M : Nat) (mi : Int) (hm : mi = M) (w : World) (h0 : 128 ≤ M) (h : M < 32768) (h2 : M < 18446744073709551616) :
    Calls Try.prog 7 #[.agg #[.bool true, .int .u64 mi]] w fun e w' => e = .returned (.bool true) ∧ Below w.heap.size w w' := by
  have _hx0 := And.intro h0 h2
  obtain ⟨r, hall, hrl, hrd⟩ := all_down3 M h0 h
  rw [← hm] at hall hrd
  have hd : decide (9223372036854775808 ≤ mi) = false := decide_eq_false (by omega)
  have e1 : decide (mi < 32) = false := by first | exact decide_eq_true (by omega) | exact decide_eq_false (by omega)
  have e2 : decide (mi < 128) = false := by first | exact decide_eq_true (by omega) | exact decide_eq_false (by omega)
  have e3 : decide (mi < 32768) = true := by first | exact decide_eq_true (by omega) | exact decide_eq_false (by omega)
  have e4 : decide (mi < 2147483648) = true := by first | exact decide_eq_true (by omega) | exact decide_eq_false (by omega)
  have HPK := fun W => hide (pack_all (w := W) r (by omega) (by omega) true mi hrd)
  have hrli : (r.length : Int) = 3 := by omega
  clear hrl hrd
  have HA := fun W => hide (alive_any W)
  have H := fun W B hB => all_any (evs_built W [⟨2, true, mi, [], 0⟩] 1 rfl #[.int .i64 2, .bool true, .int .u64 mi, .string (⟨#[]⟩ : ByteArray), .int .i64 0] rfl B hB) (by intro e he; simp at he; subst he; refine ⟨?_, ?_, ?_, ?_⟩ <;> simp <;> omega) (by simp) r 0 hall.symm
  have HH := fun W B hB => hide (H W B hB)
  clear H hall hm _hx0 h0 h h2
  go_enter Try.func7, Try.ntmps7
  go_wp2_with fail
  (with_reducible refine (unhide (HA _)).mono ?_)
  rintro e w1 ⟨rfl, hb⟩
  have hx1 := (Blk.new w 53 #[.bool true, .int .u64 mi]).below hb (Blk.new w 53 #[.bool true, .int .u64 mi]).lt
  have hb1 : Below w.heap.size w w1 := ((Below.refl w.heap.size w).alloc (Nat.le_refl _) (.cells #[.bool true, .int .u64 mi] 53)).trans (hb.mono (by simp))
  have HB := hide hb1
  have HX1 := hide hx1
  have x0 : w1.cell? ⟨w.heap.size, 0, none⟩ = some (.bool true) := hx1.cellv 0 _ rfl
  have x1 : w1.cell? ⟨w.heap.size, 1, none⟩ = some (.int .u64 mi) := hx1.cellv 1 _ rfl
  clear HA hb hx1 hb1
  go_wp2_with fail
  (with_reducible refine (unhide (HH _ _ (by first | rfl | simp))).mono ?_)
  rintro e w4 ⟨rfl, hb4⟩
  have hx4 := (HX1.out.alloc (.cells #[.int .i64 2, .bool true, .int .u64 mi, .string (⟨#[]⟩ : ByteArray), .int .i64 0] 34)).below hb4 (HX1.out.alloc (.cells #[.int .i64 2, .bool true, .int .u64 mi, .string (⟨#[]⟩ : ByteArray), .int .i64 0] 34)).lt
  have HB4 : Hid (Below w.heap.size w w4) := hide ((HB.out.alloc HB.out.size (.cells #[.int .i64 2, .bool true, .int .u64 mi, .string (⟨#[]⟩ : ByteArray), .int .i64 0] 34)).trans (hb4.mono (by have := HB.out.size; simp; omega)))
  have HX4 := hide hx4
  have hlt4 := hx4.lt
  clear x0 x1
  have x0 : w4.cell? ⟨w.heap.size, 0, none⟩ = some (.bool true) := hx4.cellv 0 _ rfl
  have x1 : w4.cell? ⟨w.heap.size, 1, none⟩ = some (.int .u64 mi) := hx4.cellv 1 _ rfl
  clear HX1 hb4 HB hx4 HH
  (go_wp2_with fail; go_quiet (fail); go_wp2_with fail; go_quiet (fail); go_wp2_with fail)
  (with_reducible refine (unhide (HPK _)).mono ?_)
  rintro e w5 ⟨a, c, rfl, hs5, hb5⟩
  have hbz : Below w4.heap.size w4 w5 := by
    first
    | exact (below_drewN ((Below.refl w4.heap.size w4).alloc (Nat.le_refl _) (.cells #[.int .u64 128, .int .u64 32768, .int .u64 2147483648] 32)) _).trans (hb5.mono (by simp))
    | exact ((Below.refl w4.heap.size w4).alloc (Nat.le_refl _) (.cells #[.int .u64 128, .int .u64 32768, .int .u64 2147483648] 32)).trans (hb5.mono (by simp))
    | exact (below_drewN (((Below.refl w4.heap.size w4).alloc (Nat.le_refl _) (.cells #[.int .u64 256, .int .u64 65536, .int .u64 4294967296] 32)).alloc (by simp) (.cells #[.int .u64 128, .int .u64 32768, .int .u64 2147483648] 32)) _).trans (hb5.mono (by simp; omega))
    | exact (((Below.refl w4.heap.size w4).alloc (Nat.le_refl _) (.cells #[.int .u64 256, .int .u64 65536, .int .u64 4294967296] 32)).alloc (by simp) (.cells #[.int .u64 128, .int .u64 32768, .int .u64 2147483648] 32)).trans (hb5.mono (by simp; omega))
  have hx5 := HX4.out.below hbz HX4.out.lt
  have hbw := HB4.out.trans (hbz.mono HB4.out.size)
  clear x0 x1
  have x0 : w5.cell? ⟨w.heap.size, 0, none⟩ = some (.bool true) := hx5.cellv 0 _ rfl
  have x1 : w5.cell? ⟨w.heap.size, 1, none⟩ = some (.int .u64 mi) := hx5.cellv 1 _ rfl
  obtain ⟨g1, o1, k1, hv1, y0, _⟩ := hs5.cell 0 (by simp)
  obtain ⟨g2, o2, k2, hv2, y1, _⟩ := hs5.cell 1 (by simp)
  obtain ⟨g3, o3, k3, hv3, y2, _⟩ := hs5.cell 2 (by simp)
  obtain ⟨g4, o4, k4, hv4, y3, _⟩ := hs5.cell 3 (by simp)
  obtain ⟨g5, o5, k5, hv5, y4, _⟩ := hs5.cell 4 (by simp)
  have hlt := (hs5.lt g1 (by rw [hv1]; simp [slB])).2
  injection hv1 with v1 v2 v3
  subst v1 v3
  injection hv2 with v1; injection v1 with v1; injection v1 with v1 v2; subst v1 v2
  injection hv3 with v1; injection v1 with v1; injection v1 with v1 v2; subst v1 v2
  injection hv4 with v1; injection v1 with v1; injection v1 with v1 v2; subst v1 v2
  injection hv5 with v1; injection v1 with v1; injection v1 with v1 v2; subst v1 v2
  have y0' : w5.cell? ⟨g1, o1, none⟩ = some (.int .i64 2) := y0
  have y1' : w5.cell? ⟨g1, o1 + 1, none⟩ = some (.bool true) := y1
  have y2' : w5.cell? ⟨g1, o1 + 2, none⟩ = some (.int .u64 mi) := y2
  have y3' : w5.cell? ⟨g1, o1 + 3, none⟩ = some (.string (⟨#[]⟩ : ByteArray)) := y3
  have y4' : w5.cell? ⟨g1, o1 + 4, none⟩ = some (.int .i64 0) := y4
  clear y0 y1 y2 y3 y4
  have HBW := hide hbw
  have hxl := hx5.lt
  clear hs5 hb5 hbz hx5 hbw HX4 HB4 HPK v2 e1 e2 e3 e4
  go_wp2_with fail
  go_quiet (fail)
  go_wp2_with fail
  go_ret
  exact ⟨rfl, below_drewN (HBW.out.alloc HBW.out.size _) _⟩
set_option maxRecDepth 100000 in
set_option maxHeartbeats 1000000 in
theorem wholes_down5 (M : Nat) (mi : Int) (hm : mi = M) (w : World) (h0 : 32768 ≤ M) (h : M < 2147483648) (h2 : M < 18446744073709551616) :
    Calls Try.prog 7 #[.agg #[.bool true, .int .u64 mi]] w fun e w' => e = .returned (.bool true) ∧ Below w.heap.size w w' := by
  have _hx0 := And.intro h0 h2
  obtain ⟨r, hall, hrl, hrd⟩ := all_down5 M h0 h
  rw [← hm] at hall hrd
  have hd : decide (9223372036854775808 ≤ mi) = false := decide_eq_false (by omega)
  have e1 : decide (mi < 32) = false := by first | exact decide_eq_true (by omega) | exact decide_eq_false (by omega)
  have e2 : decide (mi < 128) = false := by first | exact decide_eq_true (by omega) | exact decide_eq_false (by omega)
  have e3 : decide (mi < 32768) = false := by first | exact decide_eq_true (by omega) | exact decide_eq_false (by omega)
  have e4 : decide (mi < 2147483648) = true := by first | exact decide_eq_true (by omega) | exact decide_eq_false (by omega)
  have HPK := fun W => hide (pack_all (w := W) r (by omega) (by omega) true mi hrd)
  have hrli : (r.length : Int) = 5 := by omega
  clear hrl hrd
  have HA := fun W => hide (alive_any W)
  have H := fun W B hB => all_any (evs_built W [⟨2, true, mi, [], 0⟩] 1 rfl #[.int .i64 2, .bool true, .int .u64 mi, .string (⟨#[]⟩ : ByteArray), .int .i64 0] rfl B hB) (by intro e he; simp at he; subst he; refine ⟨?_, ?_, ?_, ?_⟩ <;> simp <;> omega) (by simp) r 0 hall.symm
  have HH := fun W B hB => hide (H W B hB)
  clear H hall hm _hx0 h0 h h2
  go_enter Try.func7, Try.ntmps7
  go_wp2_with fail
  (with_reducible refine (unhide (HA _)).mono ?_)
  rintro e w1 ⟨rfl, hb⟩
  have hx1 := (Blk.new w 53 #[.bool true, .int .u64 mi]).below hb (Blk.new w 53 #[.bool true, .int .u64 mi]).lt
  have hb1 : Below w.heap.size w w1 := ((Below.refl w.heap.size w).alloc (Nat.le_refl _) (.cells #[.bool true, .int .u64 mi] 53)).trans (hb.mono (by simp))
  have HB := hide hb1
  have HX1 := hide hx1
  have x0 : w1.cell? ⟨w.heap.size, 0, none⟩ = some (.bool true) := hx1.cellv 0 _ rfl
  have x1 : w1.cell? ⟨w.heap.size, 1, none⟩ = some (.int .u64 mi) := hx1.cellv 1 _ rfl
  clear HA hb hx1 hb1
  go_wp2_with fail
  (with_reducible refine (unhide (HH _ _ (by first | rfl | simp))).mono ?_)
  rintro e w4 ⟨rfl, hb4⟩
  have hx4 := (HX1.out.alloc (.cells #[.int .i64 2, .bool true, .int .u64 mi, .string (⟨#[]⟩ : ByteArray), .int .i64 0] 34)).below hb4 (HX1.out.alloc (.cells #[.int .i64 2, .bool true, .int .u64 mi, .string (⟨#[]⟩ : ByteArray), .int .i64 0] 34)).lt
  have HB4 : Hid (Below w.heap.size w w4) := hide ((HB.out.alloc HB.out.size (.cells #[.int .i64 2, .bool true, .int .u64 mi, .string (⟨#[]⟩ : ByteArray), .int .i64 0] 34)).trans (hb4.mono (by have := HB.out.size; simp; omega)))
  have HX4 := hide hx4
  have hlt4 := hx4.lt
  clear x0 x1
  have x0 : w4.cell? ⟨w.heap.size, 0, none⟩ = some (.bool true) := hx4.cellv 0 _ rfl
  have x1 : w4.cell? ⟨w.heap.size, 1, none⟩ = some (.int .u64 mi) := hx4.cellv 1 _ rfl
  clear HX1 hb4 HB hx4 HH
  (go_wp2_with fail; go_quiet (fail); go_wp2_with fail; go_quiet (fail); go_wp2_with fail; go_quiet (fail); go_wp2_with fail)
  (with_reducible refine (unhide (HPK _)).mono ?_)
  rintro e w5 ⟨a, c, rfl, hs5, hb5⟩
  have hbz : Below w4.heap.size w4 w5 := by
    first
    | exact (below_drewN ((Below.refl w4.heap.size w4).alloc (Nat.le_refl _) (.cells #[.int .u64 128, .int .u64 32768, .int .u64 2147483648] 32)) _).trans (hb5.mono (by simp))
    | exact ((Below.refl w4.heap.size w4).alloc (Nat.le_refl _) (.cells #[.int .u64 128, .int .u64 32768, .int .u64 2147483648] 32)).trans (hb5.mono (by simp))
    | exact (below_drewN (((Below.refl w4.heap.size w4).alloc (Nat.le_refl _) (.cells #[.int .u64 256, .int .u64 65536, .int .u64 4294967296] 32)).alloc (by simp) (.cells #[.int .u64 128, .int .u64 32768, .int .u64 2147483648] 32)) _).trans (hb5.mono (by simp; omega))
    | exact (((Below.refl w4.heap.size w4).alloc (Nat.le_refl _) (.cells #[.int .u64 256, .int .u64 65536, .int .u64 4294967296] 32)).alloc (by simp) (.cells #[.int .u64 128, .int .u64 32768, .int .u64 2147483648] 32)).trans (hb5.mono (by simp; omega))
  have hx5 := HX4.out.below hbz HX4.out.lt
  have hbw := HB4.out.trans (hbz.mono HB4.out.size)
  clear x0 x1
  have x0 : w5.cell? ⟨w.heap.size, 0, none⟩ = some (.bool true) := hx5.cellv 0 _ rfl
  have x1 : w5.cell? ⟨w.heap.size, 1, none⟩ = some (.int .u64 mi) := hx5.cellv 1 _ rfl
  obtain ⟨g1, o1, k1, hv1, y0, _⟩ := hs5.cell 0 (by simp)
  obtain ⟨g2, o2, k2, hv2, y1, _⟩ := hs5.cell 1 (by simp)
  obtain ⟨g3, o3, k3, hv3, y2, _⟩ := hs5.cell 2 (by simp)
  obtain ⟨g4, o4, k4, hv4, y3, _⟩ := hs5.cell 3 (by simp)
  obtain ⟨g5, o5, k5, hv5, y4, _⟩ := hs5.cell 4 (by simp)
  have hlt := (hs5.lt g1 (by rw [hv1]; simp [slB])).2
  injection hv1 with v1 v2 v3
  subst v1 v3
  injection hv2 with v1; injection v1 with v1; injection v1 with v1 v2; subst v1 v2
  injection hv3 with v1; injection v1 with v1; injection v1 with v1 v2; subst v1 v2
  injection hv4 with v1; injection v1 with v1; injection v1 with v1 v2; subst v1 v2
  injection hv5 with v1; injection v1 with v1; injection v1 with v1 v2; subst v1 v2
  have y0' : w5.cell? ⟨g1, o1, none⟩ = some (.int .i64 2) := y0
  have y1' : w5.cell? ⟨g1, o1 + 1, none⟩ = some (.bool true) := y1
  have y2' : w5.cell? ⟨g1, o1 + 2, none⟩ = some (.int .u64 mi) := y2
  have y3' : w5.cell? ⟨g1, o1 + 3, none⟩ = some (.string (⟨#[]⟩ : ByteArray)) := y3
  have y4' : w5.cell? ⟨g1, o1 + 4, none⟩ = some (.int .i64 0) := y4
  clear y0 y1 y2 y3 y4
  have HBW := hide hbw
  have hxl := hx5.lt
  clear hs5 hb5 hbz hx5 hbw HX4 HB4 HPK v2 e1 e2 e3 e4
  go_wp2_with fail
  go_quiet (fail)
  go_wp2_with fail
  go_ret
  exact ⟨rfl, below_drewN (HBW.out.alloc HBW.out.size _) _⟩
set_option maxRecDepth 100000 in
set_option maxHeartbeats 1000000 in
theorem wholes_down9 (M : Nat) (mi : Int) (hm : mi = M) (w : World) (h0 : 2147483648 ≤ M) (h : M < 9223372036854775808) (h2 : M < 18446744073709551616) :
    Calls Try.prog 7 #[.agg #[.bool true, .int .u64 mi]] w fun e w' => e = .returned (.bool true) ∧ Below w.heap.size w w' := by
  have _hx0 := And.intro h0 h2
  obtain ⟨r, hall, hrl, hrd⟩ := all_down9 M h0 h
  rw [← hm] at hall hrd
  have hd : decide (9223372036854775808 ≤ mi) = false := decide_eq_false (by omega)
  have e1 : decide (mi < 32) = false := by first | exact decide_eq_true (by omega) | exact decide_eq_false (by omega)
  have e2 : decide (mi < 128) = false := by first | exact decide_eq_true (by omega) | exact decide_eq_false (by omega)
  have e3 : decide (mi < 32768) = false := by first | exact decide_eq_true (by omega) | exact decide_eq_false (by omega)
  have e4 : decide (mi < 2147483648) = false := by first | exact decide_eq_true (by omega) | exact decide_eq_false (by omega)
  have HPK := fun W => hide (pack_all (w := W) r (by omega) (by omega) true mi hrd)
  have hrli : (r.length : Int) = 9 := by omega
  clear hrl hrd
  have HA := fun W => hide (alive_any W)
  have H := fun W B hB => all_any (evs_built W [⟨2, true, mi, [], 0⟩] 1 rfl #[.int .i64 2, .bool true, .int .u64 mi, .string (⟨#[]⟩ : ByteArray), .int .i64 0] rfl B hB) (by intro e he; simp at he; subst he; refine ⟨?_, ?_, ?_, ?_⟩ <;> simp <;> omega) (by simp) r 0 hall.symm
  have HH := fun W B hB => hide (H W B hB)
  clear H hall hm _hx0 h0 h h2
  go_enter Try.func7, Try.ntmps7
  go_wp2_with fail
  (with_reducible refine (unhide (HA _)).mono ?_)
  rintro e w1 ⟨rfl, hb⟩
  have hx1 := (Blk.new w 53 #[.bool true, .int .u64 mi]).below hb (Blk.new w 53 #[.bool true, .int .u64 mi]).lt
  have hb1 : Below w.heap.size w w1 := ((Below.refl w.heap.size w).alloc (Nat.le_refl _) (.cells #[.bool true, .int .u64 mi] 53)).trans (hb.mono (by simp))
  have HB := hide hb1
  have HX1 := hide hx1
  have x0 : w1.cell? ⟨w.heap.size, 0, none⟩ = some (.bool true) := hx1.cellv 0 _ rfl
  have x1 : w1.cell? ⟨w.heap.size, 1, none⟩ = some (.int .u64 mi) := hx1.cellv 1 _ rfl
  clear HA hb hx1 hb1
  go_wp2_with fail
  (with_reducible refine (unhide (HH _ _ (by first | rfl | simp))).mono ?_)
  rintro e w4 ⟨rfl, hb4⟩
  have hx4 := (HX1.out.alloc (.cells #[.int .i64 2, .bool true, .int .u64 mi, .string (⟨#[]⟩ : ByteArray), .int .i64 0] 34)).below hb4 (HX1.out.alloc (.cells #[.int .i64 2, .bool true, .int .u64 mi, .string (⟨#[]⟩ : ByteArray), .int .i64 0] 34)).lt
  have HB4 : Hid (Below w.heap.size w w4) := hide ((HB.out.alloc HB.out.size (.cells #[.int .i64 2, .bool true, .int .u64 mi, .string (⟨#[]⟩ : ByteArray), .int .i64 0] 34)).trans (hb4.mono (by have := HB.out.size; simp; omega)))
  have HX4 := hide hx4
  have hlt4 := hx4.lt
  clear x0 x1
  have x0 : w4.cell? ⟨w.heap.size, 0, none⟩ = some (.bool true) := hx4.cellv 0 _ rfl
  have x1 : w4.cell? ⟨w.heap.size, 1, none⟩ = some (.int .u64 mi) := hx4.cellv 1 _ rfl
  clear HX1 hb4 HB hx4 HH
  (go_wp2_with fail; go_quiet (fail); go_wp2_with fail; go_quiet (fail); go_wp2_with fail; go_quiet (fail); go_wp2_with fail)
  (with_reducible refine (unhide (HPK _)).mono ?_)
  rintro e w5 ⟨a, c, rfl, hs5, hb5⟩
  have hbz : Below w4.heap.size w4 w5 := by
    first
    | exact (below_drewN ((Below.refl w4.heap.size w4).alloc (Nat.le_refl _) (.cells #[.int .u64 128, .int .u64 32768, .int .u64 2147483648] 32)) _).trans (hb5.mono (by simp))
    | exact ((Below.refl w4.heap.size w4).alloc (Nat.le_refl _) (.cells #[.int .u64 128, .int .u64 32768, .int .u64 2147483648] 32)).trans (hb5.mono (by simp))
    | exact (below_drewN (((Below.refl w4.heap.size w4).alloc (Nat.le_refl _) (.cells #[.int .u64 256, .int .u64 65536, .int .u64 4294967296] 32)).alloc (by simp) (.cells #[.int .u64 128, .int .u64 32768, .int .u64 2147483648] 32)) _).trans (hb5.mono (by simp; omega))
    | exact (((Below.refl w4.heap.size w4).alloc (Nat.le_refl _) (.cells #[.int .u64 256, .int .u64 65536, .int .u64 4294967296] 32)).alloc (by simp) (.cells #[.int .u64 128, .int .u64 32768, .int .u64 2147483648] 32)).trans (hb5.mono (by simp; omega))
  have hx5 := HX4.out.below hbz HX4.out.lt
  have hbw := HB4.out.trans (hbz.mono HB4.out.size)
  clear x0 x1
  have x0 : w5.cell? ⟨w.heap.size, 0, none⟩ = some (.bool true) := hx5.cellv 0 _ rfl
  have x1 : w5.cell? ⟨w.heap.size, 1, none⟩ = some (.int .u64 mi) := hx5.cellv 1 _ rfl
  obtain ⟨g1, o1, k1, hv1, y0, _⟩ := hs5.cell 0 (by simp)
  obtain ⟨g2, o2, k2, hv2, y1, _⟩ := hs5.cell 1 (by simp)
  obtain ⟨g3, o3, k3, hv3, y2, _⟩ := hs5.cell 2 (by simp)
  obtain ⟨g4, o4, k4, hv4, y3, _⟩ := hs5.cell 3 (by simp)
  obtain ⟨g5, o5, k5, hv5, y4, _⟩ := hs5.cell 4 (by simp)
  have hlt := (hs5.lt g1 (by rw [hv1]; simp [slB])).2
  injection hv1 with v1 v2 v3
  subst v1 v3
  injection hv2 with v1; injection v1 with v1; injection v1 with v1 v2; subst v1 v2
  injection hv3 with v1; injection v1 with v1; injection v1 with v1 v2; subst v1 v2
  injection hv4 with v1; injection v1 with v1; injection v1 with v1 v2; subst v1 v2
  injection hv5 with v1; injection v1 with v1; injection v1 with v1 v2; subst v1 v2
  have y0' : w5.cell? ⟨g1, o1, none⟩ = some (.int .i64 2) := y0
  have y1' : w5.cell? ⟨g1, o1 + 1, none⟩ = some (.bool true) := y1
  have y2' : w5.cell? ⟨g1, o1 + 2, none⟩ = some (.int .u64 mi) := y2
  have y3' : w5.cell? ⟨g1, o1 + 3, none⟩ = some (.string (⟨#[]⟩ : ByteArray)) := y3
  have y4' : w5.cell? ⟨g1, o1 + 4, none⟩ = some (.int .i64 0) := y4
  clear y0 y1 y2 y3 y4
  have HBW := hide hbw
  have hxl := hx5.lt
  clear hs5 hb5 hbz hx5 hbw HX4 HB4 HPK v2 e1 e2 e3 e4
  go_wp2_with fail
  go_quiet (fail)
  go_wp2_with fail
  go_ret
  exact ⟨rfl, below_drewN (HBW.out.alloc HBW.out.size _) _⟩
theorem wholes_any (g : Bool) (M : Nat) (w : World) (h2 : M < 18446744073709551616) :
    Calls Try.prog 7 #[.agg #[.bool g, .int .u64 (M : Int)]] w fun e w' => e = .returned (.bool true) ∧ Below w.heap.size w w' := by
  cases g with
  | true =>
    by_cases k0 : 9223372036854775808 ≤ M
    · exact wholes_far M _ rfl w k0 h2
    by_cases k1 : M < 32
    · exact wholes_down1 M _ rfl w (Nat.zero_le _) k1 h2
    by_cases k2 : M < 128
    · exact wholes_down2 M _ rfl w (by omega) k2 h2
    by_cases k3 : M < 32768
    · exact wholes_down3 M _ rfl w (by omega) k3 h2
    by_cases k4 : M < 2147483648
    · exact wholes_down5 M _ rfl w (by omega) k4 h2
    exact wholes_down9 M _ rfl w (by omega) (by omega) h2
  | false =>
    by_cases k1 : M < 128
    · exact wholes_up1 M _ rfl w (Nat.zero_le _) k1 h2
    by_cases k2 : M < 256
    · exact wholes_up2 M _ rfl w (by omega) k2 h2
    by_cases k3 : M < 65536
    · exact wholes_up3 M _ rfl w (by omega) k3 h2
    by_cases k4 : M < 4294967296
    · exact wholes_up5 M _ rfl w (by omega) k4 h2
    exact wholes_up9 M _ rfl w (by omega) h2 h2
end Go.Proofs.Yteggfobeaolafaa
