/-
  The reference's Step: a container that is refused for its count.
-/
import Derived.Test.YteggfobeaolafaaPkU
namespace Go.Proofs.Yteggfobeaolafaa
open Go.RowKit

set_option maxRecDepth 100000 in
set_option maxHeartbeats 4000000 in
theorem refstep_berr_nil_5 {w : World} {B p : Nat} {v : Value} (h : RWr w B p v [] false) (y : Bool) (m5 : Int) (l : List UInt8) (cc : Int) (hpt : (EvM.mk 5 y m5 l cc).part = some (.begin_ false cc)) (hbad : cc < 0 ∨ 4294967295 < cc) (hmax : cc ≤ 9223372036854775807) (r : List UInt8) (hrl : r.length ≤ 9) :
    Calls Try.prog 13 #[.pointer (some ⟨p, 0, none⟩), .agg #[.int .i64 5, .bool y, .int .u64 m5, .string (S l), .int .i64 cc]] w fun r' w' => r' = .returned (.tuple #[.string (S []), .int .i64 7]) ∧ Below w.heap.size w w' := by
  obtain ⟨a9, c9, rfl⟩ := h.2.2.form
  have c1 := h.2.1.cellv 1 _ rfl
  have hpl := h.2.1.lt
  have HM0 := fun W => refmay_any ⟨5, y, m5, l, cc⟩ W true (by rw [hpt]; rfl)
  simp only [EvM.cells, evV] at HM0
  have HM := fun W => hide (HM0 W)
  have hadd := run_add_S (P := Try.prog) [] r (by simp; omega)
  rw [List.nil_append] at hadd
  clear HM0 hpt
  go_enter Try.func13, Try.ntmps13
  go_wp2_with fail
  (with_reducible refine (unhide (HM _)).mono ?_)
  rintro e w1 ⟨rfl, hb1⟩
  have kw := (h.alloc (.cells #[.int .i64 5, .bool y, .int .u64 m5, .string (S l), .int .i64 cc] 34)).below hb1
  have bx := (Blk.new w 34 #[.int .i64 5, .bool y, .int .u64 m5, .string (S l), .int .i64 cc]).below hb1 (by simp)
  have HB1 : Hid (Below w.heap.size w w1) := hide (((Below.refl _ _).alloc (Nat.le_refl _) _).trans (hb1.mono (by simp)))
  have kc0 := kw.2.1.cellv 0 _ rfl
  have kc1 := kw.2.1.cellv 1 _ rfl
  have kc2 := kw.2.1.cellv 2 _ rfl
  have kpl := kw.2.1.lt
  have bc0 := bx.cellv 0 _ rfl
  have bc4 := bx.cellv 4 _ rfl
  have bpl := bx.lt
  have KW := hide kw
  have BX := hide bx
  clear HM hb1 c1 bx kw h
  by_cases hneg : cc < 0
  · have dneg : decide (cc < 0) = true := decide_eq_true hneg
    clear hbad hneg
    go_wp2_with fail
    go_ret2
    exact ⟨rfl, HB1.out⟩
  · have dneg : decide (cc < 0) = false := decide_eq_false hneg
    have dmax : decide (4294967295 < cc) = true := decide_eq_true (by omega)
    have hwr : IntKind.u64.wrap cc = cc := by rw [IntKind.wrap_u64]; omega
    clear hbad hneg
    go_wp2_with fail
    go_ret2
    exact ⟨rfl, HB1.out⟩
set_option maxRecDepth 100000 in
set_option maxHeartbeats 4000000 in
theorem refstep_berr_nil_6 {w : World} {B p : Nat} {v : Value} (h : RWr w B p v [] false) (y : Bool) (m5 : Int) (l : List UInt8) (cc : Int) (hpt : (EvM.mk 6 y m5 l cc).part = some (.begin_ true cc)) (hbad : cc < 0 ∨ 4294967295 < cc) (hmax : cc ≤ 9223372036854775807) (r : List UInt8) (hrl : r.length ≤ 9) :
    Calls Try.prog 13 #[.pointer (some ⟨p, 0, none⟩), .agg #[.int .i64 6, .bool y, .int .u64 m5, .string (S l), .int .i64 cc]] w fun r' w' => r' = .returned (.tuple #[.string (S []), .int .i64 7]) ∧ Below w.heap.size w w' := by
  obtain ⟨a9, c9, rfl⟩ := h.2.2.form
  have c1 := h.2.1.cellv 1 _ rfl
  have hpl := h.2.1.lt
  have HM0 := fun W => refmay_any ⟨6, y, m5, l, cc⟩ W true (by rw [hpt]; rfl)
  simp only [EvM.cells, evV] at HM0
  have HM := fun W => hide (HM0 W)
  have hadd := run_add_S (P := Try.prog) [] r (by simp; omega)
  rw [List.nil_append] at hadd
  clear HM0 hpt
  go_enter Try.func13, Try.ntmps13
  go_wp2_with fail
  (with_reducible refine (unhide (HM _)).mono ?_)
  rintro e w1 ⟨rfl, hb1⟩
  have kw := (h.alloc (.cells #[.int .i64 6, .bool y, .int .u64 m5, .string (S l), .int .i64 cc] 34)).below hb1
  have bx := (Blk.new w 34 #[.int .i64 6, .bool y, .int .u64 m5, .string (S l), .int .i64 cc]).below hb1 (by simp)
  have HB1 : Hid (Below w.heap.size w w1) := hide (((Below.refl _ _).alloc (Nat.le_refl _) _).trans (hb1.mono (by simp)))
  have kc0 := kw.2.1.cellv 0 _ rfl
  have kc1 := kw.2.1.cellv 1 _ rfl
  have kc2 := kw.2.1.cellv 2 _ rfl
  have kpl := kw.2.1.lt
  have bc0 := bx.cellv 0 _ rfl
  have bc4 := bx.cellv 4 _ rfl
  have bpl := bx.lt
  have KW := hide kw
  have BX := hide bx
  clear HM hb1 c1 bx kw h
  by_cases hneg : cc < 0
  · have dneg : decide (cc < 0) = true := decide_eq_true hneg
    clear hbad hneg
    go_wp2_with fail
    go_ret2
    exact ⟨rfl, HB1.out⟩
  · have dneg : decide (cc < 0) = false := decide_eq_false hneg
    have dmax : decide (4294967295 < cc) = true := decide_eq_true (by omega)
    have hwr : IntKind.u64.wrap cc = cc := by rw [IntKind.wrap_u64]; omega
    clear hbad hneg
    go_wp2_with fail
    go_ret2
    exact ⟨rfl, HB1.out⟩
set_option maxRecDepth 100000 in
set_option maxHeartbeats 4000000 in
theorem refstep_berr_top_A5 {w : World} {B p : Nat} {v : Value} {M : List Cont} {c : Cont} (h : RWr w B p v (M ++ [c]) false) (hp20 : c.parts ≤ 1000000) (hML : M.length ≤ 1000000) (y : Bool) (m5 : Int) (l : List UInt8) (cc : Int) (hpt : (EvM.mk 5 y m5 l cc).part = some (.begin_ false cc)) (hbad : cc < 0 ∨ 4294967295 < cc) (hmax : cc ≤ 9223372036854775807) (hi : c.inv) (hf : c.full = false) (r : List UInt8) (hrl : r.length ≤ 9) (hpr : c.pairs = false) (_ : True) :
    Calls Try.prog 13 #[.pointer (some ⟨p, 0, none⟩), .agg #[.int .i64 5, .bool y, .int .u64 m5, .string (S l), .int .i64 cc]] w fun r' w' => r' = .returned (.tuple #[.string (S []), .int .i64 7]) ∧ Below w.heap.size w w' := by
  obtain ⟨pr, cn, ps⟩ := c
  have hroom := hide (room_t pr cn ps hi hf)
  have hp21 : (ps : Int) ≤ 1000000 := by simp only at hp20; omega
  simp only at hpr
  subst hpr
  skip
  clear hf hp20 hi
  obtain ⟨n, hn⟩ : ∃ n, n = M.length := ⟨_, rfl⟩
  obtain ⟨g, off, cap, hv, hgl, d0, d1, d2, t7, t8, t9⟩ := top_some h.2.2 n hn
  subst hv
  have c1 := h.2.1.cellv 1 _ rfl
  have hpl := h.2.1.lt
  have hn20 : (n : Int) ≤ 1000000 := by omega
  have HN := hide hn
  clear hn hML t7 t8 t9
  have hn1 : ((n : Int) + 1 == 0) = false := by simp; omega
  have hn19 : n ≤ 1000000 := by omega
  have HM0 := fun W => refmay_any ⟨5, y, m5, l, cc⟩ W true (by rw [hpt]; rfl)
  simp only [EvM.cells, evV] at HM0
  have HM := fun W => hide (HM0 W)
  have hadd := run_add_S (P := Try.prog) [] r (by simp; omega)
  rw [List.nil_append] at hadd
  clear HM0 hpt
  go_enter Try.func13, Try.ntmps13
  go_wp2_with fail
  (with_reducible refine (unhide (HM _)).mono ?_)
  rintro e w1 ⟨rfl, hb1⟩
  have kw := (h.alloc (.cells #[.int .i64 5, .bool y, .int .u64 m5, .string (S l), .int .i64 cc] 34)).below hb1
  have bx := (Blk.new w 34 #[.int .i64 5, .bool y, .int .u64 m5, .string (S l), .int .i64 cc]).below hb1 (by simp)
  have HB1 : Hid (Below w.heap.size w w1) := hide (((Below.refl _ _).alloc (Nat.le_refl _) _).trans (hb1.mono (by simp)))
  have kc0 := kw.2.1.cellv 0 _ rfl
  have kc1 := kw.2.1.cellv 1 _ rfl
  have kc2 := kw.2.1.cellv 2 _ rfl
  have kpl := kw.2.1.lt
  have bc0 := bx.cellv 0 _ rfl
  have bc4 := bx.cellv 4 _ rfl
  have bpl := bx.lt
  have KW := hide kw
  have BX := hide bx
  clear HM hb1 c1 bx kw h
  have hg1 : g < w1.heap.size := Nat.lt_of_lt_of_le hgl HB1.out.size
  have e0 := (HB1.out.cell (p := ⟨g, off + n * 3, none⟩) hgl).trans d0
  have e1 := (HB1.out.cell (p := ⟨g, off + n * 3 + 1, none⟩) hgl).trans d1
  have e2 := (HB1.out.cell (p := ⟨g, off + n * 3 + 2, none⟩) hgl).trans d2
  clear d0 d1 d2
  go_upto_if 129 with (fail)
  go_cut [9] (fun s9 wx => s9 = .string (S []) ∧ Below w1.heap.size w1 wx)
  case first =>
    rcases hroom.out with t1 | ⟨t1, t2⟩ | ⟨t1, t2, t3⟩
    · go_wp2_with fail
      all_goals
        go_meet
        exact ⟨rfl, Below.more (Below.refl _ _) (Nat.le_refl _) _⟩
    · go_wp2_with fail
      all_goals
        go_meet
        exact ⟨rfl, Below.more (Below.refl _ _) (Nat.le_refl _) _⟩
    · simp only [Bool.false_eq_true, if_false] at t3
      go_wp2_with fail
      all_goals
        go_meet
        exact ⟨rfl, Below.more (Below.refl _ _) (Nat.le_refl _) _⟩
  case rest =>
    obtain ⟨rfl, hbx⟩ := hcut
    have kwz := KW.out.below hbx
    have bxz := BX.out.below hbx bpl
    have HBX : Hid (Below w.heap.size w wc) := hide (HB1.out.trans (hbx.mono HB1.out.size))
    clear kc0 kc1 kc2 bc0 e0 e1 e2 hbx
    have z0 := kwz.2.1.cellv 0 _ rfl
    have yk : wc.cell? ⟨w.heap.size, 0, none⟩ = some (.int .i64 5) := bxz.cellv 0 _ rfl
    have y4 : wc.cell? ⟨w.heap.size, 4, none⟩ = some (.int .i64 cc) := bxz.cellv 4 _ rfl
    by_cases hneg : cc < 0
    · have dneg : decide (cc < 0) = true := decide_eq_true hneg
      clear hbad hneg
      go_wp2_with fail
      go_ret2
      exact ⟨rfl, HBX.out⟩
    · have dneg : decide (cc < 0) = false := decide_eq_false hneg
      have dmax : decide (4294967295 < cc) = true := decide_eq_true (by omega)
      have hwr : IntKind.u64.wrap cc = cc := by rw [IntKind.wrap_u64]; omega
      clear hbad hneg
      go_wp2_with fail
      go_ret2
      exact ⟨rfl, HBX.out⟩
set_option maxRecDepth 100000 in
set_option maxHeartbeats 4000000 in
theorem refstep_berr_top_B5 {w : World} {B p : Nat} {v : Value} {M : List Cont} {c : Cont} (h : RWr w B p v (M ++ [c]) false) (hp20 : c.parts ≤ 1000000) (hML : M.length ≤ 1000000) (y : Bool) (m5 : Int) (l : List UInt8) (cc : Int) (hpt : (EvM.mk 5 y m5 l cc).part = some (.begin_ false cc)) (hbad : cc < 0 ∨ 4294967295 < cc) (hmax : cc ≤ 9223372036854775807) (hi : c.inv) (hf : c.full = false) (r : List UInt8) (hrl : r.length ≤ 9) (hpr : c.pairs = true) (hkd : c.between = true) :
    Calls Try.prog 13 #[.pointer (some ⟨p, 0, none⟩), .agg #[.int .i64 5, .bool y, .int .u64 m5, .string (S l), .int .i64 cc]] w fun r' w' => r' = .returned (.tuple #[.string (S []), .int .i64 7]) ∧ Below w.heap.size w w' := by
  obtain ⟨pr, cn, ps⟩ := c
  have hroom := hide (room_t pr cn ps hi hf)
  have hp21 : (ps : Int) ≤ 1000000 := by simp only at hp20; omega
  simp only at hpr
  subst hpr
  have t4 : ((ps : Int) % 2 == 0) = false := by simp [Cont.between] at hkd; simp; omega
  clear hf hp20 hi
  obtain ⟨n, hn⟩ : ∃ n, n = M.length := ⟨_, rfl⟩
  obtain ⟨g, off, cap, hv, hgl, d0, d1, d2, t7, t8, t9⟩ := top_some h.2.2 n hn
  subst hv
  have c1 := h.2.1.cellv 1 _ rfl
  have hpl := h.2.1.lt
  have hn20 : (n : Int) ≤ 1000000 := by omega
  have HN := hide hn
  clear hn hML t7 t8 t9
  have hn1 : ((n : Int) + 1 == 0) = false := by simp; omega
  have hn19 : n ≤ 1000000 := by omega
  have HM0 := fun W => refmay_any ⟨5, y, m5, l, cc⟩ W true (by rw [hpt]; rfl)
  simp only [EvM.cells, evV] at HM0
  have HM := fun W => hide (HM0 W)
  have hadd := run_add_S (P := Try.prog) [] r (by simp; omega)
  rw [List.nil_append] at hadd
  clear HM0 hpt
  go_enter Try.func13, Try.ntmps13
  go_wp2_with fail
  (with_reducible refine (unhide (HM _)).mono ?_)
  rintro e w1 ⟨rfl, hb1⟩
  have kw := (h.alloc (.cells #[.int .i64 5, .bool y, .int .u64 m5, .string (S l), .int .i64 cc] 34)).below hb1
  have bx := (Blk.new w 34 #[.int .i64 5, .bool y, .int .u64 m5, .string (S l), .int .i64 cc]).below hb1 (by simp)
  have HB1 : Hid (Below w.heap.size w w1) := hide (((Below.refl _ _).alloc (Nat.le_refl _) _).trans (hb1.mono (by simp)))
  have kc0 := kw.2.1.cellv 0 _ rfl
  have kc1 := kw.2.1.cellv 1 _ rfl
  have kc2 := kw.2.1.cellv 2 _ rfl
  have kpl := kw.2.1.lt
  have bc0 := bx.cellv 0 _ rfl
  have bc4 := bx.cellv 4 _ rfl
  have bpl := bx.lt
  have KW := hide kw
  have BX := hide bx
  clear HM hb1 c1 bx kw h
  have hg1 : g < w1.heap.size := Nat.lt_of_lt_of_le hgl HB1.out.size
  have e0 := (HB1.out.cell (p := ⟨g, off + n * 3, none⟩) hgl).trans d0
  have e1 := (HB1.out.cell (p := ⟨g, off + n * 3 + 1, none⟩) hgl).trans d1
  have e2 := (HB1.out.cell (p := ⟨g, off + n * 3 + 2, none⟩) hgl).trans d2
  clear d0 d1 d2
  go_upto_if 129 with (fail)
  go_cut [9] (fun s9 wx => s9 = .string (S []) ∧ Below w1.heap.size w1 wx)
  case first =>
    rcases hroom.out with t1 | ⟨t1, t2⟩ | ⟨t1, t2, t3⟩
    · go_wp2_with fail
      all_goals
        go_meet
        exact ⟨rfl, Below.more (Below.refl _ _) (Nat.le_refl _) _⟩
    · go_wp2_with fail
      all_goals
        go_meet
        exact ⟨rfl, Below.more (Below.refl _ _) (Nat.le_refl _) _⟩
    · simp only [if_true] at t3
      go_wp2_with fail
      all_goals
        go_meet
        exact ⟨rfl, Below.more (Below.refl _ _) (Nat.le_refl _) _⟩
  case rest =>
    obtain ⟨rfl, hbx⟩ := hcut
    have kwz := KW.out.below hbx
    have bxz := BX.out.below hbx bpl
    have HBX : Hid (Below w.heap.size w wc) := hide (HB1.out.trans (hbx.mono HB1.out.size))
    clear kc0 kc1 kc2 bc0 e0 e1 e2 hbx
    have z0 := kwz.2.1.cellv 0 _ rfl
    have yk : wc.cell? ⟨w.heap.size, 0, none⟩ = some (.int .i64 5) := bxz.cellv 0 _ rfl
    have y4 : wc.cell? ⟨w.heap.size, 4, none⟩ = some (.int .i64 cc) := bxz.cellv 4 _ rfl
    by_cases hneg : cc < 0
    · have dneg : decide (cc < 0) = true := decide_eq_true hneg
      clear hbad hneg
      go_wp2_with fail
      go_ret2
      exact ⟨rfl, HBX.out⟩
    · have dneg : decide (cc < 0) = false := decide_eq_false hneg
      have dmax : decide (4294967295 < cc) = true := decide_eq_true (by omega)
      have hwr : IntKind.u64.wrap cc = cc := by rw [IntKind.wrap_u64]; omega
      clear hbad hneg
      go_wp2_with fail
      go_ret2
      exact ⟨rfl, HBX.out⟩
set_option maxRecDepth 100000 in
set_option maxHeartbeats 4000000 in
theorem refstep_berr_top_A6 {w : World} {B p : Nat} {v : Value} {M : List Cont} {c : Cont} (h : RWr w B p v (M ++ [c]) false) (hp20 : c.parts ≤ 1000000) (hML : M.length ≤ 1000000) (y : Bool) (m5 : Int) (l : List UInt8) (cc : Int) (hpt : (EvM.mk 6 y m5 l cc).part = some (.begin_ true cc)) (hbad : cc < 0 ∨ 4294967295 < cc) (hmax : cc ≤ 9223372036854775807) (hi : c.inv) (hf : c.full = false) (r : List UInt8) (hrl : r.length ≤ 9) (hpr : c.pairs = false) (_ : True) :
    Calls Try.prog 13 #[.pointer (some ⟨p, 0, none⟩), .agg #[.int .i64 6, .bool y, .int .u64 m5, .string (S l), .int .i64 cc]] w fun r' w' => r' = .returned (.tuple #[.string (S []), .int .i64 7]) ∧ Below w.heap.size w w' := by
  obtain ⟨pr, cn, ps⟩ := c
  have hroom := hide (room_t pr cn ps hi hf)
  have hp21 : (ps : Int) ≤ 1000000 := by simp only at hp20; omega
  simp only at hpr
  subst hpr
  skip
  clear hf hp20 hi
  obtain ⟨n, hn⟩ : ∃ n, n = M.length := ⟨_, rfl⟩
  obtain ⟨g, off, cap, hv, hgl, d0, d1, d2, t7, t8, t9⟩ := top_some h.2.2 n hn
  subst hv
  have c1 := h.2.1.cellv 1 _ rfl
  have hpl := h.2.1.lt
  have hn20 : (n : Int) ≤ 1000000 := by omega
  have HN := hide hn
  clear hn hML t7 t8 t9
  have hn1 : ((n : Int) + 1 == 0) = false := by simp; omega
  have hn19 : n ≤ 1000000 := by omega
  have HM0 := fun W => refmay_any ⟨6, y, m5, l, cc⟩ W true (by rw [hpt]; rfl)
  simp only [EvM.cells, evV] at HM0
  have HM := fun W => hide (HM0 W)
  have hadd := run_add_S (P := Try.prog) [] r (by simp; omega)
  rw [List.nil_append] at hadd
  clear HM0 hpt
  go_enter Try.func13, Try.ntmps13
  go_wp2_with fail
  (with_reducible refine (unhide (HM _)).mono ?_)
  rintro e w1 ⟨rfl, hb1⟩
  have kw := (h.alloc (.cells #[.int .i64 6, .bool y, .int .u64 m5, .string (S l), .int .i64 cc] 34)).below hb1
  have bx := (Blk.new w 34 #[.int .i64 6, .bool y, .int .u64 m5, .string (S l), .int .i64 cc]).below hb1 (by simp)
  have HB1 : Hid (Below w.heap.size w w1) := hide (((Below.refl _ _).alloc (Nat.le_refl _) _).trans (hb1.mono (by simp)))
  have kc0 := kw.2.1.cellv 0 _ rfl
  have kc1 := kw.2.1.cellv 1 _ rfl
  have kc2 := kw.2.1.cellv 2 _ rfl
  have kpl := kw.2.1.lt
  have bc0 := bx.cellv 0 _ rfl
  have bc4 := bx.cellv 4 _ rfl
  have bpl := bx.lt
  have KW := hide kw
  have BX := hide bx
  clear HM hb1 c1 bx kw h
  have hg1 : g < w1.heap.size := Nat.lt_of_lt_of_le hgl HB1.out.size
  have e0 := (HB1.out.cell (p := ⟨g, off + n * 3, none⟩) hgl).trans d0
  have e1 := (HB1.out.cell (p := ⟨g, off + n * 3 + 1, none⟩) hgl).trans d1
  have e2 := (HB1.out.cell (p := ⟨g, off + n * 3 + 2, none⟩) hgl).trans d2
  clear d0 d1 d2
  go_upto_if 129 with (fail)
  go_cut [9] (fun s9 wx => s9 = .string (S []) ∧ Below w1.heap.size w1 wx)
  case first =>
    rcases hroom.out with t1 | ⟨t1, t2⟩ | ⟨t1, t2, t3⟩
    · go_wp2_with fail
      all_goals
        go_meet
        exact ⟨rfl, Below.more (Below.refl _ _) (Nat.le_refl _) _⟩
    · go_wp2_with fail
      all_goals
        go_meet
        exact ⟨rfl, Below.more (Below.refl _ _) (Nat.le_refl _) _⟩
    · simp only [Bool.false_eq_true, if_false] at t3
      go_wp2_with fail
      all_goals
        go_meet
        exact ⟨rfl, Below.more (Below.refl _ _) (Nat.le_refl _) _⟩
  case rest =>
    obtain ⟨rfl, hbx⟩ := hcut
    have kwz := KW.out.below hbx
    have bxz := BX.out.below hbx bpl
    have HBX : Hid (Below w.heap.size w wc) := hide (HB1.out.trans (hbx.mono HB1.out.size))
    clear kc0 kc1 kc2 bc0 e0 e1 e2 hbx
    have z0 := kwz.2.1.cellv 0 _ rfl
    have yk : wc.cell? ⟨w.heap.size, 0, none⟩ = some (.int .i64 6) := bxz.cellv 0 _ rfl
    have y4 : wc.cell? ⟨w.heap.size, 4, none⟩ = some (.int .i64 cc) := bxz.cellv 4 _ rfl
    by_cases hneg : cc < 0
    · have dneg : decide (cc < 0) = true := decide_eq_true hneg
      clear hbad hneg
      go_wp2_with fail
      go_ret2
      exact ⟨rfl, HBX.out⟩
    · have dneg : decide (cc < 0) = false := decide_eq_false hneg
      have dmax : decide (4294967295 < cc) = true := decide_eq_true (by omega)
      have hwr : IntKind.u64.wrap cc = cc := by rw [IntKind.wrap_u64]; omega
      clear hbad hneg
      go_wp2_with fail
      go_ret2
      exact ⟨rfl, HBX.out⟩
set_option maxRecDepth 100000 in
set_option maxHeartbeats 4000000 in
theorem refstep_berr_top_B6 {w : World} {B p : Nat} {v : Value} {M : List Cont} {c : Cont} (h : RWr w B p v (M ++ [c]) false) (hp20 : c.parts ≤ 1000000) (hML : M.length ≤ 1000000) (y : Bool) (m5 : Int) (l : List UInt8) (cc : Int) (hpt : (EvM.mk 6 y m5 l cc).part = some (.begin_ true cc)) (hbad : cc < 0 ∨ 4294967295 < cc) (hmax : cc ≤ 9223372036854775807) (hi : c.inv) (hf : c.full = false) (r : List UInt8) (hrl : r.length ≤ 9) (hpr : c.pairs = true) (hkd : c.between = true) :
    Calls Try.prog 13 #[.pointer (some ⟨p, 0, none⟩), .agg #[.int .i64 6, .bool y, .int .u64 m5, .string (S l), .int .i64 cc]] w fun r' w' => r' = .returned (.tuple #[.string (S []), .int .i64 7]) ∧ Below w.heap.size w w' := by
  obtain ⟨pr, cn, ps⟩ := c
  have hroom := hide (room_t pr cn ps hi hf)
  have hp21 : (ps : Int) ≤ 1000000 := by simp only at hp20; omega
  simp only at hpr
  subst hpr
  have t4 : ((ps : Int) % 2 == 0) = false := by simp [Cont.between] at hkd; simp; omega
  clear hf hp20 hi
  obtain ⟨n, hn⟩ : ∃ n, n = M.length := ⟨_, rfl⟩
  obtain ⟨g, off, cap, hv, hgl, d0, d1, d2, t7, t8, t9⟩ := top_some h.2.2 n hn
  subst hv
  have c1 := h.2.1.cellv 1 _ rfl
  have hpl := h.2.1.lt
  have hn20 : (n : Int) ≤ 1000000 := by omega
  have HN := hide hn
  clear hn hML t7 t8 t9
  have hn1 : ((n : Int) + 1 == 0) = false := by simp; omega
  have hn19 : n ≤ 1000000 := by omega
  have HM0 := fun W => refmay_any ⟨6, y, m5, l, cc⟩ W true (by rw [hpt]; rfl)
  simp only [EvM.cells, evV] at HM0
  have HM := fun W => hide (HM0 W)
  have hadd := run_add_S (P := Try.prog) [] r (by simp; omega)
  rw [List.nil_append] at hadd
  clear HM0 hpt
  go_enter Try.func13, Try.ntmps13
  go_wp2_with fail
  (with_reducible refine (unhide (HM _)).mono ?_)
  rintro e w1 ⟨rfl, hb1⟩
  have kw := (h.alloc (.cells #[.int .i64 6, .bool y, .int .u64 m5, .string (S l), .int .i64 cc] 34)).below hb1
  have bx := (Blk.new w 34 #[.int .i64 6, .bool y, .int .u64 m5, .string (S l), .int .i64 cc]).below hb1 (by simp)
  have HB1 : Hid (Below w.heap.size w w1) := hide (((Below.refl _ _).alloc (Nat.le_refl _) _).trans (hb1.mono (by simp)))
  have kc0 := kw.2.1.cellv 0 _ rfl
  have kc1 := kw.2.1.cellv 1 _ rfl
  have kc2 := kw.2.1.cellv 2 _ rfl
  have kpl := kw.2.1.lt
  have bc0 := bx.cellv 0 _ rfl
  have bc4 := bx.cellv 4 _ rfl
  have bpl := bx.lt
  have KW := hide kw
  have BX := hide bx
  clear HM hb1 c1 bx kw h
  have hg1 : g < w1.heap.size := Nat.lt_of_lt_of_le hgl HB1.out.size
  have e0 := (HB1.out.cell (p := ⟨g, off + n * 3, none⟩) hgl).trans d0
  have e1 := (HB1.out.cell (p := ⟨g, off + n * 3 + 1, none⟩) hgl).trans d1
  have e2 := (HB1.out.cell (p := ⟨g, off + n * 3 + 2, none⟩) hgl).trans d2
  clear d0 d1 d2
  go_upto_if 129 with (fail)
  go_cut [9] (fun s9 wx => s9 = .string (S []) ∧ Below w1.heap.size w1 wx)
  case first =>
    rcases hroom.out with t1 | ⟨t1, t2⟩ | ⟨t1, t2, t3⟩
    · go_wp2_with fail
      all_goals
        go_meet
        exact ⟨rfl, Below.more (Below.refl _ _) (Nat.le_refl _) _⟩
    · go_wp2_with fail
      all_goals
        go_meet
        exact ⟨rfl, Below.more (Below.refl _ _) (Nat.le_refl _) _⟩
    · simp only [if_true] at t3
      go_wp2_with fail
      all_goals
        go_meet
        exact ⟨rfl, Below.more (Below.refl _ _) (Nat.le_refl _) _⟩
  case rest =>
    obtain ⟨rfl, hbx⟩ := hcut
    have kwz := KW.out.below hbx
    have bxz := BX.out.below hbx bpl
    have HBX : Hid (Below w.heap.size w wc) := hide (HB1.out.trans (hbx.mono HB1.out.size))
    clear kc0 kc1 kc2 bc0 e0 e1 e2 hbx
    have z0 := kwz.2.1.cellv 0 _ rfl
    have yk : wc.cell? ⟨w.heap.size, 0, none⟩ = some (.int .i64 6) := bxz.cellv 0 _ rfl
    have y4 : wc.cell? ⟨w.heap.size, 4, none⟩ = some (.int .i64 cc) := bxz.cellv 4 _ rfl
    by_cases hneg : cc < 0
    · have dneg : decide (cc < 0) = true := decide_eq_true hneg
      clear hbad hneg
      go_wp2_with fail
      go_ret2
      exact ⟨rfl, HBX.out⟩
    · have dneg : decide (cc < 0) = false := decide_eq_false hneg
      have dmax : decide (4294967295 < cc) = true := decide_eq_true (by omega)
      have hwr : IntKind.u64.wrap cc = cc := by rw [IntKind.wrap_u64]; omega
      clear hbad hneg
      go_wp2_with fail
      go_ret2
      exact ⟨rfl, HBX.out⟩
end Go.Proofs.Yteggfobeaolafaa
