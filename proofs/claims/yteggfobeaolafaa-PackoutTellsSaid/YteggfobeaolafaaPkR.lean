/-
  The reference's Step: what a container does not take; a part that is no container.
-/
import Derived.Test.YteggfobeaolafaaPkQ
namespace Go.Proofs.Yteggfobeaolafaa
open Go.RowKit

/-- A container never has more parts than it may. -/
def Cont.inv (c : Cont) : Prop := 0 ≤ c.count → c.count ≤ 2305843009213693952 → (c.parts : Int) ≤ if c.pairs then 2 * c.count else c.count
theorem ref_full (pr : Bool) (cn : Int) (ps : Nat) (h : ps ≤ 1000000) (he : (Cont.mk pr cn ps).full = true) :
    0 ≤ cn ∧ cn ≤ 1000000 ∧ (ps : Int) = if pr then 2 * cn else cn := by
  cases pr with
  | false =>
    simp [Cont.full] at he
    simp
    omega
  | true =>
    simp [Cont.between, Cont.full] at he
    simp
    omega
theorem ref_room (pr : Bool) (cn : Int) (ps : Nat) (hi : (Cont.mk pr cn ps).inv) (he : (Cont.mk pr cn ps).full = false) :
    cn < 0 ∨ 2305843009213693952 < cn ∨ (0 ≤ cn ∧ cn ≤ 2305843009213693952 ∧ (ps : Int) < if pr then 2 * cn else cn) := by
  unfold Cont.inv at hi
  simp only at hi
  by_cases h1 : cn < 0
  · exact .inl h1
  by_cases h2 : 2305843009213693952 < cn
  · exact .inr (.inl h2)
  have h3 := hi (by omega) (by omega)
  refine .inr (.inr ⟨by omega, by omega, ?_⟩)
  cases pr with
  | false =>
    simp [Cont.full] at he h3 ⊢
    omega
  | true =>
    simp [Cont.between, Cont.full] at he h3 ⊢
    omega
theorem Cont.inv_more {c : Cont} (h : c.inv) (hf : c.full = false) : c.more.inv := by
  obtain ⟨pr, cn, ps⟩ := c
  rcases ref_room pr cn ps h hf with h1 | h1 | h1
  · intro h2; simp only [Cont.more] at h2; omega
  · intro h2 h3; simp only [Cont.more] at h3; omega
  · intro h2 h3; simp only [Cont.more]; obtain ⟨_, _, h1⟩ := h1; split at h1 <;> simp_all <;> omega
theorem Cont.inv_new (m : Bool) (n : Int) : (Cont.mk m n 0).inv := by
  intro h1 h2
  simp only at h1 ⊢
  split <;> simp <;> omega
theorem part_plain {e : EvM} {pt : Part} (h : e.part = some pt) (hb : pt.isBegin = false) (hc : pt.isClose = false) : 0 ≤ e.k ∧ e.k ≤ 4 ∧ (pt.isWord = decide (e.k = 3)) := by
  unfold EvM.part partOf at h
  repeat' split at h
  all_goals first | (cases h; done) | (injection h with h; subst h; first | (simp [Part.isBegin] at hb; done) | (simp [Part.isClose] at hc; done) | (simp_all [Part.isWord]))
theorem part_begin {e : EvM} {m : Bool} {n : Int} (h : e.part = some (.begin_ m n)) : e.c = n ∧ -1 ≤ n ∧ ((e.k = 6 ∧ m = true) ∨ (e.k = 5 ∧ m = false)) := by
  unfold EvM.part partOf at h
  repeat' split at h
  all_goals first | (cases h; done) | (injection h with h; first | (cases h; done) | (injection h with h1 h2; subst h1 h2; refine ⟨rfl, by omega, ?_⟩; simp; omega))
theorem part_nclose {e : EvM} {pt : Part} (h : e.part = some pt) (hc : pt.isClose = false) : e.k ≠ 7 := by
  intro hk
  unfold EvM.part partOf at h
  rw [hk] at h
  simp at h
  subst h
  simp [Part.isClose] at hc

set_option maxRecDepth 100000 in
set_option maxHeartbeats 1000000 in
theorem refstep_full {w : World} {B p : Nat} {v : Value} {M : List Cont} {c : Cont} (h : RWr w B p v (M ++ [c]) false) (hp20 : c.parts ≤ 1000000) (hML : M.length ≤ 1000000) (e : EvM) (pt : Part) (hpt : e.part = some pt) (hcl : pt.isClose = false) (hf : c.full = true) :
    Calls Try.prog 13 #[.pointer (some ⟨p, 0, none⟩), .agg e.cells] w fun r w' => r = .returned (.tuple #[.string (S []), .int .i64 14]) ∧ Below w.heap.size w w' := by
  obtain ⟨pr, cn, ps⟩ := c
  have hcases := hide (ref_full pr cn ps hp20 hf)
  have hp21 : (ps : Int) ≤ 1000000 := by simp only at hp20; omega
  have hk7 := part_nclose hpt hcl
  obtain ⟨k, y, m, l, c5⟩ := e
  simp only at hk7
  have hk8 : (k == 7) = false := by simpa using hk7
  clear hk7
  simp only [EvM.cells, evV]
  clear hf hp20
  obtain ⟨n, hn⟩ : ∃ n, n = M.length := ⟨_, rfl⟩
  obtain ⟨g, off, cap, hv, hgl, d0, d1, d2, t7, t8, t9⟩ := top_some h.2.2 n hn
  subst hv
  have c1 := h.2.1.cellv 1 _ rfl
  have hpl := h.2.1.lt
  have hn20 : (n : Int) ≤ 1000000 := by omega
  have HN := hide hn
  clear hn hML t7 t8 t9
  have HM0 := fun W => refmay_any ⟨k, y, m, l, c5⟩ W true (by rw [hpt]; rfl)
  simp only [EvM.cells, evV] at HM0
  have HM := fun W => hide (HM0 W)
  have hn1 : ((n : Int) + 1 == 0) = false := by simp; omega
  clear HM0 hpt
  go_enter Try.func13, Try.ntmps13
  go_wp2_with fail
  (with_reducible refine (unhide (HM _)).mono ?_)
  rintro e w1 ⟨rfl, hb1⟩
  have kw := (h.alloc (.cells #[.int .i64 k, .bool y, .int .u64 m, .string (S l), .int .i64 c5] 34)).below hb1
  have bx := (Blk.new w 34 #[.int .i64 k, .bool y, .int .u64 m, .string (S l), .int .i64 c5]).below hb1 (by simp)
  have HB1 : Hid (Below w.heap.size w w1) := hide (((Below.refl _ _).alloc (Nat.le_refl _) _).trans (hb1.mono (by simp)))
  have kc0 := kw.2.1.cellv 0 _ rfl
  have kc1 := kw.2.1.cellv 1 _ rfl
  have kc2 := kw.2.1.cellv 2 _ rfl
  have kpl := kw.2.1.lt
  have bc0 := bx.cellv 0 _ rfl
  have bpl := bx.lt
  have hg1 : g < w1.heap.size := Nat.lt_of_lt_of_le hgl HB1.out.size
  have e0 := (HB1.out.cell (p := ⟨g, off + n * 3, none⟩) hgl).trans d0
  have e1 := (HB1.out.cell (p := ⟨g, off + n * 3 + 1, none⟩) hgl).trans d1
  have e2 := (HB1.out.cell (p := ⟨g, off + n * 3 + 2, none⟩) hgl).trans d2
  have KW := hide kw
  have BX := hide bx
  clear HM hb1 d0 d1 d2 c1 bx kw h
  obtain ⟨h0, h2, h3⟩ := hcases.out
  have t1 : decide (0 ≤ cn) = true := decide_eq_true h0
  have t2 : decide (cn ≤ 2305843009213693952) = true := decide_eq_true (by omega)
  cases pr with
  | false =>
    have t3 : decide (cn ≤ (ps : Int)) = true := decide_eq_true (by simp at h3; omega)
    clear h3
    go_wp2_with fail
    go_ret2
    exact ⟨rfl, Below.more HB1.out (Nat.le_refl _) _⟩
  | true =>
    have t3 : decide (2 * cn ≤ (ps : Int)) = true := decide_eq_true (by simp at h3; omega)
    clear h3
    go_wp2_with fail
    go_ret2
    exact ⟨rfl, Below.more HB1.out (Nat.le_refl _) _⟩

/-- The test on the count, in each of the three ways that let a part in. -/
def RoomT (pr : Bool) (cn : Int) (ps : Nat) : Prop :=
  decide (0 ≤ cn) = false ∨ (decide (0 ≤ cn) = true ∧ decide (cn ≤ 2305843009213693952) = false) ∨
  (decide (0 ≤ cn) = true ∧ decide (cn ≤ 2305843009213693952) = true ∧ decide ((if pr then wrap64 (2 * cn) else cn) ≤ (ps : Int)) = false)
theorem room_t (pr : Bool) (cn : Int) (ps : Nat) (hi : (Cont.mk pr cn ps).inv) (he : (Cont.mk pr cn ps).full = false) : RoomT pr cn ps := by
  rcases ref_room pr cn ps hi he with h | h | ⟨h1, h2, h3⟩
  · exact .inl (decide_eq_false (by omega))
  · exact .inr (.inl ⟨decide_eq_true (by omega), decide_eq_false (by omega)⟩)
  · refine .inr (.inr ⟨decide_eq_true h1, decide_eq_true h2, decide_eq_false ?_⟩)
    cases pr with
    | false => simp at h3 ⊢; omega
    | true =>
      simp at h3
      simp only [if_true]
      unfold wrap64
      omega

set_option maxRecDepth 100000 in
set_option maxHeartbeats 1000000 in
theorem refstep_kind {w : World} {B p : Nat} {v : Value} {M : List Cont} {c : Cont} (h : RWr w B p v (M ++ [c]) false) (hp20 : c.parts ≤ 1000000) (hML : M.length ≤ 1000000) (e : EvM) (pt : Part) (hpt : e.part = some pt) (hcl : pt.isClose = false) (hi : c.inv) (hf : c.full = false) (ht : c.takes pt = false) :
    Calls Try.prog 13 #[.pointer (some ⟨p, 0, none⟩), .agg e.cells] w fun r w' => r = .returned (.tuple #[.string (S []), .int .i64 8]) ∧ Below w.heap.size w w' := by
  obtain ⟨pr, cn, ps⟩ := c
  have hroom := hide (room_t pr cn ps hi hf)
  have hp21 : (ps : Int) ≤ 1000000 := by simp only at hp20; omega
  have hk7 := part_nclose hpt hcl
  have hkk : pr = true ∧ ps % 2 = 0 ∧ e.k ≠ 3 := by
    simp [Cont.takes, Cont.between] at ht
    refine ⟨ht.1.1, by have := ht.1.2 ht.1.1; omega, ?_⟩
    intro hk
    unfold EvM.part partOf at hpt
    rw [hk] at hpt
    simp at hpt
    subst hpt
    simp [Part.isWord] at ht
  obtain ⟨k, y, m, l, c5⟩ := e
  obtain ⟨rfl, hk1, hk2⟩ := hkk
  simp only at hk7 hk2
  have hk8 : (k == 7) = false := by simpa using hk7
  have hk9 : (k != 3) = true := by simpa using hk2
  have hk10 : ((ps : Int) % 2 == 0) = true := by simp; omega
  clear hk7 hk1 hk2
  simp only [EvM.cells, evV]
  clear hf hp20 ht hi
  obtain ⟨n, hn⟩ : ∃ n, n = M.length := ⟨_, rfl⟩
  obtain ⟨g, off, cap, hv, hgl, d0, d1, d2, t7, t8, t9⟩ := top_some h.2.2 n hn
  subst hv
  have c1 := h.2.1.cellv 1 _ rfl
  have hpl := h.2.1.lt
  have hn20 : (n : Int) ≤ 1000000 := by omega
  have HN := hide hn
  clear hn hML t7 t8 t9
  have HM0 := fun W => refmay_any ⟨k, y, m, l, c5⟩ W true (by rw [hpt]; rfl)
  simp only [EvM.cells, evV] at HM0
  have HM := fun W => hide (HM0 W)
  have hn1 : ((n : Int) + 1 == 0) = false := by simp; omega
  clear HM0 hpt
  go_enter Try.func13, Try.ntmps13
  go_wp2_with fail
  (with_reducible refine (unhide (HM _)).mono ?_)
  rintro e w1 ⟨rfl, hb1⟩
  have kw := (h.alloc (.cells #[.int .i64 k, .bool y, .int .u64 m, .string (S l), .int .i64 c5] 34)).below hb1
  have bx := (Blk.new w 34 #[.int .i64 k, .bool y, .int .u64 m, .string (S l), .int .i64 c5]).below hb1 (by simp)
  have HB1 : Hid (Below w.heap.size w w1) := hide (((Below.refl _ _).alloc (Nat.le_refl _) _).trans (hb1.mono (by simp)))
  have kc0 := kw.2.1.cellv 0 _ rfl
  have kc1 := kw.2.1.cellv 1 _ rfl
  have kc2 := kw.2.1.cellv 2 _ rfl
  have kpl := kw.2.1.lt
  have bc0 := bx.cellv 0 _ rfl
  have bpl := bx.lt
  have hg1 : g < w1.heap.size := Nat.lt_of_lt_of_le hgl HB1.out.size
  have e0 := (HB1.out.cell (p := ⟨g, off + n * 3, none⟩) hgl).trans d0
  have e1 := (HB1.out.cell (p := ⟨g, off + n * 3 + 1, none⟩) hgl).trans d1
  have e2 := (HB1.out.cell (p := ⟨g, off + n * 3 + 2, none⟩) hgl).trans d2
  have KW := hide kw
  have BX := hide bx
  clear HM hb1 d0 d1 d2 c1 bx kw h
  rcases hroom.out with t1 | ⟨t1, t2⟩ | ⟨t1, t2, t3⟩
  · go_wp2_with fail
    go_ret2
    exact ⟨rfl, Below.more HB1.out (Nat.le_refl _) _⟩
  · go_wp2_with fail
    go_ret2
    exact ⟨rfl, Below.more HB1.out (Nat.le_refl _) _⟩
  · simp only [if_true] at t3
    go_wp2_with fail
    go_ret2
    exact ⟨rfl, Below.more HB1.out (Nat.le_refl _) _⟩
end Go.Proofs.Yteggfobeaolafaa
