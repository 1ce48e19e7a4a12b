/-
  The reference's writer (to Cbor) in memory; its Step: what is refused at once, and ends.
-/
import Derived.Test.YteggfobeaolafaaPkOp
namespace Go.Proofs.Yteggfobeaolafaa
open Go.RowKit

def toV : Int := 3
/-- The reference's writer at p. -/
def RWr (w : World) (B p : Nat) (v : Value) (L : List Cont) (d : Bool) : Prop := B ≤ p ∧ Blk w p 31 #[.int .i64 3, v, .bool d] ∧ SlN w B 77 3 v L.length (contV L)
section
variable {w w' : World} {B p : Nat} {v : Value} {L M : List Cont} {d : Bool} {c : Cont}
theorem RWr.lt (h : RWr w B p v L d) : B ≤ w.heap.size := by have := h.2.1.lt; have := h.1; omega
theorem RWr.out (h : RWr w B p v L d) : p ∉ slB v := h.2.2.notBlk h.2.1 (by decide)
theorem RWr.below {C : World} (h : RWr w B p v L d) (hb : Below w.heap.size w C) : RWr C B p v L d := ⟨h.1, h.2.1.below hb h.2.1.lt, h.2.2.below hb (fun k hk => (h.2.2.lt k hk).2)⟩
theorem RWr.keep {T : List Nat} (h : RWr w B p v L d) (ho : Only T w w') (h1 : p ∉ T) (h2 : ∀ k ∈ slB v, k ∉ T) : RWr w' B p v L d := ⟨h.1, ho.blk h.2.1 h1, h.2.2.keep ho h2⟩
theorem RWr.alloc (h : RWr w B p v L d) (o : Obj) : RWr (w.alloc o) B p v L d := h.below ((Below.refl _ _).alloc (Nat.le_refl _) o)
theorem RWr.drew (h : RWr w B p v L d) : RWr w.drew B p v L d := h
theorem RWr.done (h : RWr w B p v L d) (d' : Bool) : RWr (w.setCell ⟨p, 2, none⟩ (.bool d')) B p v L d' := ⟨h.1, h.2.1.set_ 2 _, h.2.2.far (p := ⟨p, 2, none⟩) h.out _⟩
theorem RWr.put {W : World} {v' : Value} {L' : List Cont} {T : List Nat} (h : RWr w B p v L d) (ho : Only T w W) (hT : p ∉ T) (hs : SlN W B 77 3 v' L'.length (contV L')) (hf : p ∉ slB v') :
    RWr (W.setCell ⟨p, 1, none⟩ v') B p v' L' d ∧ Only (p :: T) w (W.setCell ⟨p, 1, none⟩ v') :=
  ⟨⟨h.1, (ho.blk h.2.1 hT).set_ 1 v', hs.far (p := ⟨p, 1, none⟩) hf v'⟩, (ho.mono (fun k hk => List.mem_cons_of_mem _ hk)).setCell (by simp) v'⟩
end
theorem info_box : (Try.prog.info? 77).map (fun i => (i.zero, i.size, i.bytes)) = some (some (.agg #[.bool false, .int .i64 0, .int .i64 0]), 3, 24) := by kernel_rfl
theorem contV_one (L : List Cont) : ∀ y ∈ contV L, y.oneCell' = true := by
  intro y hy
  simp only [contV, List.mem_flatMap, Cont.cells] at hy
  obtain ⟨c, _, hy⟩ := hy
  simp at hy
  rcases hy with rfl | rfl | rfl <;> rfl

set_option maxRecDepth 100000 in
set_option maxHeartbeats 1000000 in
theorem refstep_bad {w : World} {B p : Nat} {v : Value} {L : List Cont} {d : Bool} (h : RWr w B p v L d) (e : EvM) (hbad : e.part = none ∨ d = true) :
    Calls Try.prog 13 #[.pointer (some ⟨p, 0, none⟩), .agg e.cells] w fun r w' => r = .returned (.tuple #[.string (S []), .int .i64 14]) ∧ Below w.heap.size w w' := by
  obtain ⟨k, y, m, l, c5⟩ := e
  obtain ⟨a9, c9, rfl⟩ := h.2.2.form
  simp only [EvM.cells, evV]
  have c1 := h.2.1.cellv 1 _ rfl
  have hpl := h.2.1.lt
  cases hpt : (EvM.mk k y m l c5).part with
  | none =>
    have HM0 := fun W => refmay_any ⟨k, y, m, l, c5⟩ W false (by rw [hpt]; rfl)
    simp only [EvM.cells, evV] at HM0
    have HM := fun W => hide (HM0 W)
    clear HM0
    go_enter Try.func13, Try.ntmps13
    go_wp2_with fail
    (with_reducible refine (unhide (HM _)).mono ?_)
    rintro e w1 ⟨rfl, hb1⟩
    have kw := (h.alloc (.cells #[.int .i64 k, .bool y, .int .u64 m, .string (S l), .int .i64 c5] 34)).below hb1
    have bx := (Blk.new w 34 #[.int .i64 k, .bool y, .int .u64 m, .string (S l), .int .i64 c5]).below hb1 (by simp)
    have HB1 : Hid (Below w.heap.size w w1) := hide (((Below.refl _ _).alloc (Nat.le_refl _) _).trans (hb1.mono (by simp)))
    have kc0 := kw.2.1.cellv 0 _ rfl
    have kc1 := kw.2.1.cellv 1 _ rfl
    have kc2 := kw.2.1.cellv 2 _ rfl
    have bc0 := bx.cellv 0 _ rfl
    have bc4 := bx.cellv 4 _ rfl
    clear HM hb1
    go_wp2_with fail
    go_ret2
    exact ⟨rfl, HB1.out⟩
  | some pt =>
    have hd : d = true := by
      rcases hbad with hb | hb
      · rw [hpt] at hb; cases hb
      · exact hb
    subst hd
    clear hbad
    have HM0 := fun W => refmay_any ⟨k, y, m, l, c5⟩ W true (by rw [hpt]; rfl)
    simp only [EvM.cells, evV] at HM0
    have HM := fun W => hide (HM0 W)
    clear HM0
    go_enter Try.func13, Try.ntmps13
    go_wp2_with fail
    (with_reducible refine (unhide (HM _)).mono ?_)
    rintro e w1 ⟨rfl, hb1⟩
    have kw := (h.alloc (.cells #[.int .i64 k, .bool y, .int .u64 m, .string (S l), .int .i64 c5] 34)).below hb1
    have bx := (Blk.new w 34 #[.int .i64 k, .bool y, .int .u64 m, .string (S l), .int .i64 c5]).below hb1 (by simp)
    have HB1 : Hid (Below w.heap.size w w1) := hide (((Below.refl _ _).alloc (Nat.le_refl _) _).trans (hb1.mono (by simp)))
    have kc0 := kw.2.1.cellv 0 _ rfl
    have kc1 := kw.2.1.cellv 1 _ rfl
    have kc2 := kw.2.1.cellv 2 _ rfl
    have bc0 := bx.cellv 0 _ rfl
    have bc4 := bx.cellv 4 _ rfl
    clear HM hb1
    go_wp2_with fail
    go_ret2
    exact ⟨rfl, HB1.out⟩

theorem part_close {e : EvM} (h : e.part = some .close) : e.k = 7 := by
  unfold EvM.part partOf at h
  repeat' split at h
  all_goals first | assumption | (cases h; done) | (injection h with h; cases h)
set_option maxRecDepth 100000 in
theorem refstep_close_empty {w : World} {B p : Nat} {v : Value} (h : RWr w B p v [] false) (e : EvM) (hp : e.part = some .close) :
    Calls Try.prog 13 #[.pointer (some ⟨p, 0, none⟩), .agg e.cells] w fun r w' => r = .returned (.tuple #[.string (S []), .int .i64 14]) ∧ Below w.heap.size w w' := by
  have hk := part_close hp
  obtain ⟨k, y, m, l, c5⟩ := e
  obtain ⟨a9, c9, rfl⟩ := h.2.2.form
  simp only at hk
  subst hk
  have hpt := hp
  clear hp
  simp only [EvM.cells, evV]
  have c1 := h.2.1.cellv 1 _ rfl
  have hpl := h.2.1.lt
  have HM0 := fun W => refmay_any ⟨7, y, m, l, c5⟩ W true (by rw [hpt]; rfl)
  simp only [EvM.cells, evV] at HM0
  have HM := fun W => hide (HM0 W)
  clear HM0
  go_enter Try.func13, Try.ntmps13
  go_wp2_with fail
  (with_reducible refine (unhide (HM _)).mono ?_)
  rintro e w1 ⟨rfl, hb1⟩
  have kw := (h.alloc (.cells #[.int .i64 7, .bool y, .int .u64 m, .string (S l), .int .i64 c5] 34)).below hb1
  have bx := (Blk.new w 34 #[.int .i64 7, .bool y, .int .u64 m, .string (S l), .int .i64 c5]).below hb1 (by simp)
  have HB1 : Hid (Below w.heap.size w w1) := hide (((Below.refl _ _).alloc (Nat.le_refl _) _).trans (hb1.mono (by simp)))
  have kc2 := kw.2.1.cellv 2 _ rfl
  have bc0 := bx.cellv 0 _ rfl
  clear HM hb1
  go_wp2_with fail
  go_ret2
  exact ⟨rfl, HB1.out⟩
end Go.Proofs.Yteggfobeaolafaa
