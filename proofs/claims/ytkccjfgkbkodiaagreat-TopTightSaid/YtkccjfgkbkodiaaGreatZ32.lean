/-
  MapE · TmA: parts of the walk of TopTight, under no condition.
-/
import Derived.Maps.Own
import Derived.Maps.OwnSet
import Derived.Maps.RangeWalk
import Derived.Test.YtkccjfgkbkodiaaGreatZ29
namespace Go.Proofs.YtkccjfgkbkodiaaGreat.Ti
open Go.RowKit Go.Maps
set_option maxRecDepth 100000
theorem lawI : Keyed Tryz.prog 3 := int_keyed Tryz.underlying3
/-- A number that is an int. -/
def Wf (x : Int) : Prop := (Lit.int .i64 x).wf = true
theorem wf_of {x : Int} (h : -9223372036854775808 ≤ x ∧ x ≤ 9223372036854775807) : Wf x := by
  simp [Wf, Lit.wf, IntKind.min, IntKind.max, IntKind.signed, IntKind.bits]
  omega
theorem Wf.le {x : Int} (h : Wf x) : -9223372036854775808 ≤ x ∧ x ≤ 9223372036854775807 := by
  simp [Wf, Lit.wf, IntKind.min, IntKind.max, IntKind.signed, IntKind.bits] at h
  omega
/-- How a map's elements read: each by its shape; the zero one. -/
structure Elem (α : Type) where
  R : Value → Option (DataW α × List MemPlace)
  val : α → Value
  z : Value
  zd : DataW α
  zp : List MemPlace
  rz : R z = some (zd, zp)
  rmk : ∀ a, ∃ ps, R (val a) = some (.held a, ps)
  inv : ∀ v a ps, R v = some (.held a, ps) → v = val a
  invz : ∀ v ps, R v = some (zd, ps) → v = z
/-- The entries are f's. -/
structure Told {α : Type} (D : DataW α) (f : Int → Option α) : Prop where
  wf : ∀ x a, f x = some a → Wf x
  has : ∀ x, Wf x → Maps.has D (.int .i64 x) = (f x).isSome
  at_ : ∀ x a, f x = some a → ∀ zd, D.atKey (.int .i64 x) zd = .held a
/-- The map at g, of at most n entries, has f. -/
def MapE {α : Type} (E : Elem α) (w : World) (g n : Nat) (f : Int → Option α) : Prop :=
  ∃ D : DataW α, w.ownsMap Tryz.prog 3 E.R g n D ∧ Told D f
/-- .. and r is a range over it: lf: is the entry still to come? -/
def RangeE {α : Type} (E : Elem α) (w : World) (g r n : Nat) (f : Int → Option α) (lf : Int → Bool) (cnt : Nat) : Prop :=
  ∃ (D : DataW α) (left : Lit → Bool), w.ranges Tryz.prog 3 E.R g r n D left cnt ∧ Told D f ∧ ∀ x, Wf x → left (.int .i64 x) = lf x
/-- Nothing but the map's entries has turned. -/
theorem turned_only {w w' : World} {g : Nat} (h : w.mapTurned w' g) : Only [g] w w' :=
  ⟨h.grown.os, h.grown.tape, h.grown.output, h.grown.size, fun k hk hn => h.grown.block k hk (by simp at hn ⊢; exact fun e => hn e)⟩
section
variable {α : Type} {E : Elem α} {w w' : World} {g n : Nat} {f : Int → Option α}
theorem MapE.new (E : Elem α) (w : World) : MapE E (w.alloc (.map #[] 0)) w.heap.size 0 (fun _ => none) :=
  ⟨.map [], World.ownsMap_made _ _ _ _, ⟨fun x a h => (by cases h), fun x _ => rfl, fun x a h => (by cases h)⟩⟩
theorem MapE.wf (h : MapE E w g n f) {x : Int} {a : α} (hx : f x = some a) : Wf x := by
  obtain ⟨D, _, t⟩ := h
  exact t.wf x a hx
theorem MapE.lt (h : MapE E w g n f) : g < w.heap.size := by
  obtain ⟨D, h, _⟩ := h
  exact h.lt
theorem MapE.keepW (h : MapE E w g n f) (hw : w'.heap[g]? = w.heap[g]?) : MapE E w' g n f := by
  obtain ⟨D, ⟨es, clock, hb, hr⟩, t⟩ := h
  exact ⟨D, ⟨es, clock, hw.trans hb, hr⟩, t⟩
theorem MapE.keep {S : List Nat} (h : MapE E w g n f) (ho : Only S w w') (hn : g ∉ S) : MapE E w' g n f := h.keepW (ho.block g h.lt hn)
theorem MapE.below {B : Nat} (h : MapE E w g n f) (hb : Below B w w') (hg : g < B) : MapE E w' g n f := h.keepW (hb.block g hg)
theorem MapE.mono {m : Nat} (h : MapE E w g n f) (hm : n ≤ m) : MapE E w g m f := by
  obtain ⟨D, h, t⟩ := h
  exact ⟨D, h.mono hm, t⟩
theorem MapE.at (h : MapE E w g n f) : ∃ (es : Array MapEntry) (c : Nat), w.heap[g]? = some (Obj.map es c) := by
  obtain ⟨D, ⟨es, clock, hb, hr⟩, hf⟩ := h
  exact ⟨es, clock, hb⟩
theorem MapE.notBlk (h : MapE E w g n f) {k : Nat} {t : TypeId} {cs : Array Value} (hb : Blk w k t cs) : k ≠ g := by
  rintro rfl
  obtain ⟨es, c, hm⟩ := h.at
  unfold Blk at hb
  rw [hb] at hm
  injection hm with hm
  cases hm
theorem MapE.congr (h : MapE E w g n f) {f' : Int → Option α} (hf : ∀ x, f' x = f x) : MapE E w g n f' := by
  rw [show f' = f from funext hf]
  exact h
theorem MapE.ext {f' : Int → Option α} (h : MapE E w g n f) (h' : MapE E w g n f') : ∀ x, Wf x → (f x).isSome = (f' x).isSome := by
  obtain ⟨D, ⟨es, clock, hb, _, _, hD⟩, t⟩ := h
  obtain ⟨D', ⟨es', clock', hb', _, _, hD'⟩, t'⟩ := h'
  rw [hb] at hb'
  cases hb'
  intro x hx
  rw [← t.has x hx, ← t'.has x hx, hD, hD']
/-- What stands at x. -/
def elV (E : Elem α) : Option α → Value
  | some a => E.val a
  | none => E.z
theorem elV_look {D : DataW α} (t : Told D f) {x : Int} (hx : Wf x) {v : Value} {ps : List MemPlace} (hv : E.R v = some (D.atKey (.int .i64 x) E.zd, ps)) : v = elV E (f x) := by
  cases hf : f x with
  | none =>
    rw [atKey_of_not_has (by rw [t.has x hx, hf]; rfl)] at hv
    exact E.invz v ps hv
  | some a =>
    rw [t.at_ x a hf] at hv
    exact E.inv v a ps hv
/-- 'm[k]'. -/
theorem MapE.look {t e : TypeId} (h : MapE E w g n f) (ht : Tryz.prog.underlying t = some (.map 3 e)) (hz : (zeroValue e).run Tryz.prog w = .ok E.z w) {x : Int} (hx : Wf x) :
    (Instr.lookup t (.map (some g)) (.int .i64 x) false).run Tryz.prog w = .ok (elV E (f x)) w := by
  obtain ⟨D, ho, t⟩ := h
  obtain ⟨v, ps, hrun, hv⟩ := ho.lookup lawI ht hz E.rz (keyOf_int_mk Tryz.underlying3 hx)
  rw [hrun, elV_look t hx hv]
/-- 'v, ok := m[k]'. -/
theorem MapE.look_ok {t e : TypeId} (h : MapE E w g n f) (ht : Tryz.prog.underlying t = some (.map 3 e)) (hz : (zeroValue e).run Tryz.prog w = .ok E.z w) {x : Int} (hx : Wf x) :
    (Instr.lookup t (.map (some g)) (.int .i64 x) true).run Tryz.prog w = .ok (.tuple #[elV E (f x), .bool (f x).isSome]) w := by
  obtain ⟨D, ho, t⟩ := h
  obtain ⟨v, ps, hrun, hv⟩ := ho.look_ok lawI ht hz E.rz (keyOf_int_mk Tryz.underlying3 hx)
  rw [hrun, elV_look t hx hv, t.has x hx]
theorem look_none {t e : TypeId} (E : Elem α) (ht : Tryz.prog.underlying t = some (.map 3 e)) (hz : (zeroValue e).run Tryz.prog w = .ok E.z w) {x : Int} (hx : Wf x) :
    (Instr.lookup t (.map none) (.int .i64 x) false).run Tryz.prog w = .ok E.z w := by
  have h := Maps.look_nil (P := Tryz.prog) (w := w) false lawI ht hz (keyOf_int_mk Tryz.underlying3 hx)
  simpa using h
/-- 'm[k] = v'. -/
theorem MapE.store {t e : TypeId} (h : MapE E w g n f) (ht : Tryz.prog.underlying t = some (.map 3 e)) (hn : n < maxLen) {x : Int} (hx : Wf x) (a : α) :
    ∃ w', (Instr.mapUpdate t (.map (some g)) (.int .i64 x) (E.val a)).run Tryz.prog w = .ok () w' ∧ MapE E w' g (n + 1) (fun y => if y = x then some a else f y) ∧ w.mapTurned w' g := by
  obtain ⟨D, ho, t⟩ := h
  obtain ⟨ps, hv⟩ := E.rmk a
  obtain ⟨w', hrun, ho', hturn⟩ := ho.store lawI ht hn (keyOf_int_mk Tryz.underlying3 hx) hv
  have hkx : WideAt.IsKeyLit (.int .i64 x) := trivial
  refine ⟨w', hrun, ⟨_, ho', ⟨fun y b hy => ?_, fun y hy => ?_, fun y b hy => ?_⟩⟩, hturn⟩
  · by_cases hyx : y = x
    · rw [hyx]; exact hx
    · rw [if_neg hyx] at hy
      exact t.wf y b hy
  · by_cases hyx : y = x
    · rw [if_pos hyx, hyx, has_put_same ho.isMap hkx]; rfl
    · rw [if_neg hyx, has_put_other (fun e => hyx (by injection e)), t.has y hy]
  · intro zd
    by_cases hyx : y = x
    · rw [if_pos hyx] at hy
      cases hy
      rw [hyx, atKey_put_same ho.isMap hkx]
    · rw [if_neg hyx] at hy
      rw [atKey_put_other (fun e => hyx (by injection e)), t.at_ y b hy]
theorem Told.del {D : DataW α} (t : Told D f) (x : Int) : Told (D.del (.int .i64 x)) (fun y => if y = x then none else f y) := by
  refine ⟨fun y b hy => ?_, fun y hy => ?_, fun y b hy => ?_⟩
  · by_cases hyx : y = x
    · rw [if_pos hyx] at hy; cases hy
    · rw [if_neg hyx] at hy
      exact t.wf y b hy
  · by_cases hyx : y = x
    · rw [if_pos hyx, hyx, has_del_same]; rfl
    · rw [if_neg hyx, has_del_other (fun e => hyx (by injection e)), t.has y hy]
  · intro zd
    by_cases hyx : y = x
    · rw [if_pos hyx] at hy; cases hy
    · rw [if_neg hyx] at hy
      rw [atKey_del_other (fun e => hyx (by injection e)), t.at_ y b hy]
/-- 'delete(m, k)'. -/
theorem MapE.drop {t e : TypeId} (h : MapE E w g n f) (ht : Tryz.prog.underlying t = some (.map 3 e)) {x : Int} (hx : Wf x) (ty : TypeId) :
    ∃ w', (Builtin.delete_ #[t, 3] ty #[.map (some g), .int .i64 x]).run Tryz.prog w = .ok (.tuple #[]) w' ∧ MapE E w' g n (fun y => if y = x then none else f y) ∧ w.mapTurned w' g := by
  obtain ⟨D, ho, t⟩ := h
  obtain ⟨w', hrun, ho', hturn⟩ := ho.drop lawI ht (keyOf_int_mk Tryz.underlying3 hx) ty
  exact ⟨w', hrun, ⟨_, ho', t.del x⟩, hturn⟩
theorem drop_none {t e : TypeId} (ht : Tryz.prog.underlying t = some (.map 3 e)) {x : Int} (hx : Wf x) (ty : TypeId) :
    (Builtin.delete_ #[t, 3] ty #[.map none, .int .i64 x]).run Tryz.prog w = .ok (.tuple #[]) w :=
  Maps.drop_nil lawI ht (keyOf_int_mk Tryz.underlying3 hx) ty
/-- 'range m'. -/
theorem MapE.range {t e : TypeId} (h : MapE E w g n f) (ht : Tryz.prog.underlying t = some (.map 3 e)) :
    ∃ w', (Instr.range t (.map (some g))).run Tryz.prog w = .ok (.pointer (some ⟨w.heap.size, 0, none⟩)) w' ∧ (∃ cnt, cnt ≤ n ∧ RangeE E w' g w.heap.size n f (fun x => (f x).isSome) cnt) ∧ Below w.heap.size w w' ∧ w'.heap.size = w.heap.size + 1 := by
  obtain ⟨D, ho, t⟩ := h
  obtain ⟨w', hrun, hr, hg, hs⟩ := ho.range lawI ht
  exact ⟨w', hrun, ⟨_, ho.size_le, D, _, hr, t, fun x hx => t.has x hx⟩, ⟨hg.os, hg.tape, hg.output, hg.size, fun k hk => hg.block k hk (by simp)⟩, hs⟩
variable {r cnt : Nat} {lf : Int → Bool}
theorem RangeE.map (h : RangeE E w g r n f lf cnt) : MapE E w g n f := by
  obtain ⟨D, left, hr, t, _⟩ := h
  exact ⟨D, hr.owns, t⟩
theorem RangeE.left_eq (h : RangeE E w g r n f lf cnt) : w.rangeLeft g r = cnt := by
  obtain ⟨D, left, hr, t, _⟩ := h
  exact hr.left_eq
theorem RangeE.lt (h : RangeE E w g r n f lf cnt) : r < w.heap.size := by
  obtain ⟨D, left, hr, t, _⟩ := h
  exact hr.lt
theorem RangeE.ne (h : RangeE E w g r n f lf cnt) : r ≠ g := by
  obtain ⟨D, left, hr, t, _⟩ := h
  exact hr.ne
theorem RangeE.keep {S : List Nat} (h : RangeE E w g r n f lf cnt) (ho : Only S w w') (hg : g ∉ S) (hr' : r ∉ S) : RangeE E w' g r n f lf cnt := by
  have h1 := h.map.lt
  have h2 := h.lt
  obtain ⟨D, left, ⟨es, clock, since, seen, c0, hb, F, hs, hD, hr, rest⟩, t, hl⟩ := h
  exact ⟨D, left, ⟨es, clock, since, seen, c0, (ho.block g h1 hg).trans hb, F, hs, hD, (ho.block r h2 hr').trans hr, rest⟩, t, hl⟩
theorem RangeE.drewN (h : RangeE E w g r n f lf cnt) (k : Nat) : RangeE E (w.drewN k) g r n f lf cnt := h
theorem RangeE.congr (h : RangeE E w g r n f lf cnt) {f' : Int → Option α} {lf' : Int → Bool} (hf : ∀ x, f' x = f x) (hl : ∀ x, lf' x = lf x) : RangeE E w g r n f' lf' cnt := by
  rw [show f' = f from funext hf, show lf' = lf from funext hl]
  exact h
/-- The step: nothing is left; or one entry comes. -/
theorem RangeE.next (h : RangeE E w g r n f lf cnt) (ty : TypeId) :
    ((∀ x, Wf x → lf x = false) ∧ (Instr.next (.pointer (some ⟨r, 0, none⟩)) false ty).run Tryz.prog w = .ok (.tuple #[.bool false]) w) ∨
    ∃ x a w' cnt', lf x = true ∧ f x = some a ∧ (Instr.next (.pointer (some ⟨r, 0, none⟩)) false ty).run Tryz.prog w = .ok (.tuple #[.bool true, .int .i64 x, E.val a]) w' ∧
      RangeE E w' g r n f (fun y => lf y && !decide (y = x)) cnt' ∧ cnt' < cnt ∧ Only [r] w w' ∧ w'.heap.size = w.heap.size ∧ (Instr.entry (.pointer (some ⟨r, 0, none⟩))).run Tryz.prog w' = .ok (.tuple #[.int .i64 x, E.val a]) w' := by
  obtain ⟨D, left, hr, t, hl⟩ := h
  rcases hr.next lawI ty with ⟨_, h0, hrun⟩ | ⟨key, v, kl, y, w', cnt', hkey, hlk, hv, hat, hrun, hrg, hlt, hgr, hsz, hen⟩
  · exact .inl ⟨fun x hx => by rw [← hl x hx, h0], hrun⟩
  · obtain ⟨x, rfl, rfl, hx⟩ := Maps.keyOf_int_inv Tryz.underlying3 hkey
    have hhas := has_true_of_atKey hat
    rw [t.has x hx] at hhas
    obtain ⟨a, ha⟩ := Option.isSome_iff_exists.1 hhas
    have hya : y.1 = .held a := (hat .nil).symm.trans (t.at_ x a ha .nil)
    obtain ⟨yd, yp⟩ := y
    simp only at hya
    subst hya
    obtain rfl := E.inv v a yp hv
    refine .inr ⟨x, a, w', cnt', by rw [← hl x hx, hlk], ha, hrun, ⟨D, _, hrg, t, fun z hz => ?_⟩, hlt, ⟨hgr.os, hgr.tape, hgr.output, hgr.size, fun k hk hn => hgr.block k hk (by simp at hn ⊢; exact fun e => hn e)⟩, hsz, hen⟩
    simp only
    rw [hl z hz]
    congr 2
    by_cases hzx : z = x
    · subst hzx
      rw [WideAt.sameKey_self (show WideAt.IsKeyLit (.int .i64 z) from trivial)]
      simp
    · rw [sameKey_ne (fun e => hzx (by injection e))]
      simp [hzx]
/-- 'delete(m, k)' of the entry that has just come. -/
theorem RangeE.drop {t e : TypeId} {x : Int} (h : RangeE E w g r n f (fun y => lf y && !decide (y = x)) cnt) (ht : Tryz.prog.underlying t = some (.map 3 e)) (hx : Wf x) (ty : TypeId) :
    ∃ w' cnt', (Builtin.delete_ #[t, 3] ty #[.map (some g), .int .i64 x]).run Tryz.prog w = .ok (.tuple #[]) w' ∧ RangeE E w' g r n (fun y => if y = x then none else f y) (fun y => lf y && !decide (y = x)) cnt' ∧ cnt' ≤ cnt ∧ w.mapTurned w' g := by
  obtain ⟨D, left, hr, t, hl⟩ := h
  obtain ⟨w', cnt', hrun, hr', hle, hturn⟩ := hr.drop lawI ht (keyOf_int_mk Tryz.underlying3 hx) ty
  refine ⟨w', cnt', hrun, ⟨_, _, hr', t.del x, fun z hz => ?_⟩, hle, hturn⟩
  simp only
  rw [hl z hz]
  by_cases hzx : z = x
  · subst hzx
    simp
  · rw [sameKey_ne (fun e => hzx (by injection e))]
    simp
end
/-- Pointers to blocks. -/
def ptrR : Value → Option (DataW Nat × List MemPlace)
  | .pointer none => some (.nil, [])
  | .pointer (some ⟨b, 0, none⟩) => some (.held b, [])
  | _ => none
def ptrE : Elem Nat where
  R := ptrR
  val := fun b => .pointer (some ⟨b, 0, none⟩)
  z := .pointer none
  zd := .nil
  zp := []
  rz := rfl
  rmk := fun a => ⟨[], rfl⟩
  inv := fun v a ps h => by
    unfold ptrR at h
    split at h
    · cases h
    · cases h; rfl
    · cases h
  invz := fun v ps h => by
    unfold ptrR at h
    split at h
    · rfl
    · cases h
    · cases h
end Go.Proofs.YtkccjfgkbkodiaaGreat.Ti
namespace Go.Proofs.YtkccjfgkbkodiaaGreat.Ti
open Go.RowKit
set_option maxRecDepth 100000
/-- The cells of a gate ahead of its timer. -/
structure Pre5 where
  a : Value
  b : Value
  c : Value
  d : Value
  e : Value
variable {g : Pre5}
/-- One that is timed. -/
structure One where
  limit : Int
  begun : Int
  active : Int
def oneV (o : One) : Array Value := #[.int .i64 o.limit, .int .i64 o.begun, .int .i64 o.active]
/-- Its times may be. -/
structure Fits (now : Int) (o : One) : Prop where
  l0 : 0 ≤ o.limit
  l1 : o.limit ≤ 9223372036854775807
  b0 : 0 ≤ o.begun
  b1 : o.begun ≤ now
  a0 : 0 ≤ o.active
  a1 : o.active ≤ now
theorem Fits.later {now : Int} {o : One} (h : Fits now o) : Fits (now + 1) o := ⟨h.l0, h.l1, h.b0, by have := h.b1; omega, h.a0, by have := h.a1; omega⟩
def upd {α : Type} (f : Int → Option α) (x : Int) (v : Option α) : Int → Option α := fun y => if y = x then v else f y
theorem upd_same {α : Type} (f : Int → Option α) (x : Int) (v : Option α) : upd f x v x = v := if_pos rfl
theorem upd_other {α : Type} (f : Int → Option α) {x y : Int} (v : Option α) (h : y ≠ x) : upd f x v y = f y := if_neg h
/-- The timer's map at mb, P tells the blocks. -/
structure TmM (g : Pre5) (w : World) (p : Nat) (now : Int) (n : Nat) (f : Int → Option One) (F : List Nat) (mb : Nat) (P : Int → Option Nat) : Prop where
  blk : Blk w p 61 #[g.a, g.b, g.c, g.d, g.e, .int .i64 now, .map (some mb)]
  map : MapE ptrE w mb n P
  mF : mb ∈ F
  dom : ∀ x, (P x).isSome = (f x).isSome
  oF : ∀ x b, P x = some b → b ∈ F
  one : ∀ x b o, P x = some b → f x = some o → Blk w b 101 (oneV o)
  inj : ∀ x y b, P x = some b → P y = some b → x = y
/-- The timer at p, of blocks F, from B on: its time is now; f says who is timed; they are n at most. -/
structure Tm (g : Pre5) (w : World) (B p : Nat) (now : Int) (n : Nat) (f : Int → Option One) (F : List Nat) : Prop where
  n0 : 0 ≤ now
  n1 : now ≤ 1000000
  pF : p ∈ F
  lt : ∀ k ∈ F, B ≤ k ∧ k < w.heap.size
  fits : ∀ x o, f x = some o → Fits now o
  all : (Blk w p 61 #[g.a, g.b, g.c, g.d, g.e, .int .i64 now, .map none] ∧ ∀ x, f x = none) ∨ ∃ mb P, TmM g w p now n f F mb P
theorem zeroP (w : World) : (zeroValue 99).run Tryz.prog w = .ok (.pointer none) w := by kernel_rfl
section
variable {w w' : World} {B p n mb : Nat} {now : Int} {f : Int → Option One} {F : List Nat} {P : Int → Option Nat}
theorem TmM.keep {S : List Nat} (h : TmM g w p now n f F mb P) (hp : p ∈ F) (ho : Only S w w') (hS : ∀ k ∈ F, k ∉ S) : TmM g w' p now n f F mb P :=
  ⟨ho.blk h.blk (hS p hp), h.map.keep ho (hS mb h.mF), h.mF, h.dom, h.oF, fun x b o h1 h2 => ho.blk (h.one x b o h1 h2) (hS b (h.oF x b h1)), h.inj⟩
theorem Tm.keep {S : List Nat} (h : Tm g w B p now n f F) (ho : Only S w w') (hS : ∀ k ∈ F, k ∉ S) : Tm g w' B p now n f F := by
  refine ⟨h.n0, h.n1, h.pF, fun k hk => ⟨(h.lt k hk).1, Nat.lt_of_lt_of_le (h.lt k hk).2 ho.size⟩, h.fits, ?_⟩
  rcases h.all with ⟨h1, h2⟩ | ⟨mb, P, h1⟩
  · exact .inl ⟨ho.blk h1 (hS p h.pF), h2⟩
  · exact .inr ⟨mb, P, h1.keep h.pF ho hS⟩
theorem Tm.below (h : Tm g w B p now n f F) (hb : Below w.heap.size w w') : Tm g w' B p now n f F := h.keep (Only.of_below hb []) (fun k _ => by simp)
theorem Tm.drewN (h : Tm g w B p now n f F) (k : Nat) : Tm g (w.drewN k) B p now n f F := h.below (below_drewN (Below.refl _ _) k)
theorem Tm.mono {m : Nat} (h : Tm g w B p now n f F) (hm : n ≤ m) : Tm g w B p now m f F := by
  refine ⟨h.n0, h.n1, h.pF, h.lt, h.fits, ?_⟩
  rcases h.all with ⟨h1, h2⟩ | ⟨mb, P, h1⟩
  · exact .inl ⟨h1, h2⟩
  · exact .inr ⟨mb, P, h1.blk, h1.map.mono hm, h1.mF, h1.dom, h1.oF, h1.one, h1.inj⟩
theorem Tm.new (h : Blk w p 61 #[g.a, g.b, g.c, g.d, g.e, .int .i64 0, .map none]) (hB : B ≤ p) : Tm g w B p 0 0 (fun _ => none) [p] :=
  ⟨Int.le_refl _, by omega, List.mem_singleton.2 rfl, fun k hk => by rw [List.mem_singleton.1 hk]; exact ⟨hB, h.lt⟩, fun x o h => (by cases h), .inl ⟨h, fun _ => rfl⟩⟩
theorem Tm.plt (h : Tm g w B p now n f F) : p < w.heap.size := (h.lt p h.pF).2
theorem Tm.blt (h : Tm g w B p now n f F) : B < w.heap.size := Nat.lt_of_le_of_lt (h.lt p h.pF).1 (h.lt p h.pF).2
theorem Tm.wf (h : Tm g w B p now n f F) {x : Int} {o : One} (hx : f x = some o) : Wf x := by
  rcases h.all with ⟨_, h2⟩ | ⟨mb, P, h1⟩
  · rw [h2] at hx; cases hx
  · have := h1.dom x
    rw [hx] at this
    obtain ⟨b, hb⟩ := Option.isSome_iff_exists.1 this
    exact h1.map.wf hb
/-- Where the now lies. -/
theorem Tm.now_ (h : Tm g w B p now n f F) : ∃ m, Blk w p 61 #[g.a, g.b, g.c, g.d, g.e, .int .i64 now, m] := by
  rcases h.all with ⟨h1, _⟩ | ⟨mb, P, h1⟩
  · exact ⟨_, h1⟩
  · exact ⟨_, h1.blk⟩
theorem TmM.none_ (h : TmM g w p now n f F mb P) {x : Int} (hx : f x = none) : P x = none := by
  have := h.dom x
  rw [hx] at this
  cases hp : P x with
  | none => rfl
  | some b => rw [hp] at this; cases this
theorem TmM.some_ (h : TmM g w p now n f F mb P) {x : Int} {o : One} (hx : f x = some o) : ∃ b, P x = some b := by
  have := h.dom x
  rw [hx] at this
  exact Option.isSome_iff_exists.1 this
/-- One's block is written. -/
theorem Tm.put (h : Tm g w B p now n f F) (hm : TmM g w p now n f F mb P) {x : Int} {b : Nat} (hx : P x = some b) {o' : One} (hf : Fits now o') (hb : Blk w' b 101 (oneV o')) (ho : Only [b] w w') : Tm g w' B p now n (upd f x (some o')) F := by
  have hd : (f x).isSome = true := by rw [← hm.dom x, hx]; rfl
  obtain ⟨o, hfo⟩ := Option.isSome_iff_exists.1 hd
  have hbo := hm.one x b o hx hfo
  have hpb : p ≠ b := hm.blk.ne_ hbo (by decide)
  have hmb : mb ≠ b := fun e => hm.map.notBlk hbo e.symm
  refine ⟨h.n0, h.n1, h.pF, fun k hk => ⟨(h.lt k hk).1, Nat.lt_of_lt_of_le (h.lt k hk).2 ho.size⟩, fun y o2 hy => ?_, .inr ⟨mb, P, ho.blk hm.blk (by simpa using hpb), hm.map.keep ho (by simpa using hmb), hm.mF, fun y => ?_, hm.oF, fun y b2 o2 h1 h2 => ?_, hm.inj⟩⟩
  · by_cases hyx : y = x
    · rw [hyx, upd_same] at hy; cases hy; exact hf
    · rw [upd_other f _ hyx] at hy; exact h.fits y o2 hy
  · by_cases hyx : y = x
    · rw [hyx, upd_same, hx]; rfl
    · rw [upd_other f _ hyx]; exact hm.dom y
  · by_cases hyx : y = x
    · rw [hyx, upd_same] at h2
      rw [hyx, hx] at h1
      cases h1
      cases h2
      exact hb
    · rw [upd_other f _ hyx] at h2
      exact ho.blk (hm.one y b2 o2 h1 h2) (by simp; intro e; exact hyx (hm.inj y x b (e ▸ h1) hx))
end
/-- One's entry is gone. -/
theorem Tm.cut {w w' : World} {B p n mb : Nat} {now : Int} {f : Int → Option One} {F : List Nat} {P : Int → Option Nat} (h : Tm g w B p now n f F) (hm : TmM g w p now n f F mb P) {x : Int} (hm2 : MapE ptrE w' mb n (fun y => if y = x then none else P y)) (ho : Only [mb] w w') : Tm g w' B p now n (upd f x none) F := by
  have hpm : p ≠ mb := hm.map.notBlk hm.blk
  refine ⟨h.n0, h.n1, h.pF, fun k hk => ⟨(h.lt k hk).1, Nat.lt_of_lt_of_le (h.lt k hk).2 ho.size⟩, fun y o2 hy => ?_, .inr ⟨mb, _, ho.blk hm.blk (by simpa using hpm), hm2, hm.mF, fun y => ?_, fun y b hy => ?_, fun y b2 o2 h1 h2 => ?_, fun y z b h1 h2 => ?_⟩⟩
  · by_cases hyx : y = x
    · rw [hyx, upd_same] at hy; cases hy
    · rw [upd_other f _ hyx] at hy; exact h.fits y o2 hy
  · by_cases hyx : y = x
    · rw [hyx, upd_same, if_pos rfl]; rfl
    · rw [upd_other f _ hyx, if_neg hyx]; exact hm.dom y
  · by_cases hyx : y = x
    · rw [if_pos hyx] at hy; cases hy
    · rw [if_neg hyx] at hy; exact hm.oF y b hy
  · by_cases hyx : y = x
    · rw [if_pos hyx] at h1; cases h1
    · rw [if_neg hyx] at h1
      rw [upd_other f _ hyx] at h2
      have hb := hm.one y b2 o2 h1 h2
      exact ho.blk hb (by simpa using hm.map.notBlk hb)
  · by_cases hyx : y = x
    · rw [if_pos hyx] at h1; cases h1
    · by_cases hzx : z = x
      · rw [if_pos hzx] at h2; cases h2
      · rw [if_neg hyx] at h1
        rw [if_neg hzx] at h2
        exact hm.inj y z b h1 h2
theorem of_nil (w : World) (id : Int) : Calls Tryz.prog 64 #[.pointer none, .int .i64 id] w fun e w' => e = .returned (.pointer none) ∧ w' = w := by
  go_enter Tryz.func64, Tryz.ntmps64
  go_wp2_with fail
  go_ret
  exact ⟨rfl, rfl⟩
theorem of_none {w : World} {B p n : Nat} {now : Int} {f : Int → Option One} {F : List Nat} (h : Tm g w B p now n f F) {id : Int} (hid : Wf id) (hf : f id = none) :
    Calls Tryz.prog 64 #[.pointer (some ⟨p, 5, none⟩), .int .i64 id] w fun e w' => e = .returned (.pointer none) ∧ w' = w := by
  rcases h.all with ⟨h1, _⟩ | ⟨mb, P, h1⟩
  · have c1 := h1.cellv 6 _ rfl
    have hl := look_none (w := w) ptrE (t := 57) Tryz.underlying57 (zeroP w) hid
    simp only [ptrE] at hl
    clear h h1 hf hid
    go_enter Tryz.func64, Tryz.ntmps64
    go_wp2_with fail
    go_ret
    exact ⟨rfl, rfl⟩
  · have c1 := h1.blk.cellv 6 _ rfl
    have hl := h1.map.look (t := 57) Tryz.underlying57 (zeroP w) hid
    rw [h1.none_ hf] at hl
    simp only [ptrE, elV] at hl
    clear h h1 hf hid
    go_enter Tryz.func64, Tryz.ntmps64
    go_wp2_with fail
    go_ret
    exact ⟨rfl, rfl⟩
theorem of_some {w : World} {p n mb : Nat} {now : Int} {f : Int → Option One} {F : List Nat} {P : Int → Option Nat} (h1 : TmM g w p now n f F mb P) {id : Int} {b : Nat} (hb : P id = some b) :
    Calls Tryz.prog 64 #[.pointer (some ⟨p, 5, none⟩), .int .i64 id] w fun e w' => e = .returned (.pointer (some ⟨b, 0, none⟩)) ∧ w' = w := by
  have c1 := h1.blk.cellv 6 _ rfl
  have hl := h1.map.look (t := 57) Tryz.underlying57 (zeroP w) (h1.map.wf hb)
  rw [hb] at hl
  simp only [ptrE, elV] at hl
  clear h1 hb
  go_enter Tryz.func64, Tryz.ntmps64
  go_wp2_with fail
  go_ret
  exact ⟨rfl, rfl⟩
theorem touch_none {w : World} {B p n : Nat} {now : Int} {f : Int → Option One} {F : List Nat} (h : Tm g w B p now n f F) {id : Int} (hid : Wf id) (hf : f id = none)  :
    Calls Tryz.prog 35 #[.pointer (some ⟨p, 5, none⟩), .int .i64 id] w fun e w' => e = .returned (.bool false) ∧ w' = w := by
  have HO := hide (of_none h hid hf)
  clear h hid hf
  go_enter Tryz.func35, Tryz.ntmps35
  go_wp2_with fail
  (with_reducible refine (unhide HO).mono ?_)
  rintro e w1 ⟨rfl, hw1⟩
  subst hw1
  go_wp2_with fail
  go_ret
  exact ⟨rfl, rfl⟩
theorem touch_nil (w : World) (id : Int)  :
    Calls Tryz.prog 35 #[.pointer none, .int .i64 id] w fun e w' => e = .returned (.bool false) ∧ w' = w := by
  have HO := hide (of_nil w id)
  go_enter Tryz.func35, Tryz.ntmps35
  go_wp2_with fail
  (with_reducible refine (unhide HO).mono ?_)
  rintro e w1 ⟨rfl, hw1⟩
  subst hw1
  go_wp2_with fail
  go_ret
  exact ⟨rfl, rfl⟩
theorem limit_none {w : World} {B p n : Nat} {now : Int} {f : Int → Option One} {F : List Nat} (h : Tm g w B p now n f F) {id : Int} (hid : Wf id) (hf : f id = none) (lim : Int) :
    Calls Tryz.prog 42 #[.pointer (some ⟨p, 5, none⟩), .int .i64 id, .int .i64 lim] w fun e w' => e = .returned (.bool false) ∧ w' = w := by
  have HO := hide (of_none h hid hf)
  clear h hid hf
  go_enter Tryz.func42, Tryz.ntmps42
  go_wp2_with fail
  (with_reducible refine (unhide HO).mono ?_)
  rintro e w1 ⟨rfl, hw1⟩
  subst hw1
  go_wp2_with fail
  go_ret
  exact ⟨rfl, rfl⟩
theorem limit_nil (w : World) (id : Int) (lim : Int) :
    Calls Tryz.prog 42 #[.pointer none, .int .i64 id, .int .i64 lim] w fun e w' => e = .returned (.bool false) ∧ w' = w := by
  have HO := hide (of_nil w id)
  go_enter Tryz.func42, Tryz.ntmps42
  go_wp2_with fail
  (with_reducible refine (unhide HO).mono ?_)
  rintro e w1 ⟨rfl, hw1⟩
  subst hw1
  go_wp2_with fail
  go_ret
  exact ⟨rfl, rfl⟩
theorem stop_none {w : World} {B p n : Nat} {now : Int} {f : Int → Option One} {F : List Nat} (h : Tm g w B p now n f F) {id : Int} (hid : Wf id) (hf : f id = none)  :
    Calls Tryz.prog 49 #[.pointer (some ⟨p, 5, none⟩), .int .i64 id] w fun e w' => e = .returned (.bool false) ∧ w' = w := by
  have HO := hide (of_none h hid hf)
  clear h hid hf
  go_enter Tryz.func49, Tryz.ntmps49
  go_wp2_with fail
  (with_reducible refine (unhide HO).mono ?_)
  rintro e w1 ⟨rfl, hw1⟩
  subst hw1
  go_wp2_with fail
  go_ret
  exact ⟨rfl, rfl⟩
theorem stop_nil (w : World) (id : Int)  :
    Calls Tryz.prog 49 #[.pointer none, .int .i64 id] w fun e w' => e = .returned (.bool false) ∧ w' = w := by
  have HO := hide (of_nil w id)
  go_enter Tryz.func49, Tryz.ntmps49
  go_wp2_with fail
  (with_reducible refine (unhide HO).mono ?_)
  rintro e w1 ⟨rfl, hw1⟩
  subst hw1
  go_wp2_with fail
  go_ret
  exact ⟨rfl, rfl⟩
theorem touch_some {w : World} {B p n : Nat} {now : Int} {f : Int → Option One} {F : List Nat} (h : Tm g w B p now n f F) {id : Int} {o : One} (hf : f id = some o) :
    Calls Tryz.prog 35 #[.pointer (some ⟨p, 5, none⟩), .int .i64 id] w fun e w' => e = .returned (.bool true) ∧ Tm g w' B p now n (upd f id (some ⟨o.limit, o.begun, now⟩)) F ∧ Only F w w' := by
  rcases h.all with ⟨_, h2⟩ | ⟨mb, P, h1⟩
  · rw [h2] at hf; cases hf
  obtain ⟨b, hb⟩ := h1.some_ hf
  have hbo := h1.one id b o hb hf
  have HO := hide (of_some h1 hb)
  have hfit := h.fits id o hf
  have HF := fun w' => hide (h.put (w' := w') h1 hb (o' := ⟨o.limit, o.begun, now⟩) ⟨hfit.l0, hfit.l1, hfit.b0, hfit.b1, h.n0, Int.le_refl _⟩)
  have c0 := h1.blk.cellv 5 _ rfl
  have z2 := hbo.cellv 2 _ rfl
  have zf := hbo.frozen 2
  have HB := hide hbo
  have HBF := hide (h1.oF id b hb)
  clear h h1 hfit hbo hb hf
  go_enter Tryz.func35, Tryz.ntmps35
  go_wp2_with fail
  (with_reducible refine (unhide HO).mono ?_)
  rintro e w1 ⟨rfl, hw1⟩
  subst hw1
  go_wp2_with fail
  go_ret
  exact ⟨rfl, (HF _).out (HB.out.set_ 2 _) ((Only.refl _ _).setCell (by simp) _), (Only.refl _ _).setCell HBF.out _⟩
theorem limit_less {w : World} {B p n : Nat} {now : Int} {f : Int → Option One} {F : List Nat} (h : Tm g w B p now n f F) {id : Int} {o : One} (hf : f id = some o) {lim : Int} (hl : lim < 0) :
    Calls Tryz.prog 42 #[.pointer (some ⟨p, 5, none⟩), .int .i64 id, .int .i64 lim] w fun e w' => e = .returned (.bool false) ∧ w' = w := by
  rcases h.all with ⟨_, h2⟩ | ⟨mb, P, h1⟩
  · rw [h2] at hf; cases hf
  obtain ⟨b, hb⟩ := h1.some_ hf
  have HO := hide (of_some h1 hb)
  clear h h1 hb hf
  go_enter Tryz.func42, Tryz.ntmps42
  go_wp2_with fail
  (with_reducible refine (unhide HO).mono ?_)
  rintro e w1 ⟨rfl, hw1⟩
  subst hw1
  go_wp2_with fail
  go_ret
  exact ⟨rfl, rfl⟩
theorem limit_some {w : World} {B p n : Nat} {now : Int} {f : Int → Option One} {F : List Nat} (h : Tm g w B p now n f F) {id : Int} {o : One} (hf : f id = some o) {lim : Int} (hl : 0 ≤ lim) (hl2 : lim ≤ 9223372036854775807) :
    Calls Tryz.prog 42 #[.pointer (some ⟨p, 5, none⟩), .int .i64 id, .int .i64 lim] w fun e w' => e = .returned (.bool true) ∧ Tm g w' B p now n (upd f id (some ⟨lim, o.begun, o.active⟩)) F ∧ Only F w w' := by
  rcases h.all with ⟨_, h2⟩ | ⟨mb, P, h1⟩
  · rw [h2] at hf; cases hf
  obtain ⟨b, hb⟩ := h1.some_ hf
  have hbo := h1.one id b o hb hf
  have HO := hide (of_some h1 hb)
  have hfit := h.fits id o hf
  have HF := fun w' => hide (h.put (w' := w') h1 hb (o' := ⟨lim, o.begun, o.active⟩) ⟨hl, hl2, hfit.b0, hfit.b1, hfit.a0, hfit.a1⟩)
  have z0 := hbo.cellv 0 _ rfl
  have zf := hbo.frozen 0
  have HB := hide hbo
  have HBF := hide (h1.oF id b hb)
  clear h h1 hfit hbo hb hf hl2
  go_enter Tryz.func42, Tryz.ntmps42
  go_wp2_with fail
  (with_reducible refine (unhide HO).mono ?_)
  rintro e w1 ⟨rfl, hw1⟩
  subst hw1
  go_wp2_with fail
  go_ret
  exact ⟨rfl, (HF _).out (HB.out.set_ 0 _) ((Only.refl _ _).setCell (by simp) _), (Only.refl _ _).setCell HBF.out _⟩
set_option maxHeartbeats 1000000 in
theorem stop_some {w : World} {B p n : Nat} {now : Int} {f : Int → Option One} {F : List Nat} (h : Tm g w B p now n f F) {id : Int} {o : One} (hf : f id = some o) :
    Calls Tryz.prog 49 #[.pointer (some ⟨p, 5, none⟩), .int .i64 id] w fun e w' => e = .returned (.bool true) ∧ Tm g w' B p now n (upd f id none) F ∧ Only F w w' := by
  rcases h.all with ⟨_, h2⟩ | ⟨mb, P, h1⟩
  · rw [h2] at hf; cases hf
  obtain ⟨b, hb⟩ := h1.some_ hf
  have HO := hide (of_some h1 hb)
  have c1 := h1.blk.cellv 6 _ rfl
  obtain ⟨w2, hd, hm2, ht⟩ := h1.map.drop (t := 57) Tryz.underlying57 (h1.map.wf hb) 0
  have HT := hide (turned_only ht)
  have HM := hide hm2
  have H := hide h
  have H1 := hide h1
  clear h h1 hb hf hm2 ht
  go_enter Tryz.func49, Tryz.ntmps49
  go_wp2_with fail
  (with_reducible refine (unhide HO).mono ?_)
  rintro e w1 ⟨rfl, hw1⟩
  subst hw1
  go_wp2_with fail
  go_ret
  exact ⟨rfl, H.out.cut H1.out HM.out HT.out, HT.out.mono (by intro k hk; rw [List.mem_singleton.1 hk]; exact H1.out.mF)⟩
end Go.Proofs.YtkccjfgkbkodiaaGreat.Ti
