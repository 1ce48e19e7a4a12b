/-
  Maps of the call's own, keyed by ints, told as functions, whatever the elements; a range over one, under way.
-/
import Derived.Test.YtbgpihengcjgeaaRows
import Derived.Test.YtbgpihengcjgeaaWords
import Derived.Maps.Own
import Derived.Maps.OwnSet
import Derived.Maps.RangeWalk
namespace Go.Proofs.Ytbgpihengcjgeaa
open Go.RowKit Go.Maps

theorem lawI : Keyed Try.prog 3 := int_keyed Try.underlying3
/-- A number that is an int. -/
def Wf (x : Int) : Prop := (Lit.int .i64 x).wf = true
theorem wf_of {x : Int} (h : -9223372036854775808 ≤ x ∧ x ≤ 9223372036854775807) : Wf x := by
  simp [Wf, Lit.wf, IntKind.min, IntKind.max, IntKind.signed, IntKind.bits]
  omega
theorem Wf.le {x : Int} (h : Wf x) : -9223372036854775808 ≤ x ∧ x ≤ 9223372036854775807 := by
  simp [Wf, Lit.wf, IntKind.min, IntKind.max, IntKind.signed, IntKind.bits] at h
  omega
/-- How a map's elements read: each by its shape; the zero one. -/
structure Elem (α : Type) where
  R : Value → Option (DataW α × List MemPlace)
  val : α → Value
  z : Value
  zd : DataW α
  zp : List MemPlace
  rz : R z = some (zd, zp)
  rmk : ∀ a, ∃ ps, R (val a) = some (.held a, ps)
  inv : ∀ v a ps, R v = some (.held a, ps) → v = val a
  invz : ∀ v ps, R v = some (zd, ps) → v = z
/-- The entries are f's. -/
structure Told {α : Type} (D : DataW α) (f : Int → Option α) : Prop where
  wf : ∀ x a, f x = some a → Wf x
  has : ∀ x, Wf x → Maps.has D (.int .i64 x) = (f x).isSome
  at_ : ∀ x a, f x = some a → ∀ zd, D.atKey (.int .i64 x) zd = .held a
/-- The map at g, of at most n entries, has f. -/
def MapE {α : Type} (E : Elem α) (w : World) (g n : Nat) (f : Int → Option α) : Prop :=
  ∃ D : DataW α, w.ownsMap Try.prog 3 E.R g n D ∧ Told D f
/-- .. and r is a range over it: lf: is the entry still to come? -/
def RangeE {α : Type} (E : Elem α) (w : World) (g r n : Nat) (f : Int → Option α) (lf : Int → Bool) (cnt : Nat) : Prop :=
  ∃ (D : DataW α) (left : Lit → Bool), w.ranges Try.prog 3 E.R g r n D left cnt ∧ Told D f ∧ ∀ x, Wf x → left (.int .i64 x) = lf x
/-- Nothing but the map's entries has turned. -/
theorem turned_only {w w' : World} {g : Nat} (h : w.mapTurned w' g) : Only [g] w w' :=
  ⟨h.grown.os, h.grown.tape, h.grown.output, h.grown.size, fun k hk hn => h.grown.block k hk (by simp at hn ⊢; exact fun e => hn e)⟩
section
variable {α : Type} {E : Elem α} {w w' : World} {g n : Nat} {f : Int → Option α}
theorem MapE.new (E : Elem α) (w : World) : MapE E (w.alloc (.map #[] 0)) w.heap.size 0 (fun _ => none) :=
  ⟨.map [], World.ownsMap_made _ _ _ _, ⟨fun x a h => (by cases h), fun x _ => rfl, fun x a h => (by cases h)⟩⟩
theorem MapE.wf (h : MapE E w g n f) {x : Int} {a : α} (hx : f x = some a) : Wf x := by
  obtain ⟨D, _, t⟩ := h
  exact t.wf x a hx
theorem MapE.lt (h : MapE E w g n f) : g < w.heap.size := by
  obtain ⟨D, h, _⟩ := h
  exact h.lt
theorem MapE.keepW (h : MapE E w g n f) (hw : w'.heap[g]? = w.heap[g]?) : MapE E w' g n f := by
  obtain ⟨D, ⟨es, clock, hb, hr⟩, t⟩ := h
  exact ⟨D, ⟨es, clock, hw.trans hb, hr⟩, t⟩
theorem MapE.keep {S : List Nat} (h : MapE E w g n f) (ho : Only S w w') (hn : g ∉ S) : MapE E w' g n f := h.keepW (ho.block g h.lt hn)
theorem MapE.below {B : Nat} (h : MapE E w g n f) (hb : Below B w w') (hg : g < B) : MapE E w' g n f := h.keepW (hb.block g hg)
theorem MapE.mono {m : Nat} (h : MapE E w g n f) (hm : n ≤ m) : MapE E w g m f := by
  obtain ⟨D, h, t⟩ := h
  exact ⟨D, h.mono hm, t⟩
theorem MapE.at (h : MapE E w g n f) : ∃ (es : Array MapEntry) (c : Nat), w.heap[g]? = some (Obj.map es c) := by
  obtain ⟨D, ⟨es, clock, hb, hr⟩, hf⟩ := h
  exact ⟨es, clock, hb⟩
theorem MapE.notBlk (h : MapE E w g n f) {k : Nat} {t : TypeId} {cs : Array Value} (hb : Blk w k t cs) : k ≠ g := by
  rintro rfl
  obtain ⟨es, c, hm⟩ := h.at
  unfold Blk at hb
  rw [hb] at hm
  injection hm with hm
  cases hm
theorem MapE.congr (h : MapE E w g n f) {f' : Int → Option α} (hf : ∀ x, f' x = f x) : MapE E w g n f' := by
  rw [show f' = f from funext hf]
  exact h
theorem MapE.ext {f' : Int → Option α} (h : MapE E w g n f) (h' : MapE E w g n f') : ∀ x, Wf x → (f x).isSome = (f' x).isSome := by
  obtain ⟨D, ⟨es, clock, hb, _, _, hD⟩, t⟩ := h
  obtain ⟨D', ⟨es', clock', hb', _, _, hD'⟩, t'⟩ := h'
  rw [hb] at hb'
  cases hb'
  intro x hx
  rw [← t.has x hx, ← t'.has x hx, hD, hD']

/-- What stands at x. -/
def elV (E : Elem α) : Option α → Value
  | some a => E.val a
  | none => E.z
theorem elV_look {D : DataW α} (t : Told D f) {x : Int} (hx : Wf x) {v : Value} {ps : List MemPlace} (hv : E.R v = some (D.atKey (.int .i64 x) E.zd, ps)) : v = elV E (f x) := by
  cases hf : f x with
  | none =>
    rw [atKey_of_not_has (by rw [t.has x hx, hf]; rfl)] at hv
    exact E.invz v ps hv
  | some a =>
    rw [t.at_ x a hf] at hv
    exact E.inv v a ps hv
/-- 'm[k]'. -/
theorem MapE.look {t e : TypeId} (h : MapE E w g n f) (ht : Try.prog.underlying t = some (.map 3 e)) (hz : (zeroValue e).run Try.prog w = .ok E.z w) {x : Int} (hx : Wf x) :
    (Instr.lookup t (.map (some g)) (.int .i64 x) false).run Try.prog w = .ok (elV E (f x)) w := by
  obtain ⟨D, ho, t⟩ := h
  obtain ⟨v, ps, hrun, hv⟩ := ho.lookup lawI ht hz E.rz (keyOf_int_mk Try.underlying3 hx)
  rw [hrun, elV_look t hx hv]
/-- 'v, ok := m[k]'. -/
theorem MapE.look_ok {t e : TypeId} (h : MapE E w g n f) (ht : Try.prog.underlying t = some (.map 3 e)) (hz : (zeroValue e).run Try.prog w = .ok E.z w) {x : Int} (hx : Wf x) :
    (Instr.lookup t (.map (some g)) (.int .i64 x) true).run Try.prog w = .ok (.tuple #[elV E (f x), .bool (f x).isSome]) w := by
  obtain ⟨D, ho, t⟩ := h
  obtain ⟨v, ps, hrun, hv⟩ := ho.look_ok lawI ht hz E.rz (keyOf_int_mk Try.underlying3 hx)
  rw [hrun, elV_look t hx hv, t.has x hx]
theorem look_none {t e : TypeId} (E : Elem α) (ht : Try.prog.underlying t = some (.map 3 e)) (hz : (zeroValue e).run Try.prog w = .ok E.z w) {x : Int} (hx : Wf x) :
    (Instr.lookup t (.map none) (.int .i64 x) false).run Try.prog w = .ok E.z w := by
  have h := Maps.look_nil (P := Try.prog) (w := w) false lawI ht hz (keyOf_int_mk Try.underlying3 hx)
  simpa using h
/-- 'm[k] = v'. -/
theorem MapE.store {t e : TypeId} (h : MapE E w g n f) (ht : Try.prog.underlying t = some (.map 3 e)) (hn : n < maxLen) {x : Int} (hx : Wf x) (a : α) :
    ∃ w', (Instr.mapUpdate t (.map (some g)) (.int .i64 x) (E.val a)).run Try.prog w = .ok () w' ∧ MapE E w' g (n + 1) (fun y => if y = x then some a else f y) ∧ w.mapTurned w' g := by
  obtain ⟨D, ho, t⟩ := h
  obtain ⟨ps, hv⟩ := E.rmk a
  obtain ⟨w', hrun, ho', hturn⟩ := ho.store lawI ht hn (keyOf_int_mk Try.underlying3 hx) hv
  have hkx : WideAt.IsKeyLit (.int .i64 x) := trivial
  refine ⟨w', hrun, ⟨_, ho', ⟨fun y b hy => ?_, fun y hy => ?_, fun y b hy => ?_⟩⟩, hturn⟩
  · by_cases hyx : y = x
    · rw [hyx]; exact hx
    · rw [if_neg hyx] at hy
      exact t.wf y b hy
  · by_cases hyx : y = x
    · rw [if_pos hyx, hyx, has_put_same ho.isMap hkx]; rfl
    · rw [if_neg hyx, has_put_other (fun e => hyx (by injection e)), t.has y hy]
  · intro zd
    by_cases hyx : y = x
    · rw [if_pos hyx] at hy
      cases hy
      rw [hyx, atKey_put_same ho.isMap hkx]
    · rw [if_neg hyx] at hy
      rw [atKey_put_other (fun e => hyx (by injection e)), t.at_ y b hy]
theorem Told.del {D : DataW α} (t : Told D f) (x : Int) : Told (D.del (.int .i64 x)) (fun y => if y = x then none else f y) := by
  refine ⟨fun y b hy => ?_, fun y hy => ?_, fun y b hy => ?_⟩
  · by_cases hyx : y = x
    · rw [if_pos hyx] at hy; cases hy
    · rw [if_neg hyx] at hy
      exact t.wf y b hy
  · by_cases hyx : y = x
    · rw [if_pos hyx, hyx, has_del_same]; rfl
    · rw [if_neg hyx, has_del_other (fun e => hyx (by injection e)), t.has y hy]
  · intro zd
    by_cases hyx : y = x
    · rw [if_pos hyx] at hy; cases hy
    · rw [if_neg hyx] at hy
      rw [atKey_del_other (fun e => hyx (by injection e)), t.at_ y b hy]
/-- 'delete(m, k)'. -/
theorem MapE.drop {t e : TypeId} (h : MapE E w g n f) (ht : Try.prog.underlying t = some (.map 3 e)) {x : Int} (hx : Wf x) (ty : TypeId) :
    ∃ w', (Builtin.delete_ #[t, 3] ty #[.map (some g), .int .i64 x]).run Try.prog w = .ok (.tuple #[]) w' ∧ MapE E w' g n (fun y => if y = x then none else f y) ∧ w.mapTurned w' g := by
  obtain ⟨D, ho, t⟩ := h
  obtain ⟨w', hrun, ho', hturn⟩ := ho.drop lawI ht (keyOf_int_mk Try.underlying3 hx) ty
  exact ⟨w', hrun, ⟨_, ho', t.del x⟩, hturn⟩
theorem drop_none {t e : TypeId} (ht : Try.prog.underlying t = some (.map 3 e)) {x : Int} (hx : Wf x) (ty : TypeId) :
    (Builtin.delete_ #[t, 3] ty #[.map none, .int .i64 x]).run Try.prog w = .ok (.tuple #[]) w :=
  Maps.drop_nil lawI ht (keyOf_int_mk Try.underlying3 hx) ty

/-- 'range m'. -/
theorem MapE.range {t e : TypeId} (h : MapE E w g n f) (ht : Try.prog.underlying t = some (.map 3 e)) :
    ∃ w', (Instr.range t (.map (some g))).run Try.prog w = .ok (.pointer (some ⟨w.heap.size, 0, none⟩)) w' ∧ (∃ cnt, cnt ≤ n ∧ RangeE E w' g w.heap.size n f (fun x => (f x).isSome) cnt) ∧ Below w.heap.size w w' ∧ w'.heap.size = w.heap.size + 1 := by
  obtain ⟨D, ho, t⟩ := h
  obtain ⟨w', hrun, hr, hg, hs⟩ := ho.range lawI ht
  exact ⟨w', hrun, ⟨_, ho.size_le, D, _, hr, t, fun x hx => t.has x hx⟩, ⟨hg.os, hg.tape, hg.output, hg.size, fun k hk => hg.block k hk (by simp)⟩, hs⟩
variable {r cnt : Nat} {lf : Int → Bool}
theorem RangeE.map (h : RangeE E w g r n f lf cnt) : MapE E w g n f := by
  obtain ⟨D, left, hr, t, _⟩ := h
  exact ⟨D, hr.owns, t⟩
theorem RangeE.left_eq (h : RangeE E w g r n f lf cnt) : w.rangeLeft g r = cnt := by
  obtain ⟨D, left, hr, t, _⟩ := h
  exact hr.left_eq
theorem RangeE.lt (h : RangeE E w g r n f lf cnt) : r < w.heap.size := by
  obtain ⟨D, left, hr, t, _⟩ := h
  exact hr.lt
theorem RangeE.ne (h : RangeE E w g r n f lf cnt) : r ≠ g := by
  obtain ⟨D, left, hr, t, _⟩ := h
  exact hr.ne
theorem RangeE.keep {S : List Nat} (h : RangeE E w g r n f lf cnt) (ho : Only S w w') (hg : g ∉ S) (hr' : r ∉ S) : RangeE E w' g r n f lf cnt := by
  have h1 := h.map.lt
  have h2 := h.lt
  obtain ⟨D, left, ⟨es, clock, since, seen, c0, hb, F, hs, hD, hr, rest⟩, t, hl⟩ := h
  exact ⟨D, left, ⟨es, clock, since, seen, c0, (ho.block g h1 hg).trans hb, F, hs, hD, (ho.block r h2 hr').trans hr, rest⟩, t, hl⟩
theorem RangeE.drewN (h : RangeE E w g r n f lf cnt) (k : Nat) : RangeE E (w.drewN k) g r n f lf cnt := h
theorem RangeE.congr (h : RangeE E w g r n f lf cnt) {f' : Int → Option α} {lf' : Int → Bool} (hf : ∀ x, f' x = f x) (hl : ∀ x, lf' x = lf x) : RangeE E w g r n f' lf' cnt := by
  rw [show f' = f from funext hf, show lf' = lf from funext hl]
  exact h
/-- The step: nothing is left; or one entry comes. -/
theorem RangeE.next (h : RangeE E w g r n f lf cnt) (ty : TypeId) :
    ((∀ x, Wf x → lf x = false) ∧ (Instr.next (.pointer (some ⟨r, 0, none⟩)) false ty).run Try.prog w = .ok (.tuple #[.bool false]) w) ∨
    ∃ x a w' cnt', lf x = true ∧ f x = some a ∧ (Instr.next (.pointer (some ⟨r, 0, none⟩)) false ty).run Try.prog w = .ok (.tuple #[.bool true, .int .i64 x, E.val a]) w' ∧
      RangeE E w' g r n f (fun y => lf y && !decide (y = x)) cnt' ∧ cnt' < cnt ∧ Only [r] w w' ∧ w'.heap.size = w.heap.size ∧ (Instr.entry (.pointer (some ⟨r, 0, none⟩))).run Try.prog w' = .ok (.tuple #[.int .i64 x, E.val a]) w' := by
  obtain ⟨D, left, hr, t, hl⟩ := h
  rcases hr.next lawI ty with ⟨_, h0, hrun⟩ | ⟨key, v, kl, y, w', cnt', hkey, hlk, hv, hat, hrun, hrg, hlt, hgr, hsz, hen⟩
  · exact .inl ⟨fun x hx => by rw [← hl x hx, h0], hrun⟩
  · obtain ⟨x, rfl, rfl, hx⟩ := Maps.keyOf_int_inv Try.underlying3 hkey
    have hhas := has_true_of_atKey hat
    rw [t.has x hx] at hhas
    obtain ⟨a, ha⟩ := Option.isSome_iff_exists.1 hhas
    have hya : y.1 = .held a := (hat .nil).symm.trans (t.at_ x a ha .nil)
    obtain ⟨yd, yp⟩ := y
    simp only at hya
    subst hya
    obtain rfl := E.inv v a yp hv
    refine .inr ⟨x, a, w', cnt', by rw [← hl x hx, hlk], ha, hrun, ⟨D, _, hrg, t, fun z hz => ?_⟩, hlt, ⟨hgr.os, hgr.tape, hgr.output, hgr.size, fun k hk hn => hgr.block k hk (by simp at hn ⊢; exact fun e => hn e)⟩, hsz, hen⟩
    simp only
    rw [hl z hz]
    congr 2
    by_cases hzx : z = x
    · subst hzx
      rw [WideAt.sameKey_self (show WideAt.IsKeyLit (.int .i64 z) from trivial)]
      simp
    · rw [sameKey_ne (fun e => hzx (by injection e))]
      simp [hzx]
/-- 'delete(m, k)' of the entry that has just come. -/
theorem RangeE.drop {t e : TypeId} {x : Int} (h : RangeE E w g r n f (fun y => lf y && !decide (y = x)) cnt) (ht : Try.prog.underlying t = some (.map 3 e)) (hx : Wf x) (ty : TypeId) :
    ∃ w' cnt', (Builtin.delete_ #[t, 3] ty #[.map (some g), .int .i64 x]).run Try.prog w = .ok (.tuple #[]) w' ∧ RangeE E w' g r n (fun y => if y = x then none else f y) (fun y => lf y && !decide (y = x)) cnt' ∧ cnt' ≤ cnt ∧ w.mapTurned w' g := by
  obtain ⟨D, left, hr, t, hl⟩ := h
  obtain ⟨w', cnt', hrun, hr', hle, hturn⟩ := hr.drop lawI ht (keyOf_int_mk Try.underlying3 hx) ty
  refine ⟨w', cnt', hrun, ⟨_, _, hr', t.del x, fun z hz => ?_⟩, hle, hturn⟩
  simp only
  rw [hl z hz]
  by_cases hzx : z = x
  · subst hzx
    simp
  · rw [sameKey_ne (fun e => hzx (by injection e))]
    simp
end

/-- Pointers to blocks. -/
def ptrR : Value → Option (DataW Nat × List MemPlace)
  | .pointer none => some (.nil, [])
  | .pointer (some ⟨b, 0, none⟩) => some (.held b, [])
  | _ => none
def ptrE : Elem Nat where
  R := ptrR
  val := fun b => .pointer (some ⟨b, 0, none⟩)
  z := .pointer none
  zd := .nil
  zp := []
  rz := rfl
  rmk := fun a => ⟨[], rfl⟩
  inv := fun v a ps h => by
    unfold ptrR at h
    split at h
    · cases h
    · cases h; rfl
    · cases h
  invz := fun v ps h => by
    unfold ptrR at h
    split at h
    · rfl
    · cases h
    · cases h
end Go.Proofs.Ytbgpihengcjgeaa
