/-
  Maps of the call's own, from ints to ints, told as functions.
-/
import Derived.Test.YtlkedcdhboahbaaRows
import Derived.Test.YtlkedcdhboahbaaWords
import Derived.Maps.Own
import Derived.Maps.OwnSet
namespace Go.Proofs.Ytlkedcdhboahbaa
open Go.RowKit Go.Maps

theorem lawI : Keyed Try.prog 3 := int_keyed Try.underlying3
theorem zeroI (w : World) : (zeroValue 3).run Try.prog w = .ok (.int .i64 0) w := by kernel_rfl
theorem wf64 {x : Int} (h : -9223372036854775808 ≤ x ∧ x ≤ 9223372036854775807) : (Lit.int .i64 x).wf = true := by
  simp [Lit.wf, IntKind.min, IntKind.max, IntKind.signed, IntKind.bits]
  omega
/-- The map at g has f. -/
def MapI (w : World) (g n : Nat) (f : Int → Option Int) : Prop :=
  ∃ D : DataW Unit, w.ownsMap Try.prog 3 (plainElem Try.prog 3) g n D ∧ ∀ x, (Lit.int .i64 x).wf = true → Maps.has D (.int .i64 x) = (f x).isSome ∧ ∀ v, f x = some v → D.atKey (.int .i64 x) (.lit (.int .i64 0)) = .lit (.int .i64 v)
/-- Maps stay. -/
def KeepM (w w' : World) : Prop := ∀ (g : Nat) (es : Array MapEntry) (c : Nat), w.heap[g]? = some (.map es c) → w'.heap[g]? = some (.map es c)
theorem KeepM.refl (w : World) : KeepM w w := fun _ _ _ h => h
theorem KeepM.trans {a b c : World} (h : KeepM a b) (k : KeepM b c) : KeepM a c := fun g es t hb => k g es t (h g es t hb)
section
variable {w w' : World} {g n : Nat} {f : Int → Option Int}
theorem MapI.new (w : World) : MapI (w.alloc (.map #[] 0)) w.heap.size 0 (fun _ => none) :=
  ⟨.map [], World.ownsMap_made _ _ _ _, fun x _ => ⟨rfl, fun v h => by cases h⟩⟩
theorem MapI.keepM (h : MapI w g n f) (k : KeepM w w') : MapI w' g n f := by
  obtain ⟨D, ⟨es, clock, hb, hr⟩, hf⟩ := h
  exact ⟨D, ⟨es, clock, k _ _ _ hb, hr⟩, hf⟩
theorem MapI.at (h : MapI w g n f) : ∃ (es : Array MapEntry) (c : Nat), w.heap[g]? = some (Obj.map es c) := by
  obtain ⟨D, ⟨es, clock, hb, hr⟩, hf⟩ := h
  exact ⟨es, clock, hb⟩
theorem MapI.lt (h : MapI w g n f) : g < w.heap.size := by
  obtain ⟨D, h, _⟩ := h
  exact h.lt
theorem MapI.notBlk (h : MapI w g n f) {k : Nat} {t : TypeId} {cs : Array Value} (hb : Blk w k t cs) : k ≠ g := by
  rintro rfl
  obtain ⟨es, c, hm⟩ := h.at
  unfold Blk at hb
  rw [hb] at hm
  injection hm with hm
  cases hm
theorem MapI.look (h : MapI w g n f) (x : Int) (hx : (Lit.int .i64 x).wf = true) (v : Int) (b : Bool) (hv : (f x = none ∧ v = 0 ∧ b = false) ∨ (f x = some v ∧ b = true)) :
    (Instr.lookup 44 (.map (some g)) (.int .i64 x) true).run Try.prog w = .ok (.tuple #[.int .i64 v, .bool b]) w := by
  obtain ⟨D, ho, hf⟩ := h
  obtain ⟨v', ps, hrun, hat⟩ := ho.look_ok lawI Try.underlying44 (zeroI w) (plainElem_int Try.underlying3 (by decide)) (keyOf_int_mk Try.underlying3 hx)
  obtain ⟨c, rfl, hc, _⟩ := plainElem_int_inv Try.underlying3 hat
  have hc := congrArg Prod.fst hc
  simp only at hc
  rw [hrun, (hf x hx).1]
  rcases hv with ⟨h1, rfl, rfl⟩ | ⟨h1, rfl⟩
  · have h2 := atKey_of_not_has (D := D) (k := .int .i64 x) (by rw [(hf x hx).1, h1]; rfl) (.lit (.int .i64 0))
    rw [h2] at hc
    injection hc with hc
    injection hc with _ hc
    rw [h1, hc]
    rfl
  · rw [(hf x hx).2 v h1] at hc
    injection hc with hc
    injection hc with _ hc
    rw [h1, hc]
    rfl
theorem MapI.store (h : MapI w g n f) (hn : n < maxLen) (x : Int) (hx : (Lit.int .i64 x).wf = true) (v : Int) (hv : (Lit.int .i64 v).wf = true) :
    ∃ w', (Instr.mapUpdate 44 (.map (some g)) (.int .i64 x) (.int .i64 v)).run Try.prog w = .ok () w' ∧ MapI w' g (n + 1) (fun y => if y = x then some v else f y) ∧ Only [g] w w' := by
  obtain ⟨D, ho, hf⟩ := h
  obtain ⟨w', hrun, ho', ht⟩ := ho.store lawI Try.underlying44 hn (keyOf_int_mk Try.underlying3 hx) (plainElem_int Try.underlying3 hv)
  have hg := ht.grown
  have hkx : WideAt.IsKeyLit (.int .i64 x) := trivial
  refine ⟨w', hrun, ⟨_, ho', fun y hy => ?_⟩, ⟨hg.os, hg.tape, hg.output, hg.size, fun k hk hn => hg.block k hk (by simp at hn ⊢; exact fun e => hn e)⟩⟩
  by_cases hyx : y = x
  · subst hyx
    dsimp only
    rw [if_pos rfl]
    exact ⟨by rw [has_put_same ho.isMap hkx]; rfl, fun u hu => by injection hu with hu; subst hu; exact atKey_put_same ho.isMap hkx _ _⟩
  · have hne : Lit.int .i64 y ≠ Lit.int .i64 x := fun e => hyx (by injection e)
    dsimp only
    rw [if_neg hyx]
    exact ⟨by rw [has_put_other hne]; exact (hf y hy).1, fun u hu => by rw [atKey_put_other hne]; exact (hf y hy).2 u hu⟩
end
end Go.Proofs.Ytlkedcdhboahbaa
