/-
  What TimerPlays keeps: the timer, the law's own map, the book, and local blocks, apart.
-/
import Derived.Test.YtbgpihengcjgeaaTmC
import Derived.Test.YtbgpihengcjgeaaBkG
namespace Go.Proofs.Ytbgpihengcjgeaa
open Go.RowKit

def oneR : Value → Option (DataW (Int × One) × List MemPlace)
  | .agg ⟨[.int .i64 i, .int .i64 a, .int .i64 b, .int .i64 c]⟩ => some (.held (i, ⟨a, b, c⟩), [])
  | _ => none
def oneE : Elem (Int × One) where
  R := oneR
  val := fun x => .agg #[.int .i64 x.1, .int .i64 x.2.limit, .int .i64 x.2.begun, .int .i64 x.2.active]
  z := .agg #[.int .i64 0, .int .i64 0, .int .i64 0, .int .i64 0]
  zd := .held (0, ⟨0, 0, 0⟩)
  zp := []
  rz := rfl
  rmk := fun a => ⟨[], rfl⟩
  inv := fun v a ps h => by
    unfold oneR at h
    split at h
    · cases h; rfl
    · cases h
  invz := fun v ps h => by
    unfold oneR at h
    split at h
    · cases h; rfl
    · cases h
theorem zeroO (w : World) : (zeroValue 45).run Try.prog w = .ok (.agg #[.int .i64 0, .int .i64 0, .int .i64 0, .int .i64 0]) w := by kernel_rfl
/-- The law's map has who is timed. -/
def hvF (f : Int → Option One) : Int → Option (Int × One) := fun x => (f x).map fun o => (x, o)
theorem hvF_upd (f : Int → Option One) (x : Int) (o : One) : (fun y => if y = x then some (x, o) else hvF f y) = hvF (upd f x (some o)) := funext fun y => by
  unfold hvF upd
  by_cases hy : y = x
  · simp [hy]
  · simp [hy]
theorem hvF_del (f : Int → Option One) (x : Int) : (fun y => if y = x then none else hvF f y) = hvF (upd f x none) := funext fun y => by
  unfold hvF upd
  by_cases hy : y = x
  · simp [hy]
  · simp [hy]
theorem upd_none_same {f : Int → Option One} {x : Int} (h : f x = none) : upd f x none = f := funext fun y => by
  unfold upd
  by_cases hy : y = x
  · rw [if_pos hy, hy, h]
  · rw [if_neg hy]

/-- All of it. -/
structure All4 (w0 w : World) (B p hm pb : Nat) (now : Int) (n m : Nat) (f g : Int → Option One) (FT FB : List Nat) (L : List (Nat × TypeId × Array Value)) : Prop where
  tm : Tm w B p now n f FT
  hv : MapE oneE w hm m (hvF g)
  hB : B ≤ hm
  bk : Bk w B pb FB
  tb : ∀ k ∈ FT, k ∉ FB
  ht : hm ∉ FT
  hb : hm ∉ FB
  loc : ∀ e ∈ L, Blk w e.1 e.2.1 e.2.2 ∧ e.1 ∉ FT ∧ e.1 ∉ FB ∧ B ≤ e.1
  below : Below B w0 w
section
variable {w0 w w' : World} {B p hm pb n m : Nat} {now : Int} {f g : Int → Option One} {FT FB : List Nat} {L : List (Nat × TypeId × Array Value)}
theorem All4.blt (h : All4 w0 w B p hm pb now n m f g FT FB L) : B < w.heap.size := h.tm.blt
theorem All4.to (h : All4 w0 w B p hm pb now n m f g FT FB L) (hb : Below w.heap.size w w') : All4 w0 w' B p hm pb now n m f g FT FB L :=
  ⟨h.tm.below hb, h.hv.below hb h.hv.lt, h.hB, h.bk.below hb, h.tb, h.ht, h.hb, fun e he => ⟨(h.loc e he).1.below hb (h.loc e he).1.lt, (h.loc e he).2⟩, h.below.trans (hb.mono (by have := h.blt; omega))⟩
theorem All4.drewN (h : All4 w0 w B p hm pb now n m f g FT FB L) (k : Nat) : All4 w0 (w.drewN k) B p hm pb now n m f g FT FB L := h.to (below_drewN (Below.refl _ _) k)
theorem All4.less {L' : List (Nat × TypeId × Array Value)} (h : All4 w0 w B p hm pb now n m f g FT FB L) (hl : ∀ e ∈ L', e ∈ L) : All4 w0 w B p hm pb now n m f g FT FB L' :=
  ⟨h.tm, h.hv, h.hB, h.bk, h.tb, h.ht, h.hb, fun e he => h.loc e (hl e he), h.below⟩
theorem All4.timer {now2 : Int} {n2 : Nat} {f2 : Int → Option One} {FT2 : List Nat} (h : All4 w0 w B p hm pb now n m f g FT FB L) (ht : Tm w' B p now2 n2 f2 FT2) (ho : Only FT w w') (hf : ∀ k ∈ FT2, k ∈ FT ∨ w.heap.size ≤ k) :
    All4 w0 w' B p hm pb now2 n2 m f2 g FT2 FB L :=
  ⟨ht, h.hv.keep ho h.ht, h.hB, h.bk.keep ho (fun k hk hk2 => h.tb k hk2 hk), fun k hk hk2 => by
    rcases hf k hk with h9 | h9
    · exact h.tb k h9 hk2
    · have := (h.bk.lt k hk2).2; omega, fun hk => by
    rcases hf _ hk with h9 | h9
    · exact h.ht h9
    · have := h.hv.lt; omega, h.hb, fun e he => by
    obtain ⟨e1, e2, e3, e4⟩ := h.loc e he
    refine ⟨ho.blk e1 e2, fun hk => ?_, e3, e4⟩
    rcases hf _ hk with h9 | h9
    · exact e2 h9
    · have := e1.lt; omega, h.below.trans (ho.below (by have := h.blt; omega) (fun k hk => (h.tm.lt k hk).1))⟩
theorem All4.map {m2 : Nat} {g2 : Int → Option One} (h : All4 w0 w B p hm pb now n m f g FT FB L) (hv2 : MapE oneE w' hm m2 (hvF g2)) (ho : Only [hm] w w') :
    All4 w0 w' B p hm pb now n m2 f g2 FT FB L :=
  ⟨h.tm.keep ho (fun k hk hk2 => by rw [List.mem_singleton.1 hk2] at hk; exact h.ht hk), hv2, h.hB, h.bk.keep ho (fun k hk hk2 => by rw [List.mem_singleton.1 hk2] at hk; exact h.hb hk), h.tb, h.ht, h.hb, fun e he => by
    obtain ⟨e1, e2⟩ := h.loc e he
    exact ⟨ho.blk e1 (by rw [List.mem_singleton]; exact h.hv.notBlk e1), e2⟩, h.below.trans (ho.below (by have := h.blt; omega) (fun k hk => by rw [List.mem_singleton.1 hk]; exact h.hB))⟩
theorem All4.book {FB2 : List Nat} {T : Nat} (h : All4 w0 w B p hm pb now n m f g FT FB L) (hk2 : Bk w' B pb FB2) (ho : Only FB w w') (hf : ∀ k ∈ FB2, k ∈ FB ∨ T ≤ k) (h1 : ∀ k ∈ FT, k < T) (h2 : hm < T) (h3 : ∀ e ∈ L, e.1 < T) :
    All4 w0 w' B p hm pb now n m f g FT FB2 L :=
  ⟨h.tm.keep ho h.tb, h.hv.keep ho h.hb, h.hB, hk2, fun k hk hk2 => by
    rcases hf k hk2 with h9 | h9
    · exact h.tb k hk h9
    · have := h1 k hk; omega, h.ht, fun hk => by
    rcases hf _ hk with h9 | h9
    · exact h.hb h9
    · omega, fun e he => by
    obtain ⟨e1, e2, e3, e4⟩ := h.loc e he
    refine ⟨ho.blk e1 e3, e2, fun hk => ?_, e4⟩
    rcases hf _ hk with h9 | h9
    · exact e3 h9
    · have := h3 e he; omega, h.below.trans (ho.below (by have := h.blt; omega) (fun k hk => (h.bk.lt k hk).1))⟩
theorem All4.push {b : Nat} {t : TypeId} {cs : Array Value} (h : All4 w0 w B p hm pb now n m f g FT FB L) (hb : Below w.heap.size w w') (hk : Blk w' b t cs) (hn : w.heap.size ≤ b) : All4 w0 w' B p hm pb now n m f g FT FB ((b, t, cs) :: L) := by
  have h' := h.to hb
  refine ⟨h'.tm, h'.hv, h'.hB, h'.bk, h'.tb, h'.ht, h'.hb, fun e he => ?_, h'.below⟩
  rcases List.mem_cons.1 he with rfl | he
  · exact ⟨hk, fun h9 => by have := (h.tm.lt _ h9).2; omega, fun h9 => by have := (h.bk.lt _ h9).2; omega, by have := h.blt; omega⟩
  · exact h'.loc e he
theorem All4.set {b : Nat} {t : TypeId} {cs : Array Value} (h : All4 w0 w B p hm pb now n m f g FT FB ((b, t, cs) :: L)) (hd : ∀ e ∈ L, e.1 ≠ b) (i : Nat) (u : Value) :
    All4 w0 (w.setCell ⟨b, i, none⟩ u) B p hm pb now n m f g FT FB ((b, t, cs.setIfInBounds i u) :: L) := by
  obtain ⟨e1, e2, e3, e4⟩ := h.loc (b, t, cs) (List.mem_cons_self ..)
  have ho : Only [b] w (w.setCell ⟨b, i, none⟩ u) := (Only.refl _ _).setCell (by simp) _
  refine ⟨h.tm.keep ho (fun k hk hk2 => by rw [List.mem_singleton.1 hk2] at hk; exact e2 hk), h.hv.keep ho (by rw [List.mem_singleton]; exact fun e => h.hv.notBlk e1 e.symm), h.hB, h.bk.keep ho (fun k hk hk2 => by rw [List.mem_singleton.1 hk2] at hk; exact e3 hk), h.tb, h.ht, h.hb, fun e he => ?_, h.below.trans (ho.below (by have := h.blt; omega) (fun k hk => by rw [List.mem_singleton.1 hk]; exact e4))⟩
  rcases List.mem_cons.1 he with rfl | he
  · exact ⟨e1.set_ i u, e2, e3, e4⟩
  · obtain ⟨f1, f2⟩ := h.loc e (List.mem_cons_of_mem _ he)
    exact ⟨ho.blk f1 (by rw [List.mem_singleton]; exact hd e he), f2⟩
theorem All4.store (h : All4 w0 w B p hm pb now n m f g FT FB L) (hmm : m ≤ 100000) {id : Int} (hid : Wf id) (o : One) :
    ∃ w', (Instr.mapUpdate 35 (.map (some hm)) (.int .i64 id) (.agg #[.int .i64 id, .int .i64 o.limit, .int .i64 o.begun, .int .i64 o.active])).run Try.prog w = .ok () w' ∧ All4 w0 w' B p hm pb now n (m + 1) f (upd g id (some o)) FT FB L := by
  obtain ⟨w', hr, h1, h2⟩ := h.hv.store (t := 35) Try.underlying35 (by unfold maxLen; omega) hid (id, o)
  rw [hvF_upd] at h1
  exact ⟨w', hr, h.map h1 (turned_only h2)⟩
theorem All4.del (h : All4 w0 w B p hm pb now n m f g FT FB L) {id : Int} (hid : Wf id) :
    ∃ w', (Builtin.delete_ #[35, 3] 0 #[.map (some hm), .int .i64 id]).run Try.prog w = .ok (.tuple #[]) w' ∧ All4 w0 w' B p hm pb now n m f (upd g id none) FT FB L := by
  obtain ⟨w', hr, h1, h2⟩ := h.hv.drop (t := 35) Try.underlying35 hid 0
  rw [hvF_del] at h1
  exact ⟨w', hr, h.map h1 (turned_only h2)⟩
theorem All4.look_some (h : All4 w0 w B p hm pb now n m f g FT FB L) {id : Int} {o : One} (hid : Wf id) (hg : g id = some o) :
    (Instr.lookup 35 (.map (some hm)) (.int .i64 id) true).run Try.prog w = .ok (.tuple #[.agg #[.int .i64 id, .int .i64 o.limit, .int .i64 o.begun, .int .i64 o.active], .bool true]) w := by
  have h1 := h.hv.look_ok (t := 35) Try.underlying35 (zeroO w) hid
  have e : hvF g id = some (id, o) := by unfold hvF; rw [hg]; rfl
  rw [e] at h1
  exact h1
theorem All4.look_none (h : All4 w0 w B p hm pb now n m f g FT FB L) {id : Int} (hid : Wf id) (hg : g id = none) :
    (Instr.lookup 35 (.map (some hm)) (.int .i64 id) true).run Try.prog w = .ok (.tuple #[.agg #[.int .i64 0, .int .i64 0, .int .i64 0, .int .i64 0], .bool false]) w := by
  have h1 := h.hv.look_ok (t := 35) Try.underlying35 (zeroO w) hid
  have e : hvF g id = none := by unfold hvF; rw [hg]; rfl
  rw [e] at h1
  exact h1
theorem All4.blk {b : Nat} {t : TypeId} {cs : Array Value} (h : All4 w0 w B p hm pb now n m f g FT FB L) (hb : (b, t, cs) ∈ L) : Blk w b t cs := (h.loc _ hb).1
end
end Go.Proofs.Ytbgpihengcjgeaa
