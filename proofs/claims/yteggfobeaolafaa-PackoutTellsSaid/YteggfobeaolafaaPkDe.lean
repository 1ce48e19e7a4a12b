/-
  What Doc makes, written by the pure model: no part is refused, the document is at its end at the last part alone.
-/
import Derived.Test.YteggfobeaolafaaPkDd
namespace Go.Proofs.Yteggfobeaolafaa
open Go.RowKit

def stepE (R : List Cont) (d : Bool) : Option Part → Int × List UInt8 × List Cont × Bool
  | none => (14, [], R, d)
  | some pt => stepC R d pt
/-- The same part with its count not known. -/
def evOpen (b : Bool) (e : EvM) : EvM := if b = true ∧ (e.k = 5 ∨ e.k = 6) then ⟨e.k, e.y, e.m, e.l, -1⟩ else e
def runE : List EvM → List Cont → Bool → List UInt8 → Option (List Cont × Bool × List UInt8)
  | [], R, d, out => some (R, d, out)
  | e :: E, R, d, out => if (stepE R d e.part).1 = 0 then runE E (stepE R d e.part).2.2.1 (stepE R d e.part).2.2.2 (out ++ (stepE R d e.part).2.1) else none
theorem runE_cons {e : EvM} {E : List EvM} {R R' : List Cont} {d d' : Bool} {s out : List UInt8} (h : stepE R d e.part = (0, s, R', d')) : runE (e :: E) R d out = runE E R' d' (out ++ s) := by
  simp [runE, h]
theorem runE_append : ∀ (E F : List EvM) (R : List Cont) (d : Bool) (out : List UInt8), runE (E ++ F) R d out = (runE E R d out).bind fun x => runE F x.1 x.2.1 x.2.2
  | [], F, R, d, out => rfl
  | e :: E, F, R, d, out => by
    simp only [List.cons_append, runE]
    split
    · exact runE_append E F _ _ _
    · rfl
/-- A part may come. -/
def Acc (R : List Cont) : Prop := R = [] ∨ ∃ c M, R = c :: M ∧ c.full = false ∧ (c.pairs = false ∨ c.between = true)
def bump : List Cont → List Cont
  | [] => []
  | c :: M => c.more :: M
theorem bump_nil (R : List Cont) : decide (bump R = []) = decide (R = []) := by cases R <;> simp [bump]
theorem leaf_part {e : EvM} (h : Leaf e) : ∃ pt, e.part = some pt ∧ pt.isBegin = false ∧ pt.isClose = false ∧ pt.may = true ∧ pt.opens = [] ∧ (partR pt).2 = 0 := by
  obtain ⟨k, y, m, l, c⟩ := e
  obtain ⟨h1, h2, h3, h4, _⟩ := h
  simp only at h1 h2 h3 h4
  have h5 : k = 0 ∨ k = 1 ∨ k = 2 ∨ k = 3 ∨ k = 4 := by omega
  rcases h5 with rfl | rfl | rfl | rfl | rfl
  · exact ⟨_, rfl, rfl, rfl, rfl, rfl, rfl⟩
  · exact ⟨_, rfl, rfl, rfl, rfl, rfl, rfl⟩
  · refine ⟨_, rfl, rfl, rfl, rfl, rfl, ?_⟩
    simp only [partR, plainR]
    split
    · unfold belowR
      rw [if_neg (by omega)]
    · split <;> rfl
  · exact ⟨_, rfl, rfl, rfl, rfl, rfl, rfl⟩
  · exact ⟨_, rfl, rfl, rfl, rfl, rfl, rfl⟩
theorem step_acc {R : List Cont} (h : Acc R) {pt : Part} (hm : pt.may = true) (hc : pt.isClose = false) (hz : (partR pt).2 = 0) : stepE R false (some pt) = (0, (partR pt).1, pt.opens ++ bump R, decide (R = []) && !pt.isBegin) := by
  rcases h with rfl | ⟨c, M, rfl, hf, ht⟩
  · simp [stepE, stepC, hm, hc, bump, hz]
  · have ht2 : c.takes pt = true := by
      rcases ht with h | h <;> simp [Cont.takes, h]
    simp [stepE, stepC, hm, hc, bump, hf, ht2, hz]
theorem run_leaf {e : EvM} (h : Leaf e) {R : List Cont} (hR : Acc R) : ∃ s, stepE R false e.part = (0, s, bump R, decide (R = [])) := by
  obtain ⟨pt, hp, h1, h2, h3, h4, h5⟩ := leaf_part h
  refine ⟨(partR pt).1, ?_⟩
  rw [hp, step_acc hR h3 h2 h5, h4, h1]
  simp
theorem run_open (m : Bool) (n : Nat) (hn : n ≤ 3) {R : List Cont} (hR : Acc R) : ∃ s, stepE R false (some (.begin_ m n)) = (0, s, ⟨m, n, 0⟩ :: bump R, false) := by
  have hm : (Part.begin_ m n).may = true := by simp [Part.may]
  have hz : (partR (.begin_ m n)).2 = 0 := by
    simp only [partR, beginR]
    rw [if_neg (by omega)]
  refine ⟨(partR (.begin_ m n)).1, ?_⟩
  rw [step_acc hR hm rfl hz]
  simp [Part.opens, Part.isBegin]
theorem run_end (c : Cont) (he : c.full = true) (R : List Cont) : stepE (c :: R) false (some .close) = (0, [], R, decide (R = [])) := by
  simp [stepE, stepC, Part.may, Part.isClose, he]
theorem part_arr (n : Nat) : (arrE n).part = some (.begin_ false n) := by simp [arrE, EvM.part, partOf]
theorem part_map (n : Nat) : (mapE n).part = some (.begin_ true n) := by simp [mapE, EvM.part, partOf]
theorem part_end : endE.part = some .close := by simp [endE, EvM.part, partOf]

theorem tree_run {k n : Nat} {E : List EvM} (h : Tree k n E) :
    (k = 0 → ∀ R, Acc R → ∃ o, ∀ out, runE E R false out = some (bump R, decide (R = []), out ++ o)) ∧
    (k = 1 → ∀ (c : Cont) (M : List Cont), c.pairs = false → (c.parts : Int) + n ≤ c.count → ∃ o, ∀ out, runE E (c :: M) false out = some (⟨c.pairs, c.count, c.parts + n⟩ :: M, false, out ++ o)) ∧
    (k = 2 → ∀ (c : Cont) (M : List Cont), c.pairs = true → c.parts % 2 = 0 → (c.parts : Int) + 2 * n ≤ 2 * c.count → ∃ o, ∀ out, runE E (c :: M) false out = some (⟨c.pairs, c.count, c.parts + 2 * n⟩ :: M, false, out ++ o)) := by
  induction h with
  | leaf e h =>
    refine ⟨fun _ R hR => ?_, (fun h => by cases h), (fun h => by cases h)⟩
    obtain ⟨s, h2⟩ := run_leaf h hR
    refine ⟨s, fun out => ?_⟩
    rw [runE_cons h2]
    rfl
  | arr n E hn h ih =>
    refine ⟨fun _ R hR => ?_, (fun h => by cases h), (fun h => by cases h)⟩
    obtain ⟨o, h2⟩ := ih.2.1 rfl ⟨false, n, 0⟩ (bump R) rfl (by simp)
    have h4 := run_end ⟨false, n, 0 + n⟩ (by simp [Cont.full]) (bump R)
    obtain ⟨s, h5⟩ := run_open false n hn hR
    refine ⟨s ++ o, fun out => ?_⟩
    rw [← part_arr] at h5
    rw [← part_end] at h4
    rw [runE_cons h5, runE_append, h2]
    simp only [Option.bind_some]
    rw [runE_cons h4, bump_nil]
    simp [runE]
  | map n E hn h ih =>
    refine ⟨fun _ R hR => ?_, (fun h => by cases h), (fun h => by cases h)⟩
    obtain ⟨o, h2⟩ := ih.2.2 rfl ⟨true, n, 0⟩ (bump R) rfl (by simp) (by simp)
    have h4 := run_end ⟨true, n, 0 + 2 * n⟩ (by simp [Cont.between, Cont.full]) (bump R)
    obtain ⟨s, h5⟩ := run_open true n (by omega) hR
    refine ⟨s ++ o, fun out => ?_⟩
    rw [← part_map] at h5
    rw [← part_end] at h4
    rw [runE_cons h5, runE_append, h2]
    simp only [Option.bind_some]
    rw [runE_cons h4, bump_nil]
    simp [runE]
  | nil1 =>
    refine ⟨(fun h => by cases h), fun _ c M _ _ => ⟨[], fun out => by simp [runE]⟩, (fun h => by cases h)⟩
  | snoc1 n E F h hF ih ihF =>
    refine ⟨(fun h => by cases h), fun _ c M hc hr => ?_, (fun h => by cases h)⟩
    obtain ⟨o, h2⟩ := ih.2.1 rfl c M hc (by push_cast at hr; omega)
    obtain ⟨o2, h4⟩ := ihF.1 rfl (⟨c.pairs, c.count, c.parts + n⟩ :: M) (.inr ⟨_, _, rfl, by simp [Cont.full, hc]; push_cast at hr; omega, .inl hc⟩)
    refine ⟨o ++ o2, fun out => ?_⟩
    rw [runE_append, h2]
    simp only [Option.bind_some]
    rw [h4]
    simp [bump, Cont.more, Nat.add_assoc]
  | nil2 =>
    refine ⟨(fun h => by cases h), (fun h => by cases h), fun _ c M _ _ _ => ⟨[], fun out => by simp [runE]⟩⟩
  | snoc2 n E F e h he hk hF ih ihF =>
    refine ⟨(fun h => by cases h), (fun h => by cases h), fun _ c M hc hev hr => ?_⟩
    obtain ⟨o, h2⟩ := ih.2.2 rfl c M hc hev (by push_cast at hr; omega)
    have hpe : e.part = some (.word e.l) := by
      unfold EvM.part partOf
      simp [hk]
    have hfull : (Cont.mk c.pairs c.count (c.parts + 2 * n)).full = false := by
      simp [Cont.full, Cont.between, hc]
      push_cast at hr
      omega
    have hstep : stepE (⟨c.pairs, c.count, c.parts + 2 * n⟩ :: M) false e.part = (0, wordB e.l, ⟨c.pairs, c.count, c.parts + 2 * n + 1⟩ :: M, false) := by
      rw [hpe]
      simp [stepE, stepC, Part.may, Part.isClose, hfull, Cont.takes, Part.isWord, Part.opens, Cont.more, partR, plainR]
    obtain ⟨o2, h4⟩ := ihF.1 rfl (⟨c.pairs, c.count, c.parts + 2 * n + 1⟩ :: M) (.inr ⟨_, _, rfl, by simp [Cont.full, Cont.between, hc]; omega, .inr (by simp [Cont.between, hc]; omega)⟩)
    refine ⟨o ++ wordB e.l ++ o2, fun out => ?_⟩
    rw [runE_append, h2]
    simp only [Option.bind_some]
    rw [runE_cons hstep, h4]
    simp [bump, Cont.more, Nat.add_assoc, Nat.mul_add]
end Go.Proofs.Yteggfobeaolafaa
