/-
  What Doc makes, written by the pure model: no part is refused, the document is at its end at the last part alone.
-/
import Derived.Test.YtjegeoeebbfajaaCbDd
import Derived.Test.YtjegeoeebbfajaaCbW
namespace Go.Proofs.Ytjegeoeebbfajaa
open Go.RowKit

/-- The same part with its count not known. -/
def evOpen (b : Bool) (e : EvM) : EvM := if b = true ∧ (e.k = 5 ∨ e.k = 6) then ⟨e.k, e.y, e.m, e.l, -1⟩ else e
/-- How many bytes it takes. -/
def evLen (b : Bool) (e : EvM) : Nat := if e.k = 7 then (if b then 1 else 0) else if e.k = 5 ∨ e.k = 6 then 1 else match e.part with | some pt => (partB pt).length | none => 0
def szL (b : Bool) (E : List EvM) : Nat := (E.map (evLen b)).sum
theorem szL_append (b : Bool) (E F : List EvM) : szL b (E ++ F) = szL b E + szL b F := by simp [szL]
theorem szL_cons (b : Bool) (e : EvM) (E : List EvM) : szL b (e :: E) = evLen b e + szL b E := by simp [szL]
def runE : List EvM → List Cont → Bool → List UInt8 → Option (List Cont × Bool × List UInt8)
  | [], R, d, out => some (R, d, out)
  | e :: E, R, d, out => if (stepE R d e.part).1 = 0 then runE E (stepE R d e.part).2.2.1 (stepE R d e.part).2.2.2 (out ++ (stepE R d e.part).2.1) else none
theorem runE_cons {e : EvM} {E : List EvM} {R R' : List Cont} {d d' : Bool} {s out : List UInt8} (h : stepE R d e.part = (0, s, R', d')) : runE (e :: E) R d out = runE E R' d' (out ++ s) := by
  simp [runE, h]
theorem runE_append : ∀ (E F : List EvM) (R : List Cont) (d : Bool) (out : List UInt8), runE (E ++ F) R d out = (runE E R d out).bind fun x => runE F x.1 x.2.1 x.2.2
  | [], F, R, d, out => rfl
  | e :: E, F, R, d, out => by
    simp only [List.cons_append, runE]
    split
    · exact runE_append E F _ _ _
    · rfl
/-- A part may come. -/
def Acc (R : List Cont) : Prop := R = [] ∨ ∃ c M, R = c :: M ∧ c.full = false ∧ (c.pairs = false ∨ c.between = true)
def bump : List Cont → List Cont
  | [] => []
  | c :: M => c.more :: M
theorem bump_nil (R : List Cont) : decide (bump R = []) = decide (R = []) := by cases R <;> simp [bump]
theorem leaf_part {e : EvM} (h : Leaf e) : ∃ pt, e.part = some pt ∧ pt.isBegin = false ∧ pt.isClose = false ∧ pt.may = true ∧ pt.opens = [] := by
  obtain ⟨k, y, m, l, c⟩ := e
  obtain ⟨h1, h2, _⟩ := h
  simp only at h1 h2
  have h5 : k = 0 ∨ k = 1 ∨ k = 2 ∨ k = 3 ∨ k = 4 := by omega
  rcases h5 with rfl | rfl | rfl | rfl | rfl <;> exact ⟨_, rfl, rfl, rfl, rfl, rfl⟩
theorem step_acc {R : List Cont} (h : Acc R) {pt : Part} (hm : pt.may = true) (hc : pt.isClose = false) : stepE R false (some pt) = (0, partB pt, pt.opens ++ bump R, decide (R = []) && !pt.isBegin) := by
  rcases h with rfl | ⟨c, M, rfl, hf, ht⟩
  · simp [stepE, stepC, hm, hc, bump]
  · have ht2 : c.takes pt = true := by
      rcases ht with h | h <;> simp [Cont.takes, h]
    simp [stepE, stepC, hm, hc, bump, hf, ht2]
theorem open_leaf (b : Bool) {e : EvM} (h : Leaf e) : evOpen b e = e := by
  unfold evOpen
  rw [if_neg (by have := h.2.1; omega)]
theorem len_leaf (b : Bool) {e : EvM} (h : Leaf e) {pt : Part} (hp : e.part = some pt) : evLen b e = (partB pt).length := by
  unfold evLen
  rw [if_neg (by have := h.2.1; omega), if_neg (by have := h.2.1; omega), hp]
theorem run_leaf (b : Bool) {e : EvM} (h : Leaf e) {R : List Cont} (hR : Acc R) : ∃ s, s.length = evLen b e ∧ stepE R false (evOpen b e).part = (0, s, bump R, decide (R = [])) := by
  obtain ⟨pt, hp, h1, h2, h3, h4⟩ := leaf_part h
  refine ⟨partB pt, (len_leaf b h hp).symm, ?_⟩
  rw [open_leaf b h, hp, step_acc hR h3 h2, h4, h1]
  simp
def ccOf (b : Bool) (n : Nat) : Int := if b then -1 else n
theorem open_arr (b : Bool) (n : Nat) : (evOpen b (arrE n)).part = some (.begin_ false (ccOf b n)) := by
  cases b <;> simp [evOpen, arrE, EvM.part, partOf, ccOf]
theorem open_map (b : Bool) (n : Nat) : (evOpen b (mapE n)).part = some (.begin_ true (ccOf b n)) := by
  cases b <;> simp [evOpen, mapE, EvM.part, partOf, ccOf]
theorem open_end (b : Bool) : (evOpen b endE).part = some .close := by
  cases b <;> simp [evOpen, endE, EvM.part, partOf]
theorem head_len (b m : Bool) (n : Nat) (hn : n ≤ 3) : (headB m (ccOf b n)).length = 1 := by
  cases b <;> simp [headB, ccOf, putL]
  · rw [if_neg (by omega), if_pos (by omega)]; simp
theorem run_open (b m : Bool) (n : Nat) {R : List Cont} (hR : Acc R) : stepE R false (some (.begin_ m (ccOf b n))) = (0, headB m (ccOf b n), ⟨m, ccOf b n, 0⟩ :: bump R, false) := by
  have hm : (Part.begin_ m (ccOf b n)).may = true := by cases b <;> simp [Part.may, ccOf]
  rw [step_acc hR hm rfl]
  simp [partB, Part.opens, Part.isBegin]
theorem run_end (b : Bool) (c : Cont) (he : c.ends = true) (hb : decide (c.count < 0) = b) (R : List Cont) : ∃ s, s.length = evLen b endE ∧ stepE (c :: R) false (some .close) = (0, s, R, decide (R = [])) := by
  refine ⟨endB c, ?_, ?_⟩
  · subst hb
    unfold endB evLen endE
    by_cases h : c.count < 0 <;> simp [h]
  · simp [stepE, stepC, Part.may, Part.isClose, he]

theorem tree_run (b : Bool) {k n : Nat} {E : List EvM} (h : Tree k n E) :
    (k = 0 → ∀ R, Acc R → ∃ o, o.length = szL b E ∧ ∀ out, runE (E.map (evOpen b)) R false out = some (bump R, decide (R = []), out ++ o)) ∧
    (k = 1 → ∀ (c : Cont) (M : List Cont), c.pairs = false → (c.count = -1 ∨ (c.parts : Int) + n ≤ c.count) → ∃ o, o.length = szL b E ∧ ∀ out, runE (E.map (evOpen b)) (c :: M) false out = some (⟨c.pairs, c.count, c.parts + n⟩ :: M, false, out ++ o)) ∧
    (k = 2 → ∀ (c : Cont) (M : List Cont), c.pairs = true → c.parts % 2 = 0 → (c.count = -1 ∨ (c.parts : Int) + 2 * n ≤ 2 * c.count) → ∃ o, o.length = szL b E ∧ ∀ out, runE (E.map (evOpen b)) (c :: M) false out = some (⟨c.pairs, c.count, c.parts + 2 * n⟩ :: M, false, out ++ o)) := by
  induction h with
  | leaf e h =>
    refine ⟨fun _ R hR => ?_, (fun h => by cases h), (fun h => by cases h)⟩
    obtain ⟨s, h1, h2⟩ := run_leaf b h hR
    refine ⟨s, by simp [szL, h1], fun out => ?_⟩
    rw [List.map_cons, runE_cons h2]
    rfl
  | arr n E hn h ih =>
    refine ⟨fun _ R hR => ?_, (fun h => by cases h), (fun h => by cases h)⟩
    obtain ⟨o, h1, h2⟩ := ih.2.1 rfl ⟨false, ccOf b n, 0⟩ (bump R) rfl (by cases b <;> simp [ccOf])
    obtain ⟨s, h3, h4⟩ := run_end b ⟨false, ccOf b n, 0 + n⟩ (by cases b <;> simp [ccOf, Cont.ends, Cont.between, Cont.full]) (by cases b <;> simp [ccOf]) (bump R)
    refine ⟨headB false (ccOf b n) ++ o ++ s, ?_, fun out => ?_⟩
    · have e1 : evLen b (arrE n) = 1 := by simp [evLen, arrE]
      rw [szL_cons, szL_append, e1, List.length_append, List.length_append, head_len b false n hn, h1, h3]
      simp [szL]
      omega
    · have h5 := run_open b false n hR
      rw [← open_arr] at h5
      rw [← open_end b] at h4
      rw [List.map_cons, List.map_append, runE_cons h5, runE_append, h2]
      simp only [Option.bind_some, List.map_cons, List.map_nil]
      rw [runE_cons h4, bump_nil]
      simp [runE]
  | map n E hn h ih =>
    refine ⟨fun _ R hR => ?_, (fun h => by cases h), (fun h => by cases h)⟩
    obtain ⟨o, h1, h2⟩ := ih.2.2 rfl ⟨true, ccOf b n, 0⟩ (bump R) rfl (by simp) (by cases b <;> simp [ccOf])
    obtain ⟨s, h3, h4⟩ := run_end b ⟨true, ccOf b n, 0 + 2 * n⟩ (by cases b <;> simp [ccOf, Cont.ends, Cont.between, Cont.full]) (by cases b <;> simp [ccOf]) (bump R)
    refine ⟨headB true (ccOf b n) ++ o ++ s, ?_, fun out => ?_⟩
    · have e1 : evLen b (mapE n) = 1 := by simp [evLen, mapE]
      rw [szL_cons, szL_append, e1, List.length_append, List.length_append, head_len b true n hn, h1, h3]
      simp [szL]
      omega
    · have h5 := run_open b true n hR
      rw [← open_map] at h5
      rw [← open_end b] at h4
      rw [List.map_cons, List.map_append, runE_cons h5, runE_append, h2]
      simp only [Option.bind_some, List.map_cons, List.map_nil]
      rw [runE_cons h4, bump_nil]
      simp [runE]
  | nil1 =>
    refine ⟨(fun h => by cases h), fun _ c M _ _ => ⟨[], by simp [szL], fun out => by simp [runE]⟩, (fun h => by cases h)⟩
  | snoc1 n E F h hF ih ihF =>
    refine ⟨(fun h => by cases h), fun _ c M hc hr => ?_, (fun h => by cases h)⟩
    obtain ⟨o, h1, h2⟩ := ih.2.1 rfl c M hc (by push_cast at hr; omega)
    obtain ⟨o2, h3, h4⟩ := ihF.1 rfl (⟨c.pairs, c.count, c.parts + n⟩ :: M) (.inr ⟨_, _, rfl, by simp [Cont.full, hc]; push_cast at hr; omega, .inl hc⟩)
    refine ⟨o ++ o2, by rw [List.length_append, h1, h3, szL_append], fun out => ?_⟩
    rw [List.map_append, runE_append, h2]
    simp only [Option.bind_some]
    rw [h4]
    simp [bump, Cont.more, Nat.add_assoc]
  | nil2 =>
    refine ⟨(fun h => by cases h), (fun h => by cases h), fun _ c M _ _ _ => ⟨[], by simp [szL], fun out => by simp [runE]⟩⟩
  | snoc2 n E F e h he hk hF ih ihF =>
    refine ⟨(fun h => by cases h), (fun h => by cases h), fun _ c M hc hev hr => ?_⟩
    obtain ⟨o, h1, h2⟩ := ih.2.2 rfl c M hc hev (by push_cast at hr; omega)
    have hpe : e.part = some (.word e.l) := by
      unfold EvM.part partOf
      simp [hk]
    have hfull : (Cont.mk c.pairs c.count (c.parts + 2 * n)).full = false := by
      simp [Cont.full, Cont.between, hc]
      push_cast at hr
      omega
    have hstep : stepE (⟨c.pairs, c.count, c.parts + 2 * n⟩ :: M) false (evOpen b e).part = (0, partB (.word e.l), ⟨c.pairs, c.count, c.parts + 2 * n + 1⟩ :: M, false) := by
      rw [open_leaf b he, hpe]
      simp [stepE, stepC, Part.may, Part.isClose, hfull, Cont.takes, Part.isWord, Part.opens, Cont.more]
    obtain ⟨o2, h3, h4⟩ := ihF.1 rfl (⟨c.pairs, c.count, c.parts + 2 * n + 1⟩ :: M) (.inr ⟨_, _, rfl, by simp [Cont.full, Cont.between, hc]; omega, .inr (by simp [Cont.between, hc]; omega)⟩)
    refine ⟨o ++ partB (.word e.l) ++ o2, by rw [List.length_append, List.length_append, h1, h3, szL_append, szL_cons, len_leaf b he hpe]; omega, fun out => ?_⟩
    rw [List.map_append, runE_append, h2]
    simp only [Option.bind_some, List.map_cons]
    rw [runE_cons hstep, h4]
    simp [bump, Cont.more, Nat.add_assoc, Nat.mul_add]
end Go.Proofs.Ytjegeoeebbfajaa
