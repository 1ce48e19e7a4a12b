/-
  A region that draws its order, walked in ONE order, stage by stage: in each stage first operations that yield in whatever world (T), then operations that only read (ks), then operations each of which is forced (ts).
-/
import Derived.Test.YtlkedcdhboahbaaDraw
namespace Go.Proofs.Ytlkedcdhboahbaa
open Go

section
variable {P : Program} {ops : Array Oper} {Q : Exit → Act → World → Prop} {md : Region.Mode} {w : World}

theorem upon_then {K K2 : Act → World → Prop} {o : Oper} {a : Act} (r : Result Next) (h : o.upon P a K (Exit.then K2 Q) r) : o.upon P a K Q r := by
  cases r with
  | ok n w =>
    cases n with
    | enter f args => exact Calls.mono h (fun e w' h' => by cases e <;> exact h')
    | _ => exact h
  | halt x w =>
    cases x <;> exact h
theorem wpOp_then {K K2 : Act → World → Prop} {i : Nat} {a : Act} (h : wpOp P ops (Exit.then K2 Q) i K a w) : wpOp P ops Q i K a w := by
  unfold wpOp at h ⊢
  cases hi : ops[i]? with
  | none => simpa only [hi] using h
  | some o =>
    simp only [hi] at h ⊢
    split
    · rename_i hw
      rw [if_pos hw] at h
      rcases h with h | h
      · exact .inl (upon_then _ h)
      · exact .inr h
    · rename_i hw
      rwa [if_neg hw] at h

def forcedK (md : Region.Mode) (ops : Array Oper) : Array Bool → List Nat → Bool
  | _, [] => true
  | listed, t :: ts => decide (Region.ready md ops listed = [t]) && (ops[t]?).isSome && forcedK md ops (listed.setIfInBounds t true) ts

theorem wpAny_forcedK {K : Act → World → Prop} : ∀ (ts : List Nat) (g : Nat) (listed : Array Bool) (a : Act) (w : World), forcedK md ops listed ts = true →
    (∀ a w, K a w → wpAny P md ops Q g (setAll listed ts) a w) → wpList P ops (Exit.then K Q) (opsAt ops.toList ts) a w → wpAny P md ops Q (ts.length + g) listed a w
  | [], g, listed, a, w, _, hK, h => by rw [List.length_nil, Nat.zero_add]; exact hK a w h
  | t :: ts, g, listed, a, w, hB, hK, h => by
    rw [List.length_cons, show ts.length + 1 + g = (ts.length + g) + 1 by omega]
    simp only [forcedK, Bool.and_eq_true, decide_eq_true_eq] at hB
    obtain ⟨⟨hr, ho⟩, hB⟩ := hB
    obtain ⟨o, ho⟩ := Option.isSome_iff_exists.1 ho
    have hlo : ops.toList[t]? = some o := by simpa using ho
    simp only [opsAt, hlo] at h
    refine ⟨fun h1 => (by rw [hr] at h1; cases h1), fun i hi => ?_⟩
    rw [hr] at hi
    have hit : i = t := by simpa using hi
    subst hit
    have hw : wpOp P ops (Exit.then K Q) i (wpList P ops (Exit.then K Q) (opsAt ops.toList ts)) a w := by unfold wpOp; simp only [ho]; exact h
    exact wpOp_mono (fun a' w' h' => wpAny_forcedK ts g _ a' w' hB hK h') (wpOp_then hw)

/-- All that is asked of the stages. -/
def stagesB (md : Region.Mode) (ops : Array Oper) : Array Bool → List (List Nat × List Nat × List Nat) → Bool
  | l0, [] => (Region.ready md ops l0).isEmpty
  | l0, (T, ks, ts) :: r =>
    let l1 := setAll l0 T
    let l2 := setAll l1 ks
    takesB md ops l0 T && closedB md ops l1 && chainTo md ops (ts.headD ops.size) ks && restB md ops l1 ks (ts.headD ops.size) &&
      (Region.ready md ops l2).all (fun j => !ks.contains j) && lexB md ops l1 ks && forcedK md ops l2 ts && stagesB md ops (setAll l2 ts) r
def stagesN : List (List Nat × List Nat × List Nat) → Nat
  | [] => 0
  | (T, ks, ts) :: r => ks.length + (ts.length + stagesN r) + T.length
def wpStages (P : Program) (l : List Oper) (Q : Exit → Act → World → Prop) : List (List Nat × List Nat × List Nat) → Act → World → Prop
  | [], a, w => Q .normal a w
  | (T, ks, ts) :: r, a, w => wpPure P l.toArray (fun a1 => wpStill P l.toArray w (fun a2 => wpList P l.toArray (Exit.then (wpStages P l Q r) Q) (opsAt l ts) a2 w) (opsAt l ks) a1) (opsAt l T) a

theorem wpStages_nil {l : List Oper} {Q : Exit → Act → World → Prop} {a : Act} (h : Q .normal a w) : wpStages P l Q [] a w := h
theorem wpStages_cons {l : List Oper} {Q : Exit → Act → World → Prop} {a : Act} {T ks ts : List Nat} {r : List (List Nat × List Nat × List Nat)}
    (h : wpPure P l.toArray (fun a1 => wpStill P l.toArray w (fun a2 => wpList P l.toArray (Exit.then (wpStages P l Q r) Q) (opsAt l ts) a2 w) (opsAt l ks) a1) (opsAt l T) a) : wpStages P l Q ((T, ks, ts) :: r) a w := h
/-- An operation that yields, guarded or not. -/
theorem wpPure_stage {Q : Act → Prop} {a : Act} {o : Oper} {rest : List Oper}
    (h : ∀ K : Act → Prop, (∀ a, wpPure P ops Q rest a → K a) → if Region.wanted o (yielded ops a.tmps) = true then ∃ v, (∀ w, (execOp a.eval o).run P w = .ok (.value v) w) ∧ K (a.put o.dst v) else K (a.put o.dst undef)) : wpPure P ops Q (o :: rest) a := by
  have h1 := h (wpPure P ops Q rest) (fun _ h => h)
  by_cases hw : Region.wanted o (yielded ops a.tmps) = true
  · rw [if_pos hw] at h1
    obtain ⟨v, hy, h1⟩ := h1
    exact ⟨v, .inl ⟨hw, hy⟩, h1⟩
  · rw [if_neg hw] at h1
    exact ⟨undef, .inr ⟨by simpa using hw, rfl⟩, h1⟩

theorem wpPure_mono : ∀ (is : List Oper) (a : Act) (R R' : Act → Prop), (∀ a, R a → R' a) → wpPure P ops R is a → wpPure P ops R' is a := by
  intro is
  induction is with
  | nil => intro a R R' hh h; exact hh a h
  | cons o is ih => intro a R R' hh h; obtain ⟨v, hy, h⟩ := h; exact ⟨v, hy, ih _ R R' hh h⟩

theorem wpAny_stages {l : List Oper} (hsel : Region.noSelect l.toArray = true) (hQ : ∀ c a w, ∀ (d : Tmp) v, Q (.panic c) (Act.put a (some d) v) w → Q (.panic c) a w) :
    ∀ (st : List (List Nat × List Nat × List Nat)) (l0 : Array Bool) (a : Act) (w : World), stagesB md l.toArray l0 st = true → wpStages P l Q st a w → wpAny P md l.toArray Q (stagesN st) l0 a w
  | [], l0, a, w, hB, h => wpAny_done (by simpa [stagesB] using hB) h _
  | (T, ks, ts) :: r, l0, a, w, hB, h => by
    simp only [stagesB, Bool.and_eq_true] at hB
    obtain ⟨⟨⟨⟨⟨⟨⟨htk, hcl⟩, hch⟩, hrest⟩, hfin⟩, hlex⟩, hforced⟩, hnext⟩ := hB
    refine wpAny_takes hsel hQ T (ks.length + (ts.length + stagesN r)) _ a w htk ?_
    refine wpPure_mono _ _ _ _ (fun a1 h1 => ?_) h
    refine wpAny_of_blk (ks := ks) (L := fun listed' a' => listed' = setAll (setAll l0 T) ks ∧ wpList P l.toArray (Exit.then (wpStages P l Q r) Q) (opsAt l ts) a' w) (fun listed a hL => ?_) ks.length _ a1 ?_
    · rw [hL.1]
      exact wpAny_forcedK ts (stagesN r) _ a w hforced (fun a w hK => wpAny_stages hsel hQ r _ a w hnext hK) hL.2
    · refine wpBlk_lex (m := ts.headD l.toArray.size) (listed0 := setAll l0 T) hsel hch hrest ?_ ks _ a1 (fun _ h => h) (closed_spec hcl) hlex rfl h1
      intro j hj hk
      have := List.all_eq_true.1 hfin j hj
      rw [List.contains_iff_mem.2 hk] at this
      cases this

theorem wp_region_stages {id : Nat} {a : Act} {l : List Oper} (st : List (List Nat × List Nat × List Nat)) (hm : P.follows .mixedOrders = true) (hsel : Region.noSelect l.toArray = true)
    (hB : stagesB .any l.toArray (Array.replicate l.toArray.size false) st = true) (hN : decide (stagesN st ≤ l.toArray.size) = true)
    (hQ : ∀ c a w, ∀ (d : Tmp) v, Q (.panic c) (Act.put a (some d) v) w → Q (.panic c) a w)
    (h : wpStages P l Q st a w.drew) : (Code.region id l.toArray true).wp P Q a w :=
  wp_region_any hm (wpAny_fuel _ _ _ _ _ (of_decide_eq_true hN) (wpAny_stages hsel hQ st _ a w.drew hB h))
end
end Go.Proofs.Ytlkedcdhboahbaa
