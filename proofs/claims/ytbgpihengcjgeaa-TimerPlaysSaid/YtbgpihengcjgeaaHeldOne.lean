/-
  A region that draws its order and writes: first operations whose readings hold in every world that meets S (T), then the others by a tree of orders. S is asked behind every operation but the last one (m), which waits for all of T.
-/
import Derived.Test.YtbgpihengcjgeaaDraw
import Derived.OrdersHeld
namespace Go.Proofs.Ytbgpihengcjgeaa
open Go

section
variable {P : Program} {ops : Array Oper} {Q : Exit → Act → World → Prop} {md : Region.Mode} {S : World → Prop} {m : Nat}

/-- Operations that yield in every world that meets S. -/
def wpPureH (P : Program) (ops : Array Oper) (S : World → Prop) (Q : Act → Prop) : List Oper → Act → Prop
  | [], a => Q a
  | o :: rest, a => ∃ v, YieldsIf P ops S o v a ∧ wpPureH P ops S Q rest (a.put o.dst v)
theorem wpPureH_nil {Q : Act → Prop} {a : Act} (h : Q a) : wpPureH P ops S Q [] a := h
theorem wpPureH_move {Q : Act → Prop} {a : Act} {o : Oper} {rest : List Oper} (x : Operand) (ho : o.op = .move x) (hg : o.guard = none) (h : wpPureH P ops S Q rest (a.put o.dst (a.eval x))) : wpPureH P ops S Q (o :: rest) a :=
  ⟨a.eval x, .inl ⟨by simp [Region.wanted, hg], fun w _ => by unfold execOp; rw [ho]; rfl⟩, h⟩
theorem wpPureH_step {Q : Act → Prop} {a : Act} {o : Oper} {rest : List Oper} {v : Value} (hg : o.guard = none) (hy : ∀ w, S w → (execOp a.eval o).run P w = .ok (.value v) w) (h : wpPureH P ops S Q rest (a.put o.dst v)) : wpPureH P ops S Q (o :: rest) a :=
  ⟨v, .inl ⟨by simp [Region.wanted, hg], hy⟩, h⟩
theorem wpPureH_mono : ∀ (is : List Oper) (a : Act) (R R' : Act → Prop), (∀ a, R a → R' a) → wpPureH P ops S R is a → wpPureH P ops S R' is a := by
  intro is
  induction is with
  | nil => intro a R R' hh h; exact hh a h
  | cons o is ih => intro a R R' hh h; obtain ⟨v, hy, h⟩ := h; exact ⟨v, hy, ih _ R R' hh h⟩

/-- Whatever order is picked from here on, and S holds behind every operation but m. -/
def wpAnyG (P : Program) (md : Region.Mode) (ops : Array Oper) (Q : Exit → Act → World → Prop) (S : World → Prop) (m : Nat) : Nat → Array Bool → Act → World → Prop
  | 0, listed, a, w => Region.ready md ops listed = [] ∧ Q .normal a w
  | fuel + 1, listed, a, w =>
    (Region.ready md ops listed = [] → Q .normal a w) ∧
    ∀ i ∈ Region.ready md ops listed, wpOp P ops Q i (fun a' w' => (i = m ∨ S w') ∧ wpAnyG P md ops Q S m fuel (listed.setIfInBounds i true) a' w') a w
theorem wpAny_of_G : ∀ (fuel : Nat) (listed : Array Bool) (a : Act) (w : World), wpAnyG P md ops Q S m fuel listed a w → wpAny P md ops Q fuel listed a w
  | 0, _, _, _, h => h
  | fuel + 1, _, _, _, h => ⟨h.1, fun i hi => wpOp_mono (fun a' w' h' => wpAny_of_G fuel _ a' w' h'.2) (h.2 i hi)⟩

theorem wpAnyG_first {i : Nat} {oi : Oper} {v : Value} (hi : ops[i]? = some oi) (hsel : ∀ (j : Nat) (o : Oper) cs b, ops[j]? = some o → o.op ≠ .select cs b)
    (hQ : ∀ c a w, Q (.panic c) (a.put oi.dst v) w → Q (.panic c) a w) (hwm : (decide (ops.size ≤ m) || Region.waitsFor md ops m i) = true) :
    ∀ (fuel : Nat) (listed : Array Bool) (a : Act) (w : World),
      (∀ j oj, ops[j]? = some oj → j ≠ i → listed.getD j true = false → (∀ e ∈ oj.after, Region.binds md e = true → e.on ≠ i) → oi.apart ops oj = true) →
      i ∈ Region.ready md ops listed → YieldsIf P ops S oi v a → S w →
      wpAnyG P md ops Q S m fuel (listed.setIfInBounds i true) (a.put oi.dst v) w → wpAnyG P md ops Q S m (fuel + 1) listed a w := by
  intro fuel
  induction fuel with
  | zero =>
    intro listed a w _ hr hy hS H
    refine ⟨fun h => (by rw [h] at hr; cases hr), fun j hj => ?_⟩
    by_cases hji : j = i
    · subst hji; exact hy.wpOp hi hS ⟨.inr hS, H⟩
    · have := ready_mono hj hji
      rw [H.1] at this
      cases this
  | succ fuel ih =>
    intro listed a w hfree hr hy hS H
    refine ⟨fun h => (by rw [h] at hr; cases hr), fun j hj => ?_⟩
    by_cases hji : j = i
    · subst hji; exact hy.wpOp hi hS ⟨.inr hS, H⟩
    · have h1 := H.2 j (ready_mono hj hji)
      obtain ⟨hjun, oj, hoj, hall⟩ := mem_ready.1 hj
      have hnot : ∀ e ∈ oj.after, Region.binds md e = true → e.on ≠ i := fun e he hb heq => by
        have h1 := hall e he hb
        have h0 := (mem_ready.1 hr).1
        rw [heq] at h1
        rcases Nat.lt_or_ge i listed.size with h' | h'
        · simp [h'] at h0 h1; rw [h0] at h1; cases h1
        · simp [Array.getElem?_eq_none h'] at h1
      have hjm : j ≠ m := by
        rintro rfl
        have hjlt : j < ops.size := (Array.getElem?_eq_some_iff.1 hoj).1
        rw [decide_eq_false (by omega), Bool.false_or] at hwm
        obtain ⟨ou, hou, e, he, hb, hon⟩ := Region.waitsFor_spec hwm
        have : ou = oj := Option.some.inj (hou.symm.trans hoj)
        subst this
        exact hnot e he hb hon
      have h2 := wpOp_putIf hoj (hfree j oj hoj hji hjun hnot) (fun cs b => hsel i oi cs b hi) (fun cs b => hsel j oj cs b hoj) hQ hy h1
      have hfree' : ∀ k ok, ops[k]? = some ok → k ≠ i → (listed.setIfInBounds j true).getD k true = false →
          (∀ e ∈ ok.after, Region.binds md e = true → e.on ≠ i) → oi.apart ops ok = true := fun k ok hk hki hun hno => by
        refine hfree k ok hk hki ?_ hno
        by_cases hjk : j = k
        · subst hjk; exact hjun
        · rw [getD_set_ne true hjk] at hun; exact hun
      refine wpOp_mono (fun a' w' h3 => ?_) h2
      have hS' : S w' := h3.2.1.resolve_left hjm
      refine ⟨.inr hS', ih (listed.setIfInBounds j true) a' w' hfree' (ready_mono hr (Ne.symm hji)) h3.1 hS' ?_⟩
      rw [Array.setIfInBounds_comm _ _ hji]
      exact h3.2.2

theorem wpAnyG_takes (hs : Region.noSelect ops = true) (hQ : ∀ c a w, ∀ (d : Tmp) v, Q (.panic c) (Act.put a (some d) v) w → Q (.panic c) a w) :
    ∀ (T : List Nat) (fuel : Nat) (listed : Array Bool) (a : Act) (w : World), takesB md ops listed T = true → T.all (fun i => decide (ops.size ≤ m) || Region.waitsFor md ops m i) = true → S w →
      wpPureH P ops S (fun a' => wpAnyG P md ops Q S m fuel (setAll listed T) a' w) (opsAt ops.toList T) a → wpAnyG P md ops Q S m (fuel + T.length) listed a w
  | [], fuel, listed, a, w, _, _, _, h => h
  | i :: is, fuel, listed, a, w, hB, hW, hS, h => by
    simp only [takesB, Bool.and_eq_true] at hB
    obtain ⟨⟨⟨hr, hf⟩, hdo⟩, hB⟩ := hB
    rw [List.all_cons, Bool.and_eq_true] at hW
    obtain ⟨d, hd⟩ := Option.isSome_iff_exists.1 hdo
    obtain ⟨o, ho, hod⟩ := Option.bind_eq_some_iff.1 hd
    have hl : ops.toList[i]? = some o := by simpa using ho
    simp only [opsAt, hl, wpPureH] at h
    obtain ⟨v, hy, h⟩ := h
    exact wpAnyG_first ho (Region.noSelect_spec hs) (fun c a w => by rw [hod]; exact hQ c a w d v) hW.1 (fuel + is.length) listed a w (Region.free_spec ho hf) (by simpa using hr) hy hS
      (wpAnyG_takes hs hQ is fuel _ _ w hB hW.2 hS h)

/-- Orders: the next one is forced; or two may be next. -/
inductive OT where
  | fin
  | step (t : Nat) (r : OT)
  | two (t : Nat) (r : OT) (u : Nat) (s : OT)
  | take (T : List Nat) (r : OT)
def OT.ok (md : Region.Mode) (ops : Array Oper) (m : Nat) : Array Bool → OT → Bool
  | l, .fin => (Region.ready md ops l).isEmpty
  | l, .step t r => decide (Region.ready md ops l = [t]) && (ops[t]?).isSome && r.ok md ops m (l.setIfInBounds t true)
  | l, .two t r u s => decide (Region.ready md ops l = [t, u]) && (ops[t]?).isSome && (ops[u]?).isSome && r.ok md ops m (l.setIfInBounds t true) && s.ok md ops m (l.setIfInBounds u true)
  | l, .take T r => takesB md ops l T && T.all (fun i => decide (ops.size ≤ m) || Region.waitsFor md ops m i) && r.ok md ops m (setAll l T)
def OT.depth : OT → Nat
  | .fin => 0
  | .step _ r => r.depth + 1
  | .two _ r _ s => max r.depth s.depth + 1
  | .take T r => r.depth + T.length
def wpTree (P : Program) (l : List Oper) (Q : Exit → Act → World → Prop) (S : World → Prop) (m : Nat) : OT → Act → World → Prop
  | .fin, a, w => Q .normal a w
  | .step t r, a, w => wpList P l.toArray (Exit.then (fun a' w' => (t = m ∨ S w') ∧ wpTree P l Q S m r a' w') Q) (opsAt l [t]) a w
  | .two t r u s, a, w => wpList P l.toArray (Exit.then (fun a' w' => (t = m ∨ S w') ∧ wpTree P l Q S m r a' w') Q) (opsAt l [t]) a w ∧
      wpList P l.toArray (Exit.then (fun a' w' => (u = m ∨ S w') ∧ wpTree P l Q S m s a' w') Q) (opsAt l [u]) a w
  | .take T r, a, w => S w ∧ wpPureH P l.toArray S (fun a' => wpTree P l Q S m r a' w) (opsAt l T) a
theorem wpTree_step {l : List Oper} {t : Nat} {r : OT} {a : Act} {w : World} (h : wpList P l.toArray (Exit.then (fun a' w' => (t = m ∨ S w') ∧ wpTree P l Q S m r a' w') Q) (opsAt l [t]) a w) : wpTree P l Q S m (.step t r) a w := h
theorem wpTree_two {l : List Oper} {t u : Nat} {r s : OT} {a : Act} {w : World} (h1 : wpTree P l Q S m (.step t r) a w) (h2 : wpTree P l Q S m (.step u s) a w) : wpTree P l Q S m (.two t r u s) a w := ⟨h1, h2⟩
theorem wpTree_take {l : List Oper} {T : List Nat} {r : OT} {a : Act} {w : World} (hS : S w) (h : wpPureH P l.toArray S (fun a' => wpTree P l Q S m r a' w) (opsAt l T) a) : wpTree P l Q S m (.take T r) a w := ⟨hS, h⟩
theorem wpTree_fin {l : List Oper} {a : Act} {w : World} (h : Q .normal a w) : wpTree P l Q S m .fin a w := h
theorem upon_thenH {K K2 : Act → World → Prop} {o : Oper} {a : Act} (r : Result Next) (h : o.upon P a K (Exit.then K2 Q) r) : o.upon P a K Q r := by
  cases r with
  | ok n w =>
    cases n with
    | enter f args => exact Calls.mono h (fun e w' h' => by cases e <;> exact h')
    | _ => exact h
  | halt x w =>
    cases x <;> exact h
theorem wpOp_thenH {K K2 : Act → World → Prop} {i : Nat} {a : Act} {w : World} (h : wpOp P ops (Exit.then K2 Q) i K a w) : wpOp P ops Q i K a w := by
  unfold wpOp at h ⊢
  cases hi : ops[i]? with
  | none => simpa only [hi] using h
  | some o =>
    simp only [hi] at h ⊢
    split
    · rename_i hw
      rw [if_pos hw] at h
      rcases h with h | h
      · exact .inl (upon_thenH _ h)
      · exact .inr h
    · rename_i hw
      rwa [if_neg hw] at h
theorem wpOp_of_one {l : List Oper} {t : Nat} {K : Act → World → Prop} {a : Act} {w : World} (ho : (l.toArray[t]?).isSome = true) (h : wpList P l.toArray (Exit.then K Q) (opsAt l [t]) a w) : wpOp P l.toArray Q t K a w := by
  obtain ⟨o, ho⟩ := Option.isSome_iff_exists.1 ho
  have hlo : l[t]? = some o := by simpa using ho
  simp only [opsAt, hlo] at h
  have hw : wpOp P l.toArray (Exit.then K Q) t (wpList P l.toArray (Exit.then K Q) []) a w := by unfold wpOp; simp only [ho]; exact h
  exact wpOp_mono (fun a' w' h' => h') (wpOp_thenH hw)
theorem wpAnyG_tree {l : List Oper} (hsel : Region.noSelect l.toArray = true) (hQ : ∀ c a w, ∀ (d : Tmp) v, Q (.panic c) (Act.put a (some d) v) w → Q (.panic c) a w) : ∀ (tr : OT) (fuel : Nat) (listed : Array Bool) (a : Act) (w : World), tr.ok md l.toArray m listed = true → tr.depth ≤ fuel → wpTree P l Q S m tr a w → wpAnyG P md l.toArray Q S m fuel listed a w
  | .fin, 0, listed, a, w, hB, _, h => ⟨by simpa [OT.ok] using hB, h⟩
  | .fin, fuel + 1, listed, a, w, hB, _, h => ⟨fun _ => h, fun i hi => by
      have : Region.ready md l.toArray listed = [] := by simpa [OT.ok] using hB
      rw [this] at hi; cases hi⟩
  | .step t r, 0, _, _, _, _, hd, _ => by simp [OT.depth] at hd
  | .step t r, fuel + 1, listed, a, w, hB, hd, h => by
    simp only [OT.ok, Bool.and_eq_true, decide_eq_true_eq] at hB
    refine ⟨fun h1 => (by rw [hB.1.1] at h1; cases h1), fun i hi => ?_⟩
    rw [hB.1.1] at hi
    have hit : i = t := by simpa using hi
    subst hit
    exact wpOp_mono (fun a' w' h' => ⟨h'.1, wpAnyG_tree hsel hQ r fuel _ a' w' hB.2 (by simp [OT.depth] at hd; omega) h'.2⟩) (wpOp_of_one hB.1.2 h)
  | .two t r u s, 0, _, _, _, _, hd, _ => by simp [OT.depth] at hd
  | .two t r u s, fuel + 1, listed, a, w, hB, hd, h => by
    simp only [OT.ok, Bool.and_eq_true, decide_eq_true_eq] at hB
    obtain ⟨⟨⟨⟨hr, h1⟩, h2⟩, h3⟩, h4⟩ := hB
    refine ⟨fun h1 => (by rw [hr] at h1; cases h1), fun i hi => ?_⟩
    rw [hr] at hi
    simp only [OT.depth] at hd
    rcases List.mem_cons.1 hi with rfl | hi
    · exact wpOp_mono (fun a' w' h' => ⟨h'.1, wpAnyG_tree hsel hQ r fuel _ a' w' h3 (by omega) h'.2⟩) (wpOp_of_one h1 h.1)
    · have hit : i = u := by simpa using hi
      subst hit
      exact wpOp_mono (fun a' w' h' => ⟨h'.1, wpAnyG_tree hsel hQ s fuel _ a' w' h4 (by omega) h'.2⟩) (wpOp_of_one h2 h.2)
  | .take T r, fuel, listed, a, w, hB, hd, h => by
    simp only [OT.ok, Bool.and_eq_true] at hB
    simp only [OT.depth] at hd
    obtain ⟨k, rfl⟩ : ∃ k, fuel = k + T.length := ⟨fuel - T.length, by omega⟩
    exact wpAnyG_takes hsel hQ T k listed a w hB.1.1 hB.1.2 h.1 (wpPureH_mono _ _ _ _ (fun a1 h1 => wpAnyG_tree hsel hQ r k _ a1 w hB.2 (by omega) h1) h.2)

def heldB (md : Region.Mode) (ops : Array Oper) (m : Nat) (tr : OT) : Bool :=
  Region.noSelect ops && tr.ok md ops m (Array.replicate ops.size false) && decide (tr.depth ≤ ops.size)
theorem wp_region_tree {id : Nat} {a : Act} {l : List Oper} {w : World} (S : World → Prop) (m : Nat) (tr : OT) (hm : P.follows .mixedOrders = true) (hB : heldB .any l.toArray m tr = true)
    (hQ : ∀ c a w, ∀ (d : Tmp) v, Q (.panic c) (Act.put a (some d) v) w → Q (.panic c) a w)
    (h : wpTree P l Q S m tr a w.drew) : (Code.region id l.toArray true).wp P Q a w := by
  simp only [heldB, Bool.and_eq_true, decide_eq_true_eq] at hB
  obtain ⟨⟨hsel, htr⟩, hlen⟩ := hB
  refine wp_region_any hm ?_
  refine wpAny_fuel tr.depth _ _ _ _ hlen ?_
  refine wpAny_of_G (S := S) (m := m) _ _ _ _ ?_
  exact wpAnyG_tree hsel hQ tr tr.depth _ a _ htr (Nat.le_refl _) h
theorem wp_region_heldone {id : Nat} {a : Act} {l : List Oper} {w : World} (S : World → Prop) (T : List Nat) (m : Nat) (tr : OT) (hm : P.follows .mixedOrders = true) (hB : heldB .any l.toArray m (.take T tr) = true)
    (hQ : ∀ c a w, ∀ (d : Tmp) v, Q (.panic c) (Act.put a (some d) v) w → Q (.panic c) a w) (hS : S w.drew)
    (h : wpPureH P l.toArray S (fun a1 => wpTree P l Q S m tr a1 w.drew) (opsAt l T) a) : (Code.region id l.toArray true).wp P Q a w :=
  wp_region_tree S m (.take T tr) hm hB hQ ⟨hS, h⟩
/-- An operation that is taken, guarded or not. -/
theorem wpPureH_stage {Q : Act → Prop} {a : Act} {o : Oper} {rest : List Oper}
    (h : ∀ K : Act → Prop, (∀ a, wpPureH P ops S Q rest a → K a) → if Region.wanted o (yielded ops a.tmps) = true then ∃ v, (∀ w, S w → (execOp a.eval o).run P w = .ok (.value v) w) ∧ K (a.put o.dst v) else K (a.put o.dst undef)) : wpPureH P ops S Q (o :: rest) a := by
  have h1 := h (wpPureH P ops S Q rest) (fun _ h => h)
  by_cases hw : Region.wanted o (yielded ops a.tmps) = true
  · rw [if_pos hw] at h1
    obtain ⟨v, hy, h1⟩ := h1
    exact ⟨v, .inl ⟨hw, hy⟩, h1⟩
  · rw [if_neg hw] at h1
    exact ⟨undef, .inr ⟨by simpa using hw, rfl⟩, h1⟩
/-- A guarded one that is wanted. -/
theorem wpPureH_want {Q : Act → Prop} {a : Act} {o : Oper} {rest : List Oper} {v : Value} (hw : Region.wanted o (yielded ops a.tmps) = true) (hy : ∀ w, S w → (execOp a.eval o).run P w = .ok (.value v) w) (h : wpPureH P ops S Q rest (a.put o.dst v)) : wpPureH P ops S Q (o :: rest) a :=
  ⟨v, .inl ⟨hw, hy⟩, h⟩
end
end Go.Proofs.Ytbgpihengcjgeaa
