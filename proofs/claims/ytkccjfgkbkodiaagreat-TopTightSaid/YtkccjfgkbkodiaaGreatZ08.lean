/-
  HeldOne · PkHa · PkHr · PkA: parts of the walk of TopTight, under no condition.
-/
import Derived.OrdersHeld
import Derived.Test.YtkccjfgkbkodiaaGreatRows
import Derived.Deep.Cut
import Derived.Test.YtkccjfgkbkodiaaGreatZ01
import Derived.Test.YtkccjfgkbkodiaaGreatZ02
import Derived.Test.YtkccjfgkbkodiaaGreatZ07
namespace Go.Proofs.YtkccjfgkbkodiaaGreat
open Go
section
variable {P : Program} {ops : Array Oper} {Q : Exit → Act → World → Prop} {md : Region.Mode} {S : World → Prop} {m : Nat}
/-- Operations that yield in every world that meets S. -/
def wpPureH (P : Program) (ops : Array Oper) (S : World → Prop) (Q : Act → Prop) : List Oper → Act → Prop
  | [], a => Q a
  | o :: rest, a => ∃ v, YieldsIf P ops S o v a ∧ wpPureH P ops S Q rest (a.put o.dst v)
theorem wpPureH_nil {Q : Act → Prop} {a : Act} (h : Q a) : wpPureH P ops S Q [] a := h
theorem wpPureH_move {Q : Act → Prop} {a : Act} {o : Oper} {rest : List Oper} (x : Operand) (ho : o.op = .move x) (hg : o.guard = none) (h : wpPureH P ops S Q rest (a.put o.dst (a.eval x))) : wpPureH P ops S Q (o :: rest) a :=
  ⟨a.eval x, .inl ⟨by simp [Region.wanted, hg], fun w _ => by unfold execOp; rw [ho]; rfl⟩, h⟩
theorem wpPureH_step {Q : Act → Prop} {a : Act} {o : Oper} {rest : List Oper} {v : Value} (hg : o.guard = none) (hy : ∀ w, S w → (execOp a.eval o).run P w = .ok (.value v) w) (h : wpPureH P ops S Q rest (a.put o.dst v)) : wpPureH P ops S Q (o :: rest) a :=
  ⟨v, .inl ⟨by simp [Region.wanted, hg], hy⟩, h⟩
theorem wpPureH_mono : ∀ (is : List Oper) (a : Act) (R R' : Act → Prop), (∀ a, R a → R' a) → wpPureH P ops S R is a → wpPureH P ops S R' is a := by
  intro is
  induction is with
  | nil => intro a R R' hh h; exact hh a h
  | cons o is ih => intro a R R' hh h; obtain ⟨v, hy, h⟩ := h; exact ⟨v, hy, ih _ R R' hh h⟩
/-- Whatever order is picked from here on, and S holds behind every operation but m. -/
def wpAnyG (P : Program) (md : Region.Mode) (ops : Array Oper) (Q : Exit → Act → World → Prop) (S : World → Prop) (m : Nat) : Nat → Array Bool → Act → World → Prop
  | 0, listed, a, w => Region.ready md ops listed = [] ∧ Q .normal a w
  | fuel + 1, listed, a, w =>
    (Region.ready md ops listed = [] → Q .normal a w) ∧
    ∀ i ∈ Region.ready md ops listed, wpOp P ops Q i (fun a' w' => (i = m ∨ S w') ∧ wpAnyG P md ops Q S m fuel (listed.setIfInBounds i true) a' w') a w
theorem wpAny_of_G : ∀ (fuel : Nat) (listed : Array Bool) (a : Act) (w : World), wpAnyG P md ops Q S m fuel listed a w → wpAny P md ops Q fuel listed a w
  | 0, _, _, _, h => h
  | fuel + 1, _, _, _, h => ⟨h.1, fun i hi => wpOp_mono (fun a' w' h' => wpAny_of_G fuel _ a' w' h'.2) (h.2 i hi)⟩
theorem wpAnyG_first {i : Nat} {oi : Oper} {v : Value} (hi : ops[i]? = some oi) (hsel : ∀ (j : Nat) (o : Oper) cs b, ops[j]? = some o → o.op ≠ .select cs b)
    (hQ : ∀ c a w, Q (.panic c) (a.put oi.dst v) w → Q (.panic c) a w) (hwm : (decide (ops.size ≤ m) || Region.waitsFor md ops m i) = true) :
    ∀ (fuel : Nat) (listed : Array Bool) (a : Act) (w : World),
      (∀ j oj, ops[j]? = some oj → j ≠ i → listed.getD j true = false → (∀ e ∈ oj.after, Region.binds md e = true → e.on ≠ i) → oi.apart ops oj = true) →
      i ∈ Region.ready md ops listed → YieldsIf P ops S oi v a → S w →
      wpAnyG P md ops Q S m fuel (listed.setIfInBounds i true) (a.put oi.dst v) w → wpAnyG P md ops Q S m (fuel + 1) listed a w := by
  intro fuel
  induction fuel with
  | zero =>
    intro listed a w _ hr hy hS H
    refine ⟨fun h => (by rw [h] at hr; cases hr), fun j hj => ?_⟩
    by_cases hji : j = i
    · subst hji; exact hy.wpOp hi hS ⟨.inr hS, H⟩
    · have := ready_mono hj hji
      rw [H.1] at this
      cases this
  | succ fuel ih =>
    intro listed a w hfree hr hy hS H
    refine ⟨fun h => (by rw [h] at hr; cases hr), fun j hj => ?_⟩
    by_cases hji : j = i
    · subst hji; exact hy.wpOp hi hS ⟨.inr hS, H⟩
    · have h1 := H.2 j (ready_mono hj hji)
      obtain ⟨hjun, oj, hoj, hall⟩ := mem_ready.1 hj
      have hnot : ∀ e ∈ oj.after, Region.binds md e = true → e.on ≠ i := fun e he hb heq => by
        have h1 := hall e he hb
        have h0 := (mem_ready.1 hr).1
        rw [heq] at h1
        rcases Nat.lt_or_ge i listed.size with h' | h'
        · simp [h'] at h0 h1; rw [h0] at h1; cases h1
        · simp [Array.getElem?_eq_none h'] at h1
      have hjm : j ≠ m := by
        rintro rfl
        have hjlt : j < ops.size := (Array.getElem?_eq_some_iff.1 hoj).1
        rw [decide_eq_false (by omega), Bool.false_or] at hwm
        obtain ⟨ou, hou, e, he, hb, hon⟩ := Region.waitsFor_spec hwm
        have : ou = oj := Option.some.inj (hou.symm.trans hoj)
        subst this
        exact hnot e he hb hon
      have h2 := wpOp_putIf hoj (hfree j oj hoj hji hjun hnot) (fun cs b => hsel i oi cs b hi) (fun cs b => hsel j oj cs b hoj) hQ hy h1
      have hfree' : ∀ k ok, ops[k]? = some ok → k ≠ i → (listed.setIfInBounds j true).getD k true = false →
          (∀ e ∈ ok.after, Region.binds md e = true → e.on ≠ i) → oi.apart ops ok = true := fun k ok hk hki hun hno => by
        refine hfree k ok hk hki ?_ hno
        by_cases hjk : j = k
        · subst hjk; exact hjun
        · rw [getD_set_ne true hjk] at hun; exact hun
      refine wpOp_mono (fun a' w' h3 => ?_) h2
      have hS' : S w' := h3.2.1.resolve_left hjm
      refine ⟨.inr hS', ih (listed.setIfInBounds j true) a' w' hfree' (ready_mono hr (Ne.symm hji)) h3.1 hS' ?_⟩
      rw [Array.setIfInBounds_comm _ _ hji]
      exact h3.2.2
theorem wpAnyG_takes (hs : Region.noSelect ops = true) (hQ : ∀ c a w, ∀ (d : Tmp) v, Q (.panic c) (Act.put a (some d) v) w → Q (.panic c) a w) :
    ∀ (T : List Nat) (fuel : Nat) (listed : Array Bool) (a : Act) (w : World), takesB md ops listed T = true → T.all (fun i => decide (ops.size ≤ m) || Region.waitsFor md ops m i) = true → S w →
      wpPureH P ops S (fun a' => wpAnyG P md ops Q S m fuel (setAll listed T) a' w) (opsAt ops.toList T) a → wpAnyG P md ops Q S m (fuel + T.length) listed a w
  | [], fuel, listed, a, w, _, _, _, h => h
  | i :: is, fuel, listed, a, w, hB, hW, hS, h => by
    simp only [takesB, Bool.and_eq_true] at hB
    obtain ⟨⟨⟨hr, hf⟩, hdo⟩, hB⟩ := hB
    rw [List.all_cons, Bool.and_eq_true] at hW
    obtain ⟨d, hd⟩ := Option.isSome_iff_exists.1 hdo
    obtain ⟨o, ho, hod⟩ := Option.bind_eq_some_iff.1 hd
    have hl : ops.toList[i]? = some o := by simpa using ho
    simp only [opsAt, hl, wpPureH] at h
    obtain ⟨v, hy, h⟩ := h
    exact wpAnyG_first ho (Region.noSelect_spec hs) (fun c a w => by rw [hod]; exact hQ c a w d v) hW.1 (fuel + is.length) listed a w (Region.free_spec ho hf) (by simpa using hr) hy hS
      (wpAnyG_takes hs hQ is fuel _ _ w hB hW.2 hS h)
/-- Orders: the next one is forced; or two may be next. -/
inductive OT where
  | fin
  | step (t : Nat) (r : OT)
  | two (t : Nat) (r : OT) (u : Nat) (s : OT)
  | three (t : Nat) (r : OT) (u : Nat) (s : OT) (v : Nat) (q : OT)
  | take (T : List Nat) (r : OT)
def OT.ok (md : Region.Mode) (ops : Array Oper) (m : Nat) : Array Bool → OT → Bool
  | l, .fin => (Region.ready md ops l).isEmpty
  | l, .step t r => decide (Region.ready md ops l = [t]) && (ops[t]?).isSome && r.ok md ops m (l.setIfInBounds t true)
  | l, .two t r u s => decide (Region.ready md ops l = [t, u]) && (ops[t]?).isSome && (ops[u]?).isSome && r.ok md ops m (l.setIfInBounds t true) && s.ok md ops m (l.setIfInBounds u true)
  | l, .three t r u s v q => decide (Region.ready md ops l = [t, u, v]) && (ops[t]?).isSome && (ops[u]?).isSome && (ops[v]?).isSome && r.ok md ops m (l.setIfInBounds t true) && s.ok md ops m (l.setIfInBounds u true) && q.ok md ops m (l.setIfInBounds v true)
  | l, .take T r => takesB md ops l T && T.all (fun i => decide (ops.size ≤ m) || Region.waitsFor md ops m i) && r.ok md ops m (setAll l T)
def OT.depth : OT → Nat
  | .fin => 0
  | .step _ r => r.depth + 1
  | .two _ r _ s => max r.depth s.depth + 1
  | .three _ r _ s _ q => max (max r.depth s.depth) q.depth + 1
  | .take T r => r.depth + T.length
def wpTree (P : Program) (l : List Oper) (Q : Exit → Act → World → Prop) (S : World → Prop) (m : Nat) : OT → Act → World → Prop
  | .fin, a, w => Q .normal a w
  | .step t r, a, w => wpList P l.toArray (Exit.then (fun a' w' => (t = m ∨ S w') ∧ wpTree P l Q S m r a' w') Q) (opsAt l [t]) a w
  | .two t r u s, a, w => wpList P l.toArray (Exit.then (fun a' w' => (t = m ∨ S w') ∧ wpTree P l Q S m r a' w') Q) (opsAt l [t]) a w ∧
      wpList P l.toArray (Exit.then (fun a' w' => (u = m ∨ S w') ∧ wpTree P l Q S m s a' w') Q) (opsAt l [u]) a w
  | .three t r u s v q, a, w => wpList P l.toArray (Exit.then (fun a' w' => (t = m ∨ S w') ∧ wpTree P l Q S m r a' w') Q) (opsAt l [t]) a w ∧
      wpList P l.toArray (Exit.then (fun a' w' => (u = m ∨ S w') ∧ wpTree P l Q S m s a' w') Q) (opsAt l [u]) a w ∧
      wpList P l.toArray (Exit.then (fun a' w' => (v = m ∨ S w') ∧ wpTree P l Q S m q a' w') Q) (opsAt l [v]) a w
  | .take T r, a, w => S w ∧ wpPureH P l.toArray S (fun a' => wpTree P l Q S m r a' w) (opsAt l T) a
theorem wpTree_step {l : List Oper} {t : Nat} {r : OT} {a : Act} {w : World} (h : wpList P l.toArray (Exit.then (fun a' w' => (t = m ∨ S w') ∧ wpTree P l Q S m r a' w') Q) (opsAt l [t]) a w) : wpTree P l Q S m (.step t r) a w := h
theorem wpTree_two {l : List Oper} {t u : Nat} {r s : OT} {a : Act} {w : World} (h1 : wpTree P l Q S m (.step t r) a w) (h2 : wpTree P l Q S m (.step u s) a w) : wpTree P l Q S m (.two t r u s) a w := ⟨h1, h2⟩
theorem wpTree_three {l : List Oper} {t u v : Nat} {r s q : OT} {a : Act} {w : World} (h1 : wpTree P l Q S m (.step t r) a w) (h2 : wpTree P l Q S m (.step u s) a w) (h3 : wpTree P l Q S m (.step v q) a w) : wpTree P l Q S m (.three t r u s v q) a w := ⟨h1, h2, h3⟩
theorem wpTree_take {l : List Oper} {T : List Nat} {r : OT} {a : Act} {w : World} (hS : S w) (h : wpPureH P l.toArray S (fun a' => wpTree P l Q S m r a' w) (opsAt l T) a) : wpTree P l Q S m (.take T r) a w := ⟨hS, h⟩
theorem wpTree_fin {l : List Oper} {a : Act} {w : World} (h : Q .normal a w) : wpTree P l Q S m .fin a w := h
theorem upon_thenH {K K2 : Act → World → Prop} {o : Oper} {a : Act} (r : Result Next) (h : o.upon P a K (Exit.then K2 Q) r) : o.upon P a K Q r := by
  cases r with
  | ok n w =>
    cases n with
    | enter f args => exact Calls.mono h (fun e w' h' => by cases e <;> exact h')
    | _ => exact h
  | halt x w =>
    cases x <;> exact h
theorem wpOp_thenH {K K2 : Act → World → Prop} {i : Nat} {a : Act} {w : World} (h : wpOp P ops (Exit.then K2 Q) i K a w) : wpOp P ops Q i K a w := by
  unfold wpOp at h ⊢
  cases hi : ops[i]? with
  | none => simpa only [hi] using h
  | some o =>
    simp only [hi] at h ⊢
    split
    · rename_i hw
      rw [if_pos hw] at h
      rcases h with h | h
      · exact .inl (upon_thenH _ h)
      · exact .inr h
    · rename_i hw
      rwa [if_neg hw] at h
theorem wpOp_of_one {l : List Oper} {t : Nat} {K : Act → World → Prop} {a : Act} {w : World} (ho : (l.toArray[t]?).isSome = true) (h : wpList P l.toArray (Exit.then K Q) (opsAt l [t]) a w) : wpOp P l.toArray Q t K a w := by
  obtain ⟨o, ho⟩ := Option.isSome_iff_exists.1 ho
  have hlo : l[t]? = some o := by simpa using ho
  simp only [opsAt, hlo] at h
  have hw : wpOp P l.toArray (Exit.then K Q) t (wpList P l.toArray (Exit.then K Q) []) a w := by unfold wpOp; simp only [ho]; exact h
  exact wpOp_mono (fun a' w' h' => h') (wpOp_thenH hw)
theorem wpAnyG_tree {l : List Oper} (hsel : Region.noSelect l.toArray = true) (hQ : ∀ c a w, ∀ (d : Tmp) v, Q (.panic c) (Act.put a (some d) v) w → Q (.panic c) a w) : ∀ (tr : OT) (fuel : Nat) (listed : Array Bool) (a : Act) (w : World), tr.ok md l.toArray m listed = true → tr.depth ≤ fuel → wpTree P l Q S m tr a w → wpAnyG P md l.toArray Q S m fuel listed a w
  | .fin, 0, listed, a, w, hB, _, h => ⟨by simpa [OT.ok] using hB, h⟩
  | .fin, fuel + 1, listed, a, w, hB, _, h => ⟨fun _ => h, fun i hi => by
      have : Region.ready md l.toArray listed = [] := by simpa [OT.ok] using hB
      rw [this] at hi; cases hi⟩
  | .step t r, 0, _, _, _, _, hd, _ => by simp [OT.depth] at hd
  | .step t r, fuel + 1, listed, a, w, hB, hd, h => by
    simp only [OT.ok, Bool.and_eq_true, decide_eq_true_eq] at hB
    refine ⟨fun h1 => (by rw [hB.1.1] at h1; cases h1), fun i hi => ?_⟩
    rw [hB.1.1] at hi
    have hit : i = t := by simpa using hi
    subst hit
    exact wpOp_mono (fun a' w' h' => ⟨h'.1, wpAnyG_tree hsel hQ r fuel _ a' w' hB.2 (by simp [OT.depth] at hd; omega) h'.2⟩) (wpOp_of_one hB.1.2 h)
  | .two t r u s, 0, _, _, _, _, hd, _ => by simp [OT.depth] at hd
  | .two t r u s, fuel + 1, listed, a, w, hB, hd, h => by
    simp only [OT.ok, Bool.and_eq_true, decide_eq_true_eq] at hB
    obtain ⟨⟨⟨⟨hr, h1⟩, h2⟩, h3⟩, h4⟩ := hB
    refine ⟨fun h1 => (by rw [hr] at h1; cases h1), fun i hi => ?_⟩
    rw [hr] at hi
    simp only [OT.depth] at hd
    rcases List.mem_cons.1 hi with rfl | hi
    · exact wpOp_mono (fun a' w' h' => ⟨h'.1, wpAnyG_tree hsel hQ r fuel _ a' w' h3 (by omega) h'.2⟩) (wpOp_of_one h1 h.1)
    · have hit : i = u := by simpa using hi
      subst hit
      exact wpOp_mono (fun a' w' h' => ⟨h'.1, wpAnyG_tree hsel hQ s fuel _ a' w' h4 (by omega) h'.2⟩) (wpOp_of_one h2 h.2)
  | .three t r u s v q, 0, _, _, _, _, hd, _ => by simp [OT.depth] at hd
  | .three t r u s v q, fuel + 1, listed, a, w, hB, hd, h => by
    simp only [OT.ok, Bool.and_eq_true, decide_eq_true_eq] at hB
    obtain ⟨⟨⟨⟨⟨⟨hr, h1⟩, h2⟩, h3⟩, h4⟩, h5⟩, h6⟩ := hB
    refine ⟨fun h1 => (by rw [hr] at h1; cases h1), fun i hi => ?_⟩
    rw [hr] at hi
    simp only [OT.depth] at hd
    rcases List.mem_cons.1 hi with rfl | hi
    · exact wpOp_mono (fun a' w' h' => ⟨h'.1, wpAnyG_tree hsel hQ r fuel _ a' w' h4 (by omega) h'.2⟩) (wpOp_of_one h1 h.1)
    rcases List.mem_cons.1 hi with rfl | hi
    · exact wpOp_mono (fun a' w' h' => ⟨h'.1, wpAnyG_tree hsel hQ s fuel _ a' w' h5 (by omega) h'.2⟩) (wpOp_of_one h2 h.2.1)
    · have hit : i = v := by simpa using hi
      subst hit
      exact wpOp_mono (fun a' w' h' => ⟨h'.1, wpAnyG_tree hsel hQ q fuel _ a' w' h6 (by omega) h'.2⟩) (wpOp_of_one h3 h.2.2)
  | .take T r, fuel, listed, a, w, hB, hd, h => by
    simp only [OT.ok, Bool.and_eq_true] at hB
    simp only [OT.depth] at hd
    obtain ⟨k, rfl⟩ : ∃ k, fuel = k + T.length := ⟨fuel - T.length, by omega⟩
    exact wpAnyG_takes hsel hQ T k listed a w hB.1.1 hB.1.2 h.1 (wpPureH_mono _ _ _ _ (fun a1 h1 => wpAnyG_tree hsel hQ r k _ a1 w hB.2 (by omega) h1) h.2)
def heldB (md : Region.Mode) (ops : Array Oper) (m : Nat) (tr : OT) : Bool :=
  Region.noSelect ops && tr.ok md ops m (Array.replicate ops.size false) && decide (tr.depth ≤ ops.size)
theorem wp_region_tree {id : Nat} {a : Act} {l : List Oper} {w : World} (S : World → Prop) (m : Nat) (tr : OT) (hm : P.follows .mixedOrders = true) (hB : heldB .any l.toArray m tr = true)
    (hQ : ∀ c a w, ∀ (d : Tmp) v, Q (.panic c) (Act.put a (some d) v) w → Q (.panic c) a w)
    (h : wpTree P l Q S m tr a w.drew) : (Code.region id l.toArray true).wp P Q a w := by
  simp only [heldB, Bool.and_eq_true, decide_eq_true_eq] at hB
  obtain ⟨⟨hsel, htr⟩, hlen⟩ := hB
  refine wp_region_any hm ?_
  refine wpAny_fuel tr.depth _ _ _ _ hlen ?_
  refine wpAny_of_G (S := S) (m := m) _ _ _ _ ?_
  exact wpAnyG_tree hsel hQ tr tr.depth _ a _ htr (Nat.le_refl _) h
theorem wp_region_heldone {id : Nat} {a : Act} {l : List Oper} {w : World} (S : World → Prop) (T : List Nat) (m : Nat) (tr : OT) (hm : P.follows .mixedOrders = true) (hB : heldB .any l.toArray m (.take T tr) = true)
    (hQ : ∀ c a w, ∀ (d : Tmp) v, Q (.panic c) (Act.put a (some d) v) w → Q (.panic c) a w) (hS : S w.drew)
    (h : wpPureH P l.toArray S (fun a1 => wpTree P l Q S m tr a1 w.drew) (opsAt l T) a) : (Code.region id l.toArray true).wp P Q a w :=
  wp_region_tree S m (.take T tr) hm hB hQ ⟨hS, h⟩
/-- An operation that is taken, guarded or not. -/
theorem wpPureH_stage {Q : Act → Prop} {a : Act} {o : Oper} {rest : List Oper}
    (h : ∀ K : Act → Prop, (∀ a, wpPureH P ops S Q rest a → K a) → if Region.wanted o (yielded ops a.tmps) = true then ∃ v, (∀ w, S w → (execOp a.eval o).run P w = .ok (.value v) w) ∧ K (a.put o.dst v) else K (a.put o.dst undef)) : wpPureH P ops S Q (o :: rest) a := by
  have h1 := h (wpPureH P ops S Q rest) (fun _ h => h)
  by_cases hw : Region.wanted o (yielded ops a.tmps) = true
  · rw [if_pos hw] at h1
    obtain ⟨v, hy, h1⟩ := h1
    exact ⟨v, .inl ⟨hw, hy⟩, h1⟩
  · rw [if_neg hw] at h1
    exact ⟨undef, .inr ⟨by simpa using hw, rfl⟩, h1⟩
/-- A guarded one that is wanted. -/
theorem wpPureH_want {Q : Act → Prop} {a : Act} {o : Oper} {rest : List Oper} {v : Value} (hw : Region.wanted o (yielded ops a.tmps) = true) (hy : ∀ w, S w → (execOp a.eval o).run P w = .ok (.value v) w) (h : wpPureH P ops S Q rest (a.put o.dst v)) : wpPureH P ops S Q (o :: rest) a :=
  ⟨v, .inl ⟨hw, hy⟩, h⟩
end
end Go.Proofs.YtkccjfgkbkodiaaGreat
namespace Go.Proofs.YtkccjfgkbkodiaaGreat
open Go.RowKit
/-- A number's last bytes, the highest first. -/
def bigL (v : Nat) : Nat → List UInt8
  | 0 => []
  | n + 1 => UInt8.ofNat (v / 2 ^ (8 * n)) :: bigL v n
@[simp] theorem bigL_length (v n : Nat) : (bigL v n).length = n := by
  induction n with
  | zero => rfl
  | succ n ih => simp [bigL, ih]
theorem byte_val (x : Nat) : ((UInt8.ofNat x).toNat : Int) = (x : Int) % 256 := by simp
theorem big_fill (v n j : Nat) (h : j < n) : (List.replicate (n - j) (0 : UInt8) ++ bigL v j).set (n - 1 - j) (UInt8.ofNat (v / 2 ^ (8 * j))) = List.replicate (n - (j + 1)) 0 ++ bigL v (j + 1) := by
  obtain ⟨m, rfl⟩ : ∃ m, n = m + 1 + j := ⟨n - 1 - j, by omega⟩
  rw [show m + 1 + j - j = m + 1 by omega, show m + 1 + j - 1 - j = m by omega, show m + 1 + j - (j + 1) = m by omega, List.replicate_succ', List.append_assoc, List.set_append_right _ _ (by simp)]
  simp [bigL]
theorem i64_and7 (z : Int) : bits .and .i64 z 7 = z % 8 := by
  have h7 : (BitVec.ofInt 64 z &&& BitVec.ofInt 64 (7 : Int)).toNat = (z % 8).toNat := by
    rw [BitVec.toNat_and, show (BitVec.ofInt 64 (7 : Int)).toNat = 2 ^ 3 - 1 from rfl, Nat.and_two_pow_sub_one_eq_mod, BitVec.toNat_ofInt]
    omega
  show IntKind.i64.wrap ((BitVec.ofInt 64 z &&& BitVec.ofInt 64 (7 : Int)).toNat : Int) = _
  rw [h7, IntWalk.i64_in _ ⟨by omega, by omega⟩]
  omega
set_option maxRecDepth 100000 in
theorem big_any (v n : Nat) (h1 : 1 ≤ n) (h2 : n ≤ 8) (w : World) :
    Calls Tryz.prog 25 #[.int .u64 v, .int .i64 n] w fun e w' => e = .returned (.string (S (bigL v n))) ∧ Only [] w w' := by
  obtain ⟨ci, hci⟩ : ∃ ci, ci = (List.replicate n (Value.int .u8 0)).toArray := ⟨_, rfl⟩
  have info8 : (Tryz.prog.info? 5).map (fun i => (i.zero, i.size, i.bytes)) = some (some (.int .u8 0), 1, 1) := by kernel_rfl
  have hm1 := run_make_cells (P := Tryz.prog) Tryz.underlying63 (.int .u8 0) 1 info8 rfl n n rfl (by omega) (by omega)
  rw [← hci] at hm1
  have Hci := hide hci
  clear hci
  go_enter Tryz.func25, Tryz.ntmps25
  go_wp2_with fail
  go_loopg [17] n (fun g i wr => ∃ j : Nat, i = .int .i64 j ∧ j + g = n ∧ Blk wr w.heap.size 5 (bytesV (List.replicate (n - j) 0 ++ bigL v j)) ∧ Below w.heap.size w wr)
  case atStart =>
    refine ⟨0, rfl, by omega, ?_, (Below.refl _ _).alloc (Nat.le_refl _) _⟩
    have := Blk.new w 5 ci
    rw [Hci.out] at this ⊢
    simpa [bytesV, bigL] using this
  case round =>
    obtain ⟨j, rfl, hj, hbl, ho⟩ := hrel
    by_cases hlt : j < n
    · have fz := hbl.frozen (n - 1 - j)
      have cz := hbl.cellv (n - 1 - j) (.int .u8 0) (by
        rw [bytesV_get, List.getElem?_append_left (by simp; omega), List.getElem?_replicate, if_pos (by omega)]
        rfl)
      have hs := hbl.set_ (n - 1 - j) (.int .u8 ((UInt8.ofNat (v / 2 ^ (8 * j))).toNat : Int))
      rw [bytesV_set, big_fill v n j hlt, byte_val] at hs
      have Hs := hide hs
      clear hs
      go_wp2_with fail
      go_roundg (gk - 1)
      case measure => omega
      case rel =>
        refine ⟨j + 1, by go_num, by omega, ?_, ho.setCell (Nat.le_refl _) _⟩
        have := Hs.out
        push_cast at this
        exact this
    · have hjn : j = n := by omega
      subst hjn
      rw [Nat.sub_self, List.replicate_zero, List.nil_append] at hbl
      have hstr := run_string_blk (P := Tryz.prog) Tryz.underlying63 Tryz.underlying5 Tryz.underlying9 hbl j j (by simp)
      go_wp2_with fail
      go_ret
      exact ⟨rfl, Only.of_below ho _⟩
theorem big_at (vi ni : Int) (v n : Nat) (hvi : vi = v) (hni : ni = n) (h1 : 1 ≤ n) (h2 : n ≤ 8) (l : List UInt8) (hl : l = bigL v n) (w : World) :
    Calls Tryz.prog 25 #[.int .u64 vi, .int .i64 ni] w fun e w' => e = .returned (.string (S l)) ∧ Only [] w w' := by
  subst hvi hni hl
  exact big_any v n h1 h2 w
set_option maxRecDepth 100000 in
theorem big_no (v : Int) (n : Int) (h : n < 1 ∨ 8 < n) (w : World) :
    Calls Tryz.prog 25 #[.int .u64 v, .int .i64 n] w fun e w' => e = .returned (.string (S [])) ∧ w' = w := by
  by_cases h1 : n < 1
  · go_enter Tryz.func25, Tryz.ntmps25
    go_wp2
    go_ret
    exact ⟨rfl, rfl⟩
  have h2 : 8 < n := by omega
  go_enter Tryz.func25, Tryz.ntmps25
  go_wp2
  go_ret
  exact ⟨rfl, rfl⟩
/-- The shortest head. -/
def putL (major : Int) (v : Nat) : List UInt8 :=
  if v < 24 then bigL ((major % 8).toNat * 32 + v) 1
  else if v < 256 then bigL ((major % 8).toNat * 32 + 24) 1 ++ bigL v 1
  else if v < 65536 then bigL ((major % 8).toNat * 32 + 25) 1 ++ bigL v 2
  else if v < 4294967296 then bigL ((major % 8).toNat * 32 + 26) 1 ++ bigL v 4
  else bigL ((major % 8).toNat * 32 + 27) 1 ++ bigL v 8
theorem u64_or (m b : Nat) (hm : m < 8) (hb : b < 32) : bits .or .u64 ((m : Int) * 32) (b : Int) = ((m * 32 + b : Nat) : Int) := by
  have e1 : (BitVec.ofInt 64 ((m : Int) * 32)) = BitVec.ofNat 64 (m * 32) := by rw [show (m : Int) * 32 = ((m * 32 : Nat) : Int) by push_cast; rfl, BitVec.ofInt_natCast]
  have e2 : (BitVec.ofInt 64 ((m : Int) * 32) ||| BitVec.ofInt 64 (b : Int)).toNat = m * 32 + b := by
    rw [e1, BitVec.ofInt_natCast, BitVec.toNat_or, BitVec.toNat_ofNat, BitVec.toNat_ofNat, Nat.mod_eq_of_lt (by omega), Nat.mod_eq_of_lt (by omega)]
    have := Nat.shiftLeft_add_eq_or_of_lt (i := 5) (b := b) hb m
    rw [Nat.shiftLeft_eq, show 2 ^ 5 = 32 from rfl] at this
    omega
  show IntKind.u64.wrap ((BitVec.ofInt 64 ((m : Int) * 32) ||| BitVec.ofInt 64 (b : Int)).toNat : Int) = _
  rw [e2, IntKind.wrap_u64]
  omega
end Go.Proofs.YtkccjfgkbkodiaaGreat
namespace Go.Proofs.YtkccjfgkbkodiaaGreat
open Go.RowKit Instr
theorem run_string_one {P : Program} {src dst e : TypeId} (hs : P.underlying src = some (.slice e)) (he : P.underlying e = some (.int .u8)) (hd : P.underlying dst = some .string)
    (x : Nat) (hx : x < 256) (xi : Int) (hxi : xi = x) (W : World) (g : Nat) (h : W.cell? ⟨g, 0, none⟩ = some (.int .u8 xi)) :
    (convert src dst (.slice (some ⟨g, 0, none⟩) 1 1)).run P W = Result.ok (.string (S (bigL x 1))) W := by
  refine run_string_at hs he hd W ⟨g, 0, none⟩ 1 1 (bigL x 1) (by simp) (fun j u hu => ?_)
  cases j with
  | zero =>
    have e1 : (⟨g, 0, none⟩ : Addr).add 0 = ⟨g, 0, none⟩ := rfl
    rw [e1, h]
    simp [bigL, u8s] at hu
    rw [← hu, hxi]
    congr 2
    omega
  | succ j => simp [bigL, u8s] at hu
theorem u64_and255 (x : Nat) : bits .and .u64 (x : Int) 255 = (x : Int) % 256 := by
  have h7 : (BitVec.ofInt 64 (x : Int) &&& BitVec.ofInt 64 (255 : Int)).toNat = x % 256 := by
    rw [BitVec.toNat_and, show (BitVec.ofInt 64 (255 : Int)).toNat = 2 ^ 8 - 1 from rfl, Nat.and_two_pow_sub_one_eq_mod, BitVec.ofInt_natCast, BitVec.toNat_ofNat]
    omega
  show IntKind.u64.wrap ((BitVec.ofInt 64 (x : Int) &&& BitVec.ofInt 64 (255 : Int)).toNat : Int) = _
  rw [h7, IntKind.wrap_u64]
  omega
theorem pow8' (k : Nat) : (2 : Nat) ^ (8 * k) = 256 ^ k := by rw [Nat.pow_mul]
set_option maxRecDepth 100000 in
theorem refbig_any (v n : Nat) (h1 : 1 ≤ n) (h2 : n ≤ 8) (hv : Hid (v < 18446744073709551616)) (w : World) :
    Calls Tryz.prog 130 #[.int .u64 v, .int .i64 n] w fun e w' => e = .returned (.string (S (bigL v n))) ∧ Only [] w w' := by
  obtain ⟨ci, hci⟩ : ∃ ci, ci = (List.replicate n (Value.int .u8 0)).toArray := ⟨_, rfl⟩
  have info8 : (Tryz.prog.info? 5).map (fun i => (i.zero, i.size, i.bytes)) = some (some (.int .u8 0), 1, 1) := by kernel_rfl
  have hm1 := run_make_cells (P := Tryz.prog) Tryz.underlying63 (.int .u8 0) 1 info8 rfl n n rfl (by omega) (by omega)
  rw [← hci] at hm1
  have Hci := hide hci
  clear hci
  go_enter Tryz.func130, Tryz.ntmps130
  go_wp2_with fail
  go_loopg [0, 6] n (fun g s0 i wr => ∃ (j x : Nat), Hid (x = v / 256 ^ j) ∧ s0 = .int .u64 x ∧ i = .int .i64 (n - 1 - j) ∧ j + g = n ∧ Blk wr w.heap.size 5 (bytesV (List.replicate (n - j) 0 ++ bigL v j)) ∧ Below w.heap.size w wr)
  case atStart =>
    refine ⟨0, v, by show v = _; simp, rfl, by simp, by omega, ?_, (Below.refl _ _).alloc (Nat.le_refl _) _⟩
    have := Blk.new w 5 ci
    rw [Hci.out] at this ⊢
    simpa [bytesV, bigL] using this
  case round =>
    obtain ⟨j, x, hx, rfl, rfl, hj, hbl, ho⟩ := hrel
    by_cases hlt : j < n
    · have fz := hbl.frozen (n - 1 - j)
      have cz := hbl.cellv (n - 1 - j) (.int .u8 0) (by
        rw [bytesV_get, List.getElem?_append_left (by simp; omega), List.getElem?_replicate, if_pos (by omega)]
        rfl)
      have hs := hbl.set_ (n - 1 - j) (.int .u8 ((UInt8.ofNat (v / 2 ^ (8 * j))).toNat : Int))
      rw [bytesV_set, big_fill v n j hlt, byte_val, pow8', ← hx.out] at hs
      have Hs := hide hs
      have hand := u64_and255 x
      have hwr : IntKind.u8.wrap ((x : Int) % 256) = (x : Int) % 256 := by rw [IntKind.wrap_u8]; omega
      have hnat : ((n : Int) - 1 - j).toNat = n - 1 - j := by omega
      have hq : IntKind.u64.wrap ((x : Int) / 256) = (x : Int) / 256 := by
        have h1 := hv.out
        have h2 := hx.out
        have h3 : v / 256 ^ j ≤ v := Nat.div_le_self _ _
        rw [IntKind.wrap_u64]; omega
      have hx2 : Hid (x / 256 = v / 256 ^ (j + 1)) := by show x / 256 = _; rw [hx.out, Nat.div_div_eq_div_mul, Nat.pow_succ]
      clear hs
      go_wp2_with fail
      go_roundg (gk - 1)
      case measure => omega
      case rel =>
        refine ⟨j + 1, x / 256, hx2, by go_num, by go_num, by omega, ?_, ho.setCell (Nat.le_refl _) _⟩
        exact Hs.out
    · have hjn : j = n := by omega
      subst hjn
      rw [Nat.sub_self, List.replicate_zero, List.nil_append] at hbl
      have hstr := run_string_blk (P := Tryz.prog) Tryz.underlying63 Tryz.underlying5 Tryz.underlying9 hbl j j (by simp)
      go_wp2_with fail
      go_ret
      exact ⟨rfl, Only.of_below ho _⟩
set_option maxRecDepth 100000 in
theorem refbig_no (v : Int) (n : Int) (h : n < 1 ∨ 8 < n) (w : World) :
    Calls Tryz.prog 130 #[.int .u64 v, .int .i64 n] w fun e w' => e = .returned (.string (S [])) ∧ w' = w := by
  by_cases h1 : n < 1
  · go_enter Tryz.func130, Tryz.ntmps130
    go_wp2
    go_ret
    exact ⟨rfl, rfl⟩
  have h2 : 8 < n := by omega
  go_enter Tryz.func130, Tryz.ntmps130
  go_wp2
  go_ret
  exact ⟨rfl, rfl⟩
theorem refbig_at (vi ni : Int) (v n : Nat) (hvi : vi = v) (hni : ni = n) (h1 : 1 ≤ n) (h2 : n ≤ 8) (hv : Hid (v < 18446744073709551616)) (l : List UInt8) (hl : l = bigL v n) (w : World) :
    Calls Tryz.prog 130 #[.int .u64 vi, .int .i64 ni] w fun e w' => e = .returned (.string (S l)) ∧ Only [] w w' := by
  subst hvi hni hl
  exact refbig_any v n h1 h2 hv w
end Go.Proofs.YtkccjfgkbkodiaaGreat
namespace Go.Proofs.YtkccjfgkbkodiaaGreat
open Go.RowKit
/-- What Step may be handed. -/
inductive Part where
  | null
  | bool (b : Bool)
  | whole (neg : Bool) (mag : Int)
  | word (l : List UInt8)
  | blob (l : List UInt8)
  | begin_ (m : Bool) (n : Int)
  | close
  | odd
def Part.val : Part → Value
  | .null => .nilIface
  | .bool b => .iface 4 (.bool b)
  | .whole g m => .iface 226 (.agg #[.bool g, .int .u64 m])
  | .word l => .iface 268 (.string (S l))
  | .blob l => .iface 272 (.string (S l))
  | .begin_ m n => .iface 243 (.agg #[.bool m, .int .i64 n])
  | .close => .iface 246 (.agg #[])
  | .odd => .iface 3 (.int .i64 5)
/-- An Ev's cells. -/
def evV (k : Int) (y : Bool) (m : Int) (l : List UInt8) (c : Int) : Array Value := #[.int .i64 k, .bool y, .int .u64 m, .string (S l), .int .i64 c]
def Part.ev : Part → Array Value
  | .null => evV 0 false 0 [] 0
  | .bool b => evV 1 b 0 [] 0
  | .whole g m => evV 2 g m [] 0
  | .word l => evV 3 false 0 l 0
  | .blob l => evV 4 false 0 l 0
  | .begin_ m n => if n < -1 then evV 0 false 0 [] 0 else evV (if m then 6 else 5) false 0 [] n
  | .close => evV 7 false 0 [] 0
  | .odd => evV 0 false 0 [] 0
def Part.may : Part → Bool
  | .begin_ _ n => decide (-1 ≤ n)
  | .odd => false
  | _ => true
def Part.isBool : Part → Bool
  | .bool _ => true
  | _ => false
def Part.asBool : Part → Value
  | .bool b => .bool b
  | _ => .bool false
def Part.isWhole : Part → Bool
  | .whole _ _ => true
  | _ => false
def Part.asWhole : Part → Value
  | .whole g m => .agg #[.bool g, .int .u64 m]
  | _ => .agg #[.bool false, .int .u64 0]
def Part.isWord : Part → Bool
  | .word _ => true
  | _ => false
def Part.asWord : Part → Value
  | .word l => .string (S l)
  | _ => .string (S [])
def Part.isBlob : Part → Bool
  | .blob _ => true
  | _ => false
def Part.asBlob : Part → Value
  | .blob l => .string (S l)
  | _ => .string (S [])
def Part.isBegin : Part → Bool
  | .begin_ _ _ => true
  | _ => false
def Part.asBegin : Part → Value
  | .begin_ m n => .agg #[.bool m, .int .i64 n]
  | _ => .agg #[.bool false, .int .i64 0]
def Part.isClose : Part → Bool
  | .close => true
  | _ => false
theorem ta_bool (p : Part) (w : World) : (Instr.typeAssert p.val 20 4 true).run Tryz.prog w = .ok (.tuple #[p.asBool, .bool p.isBool]) w := by cases p <;> kernel_rfl
theorem ta_whole (p : Part) (w : World) : (Instr.typeAssert p.val 20 226 true).run Tryz.prog w = .ok (.tuple #[p.asWhole, .bool p.isWhole]) w := by cases p <;> kernel_rfl
theorem ta_word (p : Part) (w : World) : (Instr.typeAssert p.val 20 268 true).run Tryz.prog w = .ok (.tuple #[p.asWord, .bool p.isWord]) w := by cases p <;> kernel_rfl
theorem ta_blob (p : Part) (w : World) : (Instr.typeAssert p.val 20 272 true).run Tryz.prog w = .ok (.tuple #[p.asBlob, .bool p.isBlob]) w := by cases p <;> kernel_rfl
theorem ta_close (p : Part) (w : World) : (Instr.typeAssert p.val 20 246 true).run Tryz.prog w = .ok (.tuple #[.agg #[], .bool p.isClose]) w := by cases p <;> kernel_rfl
theorem ta_begin (p : Part) (w : World) : (Instr.typeAssert p.val 20 243 true).run Tryz.prog w = .ok (.tuple #[p.asBegin, .bool p.isBegin]) w := by cases p <;> kernel_rfl
theorem Below.more {B : Nat} {a w : World} (h : Below B a w) (hB : B ≤ a.heap.size) (o : Obj) : Below B a (w.alloc o) := h.alloc (Nat.le_trans hB h.size) o
set_option maxRecDepth 100000 in
set_option maxHeartbeats 1000000 in
theorem plain_any (p : Part) (w : World) : Calls Tryz.prog 137 #[p.val] w fun e w' => e = .returned (.tuple #[.agg p.ev, .bool p.may]) ∧ Below w.heap.size w w' := by
  cases p with
  | null =>
    unfold Part.val Part.ev Part.may evV
    have t1 := fun w => ta_bool Part.null w
    have t2 := fun w => ta_whole Part.null w
    have t3 := fun w => ta_word Part.null w
    have t4 := fun w => ta_blob Part.null w
    have t5 := fun w => ta_close Part.null w
    have t6 := fun w => ta_begin Part.null w
    simp only [Part.val, Part.asBool, Part.isBool, Part.asWhole, Part.isWhole, Part.asWord, Part.isWord, Part.asBlob, Part.isBlob, Part.isClose, Part.asBegin, Part.isBegin] at t1 t2 t3 t4 t5 t6
    go_enter Tryz.func137, Tryz.ntmps137
    go_wp2_with fail
    refine bodyPost_ret (v := .tuple #[.agg Part.null.ev, .bool true]) (by simp [results, Tryz.results137, go_sem]; try rfl) rfl ⟨rfl, ?_⟩
    repeat refine Below.more ?_ (Nat.le_refl _) _
    exact Below.refl _ _
  | bool b =>
    unfold Part.val Part.ev Part.may evV
    have t1 := fun w => ta_bool (Part.bool b) w
    have t2 := fun w => ta_whole (Part.bool b) w
    have t3 := fun w => ta_word (Part.bool b) w
    have t4 := fun w => ta_blob (Part.bool b) w
    have t5 := fun w => ta_close (Part.bool b) w
    have t6 := fun w => ta_begin (Part.bool b) w
    simp only [Part.val, Part.asBool, Part.isBool, Part.asWhole, Part.isWhole, Part.asWord, Part.isWord, Part.asBlob, Part.isBlob, Part.isClose, Part.asBegin, Part.isBegin] at t1 t2 t3 t4 t5 t6
    go_enter Tryz.func137, Tryz.ntmps137
    go_wp2_with fail
    refine bodyPost_ret (v := .tuple #[.agg (Part.bool b).ev, .bool true]) (by simp [results, Tryz.results137, go_sem]; try rfl) rfl ⟨rfl, ?_⟩
    repeat refine Below.more ?_ (Nat.le_refl _) _
    exact Below.refl _ _
  | whole g m =>
    unfold Part.val Part.ev Part.may evV
    have t1 := fun w => ta_bool (Part.whole g m) w
    have t2 := fun w => ta_whole (Part.whole g m) w
    have t3 := fun w => ta_word (Part.whole g m) w
    have t4 := fun w => ta_blob (Part.whole g m) w
    have t5 := fun w => ta_close (Part.whole g m) w
    have t6 := fun w => ta_begin (Part.whole g m) w
    simp only [Part.val, Part.asBool, Part.isBool, Part.asWhole, Part.isWhole, Part.asWord, Part.isWord, Part.asBlob, Part.isBlob, Part.isClose, Part.asBegin, Part.isBegin] at t1 t2 t3 t4 t5 t6
    go_enter Tryz.func137, Tryz.ntmps137
    go_wp2_with fail
    refine bodyPost_ret (v := .tuple #[.agg (Part.whole g m).ev, .bool true]) (by simp [results, Tryz.results137, go_sem]; try rfl) rfl ⟨rfl, ?_⟩
    repeat refine Below.more ?_ (Nat.le_refl _) _
    exact Below.refl _ _
  | word l =>
    unfold Part.val Part.ev Part.may evV
    have t1 := fun w => ta_bool (Part.word l) w
    have t2 := fun w => ta_whole (Part.word l) w
    have t3 := fun w => ta_word (Part.word l) w
    have t4 := fun w => ta_blob (Part.word l) w
    have t5 := fun w => ta_close (Part.word l) w
    have t6 := fun w => ta_begin (Part.word l) w
    simp only [Part.val, Part.asBool, Part.isBool, Part.asWhole, Part.isWhole, Part.asWord, Part.isWord, Part.asBlob, Part.isBlob, Part.isClose, Part.asBegin, Part.isBegin] at t1 t2 t3 t4 t5 t6
    go_enter Tryz.func137, Tryz.ntmps137
    go_wp2_with fail
    refine bodyPost_ret (v := .tuple #[.agg (Part.word l).ev, .bool true]) (by simp [results, Tryz.results137, go_sem]; try rfl) rfl ⟨rfl, ?_⟩
    repeat refine Below.more ?_ (Nat.le_refl _) _
    exact Below.refl _ _
  | blob l =>
    unfold Part.val Part.ev Part.may evV
    have t1 := fun w => ta_bool (Part.blob l) w
    have t2 := fun w => ta_whole (Part.blob l) w
    have t3 := fun w => ta_word (Part.blob l) w
    have t4 := fun w => ta_blob (Part.blob l) w
    have t5 := fun w => ta_close (Part.blob l) w
    have t6 := fun w => ta_begin (Part.blob l) w
    simp only [Part.val, Part.asBool, Part.isBool, Part.asWhole, Part.isWhole, Part.asWord, Part.isWord, Part.asBlob, Part.isBlob, Part.isClose, Part.asBegin, Part.isBegin] at t1 t2 t3 t4 t5 t6
    go_enter Tryz.func137, Tryz.ntmps137
    go_wp2_with fail
    refine bodyPost_ret (v := .tuple #[.agg (Part.blob l).ev, .bool true]) (by simp [results, Tryz.results137, go_sem]; try rfl) rfl ⟨rfl, ?_⟩
    repeat refine Below.more ?_ (Nat.le_refl _) _
    exact Below.refl _ _
  | begin_ m n =>
    by_cases hn : n < -1
    · have hm : (Part.begin_ m n).may = false := by simp [Part.may]; omega
      have he : (Part.begin_ m n).ev = evV 0 false 0 [] 0 := by simp [Part.ev, hn]
      rw [hm, he]
      clear hm he
      unfold Part.val evV
      have t1 := fun w => ta_bool (Part.begin_ m n) w
      have t2 := fun w => ta_whole (Part.begin_ m n) w
      have t3 := fun w => ta_word (Part.begin_ m n) w
      have t4 := fun w => ta_blob (Part.begin_ m n) w
      have t5 := fun w => ta_close (Part.begin_ m n) w
      have t6 := fun w => ta_begin (Part.begin_ m n) w
      simp only [Part.val, Part.asBool, Part.isBool, Part.asWhole, Part.isWhole, Part.asWord, Part.isWord, Part.asBlob, Part.isBlob, Part.isClose, Part.asBegin, Part.isBegin] at t1 t2 t3 t4 t5 t6
      go_enter Tryz.func137, Tryz.ntmps137
      go_wp2_with fail
      refine bodyPost_ret (v := .tuple #[.agg (evV 0 false 0 [] 0), .bool false]) (by simp [results, Tryz.results137, go_sem]; try rfl) rfl ⟨rfl, ?_⟩
      repeat refine Below.more ?_ (Nat.le_refl _) _
      exact Below.refl _ _
    · have hm : (Part.begin_ m n).may = true := by simp [Part.may]; omega
      cases m with
      | true =>
        have he : (Part.begin_ true n).ev = evV 6 false 0 [] n := by simp [Part.ev, hn]
        rw [hm, he]
        clear hm he
        unfold Part.val evV
        have t1 := fun w => ta_bool (Part.begin_ true n) w
        have t2 := fun w => ta_whole (Part.begin_ true n) w
        have t3 := fun w => ta_word (Part.begin_ true n) w
        have t4 := fun w => ta_blob (Part.begin_ true n) w
        have t5 := fun w => ta_close (Part.begin_ true n) w
        have t6 := fun w => ta_begin (Part.begin_ true n) w
        simp only [Part.val, Part.asBool, Part.isBool, Part.asWhole, Part.isWhole, Part.asWord, Part.isWord, Part.asBlob, Part.isBlob, Part.isClose, Part.asBegin, Part.isBegin] at t1 t2 t3 t4 t5 t6
        go_enter Tryz.func137, Tryz.ntmps137
        go_wp2_with fail
        refine bodyPost_ret (v := .tuple #[.agg (evV 6 false 0 [] n), .bool true]) (by simp [results, Tryz.results137, go_sem]; try rfl) rfl ⟨rfl, ?_⟩
        repeat refine Below.more ?_ (Nat.le_refl _) _
        exact Below.refl _ _
      | false =>
        have he : (Part.begin_ false n).ev = evV 5 false 0 [] n := by simp [Part.ev, hn]
        rw [hm, he]
        clear hm he
        unfold Part.val evV
        have t1 := fun w => ta_bool (Part.begin_ false n) w
        have t2 := fun w => ta_whole (Part.begin_ false n) w
        have t3 := fun w => ta_word (Part.begin_ false n) w
        have t4 := fun w => ta_blob (Part.begin_ false n) w
        have t5 := fun w => ta_close (Part.begin_ false n) w
        have t6 := fun w => ta_begin (Part.begin_ false n) w
        simp only [Part.val, Part.asBool, Part.isBool, Part.asWhole, Part.isWhole, Part.asWord, Part.isWord, Part.asBlob, Part.isBlob, Part.isClose, Part.asBegin, Part.isBegin] at t1 t2 t3 t4 t5 t6
        go_enter Tryz.func137, Tryz.ntmps137
        go_wp2_with fail
        refine bodyPost_ret (v := .tuple #[.agg (evV 5 false 0 [] n), .bool true]) (by simp [results, Tryz.results137, go_sem]; try rfl) rfl ⟨rfl, ?_⟩
        repeat refine Below.more ?_ (Nat.le_refl _) _
        exact Below.refl _ _
  | close =>
    unfold Part.val Part.ev Part.may evV
    have t1 := fun w => ta_bool Part.close w
    have t2 := fun w => ta_whole Part.close w
    have t3 := fun w => ta_word Part.close w
    have t4 := fun w => ta_blob Part.close w
    have t5 := fun w => ta_close Part.close w
    have t6 := fun w => ta_begin Part.close w
    simp only [Part.val, Part.asBool, Part.isBool, Part.asWhole, Part.isWhole, Part.asWord, Part.isWord, Part.asBlob, Part.isBlob, Part.isClose, Part.asBegin, Part.isBegin] at t1 t2 t3 t4 t5 t6
    go_enter Tryz.func137, Tryz.ntmps137
    go_wp2_with fail
    refine bodyPost_ret (v := .tuple #[.agg Part.close.ev, .bool true]) (by simp [results, Tryz.results137, go_sem]; try rfl) rfl ⟨rfl, ?_⟩
    repeat refine Below.more ?_ (Nat.le_refl _) _
    exact Below.refl _ _
  | odd =>
    unfold Part.val Part.ev Part.may evV
    have t1 := fun w => ta_bool Part.odd w
    have t2 := fun w => ta_whole Part.odd w
    have t3 := fun w => ta_word Part.odd w
    have t4 := fun w => ta_blob Part.odd w
    have t5 := fun w => ta_close Part.odd w
    have t6 := fun w => ta_begin Part.odd w
    simp only [Part.val, Part.asBool, Part.isBool, Part.asWhole, Part.isWhole, Part.asWord, Part.isWord, Part.asBlob, Part.isBlob, Part.isClose, Part.asBegin, Part.isBegin] at t1 t2 t3 t4 t5 t6
    go_enter Tryz.func137, Tryz.ntmps137
    go_wp2_with fail
    refine bodyPost_ret (v := .tuple #[.agg Part.odd.ev, .bool false]) (by simp [results, Tryz.results137, go_sem]; try rfl) rfl ⟨rfl, ?_⟩
    repeat refine Below.more ?_ (Nat.le_refl _) _
    exact Below.refl _ _
/-- The part that an Ev is. -/
def optVal : Option Part → Value
  | none => .nilIface
  | some p => p.val
end Go.Proofs.YtkccjfgkbkodiaaGreat
