/-
  A region that draws its order, walked in ONE order: first operations that yield in whatever world (T), then operations that only read (ks), then operations each of which is forced (ts). Every order that the edges allow comes to the same end.
-/
import Derived.StillTail
import Derived.WalkKit
import Derived.KernelRfl
namespace Go.Proofs.Ytbgpihengcjgeaa
open Go

/-- Operations taken off a written-out list by their places. -/
def opsAt : List Oper → List Nat → List Oper
  | _, [] => []
  | l, i :: is => match l[i]? with
    | some o => o :: opsAt l is
    | none => opsAt l is

section
variable {P : Program} {ops : Array Oper} {Q : Exit → Act → World → Prop} {md : Region.Mode} {w : World}

/-- Operations that yield in whatever world. -/
def wpPure (P : Program) (ops : Array Oper) (Q : Act → Prop) : List Oper → Act → Prop
  | [], a => Q a
  | o :: rest, a => ∃ v, Yields P ops o v a ∧ wpPure P ops Q rest (a.put o.dst v)

theorem wpPure_nil {Q : Act → Prop} {a : Act} (h : Q a) : wpPure P ops Q [] a := h
theorem wpPure_move {Q : Act → Prop} {a : Act} {o : Oper} {rest : List Oper} (x : Operand) (ho : o.op = .move x) (hg : o.guard = none) (h : wpPure P ops Q rest (a.put o.dst (a.eval x))) : wpPure P ops Q (o :: rest) a :=
  ⟨a.eval x, .inl ⟨by simp [Region.wanted, hg], fun w => by unfold execOp; rw [ho]; rfl⟩, h⟩
theorem wpPure_step {Q : Act → Prop} {a : Act} {o : Oper} {rest : List Oper} {v : Value} (hg : o.guard = none) (hy : ∀ w, (execOp a.eval o).run P w = .ok (.value v) w) (h : wpPure P ops Q rest (a.put o.dst v)) : wpPure P ops Q (o :: rest) a :=
  ⟨v, .inl ⟨by simp [Region.wanted, hg], hy⟩, h⟩

/-- Does the unlisted operation j wait for i? -/
def setAll (listed : Array Bool) : List Nat → Array Bool
  | [] => listed
  | i :: is => setAll (listed.setIfInBounds i true) is

/-- T: each is ready and free at its turn. -/
def takesB (md : Region.Mode) (ops : Array Oper) : Array Bool → List Nat → Bool
  | _, [] => true
  | listed, i :: is => (Region.ready md ops listed).contains i && Region.free md ops listed i && ((ops[i]?).bind (·.dst)).isSome && takesB md ops (listed.setIfInBounds i true) is

theorem wpAny_takes (hs : Region.noSelect ops = true) (hQ : ∀ c a w, ∀ (d : Tmp) v, Q (.panic c) (Act.put a (some d) v) w → Q (.panic c) a w) :
    ∀ (T : List Nat) (fuel : Nat) (listed : Array Bool) (a : Act) (w : World), takesB md ops listed T = true →
      wpPure P ops (fun a' => wpAny P md ops Q fuel (setAll listed T) a' w) (opsAt ops.toList T) a → wpAny P md ops Q (fuel + T.length) listed a w
  | [], fuel, listed, a, w, _, h => h
  | i :: is, fuel, listed, a, w, hB, h => by
    simp only [takesB, Bool.and_eq_true] at hB
    obtain ⟨⟨⟨hr, hf⟩, hdo⟩, hB⟩ := hB
    obtain ⟨d, hd⟩ := Option.isSome_iff_exists.1 hdo
    obtain ⟨o, ho, hod⟩ := Option.bind_eq_some_iff.1 hd
    have hl : ops.toList[i]? = some o := by simpa using ho
    simp only [opsAt, hl, wpPure] at h
    obtain ⟨v, hy, h⟩ := h
    exact wpAny_take ho hs hf hr (fun c a w => by rw [hod]; exact hQ c a w d v) hy (wpAny_takes hs hQ is fuel _ _ w hB h)

/-- A block of readings: while one of ks is unlisted nothing else comes up. -/
def wpBlk (P : Program) (md : Region.Mode) (ops : Array Oper) (w : World) (ks : List Nat) (L : Array Bool → Act → Prop) : Nat → Array Bool → Act → Prop
  | 0, listed, a => L listed a
  | f + 1, listed, a =>
    Region.ready md ops listed ≠ [] ∧ ∀ i ∈ Region.ready md ops listed, i ∈ ks ∧ stOp P ops w i (wpBlk P md ops w ks L f (listed.setIfInBounds i true)) a

theorem wpAny_of_blk {ks : List Nat} {g : Nat} {L : Array Bool → Act → Prop} (hL : ∀ listed a, L listed a → wpAny P md ops Q g listed a w) :
    ∀ (f : Nat) (listed : Array Bool) (a : Act), wpBlk P md ops w ks L f listed a → wpAny P md ops Q (f + g) listed a w
  | 0, listed, a, h => by rw [Nat.zero_add]; exact hL _ _ h
  | f + 1, listed, a, h => by
    rw [show f + 1 + g = (f + g) + 1 by omega]
    exact ⟨fun h0 => absurd h0 h.1, fun i hi => wpOp_of_stOp (fun a' h' => wpAny_of_blk hL f _ a' h') (h.2 i hi).2⟩

/-- Each of ks is waited for by one behind it, the last ones by m. -/
def chainTo (md : Region.Mode) (ops : Array Oper) (m : Nat) : List Nat → Bool
  | [] => true
  | i :: is => (m :: is).any (fun j => Region.waitsFor md ops j i) && chainTo md ops m is

/-- What is listed is closed. -/
def closedB (md : Region.Mode) (ops : Array Oper) (listed : Array Bool) : Bool :=
  decide (listed.size = ops.size) && (List.range ops.size).all fun j => !listed.getD j false || match ops[j]? with
    | some oj => oj.after.all fun e => !Region.binds md e || listed.getD e.on false
    | none => true

/-- Whatever is neither listed nor in ks is m, or waits for something that is neither listed nor in ks. -/
def restB (md : Region.Mode) (ops : Array Oper) (listed : Array Bool) (ks : List Nat) (m : Nat) : Bool :=
  (List.range ops.size).all fun t => listed.getD t true || ks.contains t || t == m || (List.range ops.size).any fun u => !listed.getD u true && !ks.contains u && Region.waitsFor md ops t u

/-- In this order each of ks is ready and free at its turn. -/
def lexB (md : Region.Mode) (ops : Array Oper) : Array Bool → List Nat → Bool
  | _, [] => true
  | listed, i :: is => (Region.ready md ops listed).contains i && Region.free md ops listed i && (ops[i]?).isSome && lexB md ops (listed.setIfInBounds i true) is

structure Inv (md : Region.Mode) (ops : Array Oper) (listed0 : Array Bool) (ks : List Nat) (listed : Array Bool) : Prop where
  size : listed.size = ops.size
  closed : ∀ j oj, ops[j]? = some oj → listed.getD j false = true → ∀ e ∈ oj.after, Region.binds md e = true → listed.getD e.on false = true
  only : ∀ t, t ∉ ks → listed.getD t true = listed0.getD t true

theorem Inv.set {listed0 listed : Array Bool} {ks : List Nat} {i : Nat} (inv : Inv md ops listed0 ks listed) (hi : i ∈ Region.ready md ops listed) (hk : i ∈ ks) : Inv md ops listed0 ks (listed.setIfInBounds i true) := by
  obtain ⟨_, oi, hoi, hall⟩ := mem_ready.1 hi
  refine ⟨by simp [inv.size], fun j oj hj hl e he hb => ?_, fun t ht => (getD_set_ne true (by rintro rfl; exact ht hk)).trans (inv.only t ht)⟩
  by_cases hij : i = j
  · subst hij
    have : oj = oi := Option.some.inj (hj.symm.trans hoi)
    subst this
    exact getD_set_true (hall e he hb)
  · rw [getD_set_ne false hij] at hl
    exact getD_set_true (inv.closed j oj hj hl e he hb)

theorem getD_cases {listed : Array Bool} {j : Nat} (hj : j < listed.size) : listed.getD j true = listed.getD j false := by
  simp [hj]

/-- m is ready: then all of ks are listed. -/
theorem all_listed {listed0 listed : Array Bool} {ks : List Nat} {m : Nat} (inv : Inv md ops listed0 ks listed) (hm : m ∈ Region.ready md ops listed) :
    ∀ is : List Nat, chainTo md ops m is = true → ∀ i ∈ is, listed.getD i false = true
  | [], _, _, h => by cases h
  | i :: is, hc, j, hj => by
    simp only [chainTo, Bool.and_eq_true] at hc
    have ih := all_listed inv hm is hc.2
    rcases List.mem_cons.1 hj with rfl | hj
    · obtain ⟨u, hu, hw⟩ := List.any_eq_true.1 hc.1
      obtain ⟨ou, hou, e, he, hb, hon⟩ := Region.waitsFor_spec hw
      rcases List.mem_cons.1 hu with rfl | hu
      · obtain ⟨_, om, hom, hall⟩ := mem_ready.1 hm
        have : ou = om := Option.some.inj (hou.symm.trans hom)
        subst this
        rw [← hon]; exact hall e he hb
      · rw [← hon]; exact inv.closed u ou hou (ih u hu) e he hb
    · exact ih j hj

theorem only_ks {listed0 listed : Array Bool} {ks : List Nat} {m : Nat} (hc : chainTo md ops m ks = true) (hr : restB md ops listed0 ks m = true) (inv : Inv md ops listed0 ks listed)
    {i : Nat} (hik : i ∈ ks) (hi : listed.getD i true = false) : ∀ t ∈ Region.ready md ops listed, t ∈ ks := by
  intro t ht
  obtain ⟨hun, ot, hot, hall⟩ := mem_ready.1 ht
  have htlt : t < ops.size := (Array.getElem?_eq_some_iff.1 hot).1
  have h1 := List.all_eq_true.1 hr t (List.mem_range.2 htlt)
  simp only [Bool.or_eq_true] at h1
  rcases h1 with ((h1 | h1) | h1) | h1
  · by_cases htk : t ∈ ks
    · exact htk
    · rw [← inv.only t htk, hun] at h1; cases h1
  · simpa using h1
  · have htm : t = m := by simpa using h1
    subst htm
    have h2 := all_listed inv ht ks hc i hik
    rw [getD_both hi] at h2
    cases h2
  · obtain ⟨u, _, hu⟩ := List.any_eq_true.1 h1
    simp only [Bool.and_eq_true, Bool.not_eq_true'] at hu
    obtain ⟨⟨hu1, hu2⟩, hw⟩ := hu
    have huk : u ∉ ks := by intro h; rw [List.contains_iff_mem.2 h] at hu2; cases hu2
    have hul : listed.getD u true = false := (inv.only u huk).trans hu1
    obtain ⟨ot', hot', e, he, hb, hon⟩ := Region.waitsFor_spec hw
    have : ot' = ot := Option.some.inj (hot'.symm.trans hot)
    subst this
    have h2 := hall e he hb
    rw [hon, getD_both hul] at h2
    cases h2

theorem wpBlk_first {ks : List Nat} {m i : Nat} {oi : Oper} {v : Value} {L : Array Bool → Act → Prop} {listed0 : Array Bool} (hi : ops[i]? = some oi)
    (hsel : ∀ (j : Nat) (o : Oper) cs b, ops[j]? = some o → o.op ≠ .select cs b) (hc : chainTo md ops m ks = true) (hr0 : restB md ops listed0 ks m = true) (hik : i ∈ ks)
    (hdone : ∀ listed a, L listed a → ∀ j ∈ Region.ready md ops listed, j ∉ ks) :
    ∀ (f : Nat) (listed : Array Bool) (a : Act), Inv md ops listed0 ks listed →
      (∀ j oj, ops[j]? = some oj → j ≠ i → listed.getD j true = false → (∀ e ∈ oj.after, Region.binds md e = true → e.on ≠ i) → oi.apart ops oj = true) →
      i ∈ Region.ready md ops listed → YieldsAt P ops w oi v a →
      wpBlk P md ops w ks L f (listed.setIfInBounds i true) (a.put oi.dst v) → wpBlk P md ops w ks L (f + 1) listed a := by
  intro f
  induction f with
  | zero =>
    intro listed a inv _ hr hy H
    have hun := (mem_ready.1 hr).1
    refine ⟨fun h => (by rw [h] at hr; cases hr), fun j hj => ?_⟩
    have hjn : j ∈ ks := only_ks hc hr0 inv hik hun j hj
    refine ⟨hjn, ?_⟩
    by_cases hji : j = i
    · subst hji; exact hy.stOp hi H
    · exact absurd hjn (hdone _ _ H j (ready_mono hj hji))
  | succ f ih =>
    intro listed a inv hfree hr hy H
    have hun := (mem_ready.1 hr).1
    refine ⟨fun h => (by rw [h] at hr; cases hr), fun j hj => ?_⟩
    have hjn : j ∈ ks := only_ks hc hr0 inv hik hun j hj
    refine ⟨hjn, ?_⟩
    by_cases hji : j = i
    · subst hji; exact hy.stOp hi H
    · have h1 := (H.2 j (ready_mono hj hji)).2
      obtain ⟨hjun, oj, hoj, hall⟩ := mem_ready.1 hj
      have hnot : ∀ e ∈ oj.after, Region.binds md e = true → e.on ≠ i := fun e he hb heq => by
        have h1 := hall e he hb
        rw [heq, getD_both hun] at h1
        cases h1
      have h2 := stOp_put hoj (hfree j oj hoj hji hjun hnot) (fun cs b => hsel i oi cs b hi) (fun cs b => hsel j oj cs b hoj) hy h1
      have hfree' : ∀ k ok, ops[k]? = some ok → k ≠ i → (listed.setIfInBounds j true).getD k true = false →
          (∀ e ∈ ok.after, Region.binds md e = true → e.on ≠ i) → oi.apart ops ok = true := fun k ok hk hki hun hno => by
        refine hfree k ok hk hki ?_ hno
        by_cases hjk : j = k
        · subst hjk; exact hjun
        · rw [getD_set_ne true hjk] at hun; exact hun
      refine stOp_mono (fun a' h3 => ih (listed.setIfInBounds j true) a' (inv.set hj hjn) hfree' (ready_mono hr (Ne.symm hji)) h3.1 ?_) h2
      rw [Array.setIfInBounds_comm _ _ hji]
      exact h3.2

theorem wpBlk_lex {ks : List Nat} {m : Nat} {Lq : Act → Prop} {listed0 final : Array Bool} (hsel : Region.noSelect ops = true) (hc : chainTo md ops m ks = true) (hr0 : restB md ops listed0 ks m = true)
    (hfin : ∀ j ∈ Region.ready md ops final, j ∉ ks) :
    ∀ (is : List Nat) (listed : Array Bool) (a : Act), (∀ i ∈ is, i ∈ ks) → Inv md ops listed0 ks listed → lexB md ops listed is = true → setAll listed is = final →
    wpStill P ops w Lq (opsAt ops.toList is) a → wpBlk P md ops w ks (fun listed' a' => listed' = final ∧ Lq a') is.length listed a
  | [], listed, a, _, _, _, hf, h => ⟨hf, h⟩
  | i :: is, listed, a, hin, inv, hB, hf, h => by
    simp only [lexB, Bool.and_eq_true] at hB
    obtain ⟨⟨⟨hr, hfr⟩, ho⟩, hB⟩ := hB
    obtain ⟨o, ho⟩ := Option.isSome_iff_exists.1 ho
    have hl : ops.toList[i]? = some o := by simpa using ho
    have hr' : i ∈ Region.ready md ops listed := by simpa using hr
    have hik := hin i (List.mem_cons_self ..)
    simp only [opsAt, hl] at h
    have hst : stOp P ops w i (wpStill P ops w Lq (opsAt ops.toList is)) a := by unfold stOp; simp only [ho]; exact h
    obtain ⟨v, hy, hK⟩ := yieldsAt_of_stOp ho hst
    exact wpBlk_first ho (Region.noSelect_spec hsel) hc hr0 hik (fun listed' a' hL => by rw [hL.1]; exact hfin) is.length listed a inv (Region.free_spec ho hfr) hr' hy
      (wpBlk_lex hsel hc hr0 hfin is _ _ (fun j hj => hin j (List.mem_cons_of_mem _ hj)) (inv.set hr' hik) hB hf hK)

/-- Each of ts is the only one that is ready at its turn; behind them nothing is left. -/
def forcedB (md : Region.Mode) (ops : Array Oper) : Array Bool → List Nat → Bool
  | listed, [] => (Region.ready md ops listed).isEmpty
  | listed, t :: ts => decide (Region.ready md ops listed = [t]) && (ops[t]?).isSome && forcedB md ops (listed.setIfInBounds t true) ts

theorem wpAny_forced : ∀ (ts : List Nat) (fuel : Nat) (listed : Array Bool) (a : Act) (w : World), forcedB md ops listed ts = true → ts.length ≤ fuel → wpList P ops Q (opsAt ops.toList ts) a w → wpAny P md ops Q fuel listed a w
  | [], fuel, listed, a, w, hB, _, h => wpAny_done (by simpa [forcedB] using hB) h fuel
  | t :: ts, 0, _, _, _, _, hl, _ => by simp at hl
  | t :: ts, fuel + 1, listed, a, w, hB, hl, h => by
    simp only [forcedB, Bool.and_eq_true, decide_eq_true_eq] at hB
    obtain ⟨⟨hr, ho⟩, hB⟩ := hB
    obtain ⟨o, ho⟩ := Option.isSome_iff_exists.1 ho
    have hlo : ops.toList[t]? = some o := by simpa using ho
    simp only [opsAt, hlo] at h
    refine ⟨fun h1 => (by rw [hr] at h1; cases h1), fun i hi => ?_⟩
    rw [hr] at hi
    have hit : i = t := by simpa using hi
    subst hit
    have hw : wpOp P ops Q i (wpList P ops Q (opsAt ops.toList ts)) a w := by unfold wpOp; simp only [ho]; exact h
    exact wpOp_mono (fun a' w' h' => wpAny_forced ts fuel _ a' w' hB (by simp at hl; omega) h') hw

/-- All that is asked of the three lists. -/
def tbsB (md : Region.Mode) (ops : Array Oper) (T ks ts : List Nat) : Bool :=
  let l0 := Array.replicate ops.size false
  let l1 := setAll l0 T
  let l2 := setAll l1 ks
  Region.noSelect ops && takesB md ops l0 T && closedB md ops l1 && chainTo md ops (ts.headD ops.size) ks && restB md ops l1 ks (ts.headD ops.size) &&
    (Region.ready md ops l2).all (fun j => !ks.contains j) && lexB md ops l1 ks && forcedB md ops l2 ts && decide (T.length + (ks.length + ts.length) ≤ ops.size)

theorem closed_spec {listed : Array Bool} {ks : List Nat} (h : closedB md ops listed = true) : Inv md ops listed ks listed := by
  simp only [closedB, Bool.and_eq_true, decide_eq_true_eq] at h
  refine ⟨h.1, fun j oj hj hl e he hb => ?_, fun _ _ => rfl⟩
  have hlt : j < ops.size := (Array.getElem?_eq_some_iff.1 hj).1
  have h1 := List.all_eq_true.1 h.2 j (List.mem_range.2 hlt)
  simp only [hl, hj, Bool.not_true, Bool.false_or] at h1
  have h2 := Array.all_eq_true_iff_forall_mem.1 h1 e he
  simpa [hb] using h2

theorem wpAny_fuel : ∀ (f g : Nat) (listed : Array Bool) (a : Act) (w : World), f ≤ g → wpAny P md ops Q f listed a w → wpAny P md ops Q g listed a w
  | 0, g, listed, a, w, _, h => wpAny_done h.1 h.2 g
  | f + 1, 0, _, _, _, hfg, _ => by omega
  | f + 1, g + 1, listed, a, w, hfg, h => ⟨h.1, fun i hi => wpOp_mono (fun a' w' h' => wpAny_fuel f g _ a' w' (by omega) h') (h.2 i hi)⟩

theorem wp_region_tbs {id : Nat} {a : Act} {l : List Oper} (T ks ts : List Nat) (hm : P.follows .mixedOrders = true) (hB : tbsB .any l.toArray T ks ts = true)
    (hQ : ∀ c a w, ∀ (d : Tmp) v, Q (.panic c) (Act.put a (some d) v) w → Q (.panic c) a w)
    (h : wpPure P l.toArray (fun a1 => wpStill P l.toArray w.drew (fun a2 => wpList P l.toArray Q (opsAt l ts) a2 w.drew) (opsAt l ks) a1) (opsAt l T) a) : (Code.region id l.toArray true).wp P Q a w := by
  simp only [tbsB, Bool.and_eq_true, decide_eq_true_eq] at hB
  obtain ⟨⟨⟨⟨⟨⟨⟨⟨hsel, htk⟩, hcl⟩, hch⟩, hrest⟩, hfin⟩, hlex⟩, hforced⟩, hlen⟩ := hB
  refine wp_region_any hm ?_
  refine wpAny_fuel (ks.length + ts.length + T.length) _ _ _ _ (by omega) ?_
  refine wpAny_takes hsel hQ T (ks.length + ts.length) _ a w.drew htk ?_
  have hmono : ∀ (is : List Oper) (a : Act) (R R' : Act → Prop), (∀ a, R a → R' a) → wpPure P l.toArray R is a → wpPure P l.toArray R' is a := by
    intro is
    induction is with
    | nil => intro a R R' hh h; exact hh a h
    | cons o is ih => intro a R R' hh h; obtain ⟨v, hy, h⟩ := h; exact ⟨v, hy, ih _ R R' hh h⟩
  refine hmono _ _ _ _ (fun a1 h1 => ?_) h
  refine wpAny_of_blk (ks := ks) (L := fun listed' a' => listed' = setAll (setAll (Array.replicate l.toArray.size false) T) ks ∧ wpList P l.toArray Q (opsAt l ts) a' w.drew) (fun listed a hL => ?_) ks.length _ a1 ?_
  · rw [hL.1]
    exact wpAny_forced ts ts.length _ a w.drew hforced (Nat.le_refl _) hL.2
  · refine wpBlk_lex (m := ts.headD l.toArray.size) (listed0 := setAll (Array.replicate l.toArray.size false) T) hsel hch hrest ?_ ks _ a1 (fun _ h => h) (closed_spec hcl) hlex rfl h1
    intro j hj hk
    have := List.all_eq_true.1 hfin j hj
    rw [List.contains_iff_mem.2 hk] at this
    cases this
end
end Go.Proofs.Ytbgpihengcjgeaa
