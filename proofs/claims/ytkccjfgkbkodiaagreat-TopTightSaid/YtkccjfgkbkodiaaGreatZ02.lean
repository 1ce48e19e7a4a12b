/-
  Draw · Utf · Esc · EscB: parts of the walk of TopTight, under no condition.
-/
import Derived.StillTail
import Derived.WalkKit
import Derived.KernelRfl
import Derived.Deep.CutBlock
import Derived.Shelf.Strings.Search1
import Derived.Laws.Runes
import Derived.BigRegion
import Derived.Test.YtkccjfgkbkodiaaGreatZ01
namespace Go.Proofs.YtkccjfgkbkodiaaGreat
open Go
/-- Operations taken off a written-out list by their places. -/
def opsAt : List Oper → List Nat → List Oper
  | _, [] => []
  | l, i :: is => match l[i]? with
    | some o => o :: opsAt l is
    | none => opsAt l is
section
variable {P : Program} {ops : Array Oper} {Q : Exit → Act → World → Prop} {md : Region.Mode} {w : World}
/-- Operations that yield in whatever world. -/
def wpPure (P : Program) (ops : Array Oper) (Q : Act → Prop) : List Oper → Act → Prop
  | [], a => Q a
  | o :: rest, a => ∃ v, Yields P ops o v a ∧ wpPure P ops Q rest (a.put o.dst v)
theorem wpPure_nil {Q : Act → Prop} {a : Act} (h : Q a) : wpPure P ops Q [] a := h
theorem wpPure_move {Q : Act → Prop} {a : Act} {o : Oper} {rest : List Oper} (x : Operand) (ho : o.op = .move x) (hg : o.guard = none) (h : wpPure P ops Q rest (a.put o.dst (a.eval x))) : wpPure P ops Q (o :: rest) a :=
  ⟨a.eval x, .inl ⟨by simp [Region.wanted, hg], fun w => by unfold execOp; rw [ho]; rfl⟩, h⟩
theorem wpPure_step {Q : Act → Prop} {a : Act} {o : Oper} {rest : List Oper} {v : Value} (hg : o.guard = none) (hy : ∀ w, (execOp a.eval o).run P w = .ok (.value v) w) (h : wpPure P ops Q rest (a.put o.dst v)) : wpPure P ops Q (o :: rest) a :=
  ⟨v, .inl ⟨by simp [Region.wanted, hg], hy⟩, h⟩
/-- Does the unlisted operation j wait for i? -/
def setAll (listed : Array Bool) : List Nat → Array Bool
  | [] => listed
  | i :: is => setAll (listed.setIfInBounds i true) is
/-- T: each is ready and free at its turn. -/
def takesB (md : Region.Mode) (ops : Array Oper) : Array Bool → List Nat → Bool
  | _, [] => true
  | listed, i :: is => (Region.ready md ops listed).contains i && Region.free md ops listed i && ((ops[i]?).bind (·.dst)).isSome && takesB md ops (listed.setIfInBounds i true) is
theorem wpAny_takes (hs : Region.noSelect ops = true) (hQ : ∀ c a w, ∀ (d : Tmp) v, Q (.panic c) (Act.put a (some d) v) w → Q (.panic c) a w) :
    ∀ (T : List Nat) (fuel : Nat) (listed : Array Bool) (a : Act) (w : World), takesB md ops listed T = true →
      wpPure P ops (fun a' => wpAny P md ops Q fuel (setAll listed T) a' w) (opsAt ops.toList T) a → wpAny P md ops Q (fuel + T.length) listed a w
  | [], fuel, listed, a, w, _, h => h
  | i :: is, fuel, listed, a, w, hB, h => by
    simp only [takesB, Bool.and_eq_true] at hB
    obtain ⟨⟨⟨hr, hf⟩, hdo⟩, hB⟩ := hB
    obtain ⟨d, hd⟩ := Option.isSome_iff_exists.1 hdo
    obtain ⟨o, ho, hod⟩ := Option.bind_eq_some_iff.1 hd
    have hl : ops.toList[i]? = some o := by simpa using ho
    simp only [opsAt, hl, wpPure] at h
    obtain ⟨v, hy, h⟩ := h
    exact wpAny_take ho hs hf hr (fun c a w => by rw [hod]; exact hQ c a w d v) hy (wpAny_takes hs hQ is fuel _ _ w hB h)
/-- A block of readings: while one of ks is unlisted nothing else comes up. -/
def wpBlk (P : Program) (md : Region.Mode) (ops : Array Oper) (w : World) (ks : List Nat) (L : Array Bool → Act → Prop) : Nat → Array Bool → Act → Prop
  | 0, listed, a => L listed a
  | f + 1, listed, a =>
    Region.ready md ops listed ≠ [] ∧ ∀ i ∈ Region.ready md ops listed, i ∈ ks ∧ stOp P ops w i (wpBlk P md ops w ks L f (listed.setIfInBounds i true)) a
theorem wpAny_of_blk {ks : List Nat} {g : Nat} {L : Array Bool → Act → Prop} (hL : ∀ listed a, L listed a → wpAny P md ops Q g listed a w) :
    ∀ (f : Nat) (listed : Array Bool) (a : Act), wpBlk P md ops w ks L f listed a → wpAny P md ops Q (f + g) listed a w
  | 0, listed, a, h => by rw [Nat.zero_add]; exact hL _ _ h
  | f + 1, listed, a, h => by
    rw [show f + 1 + g = (f + g) + 1 by omega]
    exact ⟨fun h0 => absurd h0 h.1, fun i hi => wpOp_of_stOp (fun a' h' => wpAny_of_blk hL f _ a' h') (h.2 i hi).2⟩
/-- Each of ks is waited for by one behind it, the last ones by m. -/
def chainTo (md : Region.Mode) (ops : Array Oper) (m : Nat) : List Nat → Bool
  | [] => true
  | i :: is => (m :: is).any (fun j => Region.waitsFor md ops j i) && chainTo md ops m is
/-- What is listed is closed. -/
def closedB (md : Region.Mode) (ops : Array Oper) (listed : Array Bool) : Bool :=
  decide (listed.size = ops.size) && (List.range ops.size).all fun j => !listed.getD j false || match ops[j]? with
    | some oj => oj.after.all fun e => !Region.binds md e || listed.getD e.on false
    | none => true
/-- Whatever is neither listed nor in ks is m, or waits for something that is neither listed nor in ks. -/
def restB (md : Region.Mode) (ops : Array Oper) (listed : Array Bool) (ks : List Nat) (m : Nat) : Bool :=
  (List.range ops.size).all fun t => listed.getD t true || ks.contains t || t == m || (List.range ops.size).any fun u => !listed.getD u true && !ks.contains u && Region.waitsFor md ops t u
/-- In this order each of ks is ready and free at its turn. -/
def lexB (md : Region.Mode) (ops : Array Oper) : Array Bool → List Nat → Bool
  | _, [] => true
  | listed, i :: is => (Region.ready md ops listed).contains i && Region.free md ops listed i && (ops[i]?).isSome && lexB md ops (listed.setIfInBounds i true) is
structure Inv (md : Region.Mode) (ops : Array Oper) (listed0 : Array Bool) (ks : List Nat) (listed : Array Bool) : Prop where
  size : listed.size = ops.size
  closed : ∀ j oj, ops[j]? = some oj → listed.getD j false = true → ∀ e ∈ oj.after, Region.binds md e = true → listed.getD e.on false = true
  only : ∀ t, t ∉ ks → listed.getD t true = listed0.getD t true
theorem Inv.set {listed0 listed : Array Bool} {ks : List Nat} {i : Nat} (inv : Inv md ops listed0 ks listed) (hi : i ∈ Region.ready md ops listed) (hk : i ∈ ks) : Inv md ops listed0 ks (listed.setIfInBounds i true) := by
  obtain ⟨_, oi, hoi, hall⟩ := mem_ready.1 hi
  refine ⟨by simp [inv.size], fun j oj hj hl e he hb => ?_, fun t ht => (getD_set_ne true (by rintro rfl; exact ht hk)).trans (inv.only t ht)⟩
  by_cases hij : i = j
  · subst hij
    have : oj = oi := Option.some.inj (hj.symm.trans hoi)
    subst this
    exact getD_set_true (hall e he hb)
  · rw [getD_set_ne false hij] at hl
    exact getD_set_true (inv.closed j oj hj hl e he hb)
theorem getD_cases {listed : Array Bool} {j : Nat} (hj : j < listed.size) : listed.getD j true = listed.getD j false := by
  simp [hj]
/-- m is ready: then all of ks are listed. -/
theorem all_listed {listed0 listed : Array Bool} {ks : List Nat} {m : Nat} (inv : Inv md ops listed0 ks listed) (hm : m ∈ Region.ready md ops listed) :
    ∀ is : List Nat, chainTo md ops m is = true → ∀ i ∈ is, listed.getD i false = true
  | [], _, _, h => by cases h
  | i :: is, hc, j, hj => by
    simp only [chainTo, Bool.and_eq_true] at hc
    have ih := all_listed inv hm is hc.2
    rcases List.mem_cons.1 hj with rfl | hj
    · obtain ⟨u, hu, hw⟩ := List.any_eq_true.1 hc.1
      obtain ⟨ou, hou, e, he, hb, hon⟩ := Region.waitsFor_spec hw
      rcases List.mem_cons.1 hu with rfl | hu
      · obtain ⟨_, om, hom, hall⟩ := mem_ready.1 hm
        have : ou = om := Option.some.inj (hou.symm.trans hom)
        subst this
        rw [← hon]; exact hall e he hb
      · rw [← hon]; exact inv.closed u ou hou (ih u hu) e he hb
    · exact ih j hj
theorem only_ks {listed0 listed : Array Bool} {ks : List Nat} {m : Nat} (hc : chainTo md ops m ks = true) (hr : restB md ops listed0 ks m = true) (inv : Inv md ops listed0 ks listed)
    {i : Nat} (hik : i ∈ ks) (hi : listed.getD i true = false) : ∀ t ∈ Region.ready md ops listed, t ∈ ks := by
  intro t ht
  obtain ⟨hun, ot, hot, hall⟩ := mem_ready.1 ht
  have htlt : t < ops.size := (Array.getElem?_eq_some_iff.1 hot).1
  have h1 := List.all_eq_true.1 hr t (List.mem_range.2 htlt)
  simp only [Bool.or_eq_true] at h1
  rcases h1 with ((h1 | h1) | h1) | h1
  · by_cases htk : t ∈ ks
    · exact htk
    · rw [← inv.only t htk, hun] at h1; cases h1
  · simpa using h1
  · have htm : t = m := by simpa using h1
    subst htm
    have h2 := all_listed inv ht ks hc i hik
    rw [getD_both hi] at h2
    cases h2
  · obtain ⟨u, _, hu⟩ := List.any_eq_true.1 h1
    simp only [Bool.and_eq_true, Bool.not_eq_true'] at hu
    obtain ⟨⟨hu1, hu2⟩, hw⟩ := hu
    have huk : u ∉ ks := by intro h; rw [List.contains_iff_mem.2 h] at hu2; cases hu2
    have hul : listed.getD u true = false := (inv.only u huk).trans hu1
    obtain ⟨ot', hot', e, he, hb, hon⟩ := Region.waitsFor_spec hw
    have : ot' = ot := Option.some.inj (hot'.symm.trans hot)
    subst this
    have h2 := hall e he hb
    rw [hon, getD_both hul] at h2
    cases h2
theorem wpBlk_first {ks : List Nat} {m i : Nat} {oi : Oper} {v : Value} {L : Array Bool → Act → Prop} {listed0 : Array Bool} (hi : ops[i]? = some oi)
    (hsel : ∀ (j : Nat) (o : Oper) cs b, ops[j]? = some o → o.op ≠ .select cs b) (hc : chainTo md ops m ks = true) (hr0 : restB md ops listed0 ks m = true) (hik : i ∈ ks)
    (hdone : ∀ listed a, L listed a → ∀ j ∈ Region.ready md ops listed, j ∉ ks) :
    ∀ (f : Nat) (listed : Array Bool) (a : Act), Inv md ops listed0 ks listed →
      (∀ j oj, ops[j]? = some oj → j ≠ i → listed.getD j true = false → (∀ e ∈ oj.after, Region.binds md e = true → e.on ≠ i) → oi.apart ops oj = true) →
      i ∈ Region.ready md ops listed → YieldsAt P ops w oi v a →
      wpBlk P md ops w ks L f (listed.setIfInBounds i true) (a.put oi.dst v) → wpBlk P md ops w ks L (f + 1) listed a := by
  intro f
  induction f with
  | zero =>
    intro listed a inv _ hr hy H
    have hun := (mem_ready.1 hr).1
    refine ⟨fun h => (by rw [h] at hr; cases hr), fun j hj => ?_⟩
    have hjn : j ∈ ks := only_ks hc hr0 inv hik hun j hj
    refine ⟨hjn, ?_⟩
    by_cases hji : j = i
    · subst hji; exact hy.stOp hi H
    · exact absurd hjn (hdone _ _ H j (ready_mono hj hji))
  | succ f ih =>
    intro listed a inv hfree hr hy H
    have hun := (mem_ready.1 hr).1
    refine ⟨fun h => (by rw [h] at hr; cases hr), fun j hj => ?_⟩
    have hjn : j ∈ ks := only_ks hc hr0 inv hik hun j hj
    refine ⟨hjn, ?_⟩
    by_cases hji : j = i
    · subst hji; exact hy.stOp hi H
    · have h1 := (H.2 j (ready_mono hj hji)).2
      obtain ⟨hjun, oj, hoj, hall⟩ := mem_ready.1 hj
      have hnot : ∀ e ∈ oj.after, Region.binds md e = true → e.on ≠ i := fun e he hb heq => by
        have h1 := hall e he hb
        rw [heq, getD_both hun] at h1
        cases h1
      have h2 := stOp_put hoj (hfree j oj hoj hji hjun hnot) (fun cs b => hsel i oi cs b hi) (fun cs b => hsel j oj cs b hoj) hy h1
      have hfree' : ∀ k ok, ops[k]? = some ok → k ≠ i → (listed.setIfInBounds j true).getD k true = false →
          (∀ e ∈ ok.after, Region.binds md e = true → e.on ≠ i) → oi.apart ops ok = true := fun k ok hk hki hun hno => by
        refine hfree k ok hk hki ?_ hno
        by_cases hjk : j = k
        · subst hjk; exact hjun
        · rw [getD_set_ne true hjk] at hun; exact hun
      refine stOp_mono (fun a' h3 => ih (listed.setIfInBounds j true) a' (inv.set hj hjn) hfree' (ready_mono hr (Ne.symm hji)) h3.1 ?_) h2
      rw [Array.setIfInBounds_comm _ _ hji]
      exact h3.2
theorem wpBlk_lex {ks : List Nat} {m : Nat} {Lq : Act → Prop} {listed0 final : Array Bool} (hsel : Region.noSelect ops = true) (hc : chainTo md ops m ks = true) (hr0 : restB md ops listed0 ks m = true)
    (hfin : ∀ j ∈ Region.ready md ops final, j ∉ ks) :
    ∀ (is : List Nat) (listed : Array Bool) (a : Act), (∀ i ∈ is, i ∈ ks) → Inv md ops listed0 ks listed → lexB md ops listed is = true → setAll listed is = final →
    wpStill P ops w Lq (opsAt ops.toList is) a → wpBlk P md ops w ks (fun listed' a' => listed' = final ∧ Lq a') is.length listed a
  | [], listed, a, _, _, _, hf, h => ⟨hf, h⟩
  | i :: is, listed, a, hin, inv, hB, hf, h => by
    simp only [lexB, Bool.and_eq_true] at hB
    obtain ⟨⟨⟨hr, hfr⟩, ho⟩, hB⟩ := hB
    obtain ⟨o, ho⟩ := Option.isSome_iff_exists.1 ho
    have hl : ops.toList[i]? = some o := by simpa using ho
    have hr' : i ∈ Region.ready md ops listed := by simpa using hr
    have hik := hin i (List.mem_cons_self ..)
    simp only [opsAt, hl] at h
    have hst : stOp P ops w i (wpStill P ops w Lq (opsAt ops.toList is)) a := by unfold stOp; simp only [ho]; exact h
    obtain ⟨v, hy, hK⟩ := yieldsAt_of_stOp ho hst
    exact wpBlk_first ho (Region.noSelect_spec hsel) hc hr0 hik (fun listed' a' hL => by rw [hL.1]; exact hfin) is.length listed a inv (Region.free_spec ho hfr) hr' hy
      (wpBlk_lex hsel hc hr0 hfin is _ _ (fun j hj => hin j (List.mem_cons_of_mem _ hj)) (inv.set hr' hik) hB hf hK)
/-- Each of ts is the only one that is ready at its turn; behind them nothing is left. -/
def forcedB (md : Region.Mode) (ops : Array Oper) : Array Bool → List Nat → Bool
  | listed, [] => (Region.ready md ops listed).isEmpty
  | listed, t :: ts => decide (Region.ready md ops listed = [t]) && (ops[t]?).isSome && forcedB md ops (listed.setIfInBounds t true) ts
theorem wpAny_forced : ∀ (ts : List Nat) (fuel : Nat) (listed : Array Bool) (a : Act) (w : World), forcedB md ops listed ts = true → ts.length ≤ fuel → wpList P ops Q (opsAt ops.toList ts) a w → wpAny P md ops Q fuel listed a w
  | [], fuel, listed, a, w, hB, _, h => wpAny_done (by simpa [forcedB] using hB) h fuel
  | t :: ts, 0, _, _, _, _, hl, _ => by simp at hl
  | t :: ts, fuel + 1, listed, a, w, hB, hl, h => by
    simp only [forcedB, Bool.and_eq_true, decide_eq_true_eq] at hB
    obtain ⟨⟨hr, ho⟩, hB⟩ := hB
    obtain ⟨o, ho⟩ := Option.isSome_iff_exists.1 ho
    have hlo : ops.toList[t]? = some o := by simpa using ho
    simp only [opsAt, hlo] at h
    refine ⟨fun h1 => (by rw [hr] at h1; cases h1), fun i hi => ?_⟩
    rw [hr] at hi
    have hit : i = t := by simpa using hi
    subst hit
    have hw : wpOp P ops Q i (wpList P ops Q (opsAt ops.toList ts)) a w := by unfold wpOp; simp only [ho]; exact h
    exact wpOp_mono (fun a' w' h' => wpAny_forced ts fuel _ a' w' hB (by simp at hl; omega) h') hw
/-- All that is asked of the three lists. -/
def tbsB (md : Region.Mode) (ops : Array Oper) (T ks ts : List Nat) : Bool :=
  let l0 := Array.replicate ops.size false
  let l1 := setAll l0 T
  let l2 := setAll l1 ks
  Region.noSelect ops && takesB md ops l0 T && closedB md ops l1 && chainTo md ops (ts.headD ops.size) ks && restB md ops l1 ks (ts.headD ops.size) &&
    (Region.ready md ops l2).all (fun j => !ks.contains j) && lexB md ops l1 ks && forcedB md ops l2 ts && decide (T.length + (ks.length + ts.length) ≤ ops.size)
theorem closed_spec {listed : Array Bool} {ks : List Nat} (h : closedB md ops listed = true) : Inv md ops listed ks listed := by
  simp only [closedB, Bool.and_eq_true, decide_eq_true_eq] at h
  refine ⟨h.1, fun j oj hj hl e he hb => ?_, fun _ _ => rfl⟩
  have hlt : j < ops.size := (Array.getElem?_eq_some_iff.1 hj).1
  have h1 := List.all_eq_true.1 h.2 j (List.mem_range.2 hlt)
  simp only [hl, hj, Bool.not_true, Bool.false_or] at h1
  have h2 := Array.all_eq_true_iff_forall_mem.1 h1 e he
  simpa [hb] using h2
theorem wpAny_fuel : ∀ (f g : Nat) (listed : Array Bool) (a : Act) (w : World), f ≤ g → wpAny P md ops Q f listed a w → wpAny P md ops Q g listed a w
  | 0, g, listed, a, w, _, h => wpAny_done h.1 h.2 g
  | f + 1, 0, _, _, _, hfg, _ => by omega
  | f + 1, g + 1, listed, a, w, hfg, h => ⟨h.1, fun i hi => wpOp_mono (fun a' w' h' => wpAny_fuel f g _ a' w' (by omega) h') (h.2 i hi)⟩
theorem wp_region_tbs {id : Nat} {a : Act} {l : List Oper} (T ks ts : List Nat) (hm : P.follows .mixedOrders = true) (hB : tbsB .any l.toArray T ks ts = true)
    (hQ : ∀ c a w, ∀ (d : Tmp) v, Q (.panic c) (Act.put a (some d) v) w → Q (.panic c) a w)
    (h : wpPure P l.toArray (fun a1 => wpStill P l.toArray w.drew (fun a2 => wpList P l.toArray Q (opsAt l ts) a2 w.drew) (opsAt l ks) a1) (opsAt l T) a) : (Code.region id l.toArray true).wp P Q a w := by
  simp only [tbsB, Bool.and_eq_true, decide_eq_true_eq] at hB
  obtain ⟨⟨⟨⟨⟨⟨⟨⟨hsel, htk⟩, hcl⟩, hch⟩, hrest⟩, hfin⟩, hlex⟩, hforced⟩, hlen⟩ := hB
  refine wp_region_any hm ?_
  refine wpAny_fuel (ks.length + ts.length + T.length) _ _ _ _ (by omega) ?_
  refine wpAny_takes hsel hQ T (ks.length + ts.length) _ a w.drew htk ?_
  have hmono : ∀ (is : List Oper) (a : Act) (R R' : Act → Prop), (∀ a, R a → R' a) → wpPure P l.toArray R is a → wpPure P l.toArray R' is a := by
    intro is
    induction is with
    | nil => intro a R R' hh h; exact hh a h
    | cons o is ih => intro a R R' hh h; obtain ⟨v, hy, h⟩ := h; exact ⟨v, hy, ih _ R R' hh h⟩
  refine hmono _ _ _ _ (fun a1 h1 => ?_) h
  refine wpAny_of_blk (ks := ks) (L := fun listed' a' => listed' = setAll (setAll (Array.replicate l.toArray.size false) T) ks ∧ wpList P l.toArray Q (opsAt l ts) a' w.drew) (fun listed a hL => ?_) ks.length _ a1 ?_
  · rw [hL.1]
    exact wpAny_forced ts ts.length _ a w.drew hforced (Nat.le_refl _) hL.2
  · refine wpBlk_lex (m := ts.headD l.toArray.size) (listed0 := setAll (Array.replicate l.toArray.size false) T) hsel hch hrest ?_ ks _ a1 (fun _ h => h) (closed_spec hcl) hlex rfl h1
    intro j hj hk
    have := List.all_eq_true.1 hfin j hj
    rw [List.contains_iff_mem.2 hk] at this
    cases this
end
end Go.Proofs.YtkccjfgkbkodiaaGreat
namespace Go.Proofs.YtkccjfgkbkodiaaGreat
open Go.RowKit
def ckK : List Kd := [.i64, .u8, .u8, .bool]
set_option maxRecDepth 100000 in
set_option maxHeartbeats 1000000 in
theorem begin_raw {w : World} {b off : Nat} {t : TypeId} {pre post : List Value} (h : Raw w b t pre ckK post off) (x : Int) :
    Calls Tryz.prog 211 #[.pointer (some ⟨b, off, none⟩), .int .u8 x] w fun e w' => RetB e ∧ Raw w' b t pre ckK post off ∧ Only [b] w w' := by
  obtain ⟨c0, z0'⟩ := h.i64 0 rfl
  have z0 : w.cell? ⟨b, off, none⟩ = some (.int .i64 c0) := z0'
  obtain ⟨c1, z1⟩ := h.u8 1 rfl
  obtain ⟨c2, z2⟩ := h.u8 2 rfl
  have f0 := h.frozen off
  have f1 := h.frozen (off + 1)
  have f2 := h.frozen (off + 2)
  have H := hide h
  clear h z0'
  go_enter Tryz.func211, Tryz.ntmps211
  go_upto_block 0 with fail
  go_cut [] (fun wx => Hid (Raw wx b t pre ckK post off) ∧ Hid (Only [b] w wx))
  case first =>
    go_wp2_with fail
    all_goals
      first
      | (go_ret
         refine ⟨⟨_, rfl⟩, ?_, ?_⟩
         · repeat (first | with_reducible exact H.out | ((with_reducible refine Raw.set0I ?_ ?_); rotate_left; · rfl) | ((with_reducible refine Raw.setU8 ?_ ?_); rotate_left; · rfl) | ((with_reducible refine Raw.setB ?_ ?_); rotate_left; · rfl))
         · repeat (first | with_reducible exact Only.refl _ _ | ((with_reducible refine Only.setCell ?_ ?_ _); rotate_left; · simp)))
      | (go_meet
         refine ⟨hide ?_, hide ?_⟩
         · repeat (first | with_reducible exact H.out | ((with_reducible refine Raw.set0I ?_ ?_); rotate_left; · rfl) | ((with_reducible refine Raw.setU8 ?_ ?_); rotate_left; · rfl) | ((with_reducible refine Raw.setB ?_ ?_); rotate_left; · rfl))
         · repeat (first | with_reducible exact Only.refl _ _ | ((with_reducible refine Only.setCell ?_ ?_ _); rotate_left; · simp)))
  case rest =>
    obtain ⟨h2, ho2⟩ := hcut
    clear z0 z1 z2 f0 f1 f2 H
    obtain ⟨c1, z1⟩ := h2.out.u8 1 rfl
    obtain ⟨c2, z2⟩ := h2.out.u8 2 rfl
    have f1 := h2.out.frozen (off + 1)
    have f2 := h2.out.frozen (off + 2)
    go_wp2_with fail
    all_goals
      go_ret
      refine ⟨⟨_, rfl⟩, ?_, ?_⟩
      · repeat (first | with_reducible exact h2.out | ((with_reducible refine Raw.set0I ?_ ?_); rotate_left; · rfl) | ((with_reducible refine Raw.setU8 ?_ ?_); rotate_left; · rfl) | ((with_reducible refine Raw.setB ?_ ?_); rotate_left; · rfl))
      · repeat (first | with_reducible exact ho2.out | ((with_reducible refine Only.setCell ?_ ?_ _); rotate_left; · simp))
set_option maxRecDepth 100000 in
set_option maxHeartbeats 1000000 in
theorem check_raw {w : World} {b off : Nat} {t : TypeId} {pre post : List Value} (h : Raw w b t pre ckK post off) (x : Int) :
    Calls Tryz.prog 206 #[.pointer (some ⟨b, off, none⟩), .int .u8 x] w fun e w' => RetB e ∧ Raw w' b t pre ckK post off ∧ Only [b] w w' := by
  obtain ⟨c0, z0'⟩ := h.i64 0 rfl
  have z0 : w.cell? ⟨b, off, none⟩ = some (.int .i64 c0) := z0'
  obtain ⟨c1, z1⟩ := h.u8 1 rfl
  obtain ⟨c2, z2⟩ := h.u8 2 rfl
  obtain ⟨c3, z3⟩ := h.bool 3 rfl
  have f0 := h.frozen off
  have f1 := h.frozen (off + 1)
  have f2 := h.frozen (off + 2)
  have f3 := h.frozen (off + 3)
  have H := hide h
  have HB := hide (begin_raw h x)
  clear h z0'
  cases c3 with
  | true =>
    clear HB
    go_enter Tryz.func206, Tryz.ntmps206
    go_wp2_with fail
    go_ret
    refine ⟨⟨_, rfl⟩, ?_, ?_⟩
    · repeat (first | with_reducible exact H.out | ((with_reducible refine Raw.set0I ?_ ?_); rotate_left; · rfl) | ((with_reducible refine Raw.setU8 ?_ ?_); rotate_left; · rfl) | ((with_reducible refine Raw.setB ?_ ?_); rotate_left; · rfl))
    · repeat (first | with_reducible exact Only.refl _ _ | ((with_reducible refine Only.setCell ?_ ?_ _); rotate_left; · simp))
  | false =>
    by_cases h0 : c0 = 0
    · subst h0
      go_enter Tryz.func206, Tryz.ntmps206
      go_wp2_with fail
      (with_reducible refine (unhide HB).mono ?_)
      rintro e w2 ⟨⟨r, rfl⟩, h2, ho2⟩
      obtain ⟨c4, z4⟩ := h2.bool 3 rfl
      have f4 := h2.frozen (off + 3)
      have HH := hide h2
      have HO := hide ho2
      clear HB h2 ho2 z0 z1 z2 z3 f0 f1 f2 f3 H
      go_wp2_with fail
      go_ret
      exact ⟨⟨_, rfl⟩, Raw.setB HH.out (by rfl), HO.out.setCell (by simp) _⟩
    · have e0 : (c0 == 0) = false := by simpa using h0
      clear HB h0
      go_enter Tryz.func206, Tryz.ntmps206
      go_wp2_with fail
      all_goals
        go_ret
        refine ⟨⟨_, rfl⟩, ?_, ?_⟩
        · repeat (first | with_reducible exact H.out | ((with_reducible refine Raw.set0I ?_ ?_); rotate_left; · rfl) | ((with_reducible refine Raw.setU8 ?_ ?_); rotate_left; · rfl) | ((with_reducible refine Raw.setB ?_ ?_); rotate_left; · rfl))
        · repeat (first | with_reducible exact Only.refl _ _ | ((with_reducible refine Only.setCell ?_ ?_ _); rotate_left; · simp))
set_option maxRecDepth 100000 in
theorem whole_raw {w : World} {b off : Nat} {t : TypeId} {pre post : List Value} (h : Raw w b t pre ckK post off) :
    Calls Tryz.prog 198 #[.pointer (some ⟨b, off, none⟩)] w fun e w' => RetB e ∧ w' = w := by
  obtain ⟨c0, z0'⟩ := h.i64 0 rfl
  have z0 : w.cell? ⟨b, off, none⟩ = some (.int .i64 c0) := z0'
  obtain ⟨c3, z3⟩ := h.bool 3 rfl
  clear h z0'
  cases c3 with
  | true =>
    go_enter Tryz.func198, Tryz.ntmps198
    go_wp2_with fail
    go_ret
    exact ⟨⟨_, rfl⟩, rfl⟩
  | false =>
    go_enter Tryz.func198, Tryz.ntmps198
    go_wp2_with fail
    go_ret
    exact ⟨⟨_, rfl⟩, rfl⟩
end Go.Proofs.YtkccjfgkbkodiaaGreat
namespace Go.Proofs.YtkccjfgkbkodiaaGreat
open Go.Shelf Go.RowKit
def ren217 : Go.Shelf.Ren := ⟨fun | 217 => 204 | 266 => 210 | n => n, fun | 3 => 3 | 5 => 5 | 9 => 9 | n => n, fun n => n⟩
theorem lays217 : Go.Proofs.Lays.n217 Tryz.prog ren217 := {
  mixed := by kernel_rfl
  f217 := Tryz.func204.trans (congrArg some (by kernel_rfl))
  f266 := Tryz.func210.trans (congrArg some (by kernel_rfl))
  t3 := Tryz.underlying3
  a3 := Tryz.isAgg3
  z3 := Tryz.sizeOf3
  v3 := Tryz.zeroValue3
  t5 := Tryz.underlying5
  a5 := Tryz.isAgg5
  z5 := Tryz.sizeOf5
  v5 := Tryz.zeroValue5
  t9 := Tryz.underlying9
  a9 := Tryz.isAgg9
  z9 := Tryz.sizeOf9
  v9 := Tryz.zeroValue9 }
set_option maxRecDepth 100000 in
theorem index_byte (s : ByteArray) (c : Int) (w : World) :
    Calls Tryz.prog 197 #[.string s, .int .u8 c] w fun e w' => e = .returned (.int .i64 (Lib.indexByte s.data.toList c.toNat.toUInt8)) ∧ w' = w := by
  have HS := hide (show Calls Tryz.prog 204 #[.string s, .int .u8 c] w fun e w' => e = .returned (.int .i64 (Lib.indexByte s.data.toList c.toNat.toUInt8)) ∧ w' = w from Any.stringslite_IndexByte lays217 s c w)
  go_enter Tryz.func197, Tryz.ntmps197
  go_wp2_with fail
  (with_reducible refine (unhide HS).mono ?_)
  rintro e w2 ⟨rfl, hw2⟩
  subst hw2
  go_wp2_with fail
  go_ret
  exact ⟨rfl, rfl⟩
theorem indexByte_bounds : ∀ (l : List UInt8) (c : UInt8), -1 ≤ Lib.indexByte l c ∧ Lib.indexByte l c < l.length
  | [], _ => by simp [Lib.indexByte]
  | b :: l, c => by
    have ih := indexByte_bounds l c
    unfold Lib.indexByte
    simp only [List.length_cons]
    split
    · omega
    · split
      · omega
      · omega
theorem hex_raw (x : Int) (w : World) : Calls Tryz.prog 205 #[.int .u8 x] w fun e w' => RetI e ∧ w' = w := by
  go_enter Tryz.func205, Tryz.ntmps205
  go_wp2_with fail
  all_goals
    go_ret
    exact ⟨⟨_, rfl⟩, rfl⟩
set_option maxRecDepth 100000 in
theorem put_raw (x : Int) (w : World) : Calls Tryz.prog 207 #[.int .i64 x] w fun e w' => RetSB 4 e ∧ w' = w := by
  have key : ∀ n : Int, (Utf8.encode n).size ≤ 4 := fun n => by
    by_cases h : 128 ≤ n ∧ Utf8.valid n = true
    · exact (encode_facts n h.2 h.1).2.1
    · unfold Utf8.encode
      split
      · rename_i hv
        have hn : n.toNat < 128 := by
          have : ¬ 128 ≤ n := fun h1 => h ⟨h1, hv⟩
          omega
        rw [if_pos hn]
        show 1 ≤ 4
        omega
      · show 3 ≤ 4
        omega
  have HK := hide key
  clear key
  go_enter Tryz.func207, Tryz.ntmps207
  go_wp2_with fail
  all_goals
    go_ret2
    first
    | exact ⟨RetSB.of _ (Nat.zero_le _), rfl⟩
    | exact ⟨RetSB.of _ (HK.out _), rfl⟩
def escK : List Kd := [.i64, .u8, .u8, .bool, .i64, .i64, .i64, .i64, .err]
def esK : List Kd := [.i64, .i64, .i64, .i64, .err]
/-- The check in it. -/
theorem esc_chk {w : World} {b off : Nat} {t : TypeId} {pre post : List Value} (h : Raw w b t pre escK post off) :
    ∃ c, Raw w b t pre ckK (c ++ post) off ∧ ∀ w', Raw w' b t pre ckK (c ++ post) off → Raw w' b t pre escK post off := by
  obtain ⟨a, c, ha, hc, hr⟩ := Raw.part (pk := []) (mk := ckK) (qk := esK) h
  have ha0 : a = [] := List.eq_nil_of_length_eq_zero ha.1
  subst ha0
  rw [List.append_nil] at hr
  refine ⟨c, hr, fun w' h' => ?_⟩
  have h2 : Raw w' b t (pre ++ []) ckK (c ++ post) off := by rw [List.append_nil]; exact h'
  have h3 := h2.out ha hc
  obtain ⟨m, hm, _⟩ := h
  rw [hm.1]
  exact h3
set_option maxRecDepth 100000 in
set_option maxHeartbeats 1000000 in
theorem may_raw {w : World} {b off : Nat} {t : TypeId} {pre post : List Value} (h : Raw w b t pre escK post off) (x : Int) :
    Calls Tryz.prog 199 #[.pointer (some ⟨b, off, none⟩), .int .u8 x] w fun e w' => RetB e ∧ w' = w := by
  obtain ⟨c4, z4⟩ := h.i64 4 rfl
  obtain ⟨c6, z6⟩ := h.i64 6 rfl
  have HX := fun W => hide (hex_raw x W)
  clear h
  by_cases h0 : c4 = 0
  · subst h0
    go_enter Tryz.func199, Tryz.ntmps199
    go_wp2_with fail
    all_goals
      go_ret
      exact ⟨⟨_, rfl⟩, rfl⟩
  have e0 : (c4 == 0) = false := by simpa using h0
  by_cases h1 : c4 = 1
  · subst h1
    go_enter Tryz.func199, Tryz.ntmps199
    go_wp2_with fail
    all_goals
      go_ret
      exact ⟨⟨_, rfl⟩, rfl⟩
  have e1 : (c4 == 1) = false := by simpa using h1
  by_cases h2 : c6 = 0
  · subst h2
    clear h0 h1
    go_enter Tryz.func199, Tryz.ntmps199
    go_wp2_with fail
    (with_reducible refine (unhide (HX _)).mono ?_)
    rintro e w2 ⟨⟨r, rfl⟩, hw2⟩
    subst hw2
    go_wp2_with fail
    all_goals
      go_ret
      exact ⟨⟨_, rfl⟩, rfl⟩
  have e2 : (c6 == 0) = false := by simpa using h2
  by_cases h3 : c6 = 1
  · subst h3
    clear h0 h1 h2
    go_enter Tryz.func199, Tryz.ntmps199
    go_wp2_with fail
    (with_reducible refine (unhide (HX _)).mono ?_)
    rintro e w2 ⟨⟨r, rfl⟩, hw2⟩
    subst hw2
    go_wp2_with fail
    all_goals
      go_ret
      exact ⟨⟨_, rfl⟩, rfl⟩
  have e3 : (c6 == 1) = false := by simpa using h3
  clear h0 h1 h2 h3
  go_enter Tryz.func199, Tryz.ntmps199
  go_wp2_with fail
  (with_reducible refine (unhide (HX _)).mono ?_)
  rintro e w2 ⟨⟨r, rfl⟩, hw2⟩
  subst hw2
  go_wp2_with fail
  all_goals
    go_ret
    exact ⟨⟨_, rfl⟩, rfl⟩
end Go.Proofs.YtkccjfgkbkodiaaGreat
namespace Go.Proofs.YtkccjfgkbkodiaaGreat
open Go.RowKit
set_option maxRecDepth 100000 in
set_option maxHeartbeats 1000000 in
theorem plain_raw {w : World} {b off : Nat} {t : TypeId} {pre post : List Value} (h : Raw w b t pre escK post off) (u : UInt8) :
    Calls Tryz.prog 200 #[.pointer (some ⟨b, off, none⟩), .int .u8 (u.toNat : Int)] w fun e w' => RetSE 4 e ∧ Raw w' b t pre escK post off ∧ Only [b] w w' := by
  obtain ⟨c, hc, hback⟩ := esc_chk h
  have HC := hide (check_raw hc (u.toNat : Int))
  have HBK := hide hback
  have HCV := fun W => hide (run_string_blk (P := Tryz.prog) (src := 63) (dst := 9) Tryz.underlying63 Tryz.underlying5 Tryz.underlying9 (l := [u]) (Blk.new W 5 (bytesV [u])) 1 1 rfl)
  have H := hide h
  have hu : (u.toNat : Int) < 256 := by have := u.toNat_lt; omega
  have hu0 : (0 : Int) ≤ u.toNat := by omega
  obtain ⟨x, hx⟩ : ∃ x : Int, x = u.toNat := ⟨_, rfl⟩
  have HCV2 := HCV
  simp only [bytesV, List.map_cons, List.map_nil] at HCV2
  rw [← hx] at HC hu hu0 HCV2 ⊢
  clear h hc hback HCV hx
  by_cases h1 : x < 32
  · clear HC HBK HCV2
    go_enter Tryz.func200, Tryz.ntmps200
    go_wp2_with fail
    go_ret2
    exact ⟨RetSE.of _ (Nat.zero_le _) (by omega) (by omega), H.out, Only.refl _ _⟩
  by_cases h2 : x = 34
  · subst h2
    clear HC HBK HCV2
    go_enter Tryz.func200, Tryz.ntmps200
    go_wp2_with fail
    go_ret2
    exact ⟨RetSE.of _ (Nat.zero_le _) (by omega) (by omega), H.out, Only.refl _ _⟩
  have e2 : (x == 34) = false := by simpa using h2
  clear h2
  go_enter Tryz.func200, Tryz.ntmps200
  go_wp2_with fail
  (with_reducible refine (unhide HC).mono ?_)
  rintro e w2 ⟨⟨r, rfl⟩, h3, ho3⟩
  have h4 := HBK.out w2 h3
  obtain ⟨c4, z4⟩ := h4.i64 4 rfl
  have f4 := h4.frozen (off + 4)
  have HCV3 := (HCV2 w2).out
  have H4 := hide h4
  have HO := hide ho3
  clear HC HBK HCV2 h3 ho3 h4 H
  cases r with
  | false =>
    go_wp2_with fail
    go_ret2
    exact ⟨RetSE.of _ (Nat.zero_le _) (by omega) (by omega), H4.out, HO.out⟩
  | true =>
    by_cases h5 : x = 92
    · subst h5
      go_wp2_with fail
      go_ret2
      exact ⟨RetSE.of _ (Nat.zero_le _) (by omega) (by omega), H4.out.setI rfl, HO.out.setCell (by simp) _⟩
    · have e5 : (x == 92) = false := by simpa using h5
      clear h5
      go_wp2_with fail
      go_ret2
      exact ⟨RetSE.of _ (by show 1 ≤ 4; omega) (by omega) (by omega), H4.out.alloc _, HO.out.alloc _⟩
set_option maxRecDepth 100000 in
set_option maxHeartbeats 1000000 in
theorem behind_raw {w : World} {b off : Nat} {t : TypeId} {pre post : List Value} (h : Raw w b t pre escK post off) (x : Int) :
    Calls Tryz.prog 201 #[.pointer (some ⟨b, off, none⟩), .int .u8 x] w fun e w' => RetSE 4 e ∧ Raw w' b t pre escK post off ∧ Only [b] w w' := by
  obtain ⟨c4, z4⟩ := h.i64 4 rfl
  obtain ⟨c5, z5⟩ := h.i64 5 rfl
  obtain ⟨c6, z6⟩ := h.i64 6 rfl
  have f4 := h.frozen (off + 4)
  have f5 := h.frozen (off + 5)
  have f6 := h.frozen (off + 6)
  have H := hide h
  have HI := fun W => hide (index_byte ⟨#[34, 92, 47, 98, 102, 110, 114, 116]⟩ x W)
  obtain ⟨i, hi⟩ : ∃ i : Int, i = Lib.indexByte (⟨#[34, 92, 47, 98, 102, 110, 114, 116]⟩ : ByteArray).data.toList x.toNat.toUInt8 := ⟨_, rfl⟩
  have hib : -1 ≤ i ∧ i < 8 := by rw [hi]; exact indexByte_bounds _ _
  rw [← hi] at HI
  obtain ⟨hi0, hi8⟩ := hib
  clear h hi
  by_cases h1 : x = 117
  · subst h1
    clear HI
    go_enter Tryz.func201, Tryz.ntmps201
    go_wp2_with fail
    go_ret2
    exact ⟨RetSE.of _ (Nat.zero_le _) (by omega) (by omega), ((H.out.setI rfl).setI rfl).setI rfl, (((Only.refl _ _).setCell (by simp) _).setCell (by simp) _).setCell (by simp) _⟩
  have e1 : (x == 117) = false := by simpa using h1
  clear h1
  by_cases h2 : i < 0
  · go_enter Tryz.func201, Tryz.ntmps201
    go_wp2_with fail
    (with_reducible refine (unhide (HI _)).mono ?_)
    rintro e w2 ⟨rfl, hw2⟩
    subst hw2
    clear HI
    go_wp2_with fail
    go_ret2
    exact ⟨RetSE.of _ (Nat.zero_le _) (by omega) (by omega), H.out, Only.refl _ _⟩
  · obtain ⟨k, rfl⟩ := Int.eq_ofNat_of_zero_le (show 0 ≤ i by omega)
    have hk8 : k < 8 := by omega
    have hsl : ∀ W : World, (Instr.slice 9 (.string (⟨#[34, 92, 47, 8, 12, 10, 13, 9]⟩ : ByteArray)) (some (.int .i64 (k : Int))) (some (.int .i64 ((k : Int) + 1))) none).run Tryz.prog W = .ok (.string ((⟨#[34, 92, 47, 8, 12, 10, 13, 9]⟩ : ByteArray).extract k (k + 1))) W := fun W => by
      have hsz : (⟨#[34, 92, 47, 8, 12, 10, 13, 9]⟩ : ByteArray).size = 8 := rfl
      have h9 := run_slice_string (P := Tryz.prog) W 9 (⟨#[34, 92, 47, 8, 12, 10, 13, 9]⟩ : ByteArray) .i64 .i64 (k : Int) ((k : Int) + 1) Tryz.underlying9 (by omega) (by omega) (by rw [hsz]; omega)
      rw [h9, show ((k : Int) + 1).toNat = k + 1 by omega, Int.toNat_natCast]
    have hex : ((⟨#[34, 92, 47, 8, 12, 10, 13, 9]⟩ : ByteArray).extract k (k + 1)).size ≤ 4 := by
      rw [ByteArray.size_extract]
      omega
    have HEX := hide hex
    clear hex
    go_enter Tryz.func201, Tryz.ntmps201
    go_wp2_with fail
    (with_reducible refine (unhide (HI _)).mono ?_)
    rintro e w2 ⟨rfl, hw2⟩
    subst hw2
    clear HI
    go_wp2_with fail
    go_ret2
    exact ⟨RetSE.of _ HEX.out (by omega) (by omega), H.out.setI rfl, (Only.refl _ _).setCell (by simp) _⟩
set_option maxRecDepth 100000 in
set_option maxHeartbeats 2000000 in
theorem digit_raw {w : World} {b off : Nat} {t : TypeId} {pre post : List Value} (h : Raw w b t pre escK post off) (x : Int) :
    Calls Tryz.prog 202 #[.pointer (some ⟨b, off, none⟩), .int .u8 x] w fun e w' => RetSE 4 e ∧ Raw w' b t pre escK post off ∧ Only [b] w w' := by
  obtain ⟨c5, z5⟩ := h.i64 5 rfl
  obtain ⟨c6, z6⟩ := h.i64 6 rfl
  have f5 := h.frozen (off + 5)
  have f6 := h.frozen (off + 6)
  have H := hide h
  have HX := fun W => hide (hex_raw x W)
  have HPT := fun y W => hide (put_raw y W)
  clear h
  go_enter Tryz.func202, Tryz.ntmps202
  go_wp2_with fail
  (with_reducible refine (unhide (HX _)).mono ?_)
  rintro e w2 ⟨⟨r, rfl⟩, hw2⟩
  subst hw2
  clear HX
  by_cases h0 : r < 0
  · go_wp2_with fail
    go_ret2
    exact ⟨RetSE.of _ (Nat.zero_le _) (by omega) (by omega), H.out, Only.refl _ _⟩
  obtain ⟨c7, z7⟩ := H.out.i64 7 rfl
  obtain ⟨c4, z4⟩ := H.out.i64 4 rfl
  have f7 := H.out.frozen (off + 7)
  have f4 := H.out.frozen (off + 4)
  go_wp2_with fail
  go_region
  go_wp2_with fail
  all_goals
    first
    | (go_ret2
       refine ⟨RetSE.of _ (Nat.zero_le _) (by omega) (by omega), ?_, ?_⟩
       · repeat (first | with_reducible exact H.out | with_reducible exact H.out.drewN _ | with_reducible refine Raw.drew ?_ | ((with_reducible refine Raw.setI ?_ ?_); rotate_left; · rfl))
       · repeat (first | with_reducible exact Only.refl _ _ | with_reducible exact (Only.refl _ _).drewN _ | ((with_reducible refine Only.setCell ?_ ?_ _); rotate_left; · simp) | with_reducible refine Only.drew ?_))
    | ((with_reducible refine (unhide (HPT _ _)).mono ?_)
       rintro e w3 ⟨⟨l, ok, rfl, hl⟩, hw3⟩
       subst hw3
       have HL := hide hl
       clear hl
       go_wp2_with fail
       go_ret2
       refine ⟨⟨l, 0, rfl, HL.out, by omega, by omega⟩, ?_, ?_⟩
       · repeat (first | with_reducible exact H.out | with_reducible exact H.out.drewN _ | with_reducible refine Raw.drew ?_ | ((with_reducible refine Raw.setI ?_ ?_); rotate_left; · rfl))
       · repeat (first | with_reducible exact Only.refl _ _ | with_reducible exact (Only.refl _ _).drewN _ | ((with_reducible refine Only.setCell ?_ ?_ _); rotate_left; · simp) | with_reducible refine Only.drew ?_))
end Go.Proofs.YtkccjfgkbkodiaaGreat
