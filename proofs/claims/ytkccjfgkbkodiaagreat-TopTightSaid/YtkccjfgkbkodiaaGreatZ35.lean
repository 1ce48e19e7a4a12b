/-
  GatJ · GatK · GatL · GatM: parts of the walk of TopTight, under no condition.
-/
import Derived.Test.YtkccjfgkbkodiaaGreatZ34
namespace Go.Proofs.YtkccjfgkbkodiaaGreat
open Go.RowKit
set_option maxRecDepth 100000
theorem Ti.Tm.third {g : Ti.Pre5} {w : World} {B p n : Nat} {now : Int} {f : Int → Option Ti.One} {F : List Nat} (h : Ti.Tm g w B p now n f F) (v : Value) : Ti.Tm { g with c := v } (w.setCell ⟨p, 2, none⟩ v) B p now n f F := by
  have ho : Only [p] w (w.setCell ⟨p, 2, none⟩ v) := (Only.refl _ w).setCell (p := ⟨p, 2, none⟩) (List.mem_singleton.2 rfl) _
  refine ⟨h.n0, h.n1, h.pF, fun k hk => ⟨(h.lt k hk).1, Nat.lt_of_lt_of_le (h.lt k hk).2 ho.size⟩, h.fits, ?_⟩
  rcases h.all with ⟨h1, h2⟩ | ⟨mb, P, h1⟩
  · exact .inl ⟨h1.set_ 2 v, h2⟩
  · exact .inr ⟨mb, P, h1.blk.set_ 2 v, h1.map.keep ho (by have := h1.map.notBlk h1.blk; simpa using this.symm), h1.mF, h1.dom, h1.oF, fun x b o h3 h4 => ho.blk (h1.one x b o h3 h4) (by have := h1.blk.ne_ (h1.one x b o h3 h4) (by decide); simpa using this.symm), h1.inj⟩
section
variable {w w' : World} {gp : Nat} {a : GB} {vw : Value} {Ft : List Nat} {SB : Nat → Nat × List Nat} {own : Nat → Nat} {n tn d sg : Nat} {x : Gt}
/-- The count of all that ever came. -/
theorem GateM.counted (h : GateM w gp a vw Ft SB own n tn d sg x) (m : Int) : GateM (w.setCell ⟨gp, 2, none⟩ (.int .i64 m)) gp a vw Ft SB (own2 own w.heap.size 4) n tn d sg { x with many := m } := by
  have ho : Only Ft w (w.setCell ⟨gp, 2, none⟩ (.int .i64 m)) := (Only.refl _ w).setCell (p := ⟨gp, 2, none⟩) h.tm.pF _
  exact ⟨h.tm.third _, ho.blk h.sl (h.o0.apart h.o4 (by decide) _ (List.mem_cons_self ..)), ho.blk h.il (h.o1.apart h.o4 (by decide) _ (List.mem_cons_self ..)), h.pu.keep ho (h.o2.apart h.o4 (by decide) _ (by simp)) (h.o2.apart h.o4 (by decide) _ (by simp)) (h.o2.apart h.o4 (by decide) _ (by simp)), Wl.Wheel.keep h.wh ho (h.o3.apart h.o4 (by decide)), h.ls, h.li, h.lh, h.n1, h.n8,
    fun i y hy => (h.ses i y hy).keep ho ((h.o5 i y hy).apart h.o4 (by omega) _ (List.mem_cons_self ..)) (fun k hk => (h.o5 i y hy).apart h.o4 (by omega) k (List.mem_cons_of_mem _ hk)),
    h.o0.step ho.size 4, h.o1.step ho.size 4, h.o2.step ho.size 4, h.o3.step ho.size 4, h.o4.step ho.size 4, fun i y hy => (h.o5 i y hy).step ho.size 4, h.ob, h.ot.step ho h.o4 (by decide) 4⟩
/-- An id is given. -/
theorem GateM.named (h : GateM w gp a vw Ft SB own n tn d sg x) (i : Nat) (z : Int) : GateM (w.setCell ⟨a.ib, i, none⟩ (.int .i64 z)) gp a vw Ft SB (own2 own w.heap.size 1) n tn d sg { x with ids := x.ids.set i z } := by
  have ho : Only [a.ib] w (w.setCell ⟨a.ib, i, none⟩ (.int .i64 z)) := (Only.refl _ w).setCell (p := ⟨a.ib, i, none⟩) (List.mem_singleton.2 rfl) _
  have hb := h.il.set_ i (.int .i64 z)
  rw [intsV_set] at hb
  exact ⟨h.tm.keep ho (h.o4.apart h.o1 (by decide)), ho.blk h.sl (h.o0.apart h.o1 (by decide) _ (List.mem_cons_self ..)), hb, h.pu.keep ho (h.o2.apart h.o1 (by decide) _ (by simp)) (h.o2.apart h.o1 (by decide) _ (by simp)) (h.o2.apart h.o1 (by decide) _ (by simp)), Wl.Wheel.keep h.wh ho (h.o3.apart h.o1 (by decide)), h.ls, by show (x.ids.set i z).length = n; rw [List.length_set]; exact h.li, h.lh, h.n1, h.n8,
    fun i y hy => (h.ses i y hy).keep ho ((h.o5 i y hy).apart h.o1 (by omega) _ (List.mem_cons_self ..)) (fun k hk => (h.o5 i y hy).apart h.o1 (by omega) k (List.mem_cons_of_mem _ hk)),
    h.o0.step ho.size 1, h.o1.step ho.size 1, h.o2.step ho.size 1, h.o3.step ho.size 1, h.o4.step ho.size 1, fun i y hy => (h.o5 i y hy).step ho.size 1, h.ob, h.ot.step ho h.o1 (by decide) 1⟩
/-- A new session is put into a slot. -/
theorem GateM.entered (h : GateM w gp a vw Ft SB own n tn d sg x) {i b : Nat} {F : List Nat} {y : Ses} (hi : x.slots[i]? = some none) (hp : SesIs w' b F d sg y) (ho : Only [] w w') (hb : w.heap.size ≤ b) (hF : ∀ k ∈ F, w.heap.size ≤ k) :
    ∃ G, GateM (w'.setCell ⟨a.sb, i, none⟩ (.pointer (some ⟨b, 0, none⟩))) gp { a with bs := fun j => if j = i then b else a.bs j } vw Ft (fun j => if j = i then (b, G) else SB j) (own2 own w.heap.size (5 + i)) n tn d sg (x.now i y) := by
  obtain ⟨G, g1, g2, g3, g4, g5⟩ := hp.small
  have hil : i < x.slots.length := (List.getElem?_eq_some_iff.1 hi).1
  have hsb := (h.o0 a.sb (List.mem_cons_self ..)).2
  have ho2 : Only [a.sb] w (w'.setCell ⟨a.sb, i, none⟩ (.pointer (some ⟨b, 0, none⟩))) := (ho.mono (T := [a.sb]) (by simp)).setCell (p := ⟨a.sb, i, none⟩) (List.mem_singleton.2 rfl) _
  have ho3 : Only [a.sb] w' (w'.setCell ⟨a.sb, i, none⟩ (.pointer (some ⟨b, 0, none⟩))) := (Only.refl _ w').setCell (p := ⟨a.sb, i, none⟩) (List.mem_singleton.2 rfl) _
  have hbl := (ho.blk h.sl (by simp)).set_ i (.pointer (some ⟨b, 0, none⟩))
  have he : (slotsV SB x.slots).setIfInBounds i (.pointer (some ⟨b, 0, none⟩)) = slotsV (fun j => if j = i then (b, G) else SB j) (x.slots.set i (some y)) := by
    apply Array.ext'
    apply List.ext_getElem?
    intro k
    simp only [slotsV, List.setIfInBounds_toArray, List.getElem?_mapIdx, List.getElem?_set, List.length_mapIdx]
    by_cases hk : i = k
    · subst hk
      simp [hil, slotV]
    · simp only [if_neg hk]
      cases x.slots[k]? with
      | none => rfl
      | some o => cases o <;> simp [slotV, Ne.symm hk]
  rw [he] at hbl
  have hs : ∀ j z, j ≠ i → (x.slots.set i (some y))[j]? = some (some z) → x.slots[j]? = some (some z) := fun j z hj hz => by
    rwa [List.getElem?_set_ne (Ne.symm hj)] at hz
  refine ⟨G, h.tm.keep ho2 (h.o4.apart h.o0 (by decide)), hbl, ho2.blk h.il (h.o1.apart h.o0 (by decide) _ (List.mem_cons_self ..)), h.pu.keep ho2 (h.o2.apart h.o0 (by decide) _ (by simp)) (h.o2.apart h.o0 (by decide) _ (by simp)) (h.o2.apart h.o0 (by decide) _ (by simp)), Wl.Wheel.keep h.wh ho2 (h.o3.apart h.o0 (by decide)), by show (x.slots.set i (some y)).length = n; rw [List.length_set]; exact h.ls, h.li, h.lh, h.n1, h.n8, fun j z hz => ?_,
    h.o0.step ho2.size _, h.o1.step ho2.size _, h.o2.step ho2.size _, h.o3.step ho2.size _, h.o4.step ho2.size _, fun j z hz => ?_, fun j z hz => ?_, h.ot.step ho2 h.o0 (by decide) _⟩
  · by_cases hj : j = i
    · subst hj
      rw [show (x.now j y).slots[j]? = some (some y) from List.getElem?_set_self hil] at hz
      cases hz
      simp only [if_true]
      exact g1.keep ho3 (by simp; omega) (fun k hk => by have := hF k (g2 k hk); simp; omega)
    · simp only [if_neg hj]
      have hz' := hs j z hj hz
      exact (h.ses j z hz').keep ho2 ((h.o5 j z hz').apart h.o0 (by omega) _ (List.mem_cons_self ..)) (fun k hk => (h.o5 j z hz').apart h.o0 (by omega) k (List.mem_cons_of_mem _ hk))
  · by_cases hj : j = i
    · subst hj
      simp only [if_true]
      intro k hk
      have hk2 : w.heap.size ≤ k ∧ k < w'.heap.size := by
        rcases List.mem_cons.1 hk with rfl | hk
        · exact ⟨hb, g3⟩
        · exact ⟨hF k (g2 k hk), g4 k hk⟩
      exact ⟨by unfold own2; rw [if_pos hk2.1], Nat.lt_of_lt_of_le hk2.2 ho3.size⟩
    · simp only [if_neg hj]
      exact (h.o5 j z (hs j z hj hz)).step ho2.size _
  · by_cases hj : j = i
    · subst hj
      simp
    · simp only [if_neg hj]
      exact h.ob j z (hs j z hj hz)
end
theorem Gt.charged_tb {x : Gt} {i c : Nat} : (x.charged i c).tb = x.tb := by unfold Gt.charged; split <;> rfl
end Go.Proofs.YtkccjfgkbkodiaaGreat
namespace Go.Proofs.YtkccjfgkbkodiaaGreat
open Go.RowKit
set_option maxRecDepth 100000
section
variable {w w' : World} {gp : Nat} {a : GB} {vw : Value} {Ft : List Nat} {SB : Nat → Nat × List Nat} {own : Nat → Nat} {n tn d sg : Nat} {x : Gt}
theorem Owns.apart2 {F G G' : List Nat} {j i i' : Nat} (h : Owns w own j F) (h1 : Owns w own i G) (h2 : Owns w own i' G') (hi : j ≠ i) (hi' : j ≠ i') : ∀ k ∈ F, k ∉ G ++ G' := fun k hk hm => by
  rcases List.mem_append.1 hm with hm | hm
  · exact h.apart h1 hi k hk hm
  · exact h.apart h2 hi' k hk hm
theorem GateM.ran (h : GateM w gp a vw Ft SB own n tn d sg x) {i : Nat} {y y' : Ses} {F' : List Nat} {H : List Int} (hy : x.slots[i]? = some (some y)) (hp : SesIs w' (SB i).1 F' d sg y') (hpu : Pu.Purse w' a.pp a.qh a.qo x.rest H x.O) (hl : H.length = n) (ho : Only (((SB i).1 :: (SB i).2) ++ [a.pp, a.qh, a.qo]) w w') (hf : ∀ k ∈ F', k ∈ (SB i).2 ∨ w.heap.size ≤ k) :
    ∃ G, GateM w' gp a vw Ft (fun j => if j = i then ((SB i).1, G) else SB j) (own2 own w.heap.size (5 + i)) n tn d sg { x with slots := x.slots.set i (some y'), H := H } := by
  obtain ⟨G, g1, g2, g3, g4, g5⟩ := hp.small
  have hi : i < x.slots.length := (List.getElem?_eq_some_iff.1 hy).1
  have hO := h.o5 i y hy
  have hP := h.o2
  have hne : ∀ j, j ≤ 4 → j ≠ 5 + i := fun j hj => by omega
  have hsl : slotsV (fun j => if j = i then ((SB i).1, G) else SB j) (x.slots.set i (some y')) = slotsV SB x.slots := by
    apply Array.ext'
    apply List.ext_getElem?
    intro k
    simp only [slotsV, List.getElem?_mapIdx]
    by_cases hk : k = i
    · subst hk
      rw [List.getElem?_set_self hi, hy]
      simp [slotV]
    · rw [List.getElem?_set_ne (Ne.symm hk)]
      cases x.slots[k]? with
      | none => rfl
      | some o => cases o <;> simp [slotV, hk]
  refine ⟨G, h.tm.keep ho (h.o4.apart2 hO hP (hne 4 (by omega)) (by decide)), by rw [hsl]; exact ho.blk h.sl (h.o0.apart2 hO hP (hne 0 (by omega)) (by decide) _ (List.mem_cons_self ..)), ho.blk h.il (h.o1.apart2 hO hP (hne 1 (by omega)) (by decide) _ (List.mem_cons_self ..)), hpu, Wl.Wheel.keep h.wh ho (h.o3.apart2 hO hP (hne 3 (by omega)) (by decide)), by rw [List.length_set]; exact h.ls, h.li, hl, h.n1, h.n8, fun j z hz => ?_,
    h.o0.step ho.size _, h.o1.step ho.size _, h.o2.step ho.size _, h.o3.step ho.size _, h.o4.step ho.size _, fun j z hz => ?_, fun j z hz => ?_, ?_⟩
  · by_cases hj : j = i
    · subst hj
      rw [show (x.slots.set j (some y'))[j]? = some (some y') from List.getElem?_set_self hi] at hz
      cases hz
      simpa using g1
    · rw [show (x.slots.set i (some y'))[j]? = x.slots[j]? from List.getElem?_set_ne (Ne.symm hj)] at hz
      simp only [if_neg hj]
      exact (h.ses j z hz).keep ho ((h.o5 j z hz).apart2 hO hP (by omega) (by omega) _ (List.mem_cons_self ..)) (fun k hk => (h.o5 j z hz).apart2 hO hP (by omega) (by omega) k (List.mem_cons_of_mem _ hk))
  · by_cases hj : j = i
    · subst hj
      simp only [if_true]
      exact hO.mine (fun k hk => by
        rcases List.mem_cons.1 hk with rfl | hk
        · exact .inl (List.mem_cons_self ..)
        · exact (hf k (g2 k hk)).imp_left (List.mem_cons_of_mem _)) (fun k hk => by
        rcases List.mem_cons.1 hk with rfl | hk
        · exact g3
        · exact g4 k hk)
    · rw [show (x.slots.set i (some y'))[j]? = x.slots[j]? from List.getElem?_set_ne (Ne.symm hj)] at hz
      simp only [if_neg hj]
      exact (h.o5 j z hz).step ho.size _
  · by_cases hj : j = i
    · subst hj
      simp only [if_true]
      exact h.ob j y hy
    · rw [show (x.slots.set i (some y'))[j]? = x.slots[j]? from List.getElem?_set_ne (Ne.symm hj)] at hz
      simp only [if_neg hj]
      exact h.ob j z hz
  · refine ⟨ho.os.trans h.ot.os, ho.tape.trans h.ot.tape, ho.output.trans h.ot.output, Nat.le_trans h.ot.size ho.size, fun k hk => ?_⟩
    obtain ⟨h1, h2, h3⟩ := h.ot.blk k hk
    have hlt := Nat.lt_of_lt_of_le h1 h.ot.size
    refine ⟨h1, by unfold own2; rw [if_neg (by omega)]; exact h2, (ho.block k hlt fun hm => ?_).trans h3⟩
    have := h.ls
    have := h.n8
    rcases List.mem_append.1 hm with hm | hm
    · have := (hO k hm).1; omega
    · have := (hP k hm).1; omega
/-- What lies outside went on; w' is the new mark. -/
theorem GateM.outside (h : GateM w gp a vw Ft SB own n tn d sg x) {T : List Nat} (ho : Only T w w') (hT : ∀ k ∈ T, x.fr.out k = true) :
    GateM w' gp a vw Ft SB (own2 own w.heap.size 99) n tn d sg { x with fr := ⟨w', fun k => x.fr.out k || decide (w.heap.size ≤ k ∧ k < w'.heap.size)⟩ } := by
  have hO : Owns w own 99 T := fun k hk => by
    obtain ⟨h1, h2, h3⟩ := h.ot.blk k (hT k hk)
    exact ⟨h2, Nat.lt_of_lt_of_le h1 h.ot.size⟩
  have h8 : ∀ i y, x.slots[i]? = some (some y) → 5 + i ≠ 99 := fun i y hy => by
    have := h.ls
    have := h.n8
    have := (List.getElem?_eq_some_iff.1 hy).1
    omega
  refine ⟨h.tm.keep ho (h.o4.apart hO (by decide)), ho.blk h.sl (h.o0.apart hO (by decide) _ (List.mem_cons_self ..)), ho.blk h.il (h.o1.apart hO (by decide) _ (List.mem_cons_self ..)), h.pu.keep ho (h.o2.apart hO (by decide) _ (by simp)) (h.o2.apart hO (by decide) _ (by simp)) (h.o2.apart hO (by decide) _ (by simp)), Wl.Wheel.keep h.wh ho (h.o3.apart hO (by decide)), h.ls, h.li, h.lh, h.n1, h.n8,
    fun i y hy => (h.ses i y hy).keep ho ((h.o5 i y hy).apart hO (h8 i y hy) _ (List.mem_cons_self ..)) (fun k hk => (h.o5 i y hy).apart hO (h8 i y hy) k (List.mem_cons_of_mem _ hk)),
    h.o0.step ho.size 99, h.o1.step ho.size 99, h.o2.step ho.size 99, h.o3.step ho.size 99, h.o4.step ho.size 99, fun i y hy => (h.o5 i y hy).step ho.size 99, h.ob, ⟨rfl, rfl, rfl, Nat.le_refl _, fun k hk => ?_⟩⟩
  simp only [Bool.or_eq_true, decide_eq_true_eq] at hk
  rcases hk with hk | hk
  · obtain ⟨h1, h2, h3⟩ := h.ot.blk k hk
    have hlt := Nat.lt_of_lt_of_le h1 h.ot.size
    exact ⟨Nat.lt_of_lt_of_le hlt ho.size, by unfold own2; rw [if_neg (by omega)]; exact h2, rfl⟩
  · exact ⟨hk.2, by unfold own2; rw [if_pos hk.1], rfl⟩
end
/-- A mark is set anew. -/
theorem GateIs.outside {w w' : World} {gp : Nat} {a : GB} {n d sg : Nat} {x : Gt} (h : GateIs w gp a n d sg x) {T : List Nat} (ho : Only T w w') (hT : ∀ k ∈ T, x.fr.out k = true) :
    GateIs w' gp a n d sg { x with fr := ⟨w', fun k => x.fr.out k || decide (w.heap.size ≤ k ∧ k < w'.heap.size)⟩ } := by
  obtain ⟨vw, Ft, SB, own, tn, hM, htn⟩ := h
  exact ⟨_, _, _, _, _, hM.outside ho hT, htn⟩
/-- What was written since the mark. -/
theorem GateIs.only {w : World} {gp : Nat} {a : GB} {n d sg : Nat} {x : Gt} (h : GateIs w gp a n d sg x) : Only ((List.range x.fr.w0.heap.size).filter fun k => !x.fr.out k) x.fr.w0 w := by
  obtain ⟨vw, Ft, SB, own, tn, hM, htn⟩ := h
  refine ⟨hM.ot.os, hM.ot.tape, hM.ot.output, hM.ot.size, fun k hk hn => ?_⟩
  have : x.fr.out k = true := by
    cases hb : x.fr.out k with
    | true => rfl
    | false => exact (hn (List.mem_filter.2 ⟨List.mem_range.2 hk, by rw [hb]; rfl⟩)).elim
  exact (hM.ot.blk k this).2.2
end Go.Proofs.YtkccjfgkbkodiaaGreat
namespace Go.Proofs.YtkccjfgkbkodiaaGreat
open Go.RowKit
set_option maxRecDepth 100000
theorem gate_live_none {w : World} {gp : Nat} {a : GB} {n d sg : Nat} {x : Gt} (h : GateIs w gp a n d sg x) (hno : ∀ i, i < n → x.slots[i]? = some none) :
    Calls Tryz.prog 17 #[.pointer (some ⟨gp, 0, none⟩)] w fun e w' => e = .returned (.slice none 0 0) ∧ w' = w := by
  obtain ⟨vw, Ft, SB, own, tn, hM, htn⟩ := h
  obtain ⟨c0, c1, c2, c3, c4⟩ := hM.cells
  have hn8 := hM.n8
  have HM := hide hM
  have HNO := hide hno
  clear hM htn hno c1 c2 c3 c4
  go_enter Tryz.func17, Tryz.ntmps17
  go_wp2_with fail
  go_loopg [3, 4, 5, 13] n (fun gk s3 s4 s5 s13 wr => ∃ i : Nat, s3 = .slice none 0 0 ∧ s13 = .int .i64 i ∧ i + gk = n ∧ wr = w)
  case atStart => exact ⟨0, rfl, rfl, by omega, rfl⟩
  case round =>
    obtain ⟨i, rfl, rfl, hi, hw⟩ := hrel
    subst hw
    by_cases hlt : i < n
    · have s0 := HM.out.slot (HNO.out i hlt)
      simp only [slotV] at s0
      have hlt2 : (i : Int) < n := by omega
      go_wp2_with fail
      go_roundg (gk - 1)
      case measure => omega
      case rel => exact ⟨i + 1, rfl, by go_num, by omega, rfl⟩
    · have hlt2 : ¬ (i : Int) < n := by omega
      go_wp2_with fail
      go_ret
      exact ⟨rfl, rfl⟩
end Go.Proofs.YtkccjfgkbkodiaaGreat
namespace Go.Proofs.YtkccjfgkbkodiaaGreat
open Go.RowKit
set_option maxRecDepth 100000
/-- A new session came into a slot. -/
structure Joined (x x' : Gt) (n i m : Nat) : Prop where
  slots : x'.slots = x.slots.set i (some Ses.new)
  ids : x'.ids = x.ids.set i ((i + n * m : Nat) : Int)
  many : x'.many = ((m + 1 : Nat) : Int)
  rest : x'.rest = x.rest
  O : x'.O = x.O.set i true
  H : ∃ c, Ses.new.chargeBy c ∧ x'.H = if Pu.canSet x.rest x.H (x.O.set i true) i c then x.H.set i c else x.H
  L : x'.L = x.L ++ [(i : Int)]
  f : ∀ j, (x'.f j).isSome = if j = (i : Int) then true else (x.f j).isSome
  tb : x'.tb = x.tb + 1
  fr : x'.fr = x.fr
theorem Gt.charged_Hif {x : Gt} {i c : Nat} : (x.charged i c).H = if Pu.canSet x.rest x.H x.O i c then x.H.set i c else x.H := by unfold Gt.charged; split <;> rfl
theorem GateM.tbd {w : World} {gp : Nat} {a : GB} {vw : Value} {Ft : List Nat} {SB : Nat → Nat × List Nat} {own : Nat → Nat} {n tn d sg : Nat} {x : Gt} (h : GateM w gp a vw Ft SB own n tn d sg x) (t : Nat) : GateM w gp a vw Ft SB own n tn d sg { x with tb := t } :=
  ⟨h.tm, h.sl, h.il, h.pu, h.wh, h.ls, h.li, h.lh, h.n1, h.n8, h.ses, h.o0, h.o1, h.o2, h.o3, h.o4, h.o5, h.ob, h.ot⟩
set_option maxHeartbeats 4000000 in
set_option linter.unusedSimpArgs false in
theorem gate_connect {w : World} {gp : Nat} {a : GB} {n d sg : Nat} {x : Gt} (h : GateIs w gp a n d sg x) {i m : Nat} (hi : x.slots[i]? = some none) (hbef : ∀ j, j < i → ∃ y, x.slots[j]? = some (some y)) (hm : x.many = (m : Int)) (hmb : m ≤ 1000) (hO : x.O[i]? = some false) (hf : x.f (i : Int) = none) (hL : (i : Int) ∉ x.L) (htb : x.tb ≤ 100) (hd : d ≤ 100) :
    Calls Tryz.prog 10 #[.pointer (some ⟨gp, 0, none⟩)] w fun e w' => e = .returned (.tuple #[.int .i64 ((i + n * m : Nat) : Int), .string ⟨#[]⟩]) ∧ ∃ a' x', Joined x x' n i m ∧ GateIs w' gp a' n d sg x' := by
  obtain ⟨vw, Ft, SB, own, tn, hM, htn⟩ := h
  obtain ⟨c0, c1, c2, c3, c4⟩ := hM.cells
  have hn8 := hM.n8
  have hin : i < n := by rw [← hM.ls]; exact (List.getElem?_eq_some_iff.1 hi).1
  obtain ⟨nm, hnm⟩ : ∃ nm : Int, nm = (n : Int) * (m : Int) := ⟨_, rfl⟩
  have hnm2 : nm = ((n * m : Nat) : Int) := by rw [hnm]; simp
  have hnm3 : n * m ≤ 8 * 1000 := Nat.mul_le_mul hn8 hmb
  have hw1 : IntKind.i64.wrap ((n : Int) * (m : Int)) = nm := by rw [hnm]; exact wrap_small _ (by rw [← hnm, hnm2]; omega) (by rw [← hnm, hnm2]; omega)
  obtain ⟨q, hq⟩ : ∃ q, q = i + n * m := ⟨_, rfl⟩
  have hw2 : IntKind.i64.wrap ((i : Int) + nm) = (q : Int) := by rw [hnm2, hq]; rw [wrap_small _ (by omega) (by omega)]; push_cast; rfl
  have hql : q ≤ 9000 := by omega
  rw [← hq]
  have HQ := hide hq
  have hw3 : IntKind.i64.wrap ((m : Int) + 1) = ((m + 1 : Nat) : Int) := by rw [wrap_small _ (by omega) (by omega)]; push_cast; rfl
  rw [hm] at c2
  have HM := hide (And.intro hM htn)
  have HI := hide (And.intro hi (And.intro hO (And.intro hf (And.intro hL (And.intro htb hd)))))
  have HB := hide hbef
  have HN := hide (And.intro hnm2 (And.intro hnm3 hm))
  clear hM htn hi hbef hm hO hf hL htb hd hmb hnm hnm2 hnm3 c1 c2 c3 c4 hq
  go_enter Tryz.func10, Tryz.ntmps10
  go_wp2_with fail
  go_loopg [4, 5, 13] (i + 1) (fun gk s4 s5 s13 wr => ∃ j : Nat, s13 = .int .i64 j ∧ j + gk = i + 1 ∧ 0 < gk ∧ wr = w)
  case atStart => exact ⟨0, rfl, by omega, by omega, rfl⟩
  case round =>
    obtain ⟨j, rfl, hj, hg0, hw⟩ := hrel
    subst hw
    by_cases hlt : j < i
    · obtain ⟨y, hy⟩ := HB.out j hlt
      have s0 := HM.out.1.slot hy
      simp only [slotV] at s0
      have hlt2 : (j : Int) < n := by omega
      clear hy
      go_wp2_with fail
      go_roundg (gk - 1)
      case measure => omega
      case rel => exact ⟨j + 1, by go_num, by omega, by omega, rfl⟩
    · by_cases hji : j = i
      · subst hji
        have s0 := HM.out.1.slot HI.out.1
        simp only [slotV] at s0
        have hlt2 : (j : Int) < n := by omega
        have hMd := HM.out.1.new ((Only.refl [] wr).drew)
        obtain ⟨d0, d1, d2, d3, d4⟩ := hMd.cells
        have HMD := hide hMd
        have HS := hide (ses_new wr.drew d sg)
        clear hMd d1 d2 d3 d4
        go_upto_region 7 with (fail)
        refine wp_region_tree (fun W => W.cell? ⟨gp, 0, none⟩ = some (.slice (some ⟨a.sb, 0, none⟩) n n)) 8 (.take [0, 1, 2, 3, 4] (.step 5 (.step 6 (.step 7 (.fin))))) (by kernel_rfl) (by kernel_rfl) (by intro _ _ _ _ _ h; exact h) ?_
        refine wpTree_take (d0) ?_
        simp only [opsAt, List.getElem?_cons_zero, List.getElem?_cons_succ]
        iterate 5 (first | (refine wpPureH_step (v := ?_) rfl (fun W hS => ?_) ?_; rotate_left; · (obtain s1 := hS; (try simp only [Act.put, List.setIfInBounds_toArray, List.set_cons_zero, List.set_cons_succ]); go_simp; with_reducible rfl)) | (refine wpPureH_want (v := ?_) (by rfl) (fun W hS => ?_) ?_; rotate_left; · (obtain s1 := hS; (try simp only [Act.put, List.setIfInBounds_toArray, List.set_cons_zero, List.set_cons_succ]); go_simp; with_reducible rfl)))
        refine wpPureH_nil ?_
        simp only [Act.put, List.setIfInBounds_toArray, List.set_cons_zero, List.set_cons_succ]
        refine wpTree_step ?_
        simp only [opsAt, List.getElem?_cons_zero, List.getElem?_cons_succ]
        go_wp2_with fail
        (with_reducible refine (unhide HS).mono ?_)
        rintro e w1 ⟨b, F, rfl, hs, ho, hb, hF, hbF⟩
        have hM1 := HMD.out.new ho
        obtain ⟨e0, e1, e2, e3, e4⟩ := hM1.cells
        have s1 := hM1.slot HI.out.1
        simp only [slotV] at s1
        have f1 := hM1.sl.frozen j
        obtain ⟨w2, hw2'⟩ : ∃ w2, w2 = w1.setCell ⟨a.sb, j, none⟩ (.pointer (some ⟨b, 0, none⟩)) := ⟨_, rfl⟩
        obtain ⟨a', SB', ow', hsb, hib, hpp, hwp, hqh, hqo, hM2⟩ : ∃ (a' : GB) (SB' : Nat → Nat × List Nat) (ow' : Nat → Nat), a'.sb = a.sb ∧ a'.ib = a.ib ∧ a'.pp = a.pp ∧ a'.wp = a.wp ∧ a'.qh = a.qh ∧ a'.qo = a.qo ∧ GateM w2 gp a' vw Ft SB' ow' n tn d sg (x.now j Ses.new) := by
          obtain ⟨G, hM2⟩ := HMD.out.entered HI.out.1 hs ho hb hF
          rw [← hw2'] at hM2
          exact ⟨{ a with bs := fun k => if k = j then b else a.bs k }, _, _, rfl, rfl, rfl, rfl, rfl, rfl, hM2⟩
        obtain ⟨k0, k1, k2, k3, k4⟩ := hM2.cells
        have hm2 : (x.now j Ses.new).many = (m : Int) := HN.out.2.2
        rw [hm2] at k2
        rw [hsb] at k0
        rw [hib] at k1
        have HM2 := hide hM2
        have HA := hide (And.intro hsb (And.intro hib (And.intro hpp (And.intro hwp (And.intro hqh hqo)))))
        have hib2 : ∃ z, w2.cell? ⟨a.ib, j, none⟩ = some z := by rw [← hib]; exact ⟨_, hM2.id (List.getElem?_eq_getElem (by rw [hM2.li]; exact hin))⟩
        obtain ⟨zi, i2⟩ := hib2
        have fi2 : w2.frozen? ⟨a.ib, j, none⟩ = false := by rw [← hib]; exact hM2.il.frozen j
        clear hM1 hM2 e1 e2 e3 e4 hs ho hb hF hbF HS c0 d0 k3 k4 s0 hm2 hsb hib hpp hwp hqh hqo
        go_wp2_with fail
        refine ⟨.inr e0, ?_⟩
        refine wpTree_step ?_
        simp only [opsAt, List.getElem?_cons_zero, List.getElem?_cons_succ]
        go_wp2_with fail
        refine ⟨.inr e0, ?_⟩
        refine wpTree_step ?_
        simp only [opsAt, List.getElem?_cons_zero, List.getElem?_cons_succ]
        go_wp2_with fail
        rw [← hw2']
        refine ⟨.inr k0, wpTree_fin ?_⟩
        clear hw2' e0 s1 f1
        go_upto_region 8 with (fail)
        refine wp_region_tree (fun W => W.cell? ⟨gp, 0, none⟩ = some (.slice (some ⟨a.sb, 0, none⟩) n n) ∧ W.cell? ⟨gp, 1, none⟩ = some (.slice (some ⟨a.ib, 0, none⟩) n n) ∧ W.cell? ⟨gp, 2, none⟩ = some (.int .i64 (m : Int))) 19 (.take [0, 1, 2, 3, 4, 5, 6, 7, 8, 9, 10, 11, 12, 13, 14, 15, 16, 17] (.step 18 (.fin))) (by kernel_rfl) (by kernel_rfl) (by intro _ _ _ _ _ h; exact h) ?_
        have hM2d := HM2.out.new ((Only.refl [] w2).drew)
        have l0 : w2.drew.cell? ⟨gp, 0, none⟩ = some (.slice (some ⟨a.sb, 0, none⟩) n n) := k0
        have l1 : w2.drew.cell? ⟨gp, 1, none⟩ = some (.slice (some ⟨a.ib, 0, none⟩) n n) := k1
        have l2 : w2.drew.cell? ⟨gp, 2, none⟩ = some (.int .i64 (m : Int)) := k2
        have i2d : w2.drew.cell? ⟨a.ib, j, none⟩ = some zi := i2
        have fi2d : w2.drew.frozen? ⟨a.ib, j, none⟩ = false := fi2
        clear k0 k1 k2 i2 fi2
        obtain ⟨wd, hwd⟩ : ∃ wd, wd = w2.drew := ⟨_, rfl⟩
        rw [← hwd] at hM2d l0 l1 l2 i2d fi2d ⊢
        clear hwd
        obtain ⟨x3, hx3⟩ : ∃ x3 : Gt, x3 = { x.now j Ses.new with ids := x.ids.set j (q : Int) } := ⟨_, rfl⟩
        obtain ⟨ow3, hM3⟩ : ∃ ow3, GateM (wd.setCell ⟨a.ib, j, none⟩ (.int .i64 (q : Int))) gp a' vw Ft SB' ow3 n tn d sg x3 := by
          have := hM2d.named j (q : Int)
          rw [HA.out.2.1] at this
          rw [hx3]
          exact ⟨_, this⟩
        obtain ⟨w3, hw3'⟩ : ∃ w3, w3 = wd.setCell ⟨a.ib, j, none⟩ (.int .i64 (q : Int)) := ⟨_, rfl⟩
        rw [← hw3'] at hM3
        obtain ⟨k0, k1, k2, k3, k4⟩ := hM3.cells
        have hm3 : x3.many = (m : Int) := by rw [hx3]; exact HN.out.2.2
        rw [HA.out.1] at k0
        rw [HA.out.2.1] at k1
        rw [hm3] at k2
        obtain ⟨tm3, hb3⟩ := hM3.tm.now_
        have f2 := hb3.frozen 2
        have HM3 := hide hM3
        have HX3 := hide hx3
        clear hM2d hM3 hx3 hm3 k3 k4 hb3 HM2
        refine wpTree_take (⟨l0, l1, l2⟩) ?_
        simp only [opsAt, List.getElem?_cons_zero, List.getElem?_cons_succ]
        iterate 18 (first | (refine wpPureH_step (v := ?_) rfl (fun W hS => ?_) ?_; rotate_left; · (obtain ⟨s1, s2, s3⟩ := hS; (try simp only [Act.put, List.setIfInBounds_toArray, List.set_cons_zero, List.set_cons_succ]); go_simp; with_reducible rfl)) | (refine wpPureH_want (v := ?_) (by rfl) (fun W hS => ?_) ?_; rotate_left; · (obtain ⟨s1, s2, s3⟩ := hS; (try simp only [Act.put, List.setIfInBounds_toArray, List.set_cons_zero, List.set_cons_succ]); go_simp; with_reducible rfl)))
        refine wpPureH_nil ?_
        simp only [Act.put, List.setIfInBounds_toArray, List.set_cons_zero, List.set_cons_succ]
        refine wpTree_step ?_
        simp only [opsAt, List.getElem?_cons_zero, List.getElem?_cons_succ]
        go_wp2_with fail
        rw [← hw3']
        refine ⟨⟨k0, k1, k2⟩, wpTree_fin ?_⟩
        clear hw3' l0 l1 l2 i2d fi2d
        obtain ⟨w4, hw4'⟩ : ∃ w4, w4 = w3.setCell ⟨gp, 2, none⟩ (.int .i64 ((m + 1 : Nat) : Int)) := ⟨_, rfl⟩
        obtain ⟨m1, hm1⟩ : ∃ m1 : Int, m1 = ((m + 1 : Nat) : Int) := ⟨_, rfl⟩
        rw [← hm1] at hw3 hw4'
        obtain ⟨x4, hx4⟩ : ∃ x4 : Gt, x4 = { x3 with many := m1 } := ⟨_, rfl⟩
        obtain ⟨ow4, hM4⟩ : ∃ ow4, GateM (w3.setCell ⟨gp, 2, none⟩ (.int .i64 m1)) gp a' vw Ft SB' ow4 n tn d sg x4 := by
          rw [hx4]
          exact ⟨_, HM3.out.counted m1⟩
        rw [← hw4'] at hM4
        obtain ⟨e0, e1, e2, e3, e4⟩ := hM4.cells
        have HOP := hide (Pu.open_yes hM4.pu j (by rw [hx4, HX3.out]; exact HI.out.2.1))
        have HX4 := hide (And.intro hx4 hm1)
        have HM4 := hide hM4
        clear hM4 hx4 hm1 HM3 e0 e1 e2 e4
        go_upto_region 10 with (fail)
        rw [← hw4']
        clear hw4' k0 k1 k2 f2
        go_wp2_with fail
        (with_reducible refine (unhide HOP).mono ?_)
        rintro e w5 ⟨rfl, hp5, ho5⟩
        have hM5 := HM4.out.purse hp5 (ho5.mono (by simp)) HM4.out.lh
        obtain ⟨x5, hx5⟩ : ∃ x5 : Gt, x5 = { x4 with H := x4.H, O := x4.O.set j true } := ⟨_, rfl⟩
        rw [← hx5] at hM5
        have hs5 : x5.slots = x.slots.set j (some Ses.new) := by rw [hx5, HX4.out.1, HX3.out]; rfl
        have hs5j : x5.slots[j]? = some (some Ses.new) := by rw [hs5]; exact Gt.now_slot HI.out.1
        have htb5 : x5.tb = x.tb := by rw [hx5, HX4.out.1, HX3.out]; rfl
        have HC := hide (gate_charge (N := 0) (show GateIs w5 gp a' n d sg x5 from ⟨_, _, _, _, _, hM5, by rw [htb5]; exact HM.out.2⟩) hs5j (fun m hm => by cases hm) HI.out.2.2.2.2.2 (by simp [Ses.new]))
        have HX5 := hide (And.intro hx5 hs5)
        clear hp5 ho5 hM5 hx5 hs5 hs5j htb5 HOP HM4 e3
        go_wp2_with fail
        (with_reducible refine (unhide HC).mono ?_)
        rintro e w6 ⟨rfl, c, hc, vw6, Ft6, SB6, ow6, tn6, hM6, htn6⟩
        have HCC := hide hc
        have hL5 : x5.L = x.L := by rw [HX5.out.1, HX4.out.1, HX3.out]; rfl
        have hf5 : x5.f = x.f := by rw [HX5.out.1, HX4.out.1, HX3.out]; rfl
        have htb5 : x5.tb = x.tb := by rw [HX5.out.1, HX4.out.1, HX3.out]; rfl
        have HWA := hide (Wl.add_yes hM6.wh (j : Int) (by omega) (by omega) (by rw [Gt.charged_L, hL5]; exact HI.out.2.2.2.1) (Nat.zero_le _))
        obtain ⟨k0, k1, k2, k3, k4⟩ := hM6.cells
        have HM6 := hide (And.intro hM6 htn6)
        have HE5 := hide (And.intro hL5 (And.intro hf5 htb5))
        clear hM6 htn6 hc HC hL5 hf5 htb5 k0 k1 k2 k3
        go_wp2_with fail
        (with_reducible refine (unhide HWA).mono ?_)
        rintro e w7 ⟨rfl, v7, hw7, ho7, hv7⟩
        have hM7 := HM6.out.1.wheel hw7 ho7 hv7
        have HST := hide (Ti.start_yes hM7.tm (id := (j : Int)) (lim := 0) (by omega) (Ti.wf_of (by omega)) (by omega) (by omega) (by show Gt.f _ _ = none; simp only [Gt.charged_f]; rw [HE5.out.2.1]; exact HI.out.2.2.1) (by have := HM6.out.2; rw [Gt.charged_tb, HE5.out.2.2] at this; have := HI.out.2.2.2.2.1; omega))
        have HM7 := hide hM7
        clear hM7 hw7 ho7 hv7 HWA k4
        go_wp2_with fail
        (with_reducible refine (unhide HST).mono ?_)
        rintro e w8 ⟨rfl, Ft8, ht8, ho8, hf8⟩
        have hM8 := HM7.out.timer ht8 ho8 hf8
        obtain ⟨k0, k1, k2, k3, k4⟩ := hM8.cells
        have hi8 : w8.cell? ⟨a'.ib, j, none⟩ = some (.int .i64 (q : Int)) := hM8.id (by
          show (Gt.ids _)[j]? = _
          simp only [Gt.charged_ids]
          rw [HX5.out.1, HX4.out.1, HX3.out]
          exact List.getElem?_set_self (by have := HM.out.1.li; omega))
        have HM8 := hide hM8
        clear hM8 ht8 ho8 hf8 HST k0 k2 k3 k4
        go_wp2_with fail
        go_ret2
        have g1 : x5.ids = x.ids.set j (q : Int) := by rw [HX5.out.1, HX4.out.1, HX3.out]
        have g2 : x5.many = ((m + 1 : Nat) : Int) := by rw [HX5.out.1, HX4.out.1]; exact HX4.out.2
        have g3 : x5.rest = x.rest := by rw [HX5.out.1, HX4.out.1, HX3.out]; rfl
        have g4 : x5.O = x.O.set j true := by rw [HX5.out.1, HX4.out.1, HX3.out]; rfl
        have g5 : x5.H = x.H := by rw [HX5.out.1, HX4.out.1, HX3.out]; rfl
        have g6 : x5.fr = x.fr := by rw [HX5.out.1, HX4.out.1, HX3.out]; rfl
        refine ⟨rfl, a', { x5.charged j c with L := (x5.charged j c).L ++ [(j : Int)], f := Ti.upd (x5.charged j c).f (j : Int) (some ⟨0, 0, 0⟩), tb := x.tb + 1 }, ⟨Gt.charged_slots.trans HX5.out.2, ?_, Gt.charged_many.trans g2, Gt.charged_rest.trans g3, Gt.charged_O.trans g4, ⟨c, HCC.out, ?_⟩, ?_, fun z => ?_, rfl, Gt.charged_fr.trans g6⟩, _, _, _, _, _, HM8.out.tbd _, ?_⟩
        · rw [← HQ.out]
          exact Gt.charged_ids.trans g1
        · have := Gt.charged_Hif (x := x5) (i := j) (c := c)
          rw [g3, g4, g5] at this
          exact this
        · show (x5.charged j c).L ++ _ = _
          rw [Gt.charged_L, HE5.out.1]
        · show (Ti.upd (x5.charged j c).f (j : Int) _ z).isSome = _
          unfold Ti.upd
          split
          · rfl
          · rw [Gt.charged_f, HE5.out.2.1]
        · have := HM6.out.2
          rw [Gt.charged_tb, HE5.out.2.2] at this
          show tn6 + 1 ≤ x.tb + 1
          omega
      · exact absurd hj (by omega)
end Go.Proofs.YtkccjfgkbkodiaaGreat
