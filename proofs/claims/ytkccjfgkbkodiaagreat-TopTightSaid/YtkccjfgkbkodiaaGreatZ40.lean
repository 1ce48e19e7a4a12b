/-
  LawC · LawD · LawE: parts of the walk of TopTight, under no condition.
-/
import Derived.Test.YtkccjfgkbkodiaaGreatZ07
import Derived.Test.YtkccjfgkbkodiaaGreatZ36
import Derived.Test.YtkccjfgkbkodiaaGreatZ39
namespace Go.Proofs.YtkccjfgkbkodiaaGreat
open Go.RowKit
/-- A string of a slice is written. -/
theorem sl_set {w : World} {base : Nat} {t : TypeId} {v : Value} {xs : List Value} (h : Sl w base t v xs) {j : Nat} (hj : j < xs.length) :
    ∃ g off cap, v = .slice (some ⟨g, off, none⟩) xs.length cap ∧ w.cell? ⟨g, off + j, none⟩ = some xs[j] ∧ w.frozen? ⟨g, off + j, none⟩ = false ∧ slB v = [g] ∧ ∀ w1, Sl w1 base t v xs → w1.cell? ⟨g, off + j, none⟩ = some xs[j] ∧ w1.frozen? ⟨g, off + j, none⟩ = false ∧ ∀ u, Sl (w1.setCell ⟨g, off + j, none⟩ u) base t v (xs.set j u) := by
  have key : ∀ (g off cap : Nat) w1, Sl w1 base t (.slice (some ⟨g, off, none⟩) xs.length cap) xs → w1.cell? ⟨g, off + j, none⟩ = some xs[j] ∧ w1.frozen? ⟨g, off + j, none⟩ = false ∧ ∀ u, Sl (w1.setCell ⟨g, off + j, none⟩ u) base t (.slice (some ⟨g, off, none⟩) xs.length cap) (xs.set j u) := by
    intro g off cap w1 h1
    rcases h1 with ⟨hv, _⟩ | ⟨g', off', cap', cs', hv, hb', hg', h1', h2', h3', h4'⟩
    · cases hv
    · injection hv with e1 e2 e3
      injection e1 with e1
      injection e1 with e4 e5
      subst e3 e4 e5
      refine ⟨hg'.cellv _ _ (by rw [h4' j hj, List.getElem?_eq_getElem hj]), hg'.frozen _, fun u => .inr ⟨g, off, cap, _, by rw [List.length_set], hb', hg'.set_ (off + j) u, by simpa using h1', by rw [List.length_set]; exact h2', h3', fun k hk => ?_⟩⟩
      rw [List.length_set] at hk
      rw [Array.getElem?_setIfInBounds, List.getElem?_set]
      by_cases hkj : j = k
      · subst hkj
        rw [if_pos rfl, if_pos rfl, if_pos (by omega), if_pos hj]
      · rw [if_neg (by omega), if_neg hkj]
        exact h4' k hk
  obtain ⟨g, off, cap, rfl, hc⟩ := h.cell j hj
  obtain ⟨h1, h2, h3⟩ := key g off cap w h
  exact ⟨g, off, cap, rfl, h1, h2, rfl, fun w1 hw1 => key g off cap w1 hw1⟩
theorem strV_get (L : List (List UInt8)) {j : Nat} (hj : j < (strV L).length) : (strV L)[j] = Value.string (S (L.getD j [])) := by
  have hj2 : j < L.length := by simpa [strV] using hj
  simp [strV, List.getD, List.getElem?_eq_getElem hj2]
theorem strV_set (L : List (List UInt8)) (j : Nat) (l : List UInt8) : (strV L).set j (.string (S l)) = strV (L.set j l) := by simp [strV, List.map_set]
def idsL (n i : Nat) : List Value := (List.range i).map fun j => Value.int .i64 ((j * (n + 1) : Nat) : Int)
theorem idsL_length (n i : Nat) : (idsL n i).length = i := by simp [idsL]
theorem idsL_get {n i j : Nat} (hj : j < (idsL n i).length) : (idsL n i)[j] = Value.int .i64 ((j * (n + 1) : Nat) : Int) := by simp [idsL]
theorem idsL_succ (n i : Nat) : idsL n i ++ [Value.int .i64 ((i * (n + 1) : Nat) : Int)] = idsL n (i + 1) := by simp [idsL, List.range_succ]
theorem sl_two {w : World} {base base' : Nat} {t t' : TypeId} {v v' : Value} {xs xs' : List Value} (h : Sl w base t v xs) (h' : Sl w base' t' v' xs') (hne : t ≠ t') : ∀ k ∈ slB v', k ∉ slB v := by
  rcases h' with ⟨rfl, _⟩ | ⟨g, off, cap, cs, rfl, _, hg, _⟩
  · intro k hk; simp [slB] at hk
  · intro k hk
    simp only [slB, List.mem_singleton] at hk
    subst hk
    exact h.notBlk hg hne
/-- A gate beside what is the law's own: R tells what is left of each text, Ms what lies in memory. -/
structure Going (w0 W : World) (gp : Nat) (ga : GB) (n sg : Nat) (more : Nat) (x : Gt) (v1 v2 : Value) (m : Nat) (Ms : List (List UInt8)) : Prop where
  g : GateIs W gp ga n 8 sg x
  old : ∀ k, k < w0.heap.size → x.fr.out k = true
  ho : Only [] w0 W
  s1 : Sl W w0.heap.size 3 v1 (idsL n m)
  s2 : Sl W w0.heap.size 9 v2 (strV Ms)
  b1 : ∀ k ∈ slB v1, x.fr.out k = true
  b2 : ∀ k ∈ slB v2, x.fr.out k = true
  len : Ms.length = m
  short : ∀ l ∈ Ms, l.length ≤ 608
  rest : x.rest = more
section
variable {w0 W W' : World} {gp n sg more m : Nat} {ga ga' : GB} {x x' : Gt} {v1 v2 : Value} {Ms : List (List UInt8)}
/-- The mark is here. -/
def Gt.mark (x : Gt) (W : World) : Gt := { x with fr := ⟨W, x.fr.out⟩ }
theorem GateIs.mark {d : Nat} (h : GateIs W gp ga n d sg x) : GateIs W gp ga n d sg (x.mark W) := by
  obtain ⟨vw, Ft, SB, own, tn, h, htn⟩ := h
  refine ⟨vw, Ft, SB, own, tn, ⟨h.tm, h.sl, h.il, h.pu, h.wh, h.ls, h.li, h.lh, h.n1, h.n8, h.ses, h.o0, h.o1, h.o2, h.o3, h.o4, h.o5, h.ob, rfl, rfl, rfl, Nat.le_refl _, fun k hk => ?_⟩, htn⟩
  obtain ⟨h1, h2, h3⟩ := h.ot.blk k hk
  exact ⟨Nat.lt_of_lt_of_le h1 h.ot.size, h2, rfl⟩
theorem SlotI.fr {d i : Nat} {r : List UInt8} {f : Frame} (h : SlotI x n d sg i r) : SlotI { x with fr := f } n d sg i r :=
  ⟨h.id, h.st.imp_right fun ⟨y, hy, hl⟩ => ⟨y, hy, hl.fit, hl.few, hl.f, hl.opn, hl.L, hl.e⟩⟩
theorem Going.only (_h : Going w0 W gp ga n sg more x v1 v2 m Ms) (hg : GateIs W' gp ga' n 8 sg x') (hfr : x'.fr = ⟨W, x.fr.out⟩) : ∃ S, Only S W W' ∧ ∀ k ∈ S, x.fr.out k ≠ true := by
  have h1 := hg.only
  rw [hfr] at h1
  refine ⟨_, h1, fun k hk => ?_⟩
  have := (List.mem_filter.1 hk).2
  intro h9
  simp only [h9] at this
  cases this
/-- The gate went on. -/
theorem Going.step (h : Going w0 W gp ga n sg more x v1 v2 m Ms) (hg : GateIs W' gp ga' n 8 sg x') (hfr : x'.fr = ⟨W, x.fr.out⟩) (hr : x'.rest = x.rest) : Going w0 W' gp ga' n sg more x' v1 v2 m Ms := by
  obtain ⟨S, ho, hS⟩ := h.only hg hfr
  refine ⟨hg, by rw [hfr]; exact h.old, h.ho.own ho fun k hk => .inr ?_, h.s1.keep ho fun k hk hm => hS k hm (h.b1 k hk), h.s2.keep ho fun k hk hm => hS k hm (h.b2 k hk), by rw [hfr]; exact h.b1, by rw [hfr]; exact h.b2, h.len, h.short, hr.trans h.rest⟩
  rcases Nat.lt_or_ge k w0.heap.size with h9 | h9
  · exact (hS k hk (h.old k h9)).elim
  · exact h9
/-- A text is written. -/
theorem Going.put (h : Going w0 W gp ga n sg more x v1 v2 n Ms) {j : Nat} {l : List UInt8} {g off : Nat} (hl : l.length ≤ 608) (hgb : slB v2 = [g]) (hs : Sl (W.setCell ⟨g, off + j, none⟩ (.string (S l))) w0.heap.size 9 v2 ((strV Ms).set j (.string (S l)))) :
    ∃ fr, Going w0 (W.setCell ⟨g, off + j, none⟩ (.string (S l))) gp ga n sg more { x with fr := fr } v1 v2 n (Ms.set j l) := by
  have ho : Only [g] W (W.setCell ⟨g, off + j, none⟩ (.string (S l))) := (Only.refl _ W).setCell (p := ⟨g, off + j, none⟩) (List.mem_singleton.2 rfl) _
  have hg2 : g ∈ slB v2 := by rw [hgb]; exact List.mem_singleton.2 rfl
  have hb := (h.s2.lt g hg2).1
  rw [strV_set] at hs
  refine ⟨_, h.g.outside ho (fun k hk => h.b2 k (by rw [hgb]; exact hk)), fun k hk => by simp only [h.old k hk, Bool.true_or], h.ho.own ho fun k hk => .inr (by rw [List.mem_singleton.1 hk]; exact hb), h.s1.keep ho (fun k hk hm => sl_two h.s1 h.s2 (by decide) g hg2 (List.mem_singleton.1 hm ▸ hk)), hs, fun k hk => by simp only [h.b1 k hk, Bool.true_or], fun k hk => by simp only [h.b2 k hk, Bool.true_or], by rw [List.length_set]; exact h.len, fun z hz => ?_, h.rest⟩
  rcases List.mem_or_eq_of_mem_set hz with h9 | rfl
  · exact h.short z h9
  · exact hl
/-- A further id and a further text. -/
theorem Going.push (h : Going w0 W gp ga n sg more x v1 v2 m Ms) {v1' v2' : Value} {l : List UInt8} (hl : l.length ≤ 608) (ho : Only (slB v1 ++ slB v2) W W') (h1 : Sl W' w0.heap.size 3 v1' (idsL n (m + 1))) (h2 : Sl W' w0.heap.size 9 v2' (strV (Ms ++ [l]))) (hf1 : ∀ k ∈ slB v1', k ∈ slB v1 ∨ W.heap.size ≤ k) (hf2 : ∀ k ∈ slB v2', k ∈ slB v2 ∨ W.heap.size ≤ k) :
    ∃ fr, Going w0 W' gp ga n sg more { x with fr := fr } v1' v2' (m + 1) (Ms ++ [l]) := by
  have hout : ∀ k ∈ slB v1 ++ slB v2, x.fr.out k = true := fun k hk => by
    rcases List.mem_append.1 hk with h9 | h9
    · exact h.b1 k h9
    · exact h.b2 k h9
  refine ⟨_, h.g.outside ho hout, fun k hk => by simp only [h.old k hk, Bool.true_or], h.ho.own ho fun k hk => .inr ?_, h1, h2, fun k hk => ?_, fun k hk => ?_, by rw [List.length_append, h.len]; rfl, fun z hz => ?_, h.rest⟩
  · rcases List.mem_append.1 hk with h9 | h9
    · exact (h.s1.lt k h9).1
    · exact (h.s2.lt k h9).1
  · rcases hf1 k hk with h9 | h9
    · simp only [h.b1 k h9, Bool.true_or]
    · have := (h1.lt k hk).2
      simp only [Bool.or_eq_true, decide_eq_true_eq]
      exact .inr ⟨h9, this⟩
  · rcases hf2 k hk with h9 | h9
    · simp only [h.b2 k h9, Bool.true_or]
    · have := (h2.lt k hk).2
      simp only [Bool.or_eq_true, decide_eq_true_eq]
      exact .inr ⟨h9, this⟩
  · rcases List.mem_append.1 hz with h9 | h9
    · exact h.short z h9
    · rw [List.mem_singleton.1 h9]
      exact hl
end
/-- So many came. -/
structure Begun (x : Gt) (n m : Nat) : Prop where
  sl : ∀ j, j < n → x.slots[j]? = some (if j < m then some Ses.new else none)
  ids : ∀ j, j < m → x.ids[j]? = some ((j * (n + 1) : Nat) : Int)
  lids : x.ids.length = n
  many : x.many = (m : Int)
  O : ∀ j, j < n → x.O[j]? = some (decide (j < m))
  L : ∀ z : Int, z ∈ x.L ↔ 0 ≤ z ∧ z < m
  f : ∀ j : Nat, (x.f (j : Int)).isSome = decide (j < m)
  tb : x.tb = m
theorem Begun.fresh (n : Nat) (rest : Int) (w W : World) : Begun (Gt.fresh n rest w W) n 0 :=
  ⟨fun j hj => by simp [Gt.fresh, hj], fun j hj => by omega, by simp [Gt.fresh], rfl, fun j hj => by simp [Gt.fresh, hj], fun z => by simp [Gt.fresh] <;> omega, fun j => rfl, rfl⟩
section
variable {x x' : Gt} {n m : Nat}
theorem Begun.fr (h : Begun x n m) {f : Frame} : Begun { x with fr := f } n m := ⟨h.sl, h.ids, h.lids, h.many, h.O, h.L, h.f, h.tb⟩
theorem Begun.join (h : Begun x n m) (hm : m < n) (hsl : x.slots.length = n) (hO : x.O.length = n) (hj : Joined x x' n m m) : Begun x' n (m + 1) := by
  have hid : m + n * m = m * (n + 1) := by rw [Nat.mul_add, Nat.mul_one, Nat.mul_comm m n, Nat.add_comm]
  refine ⟨fun j hjn => ?_, fun j hjm => ?_, by rw [hj.ids, List.length_set]; exact h.lids, hj.many, fun j hjn => ?_, fun z => ?_, fun j => ?_, by rw [hj.tb, h.tb]⟩
  · rw [hj.slots, List.getElem?_set]
    by_cases e : m = j
    · subst e
      rw [if_pos rfl, if_pos (by omega), if_pos (by omega)]
    · rw [if_neg e, h.sl j hjn]
      by_cases e2 : j < m
      · rw [if_pos e2, if_pos (by omega)]
      · rw [if_neg e2, if_neg (by omega)]
  · rw [hj.ids, List.getElem?_set]
    by_cases e : m = j
    · subst e
      rw [if_pos rfl, if_pos (by rw [h.lids]; omega), hid]
    · rw [if_neg e]
      exact h.ids j (by omega)
  · rw [hj.O, List.getElem?_set]
    by_cases e : m = j
    · subst e
      rw [if_pos rfl, if_pos (by omega)]
      simp
    · rw [if_neg e, h.O j hjn]
      congr 1
      exact decide_eq_decide.2 (by omega)
  · rw [hj.L, List.mem_append, h.L z, List.mem_singleton]
    push_cast
    omega
  · rw [hj.f]
    by_cases e : (j : Int) = (m : Int)
    · rw [if_pos e]
      exact (decide_eq_true (by omega)).symm
    · rw [if_neg e, h.f j]
      exact decide_eq_decide.2 (by omega)
theorem Begun.done (h : Begun x n n) {sg i : Nat} {l : List UInt8} (hi : i < n) (hl : l.length ≤ 608) (hd : ∃ doc, l = hp 8 sg ++ doc) : SlotI x n 8 sg i l := by
  refine ⟨h.ids i hi, .inr ⟨Ses.new, by rw [h.sl i hi, if_pos hi], ⟨1300 - 2 * l.length, ⟨0, ⟨fun _ => rfl, fun _ _ => ⟨by show 0 < 8; omega, ?_⟩, fun h => (by cases h), fun h => (by cases h)⟩, Nat.zero_le _⟩, by omega⟩, by unfold Ses.Few; simp [Ses.new], by rw [h.f i]; exact decide_eq_true hi, ?_, (h.L _).2 (by omega), fun _ => by show (0 : Int) ≠ 11; omega⟩⟩
  · obtain ⟨doc, hd⟩ := hd
    exact ⟨doc, by rw [← hd]; rfl⟩
  · unfold Pu.opn
    rw [show ((i : Int)).toNat = i by simp, h.O i hi]
    simp [hi]
end
end Go.Proofs.YtkccjfgkbkodiaaGreat
namespace Go.Proofs.YtkccjfgkbkodiaaGreat
open Go.RowKit
set_option maxRecDepth 100000
set_option maxHeartbeats 2000000 in
/-- Numbers that aren't asked for. -/
theorem tight_no (w : World) (more n stage : Int) (a : Option Addr) (len cap : Nat) (hl : len ≤ 9223372036854775807) (h : more < 0 ∨ 2000 < more ∨ n < 1 ∨ 4 < n ∨ len < 1 ∨ 8 < len ∨ stage < 0 ∨ 2000 < stage) :
    Calls Tryz.prog 3 #[.int .i64 more, .int .i64 n, .slice a len cap, .int .i64 stage] w fun e w' => e = .returned (.bool true) ∧ Below w.heap.size w w' := by
  have HW := hide (works_yes w)
  have HW2 := fun w1 => hide (works_yes w1)
  by_cases h1 : more < 0
  · clear h
    go_enter Tryz.func3, Tryz.ntmps3
    go_wp2_with fail
    (with_reducible refine (unhide HW).mono ?_)
    rintro e w1 ⟨rfl, ho1⟩
    go_wp2_with fail
    (with_reducible refine (unhide (HW2 _)).mono ?_)
    rintro e w2 ⟨rfl, ho2⟩
    go_wp2_with fail
    go_ret
    exact ⟨rfl, (ho1.trans ho2).nil_below⟩
  by_cases h2 : 2000 < more
  · clear h
    go_enter Tryz.func3, Tryz.ntmps3
    go_wp2_with fail
    (with_reducible refine (unhide HW).mono ?_)
    rintro e w1 ⟨rfl, ho1⟩
    go_wp2_with fail
    (with_reducible refine (unhide (HW2 _)).mono ?_)
    rintro e w2 ⟨rfl, ho2⟩
    go_wp2_with fail
    go_ret
    exact ⟨rfl, (ho1.trans ho2).nil_below⟩
  by_cases h3 : n < 1
  · clear h
    go_enter Tryz.func3, Tryz.ntmps3
    go_wp2_with fail
    (with_reducible refine (unhide HW).mono ?_)
    rintro e w1 ⟨rfl, ho1⟩
    go_wp2_with fail
    (with_reducible refine (unhide (HW2 _)).mono ?_)
    rintro e w2 ⟨rfl, ho2⟩
    go_wp2_with fail
    go_ret
    exact ⟨rfl, (ho1.trans ho2).nil_below⟩
  by_cases h4 : 4 < n
  · clear h
    go_enter Tryz.func3, Tryz.ntmps3
    go_wp2_with fail
    (with_reducible refine (unhide HW).mono ?_)
    rintro e w1 ⟨rfl, ho1⟩
    go_wp2_with fail
    (with_reducible refine (unhide (HW2 _)).mono ?_)
    rintro e w2 ⟨rfl, ho2⟩
    go_wp2_with fail
    go_ret
    exact ⟨rfl, (ho1.trans ho2).nil_below⟩
  by_cases h5 : len < 1
  · have h5' : (len : Int) < 1 := by omega
    clear h
    go_enter Tryz.func3, Tryz.ntmps3
    go_wp2_with fail
    (with_reducible refine (unhide HW).mono ?_)
    rintro e w1 ⟨rfl, ho1⟩
    go_wp2_with fail
    (with_reducible refine (unhide (HW2 _)).mono ?_)
    rintro e w2 ⟨rfl, ho2⟩
    go_wp2_with fail
    go_ret
    exact ⟨rfl, (ho1.trans ho2).nil_below⟩
  have h5' : ¬ (len : Int) < 1 := by omega
  by_cases h6 : 8 < len
  · have h6' : (8 : Int) < len := by omega
    clear h
    go_enter Tryz.func3, Tryz.ntmps3
    go_wp2_with fail
    (with_reducible refine (unhide HW).mono ?_)
    rintro e w1 ⟨rfl, ho1⟩
    go_wp2_with fail
    (with_reducible refine (unhide (HW2 _)).mono ?_)
    rintro e w2 ⟨rfl, ho2⟩
    go_wp2_with fail
    go_ret
    exact ⟨rfl, (ho1.trans ho2).nil_below⟩
  have h6' : ¬ (8 : Int) < len := by omega
  by_cases h7 : stage < 0
  · clear h
    go_enter Tryz.func3, Tryz.ntmps3
    go_wp2_with fail
    (with_reducible refine (unhide HW).mono ?_)
    rintro e w1 ⟨rfl, ho1⟩
    go_wp2_with fail
    (with_reducible refine (unhide (HW2 _)).mono ?_)
    rintro e w2 ⟨rfl, ho2⟩
    go_wp2_with fail
    go_ret
    exact ⟨rfl, (ho1.trans ho2).nil_below⟩
  have h8 : 2000 < stage := by omega
  clear h
  go_enter Tryz.func3, Tryz.ntmps3
  go_wp2_with fail
  (with_reducible refine (unhide HW).mono ?_)
  rintro e w1 ⟨rfl, ho1⟩
  go_wp2_with fail
  (with_reducible refine (unhide (HW2 _)).mono ?_)
  rintro e w2 ⟨rfl, ho2⟩
  go_wp2_with fail
  go_ret
  exact ⟨rfl, (ho1.trans ho2).nil_below⟩
end Go.Proofs.YtkccjfgkbkodiaaGreat
namespace Go.Proofs.YtkccjfgkbkodiaaGreat
open Go.RowKit
set_option maxRecDepth 100000
theorem info_ti : (Tryz.prog.info? 3).map (fun i => (i.zero, i.size, i.bytes)) = some (some (.int .i64 0), 1, 8) := by kernel_rfl
theorem info_ts : (Tryz.prog.info? 9).map (fun i => (i.zero, i.size, i.bytes)) = some (some (.string ⟨#[]⟩), 1, 16) := by kernel_rfl
set_option maxHeartbeats 16000000 in
set_option linter.unusedSimpArgs false in
theorem tight_yes (w : World) (more n stage : Nat) (a : Option Addr) (len cap : Nat) (D : Nat → List UInt8) (h1 : more ≤ 2000) (h2 : 1 ≤ n) (h3 : n ≤ 4) (h4 : 1 ≤ len) (h5 : len ≤ 8) (h6 : stage ≤ 2000)
    (hdoc : ∀ j, j < len → ∃ g off, a = some ⟨g, off, none⟩ ∧ g < w.heap.size ∧ w.cell? ⟨g, off + j, none⟩ = some (.string (S (D j)))) (hD : ∀ j, j < len → (D j).length ≤ 9223372036854775807) :
    Calls Tryz.prog 3 #[.int .i64 (more : Int), .int .i64 (n : Int), .slice a len cap, .int .i64 (stage : Int)] w fun e w' => e = .returned (.bool true) ∧ Below w.heap.size w w' := by
  obtain ⟨g, off, rfl, hgl, _⟩ := hdoc 0 (by omega)
  have hdc : ∀ j, j < len → w.cell? ⟨g, off + j, none⟩ = some (.string (S (D j))) := fun j hj => by
    obtain ⟨g', off', e, _, hc⟩ := hdoc j hj
    cases e
    exact hc
  have HW := hide (works_yes w)
  obtain ⟨bud, hbud⟩ : ∃ bud : Nat, bud = n * 700 + more := ⟨_, rfl⟩
  obtain ⟨n7, hn7⟩ : ∃ n7 : Int, n7 = (n : Int) * 700 := ⟨_, rfl⟩
  have hw1 : IntKind.i64.wrap ((n : Int) * 700) = n7 := by rw [hn7]; exact wrap_small _ (by omega) (by omega)
  have hw2 : IntKind.i64.wrap (n7 + (more : Int)) = (bud : Int) := by rw [wrap_small _ (by omega) (by omega), hbud, hn7]; push_cast; rfl
  have HNEW := fun W => hide (gate_new W (bud : Int) n 8 stage h2 (by omega) (by omega) (by omega))
  rw [show ((bud : Int) - (n : Int) * 700) = (more : Int) by omega] at HNEW
  have HPUT := fun W => hide (show Calls Tryz.prog 9 #[.agg #[.int .i64 1, .int .i64 3, .int .i64 8, .int .i64 (stage : Int), .int .i64 0]] W _ from put_any (d := 8) (s := stage) (by omega) (by omega) h6 W)
  have HDC := hide (And.intro hgl (And.intro hdc hD))
  have HN := hide (And.intro h2 (And.intro h3 (And.intro h4 (And.intro h5 (And.intro h6 hbud)))))
  have t1 : ¬ ((more : Int) < 0) := by omega
  have t2 : ¬ ((2000 : Int) < more) := by omega
  have t3 : ¬ ((n : Int) < 1) := by omega
  have t4 : ¬ ((4 : Int) < n) := by omega
  have t5 : ¬ ((len : Int) < 1) := by omega
  have t6 : ¬ ((8 : Int) < len) := by omega
  have t7 : ¬ ((stage : Int) < 0) := by omega
  have t8 : ¬ ((2000 : Int) < stage) := by omega
  clear hdoc hdc hD hgl h1 h2 h3 h4 h5 h6 hbud hn7
  go_enter Tryz.func3, Tryz.ntmps3
  go_wp2_with fail
  (with_reducible refine (unhide HW).mono ?_)
  rintro e w1 ⟨rfl, ho1⟩
  go_wp2_with fail
  (with_reducible refine (unhide (HNEW _)).mono ?_)
  rintro e w2 ⟨gp, ga, rfl, hg2, ho2⟩
  go_wp2_with fail
  (with_reducible refine (unhide (HPUT _)).mono ?_)
  rintro e w3 ⟨rfl, ho3⟩
  have HG0 : Hid (∃ x, Going w w3 gp ga n stage more x (.slice none 0 0) (.slice none 0 0) 0 [] ∧ Begun x n 0) := hide (by
    refine ⟨_, ⟨hg2.outside ho3 (by simp), fun k hk => ?_, (ho1.trans ho2).trans ho3, Sl.nil _ _ _, Sl.nil _ _ _, by simp [slB], by simp [slB], rfl, by simp, rfl⟩, (Begun.fresh _ _ _ _).fr⟩
    have := ho1.size
    simp only [Gt.fresh, Bool.or_eq_true, decide_eq_true_eq]
    exact .inl (by omega))
  clear hg2 ho1 ho2 ho3 HW HNEW HPUT hw1 hw2 t1 t2 t3 t4 t5 t6 t7 t8
  obtain ⟨P, hP⟩ : ∃ P, P = hp 8 stage := ⟨_, rfl⟩
  rw [← hP]
  have hP8 : P.length = 8 := by rw [hP]; rfl
  have HPP := hide (And.intro hP hP8)
  clear hP hP8
  go_wp2_with fail
  go_loopg [13, 14, 15] n (fun gk s13 s14 s15 wr => ∃ (i : Nat) (x : Gt) (ga : GB) (Ms : List (List UInt8)), s15 = .int .i64 i ∧ i + gk = n ∧ Hid (Going w wr gp ga n stage more x s13 s14 i Ms) ∧ Hid (Begun x n i) ∧ Hid (∀ l ∈ Ms, ∃ doc, l = hp 8 stage ++ doc))
  case atStart =>
    obtain ⟨x, h1, h2⟩ := HG0.out
    exact ⟨0, x, ga, [], rfl, by omega, hide h1, hide h2, hide (by simp)⟩
  case round =>
    obtain ⟨i, x, ga, Ms, rfl, hi, hG, hB, hD8⟩ := hrel
    by_cases hlt : i < n
    · have hlt2 : (i : Int) < n := by omega
      have hls : x.slots.length = n ∧ x.O.length = n := by
        obtain ⟨_, _, _, _, _, hM, _⟩ := hG.out.g
        exact ⟨hM.ls, by have := hM.pu.len; have := hM.lh; omega⟩
      have HCN := hide (gate_connect hG.out.g.mark (i := i) (m := i) (by have := hB.out.sl i hlt; rw [if_neg (by omega)] at this; exact this) (fun j hj => ⟨_, by have := hB.out.sl j (by omega); rw [if_pos hj] at this; exact this⟩) hB.out.many (by have := HN.out.2.1; omega) (by have := hB.out.O i hlt; rw [show decide (i < i) = false by simp] at this; exact this)
        (by have := hB.out.f i
            rw [show decide (i < i) = false by simp] at this
            show x.f (i : Int) = none
            cases hxf : x.f (i : Int) with
            | none => rfl
            | some o => rw [hxf] at this; cases this)
        (by show (i : Int) ∉ x.L; rw [hB.out.L]; omega) (by show x.tb ≤ 100; rw [hB.out.tb]; have := HN.out.2.1; omega) (by omega))
      go_wp2_with fail
      (with_reducible refine (unhide HCN).mono ?_)
      rintro e w4 ⟨rfl, ga', x', hj, hg⟩
      have hG4 := hG.out.step hg hj.fr hj.rest
      have hB4 := (show Begun (x.mark wr) n i from hB.out.fr).join hlt hls.1 hls.2 hj
      have hid : ((i + n * i : Nat) : Int) = ((i * (n + 1) : Nat) : Int) := by rw [Nat.mul_add, Nat.mul_one, Nat.mul_comm i n, Nat.add_comm]
      rw [hid]
      obtain ⟨idv, hidv⟩ : ∃ idv, idv = i * (n + 1) := ⟨_, rfl⟩
      rw [← hidv]
      obtain ⟨jd, hjd⟩ : ∃ jd, jd = i % len := ⟨_, rfl⟩
      have hjl : jd < len := by rw [hjd]; exact Nat.mod_lt _ (by have := HN.out.2.2.1; omega)
      have hjl2 : (jd : Int) < len := by omega
      have ht : Int.tmod (i : Int) (len : Int) = (jd : Int) := by rw [Int.tmod_eq_emod_of_nonneg (by omega), hjd]; rfl
      have hlen0 : ¬ ((len : Int) = 0) := by have := HN.out.2.2.1; omega
      have hwj : IntKind.i64.wrap (jd : Int) = (jd : Int) := wrap_small _ (by omega) (by have := HN.out.2.2.2.1; omega)
      have cd : w4.cell? ⟨g, off + jd, none⟩ = some (.string (S (D jd))) := hG4.ho.cellk (HDC.out.2.1 jd hjl) (by simp)
      have hDl := HDC.out.2.2 jd hjl
      obtain ⟨l, hl⟩ : ∃ l, l = D jd := ⟨_, rfl⟩
      rw [← hl] at cd hDl
      have HG4 := hide (And.intro hG4 (And.intro hB4 hidv))
      clear hj hg hG4 hB4 hid hidv hjd hls HCN hl
      by_cases hsh : (600 : Int) < l.length
      · go_wp2_with fail
        go_ret
        exact ⟨rfl, HG4.out.1.ho.nil_below⟩
      · obtain ⟨pl, hpl⟩ : ∃ pl, pl = P ++ l := ⟨_, rfl⟩
        have HADD := fun W => run_add_S (P := Tryz.prog) P l (by have := HPP.out.2; omega) W
        rw [← hpl] at HADD
        have HPL := hide (And.intro hpl (show pl.length ≤ 608 by have := HPP.out.2; rw [hpl, List.length_append]; omega))
        have HSZ := hide (show w.heap.size ≤ w4.heap.size from HG4.out.1.ho.size)
        have HML := hide HG4.out.1.len
        clear hpl
        go_wp2_with (at_builtin; first
          | (refine wpList_append_sl rfl (.tmp 100) (.tmp 102) 30 rfl w.heap.size 3 (.int .i64 0) 8 Tryz.underlying30 info_ti rfl u13 (idsL n i) rfl (HG4.out.1.s1.alloc _) w4.heap.size (.int .i64 (idv : Int)) rfl (Blk.cell (Blk.new _ _ _) 0) rfl (by rw [idsL_length]; unfold maxLen; omega) (by rw [idsL_length]; omega) (by have := HSZ.out; simp; omega) ?_; intro v1 w5 hs1 ho1 hf1)
          | (refine wpList_append_sl rfl (.tmp 104) (.tmp 108) 22 rfl w.heap.size 9 (.string ⟨#[]⟩) 16 Tryz.underlying22 info_ts rfl u14 (strV Ms) rfl (((HG4.out.1.s2.alloc _).keep ho1 (sl_two HG4.out.1.s1 HG4.out.1.s2 (by decide))).alloc _) w5.heap.size (.string (S pl)) rfl (Blk.cell (Blk.new _ _ _) 0) rfl (by rw [strV_length, HML.out]; unfold maxLen; omega) (by rw [strV_length, HML.out]; omega) (by have := HSZ.out; have := ho1.size; simp at this ⊢; omega) ?_; intro v2 w6 hs2 ho2 hf2))
        have hoT : Only (slB u13 ++ slB u14) w4 w6 := ((((Only.refl _ w4).alloc _).trans (ho1.mono fun k hk => List.mem_append_left _ hk)).alloc _).trans (ho2.mono fun k hk => List.mem_append_right _ hk)
        have h5 := ((HG4.out.1.s2.alloc (.cells #[.int .i64 (idv : Int)] 3)).keep ho1 (sl_two HG4.out.1.s1 HG4.out.1.s2 (by decide)))
        have h1' : Sl w6 w.heap.size 3 v1 (idsL n (i + 1)) := by
          rw [← idsL_succ, ← HG4.out.2.2]
          exact (hs1.alloc _).keep ho2 (sl_two h5 hs1 (by decide))
        have h2' : Sl w6 w.heap.size 9 v2 (strV (Ms ++ [pl])) := by
          rw [strV_append]
          exact hs2
        obtain ⟨fr, hG6⟩ := HG4.out.1.push HPL.out.2 hoT h1' h2' (fun k hk => (hf1 k hk).imp_right fun h9 => by simp at h9; omega) (fun k hk => (hf2 k hk).imp_right fun h9 => by have := ho1.size; simp at h9 this; omega)
        have HG6 := hide hG6
        clear hoT h5 h1' h2' hG6 hs1 ho1 hf1 hs2 ho2 hf2
        go_roundg (gk - 1)
        case measure => omega
        case rel => exact ⟨i + 1, { x' with fr := fr }, ga', Ms ++ [pl], by go_num, by omega, HG6, hide HG4.out.2.1.fr, hide fun z hz => by
          rcases List.mem_append.1 hz with h9 | h9
          · exact hD8.out z h9
          · rw [List.mem_singleton.1 h9, HPL.out.1, HPP.out.1]
            exact ⟨l, rfl⟩⟩
    · have hlt2 : ¬ (i : Int) < n := by omega
      have hin : i = n := by omega
      subst hin
      have HS0 : Hid (∀ j, j < i → SlotI x i 8 stage j (Ms.getD j [])) := hide fun j hj => by
        have hjm : Ms.getD j [] ∈ Ms := by
          have : j < Ms.length := by rw [hG.out.len]; exact hj
          rw [List.getD, List.getElem?_eq_getElem this]
          exact List.getElem_mem _
        exact hB.out.done hj (hG.out.short _ hjm) (hD8.out _ hjm)
      obtain ⟨g1, o1, c1, hv1, hq1⟩ := hG.out.s1.cell 0 (by rw [idsL_length]; exact HN.out.1)
      rw [idsL_length] at hv1
      obtain ⟨g2, o2, c2, hv2, hq2⟩ := hG.out.s2.cell 0 (by rw [strV_length, hG.out.len]; exact HN.out.1)
      rw [strV_length, hG.out.len] at hv2
      subst hv1 hv2
      clear hD8 hB hq1 hq2
      go_wp2_with fail
      go_loopg [19] 900 (fun gk s19 wr => ∃ (t : Nat) (x : Gt) (Ms : List (List UInt8)), s19 = .int .i64 t ∧ t + gk = 900 ∧ Hid (Going w wr gp ga i stage more x (.slice (some ⟨g1, o1, none⟩) i c1) (.slice (some ⟨g2, o2, none⟩) i c2) i Ms) ∧ Hid (∀ j, j < i → SlotI x i 8 stage j (Ms.getD j [])))
      case atStart => exact ⟨0, x, Ms, rfl, by omega, hG, HS0⟩
      case round =>
        clear hG HS0 hi
        obtain ⟨t, x, Ms, rfl, ht9, hG, hS⟩ := hrel
        by_cases htl : t < 900
        · have htl2 : (t : Int) < 900 := by omega
          obtain ⟨gO, hgO⟩ : ∃ gO, gO = gk := ⟨_, rfl⟩
          go_wp2_with fail
          go_loopg [116] i (fun gk s116 wr => ∃ (q : Nat) (x : Gt) (Ms : List (List UInt8)), s116 = .int .i64 q ∧ q + gk = i ∧ Hid (Going w wr gp ga i stage more x (.slice (some ⟨g1, o1, none⟩) i c1) (.slice (some ⟨g2, o2, none⟩) i c2) i Ms) ∧ Hid (∀ j, j < i → SlotI x i 8 stage j (Ms.getD j [])))
          case atStart => exact ⟨0, x, Ms, rfl, by omega, hG, hS⟩
          case round =>
            clear hG hS
            obtain ⟨q, x, Ms, rfl, hqi, hG, hS⟩ := hrel
            by_cases hql : q < i
            · have hql2 : (q : Int) < i := by omega
              obtain ⟨g1', o1', c1', hv1, ci⟩ := hG.out.s1.cell q (by rw [idsL_length]; exact hql)
              rw [idsL_length] at hv1
              injection hv1 with e1 e2 e3
              injection e1 with e1
              injection e1 with e1 e4
              subst e1 e3 e4
              rw [idsL_get] at ci
              have hqm : q < (strV Ms).length := by rw [strV_length, hG.out.len]; exact hql
              obtain ⟨g2', o2', c2', hv2, cl, fl, hgb, hset⟩ := sl_set hG.out.s2 hqm
              rw [strV_length, hG.out.len] at hv2
              injection hv2 with e1 e2 e3
              injection e1 with e1
              injection e1 with e1 e4
              subst e1 e3 e4
              rw [strV_get Ms hqm] at cl hset
              obtain ⟨sq, hsq⟩ : ∃ sq, sq = Ms.getD q [] := ⟨_, rfl⟩
              rw [← hsq] at cl hset
              have hsql : sq.length ≤ 608 := by
                have hqm2 : q < Ms.length := by rw [hG.out.len]; exact hql
                rw [hsq, List.getD, List.getElem?_eq_getElem hqm2]
                exact hG.out.short _ (List.getElem_mem _)
              have HCH := hide (slot_chunk (r := sq) (hG.out.g.mark.new ((Only.refl [] wr).drew)) ((by have := (hS.out q hql).fr (f := ⟨wr, x.fr.out⟩); rw [← hsq] at this; exact this)) hql (by have := HN.out.2.1; omega) (by omega) (by omega))
              obtain ⟨idq, hidq⟩ : ∃ idq, idq = q * (i + 1) := ⟨_, rfl⟩
              rw [← hidq] at ci HCH
              have HQ := hide (And.intro hidq (And.intro hsq (And.intro hsql (And.intro hgb hset))))
              clear hidq hsq hsql hgb hset fl hqm
              go_upto_region 24 with (fail)
              refine wp_region_tree (fun W => W.cell? ⟨g2, o2 + q, none⟩ = some (.string (S sq))) 15 (.take [0, 1, 2, 3, 4, 5, 6, 7, 8, 9, 10, 11] (.step 12 (.step 13 (.step 14 (.step 15 (.fin)))))) (by kernel_rfl) (by kernel_rfl) (by intro _ _ _ _ _ h; exact h) ?_
              refine wpTree_take (cl) ?_
              simp only [opsAt, List.getElem?_cons_zero, List.getElem?_cons_succ]
              iterate 12 (first | (refine wpPureH_step (v := ?_) rfl (fun W hS => ?_) ?_; rotate_left; · (obtain s1 := hS; (try simp only [Act.put, List.setIfInBounds_toArray, List.set_cons_zero, List.set_cons_succ]); go_simp; with_reducible rfl)) | (refine wpPureH_want (v := ?_) (by rfl) (fun W hS => ?_) ?_; rotate_left; · (obtain s1 := hS; (try simp only [Act.put, List.setIfInBounds_toArray, List.set_cons_zero, List.set_cons_succ]); go_simp; with_reducible rfl)))
              refine wpPureH_nil ?_
              simp only [Act.put, List.setIfInBounds_toArray, List.set_cons_zero, List.set_cons_succ]
              refine wpTree_step ?_
              simp only [opsAt, List.getElem?_cons_zero, List.getElem?_cons_succ]
              go_wp2_with fail
              (with_reducible refine (unhide HCH).mono ?_)
              rintro e w1 ⟨k, x1, rfl, hk, hg1, hs1, hr1⟩
              have hG1 := hG.out.step hg1 hr1.2.1 hr1.2.2
              obtain ⟨cl1, fl1, hset1⟩ := HQ.out.2.2.2.2 w1 hG1.s2
              obtain ⟨s2, hs2⟩ : ∃ s2, s2 = sq.drop k := ⟨_, rfl⟩
              have HSL := fun W => slice_from_at (P := Tryz.prog) Tryz.underlying9 sq k hk (k : Int) rfl s2 hs2 W
              rw [← hs2] at hs1
              have hs2l : s2.length ≤ 608 := by have := HQ.out.2.2.1; rw [hs2, List.length_drop]; omega
              obtain ⟨fr2, hG2⟩ := hG1.put hs2l HQ.out.2.2.2.1 (hset1 (.string (S s2)))
              obtain ⟨w2, hw2⟩ : ∃ w2, w2 = w1.setCell ⟨g2, o2 + q, none⟩ (.string (S s2)) := ⟨_, rfl⟩
              rw [← hw2] at hG2
              obtain ⟨x2, hx2⟩ : ∃ x2 : Gt, x2 = { x1 with fr := fr2 } := ⟨_, rfl⟩
              obtain ⟨Ms2, hMs2⟩ : ∃ Ms2, Ms2 = Ms.set q s2 := ⟨_, rfl⟩
              have hS2 : ∀ j, j < i → SlotI x2 i 8 stage j (Ms2.getD j []) := fun j hj => by
                rw [hx2, hMs2]
                by_cases e : q = j
                · subst e
                  rw [List.getD, List.getElem?_set_self (by rw [hG.out.len]; exact hj)]
                  exact hs1.fr
                · rw [List.getD, List.getElem?_set_ne e]
                  exact (hr1.1 j _ (Ne.symm e) ((hS.out j hj).fr)).fr
              rw [← hx2, ← hMs2] at hG2
              have HRUN := hide (slots_run hG2.g.mark (fun j => Ms2.getD j []) (fun j hj => (hS2 j hj).fr) (by omega) (by omega) HN.out.2.2.2.2.1)
              have HG2 := hide hG2
              clear hs2 hs1 hr1 hg1 hk hG1 hset1 hs2l hG2 hx2 hMs2 hS2 HCH
              go_wp2_with fail
              refine ⟨.inr cl1, ?_⟩
              refine wpTree_step ?_
              simp only [opsAt, List.getElem?_cons_zero, List.getElem?_cons_succ]
              go_wp2_with fail
              refine ⟨.inr cl1, ?_⟩
              refine wpTree_step ?_
              simp only [opsAt, List.getElem?_cons_zero, List.getElem?_cons_succ]
              go_wp2_with fail
              refine ⟨.inr cl1, ?_⟩
              refine wpTree_step ?_
              simp only [opsAt, List.getElem?_cons_zero, List.getElem?_cons_succ]
              go_wp2_with fail
              rw [← hw2]
              refine ⟨.inl trivial, wpTree_fin ?_⟩
              clear hw2 cl1 fl1 cl ci HSL
              go_wp2_with fail
              (with_reducible refine (unhide HRUN).mono ?_)
              rintro e w3 ⟨v, x3, rfl, hg3, hs3, hfr3, hr3⟩
              have hG3 := HG2.out.step hg3 hfr3 hr3
              have HT := hide (gate_total hG3.g)
              obtain ⟨tot, htot⟩ : ∃ tot, tot = Pu.total x3.H := ⟨_, rfl⟩
              rw [← htot] at HT
              have hnb : ¬ (bud : Int) < tot := by
                have := (slots_total hG3.g).1
                have h6 := hG3.rest
                have h7 := HN.out.2.2.2.2.2
                rw [h6] at this
                rw [htot]
                omega
              have HEN := hide (slot_ended hG3.g.mark ((hs3 q hql).fr (f := ⟨w3, x3.fr.out⟩)) hql (by have := HN.out.2.1; omega))
              rw [← HQ.out.1] at HEN
              have HG3 := hide (And.intro hG3 hs3)
              clear hg3 hs3 hfr3 hr3 hG3 htot HRUN HG2
              go_wp2_with fail
              (with_reducible refine (unhide HT).mono ?_)
              rintro e w3 ⟨rfl, hw⟩
              subst hw
              go_wp2_with fail
              (with_reducible refine (unhide HEN).mono ?_)
              rintro e w4 ⟨z, b, rfl, hg4, hz⟩
              have hG4 := HG3.out.1.step hg4 rfl rfl
              have HWR := hide (slot_write hG4.g.mark (((HG3.out.2 q hql).fr (f := ⟨w3, x3.fr.out⟩)).fr (f := ⟨w4, (x3.mark w3).fr.out⟩)) hql (by have := HN.out.2.1; omega) (by omega))
              rw [← HQ.out.1] at HWR
              have HG4 := hide hG4
              have HZ := hide hz
              clear hg4 hz hG4 HT HEN hnb
              cases b with
              | false =>
                go_wp2_with fail
                (with_reducible refine (unhide HWR).mono ?_)
                rintro e w5 ⟨v5, x5, rfl, hg5, hs5, hr5⟩
                have hG5 := HG4.out.step hg5 hr5.2.1 hr5.2.2
                have HG5 := hide hG5
                have HS5 : Hid (∀ j, j < i → SlotI x5 i 8 stage j (Ms2.getD j [])) := hide fun j hj => by
                  by_cases e : j = q
                  · subst e
                    exact hs5
                  · exact hr5.1 j _ e (((HG3.out.2 j hj).fr (f := ⟨w3, x3.fr.out⟩)).fr (f := ⟨w4, (x3.mark w3).fr.out⟩))
                clear hg5 hs5 hr5 hG5 HWR
                go_wp2_with fail
                go_roundg (gk - 1)
                case measure => omega
                case rel => exact ⟨q + 1, x5, Ms2, by go_num, by omega, HG5, HS5⟩
              | true =>
                by_cases hz11 : z = 11
                · subst hz11
                  have hst : 10 ≤ stage := by
                    rcases Nat.lt_or_ge stage 10 with h9 | h9
                    · exact (HZ.out (by omega) rfl rfl).elim
                    · exact h9
                  have hst2 := HN.out.2.2.2.2.1
                  obtain ⟨m10, hm10⟩ : ∃ m10 : Int, m10 = 10 * (stage : Int) := ⟨_, rfl⟩
                  obtain ⟨m6, hm6⟩ : ∃ m6 : Int, m6 = m10 + 600 := ⟨_, rfl⟩
                  have hv1 : IntKind.i64.wrap (10 * (stage : Int)) = m10 := by rw [hm10]; exact wrap_small _ (by omega) (by omega)
                  have hv2 : IntKind.i64.wrap (m10 + 600) = m6 := by rw [hm6]; exact wrap_small _ (by omega) (by omega)
                  have hv3 : ¬ m6 < 700 := by omega
                  clear hm10 hm6 hst
                  go_wp2_with fail
                  (with_reducible refine (unhide HWR).mono ?_)
                  rintro e w5 ⟨v5, x5, rfl, hg5, hs5, hr5⟩
                  have hG5 := HG4.out.step hg5 hr5.2.1 hr5.2.2
                  have HG5 := hide hG5
                  have HS5 : Hid (∀ j, j < i → SlotI x5 i 8 stage j (Ms2.getD j [])) := hide fun j hj => by
                    by_cases e : j = q
                    · subst e
                      exact hs5
                    · exact hr5.1 j _ e (((HG3.out.2 j hj).fr (f := ⟨w3, x3.fr.out⟩)).fr (f := ⟨w4, (x3.mark w3).fr.out⟩))
                  clear hg5 hs5 hr5 hG5 HWR
                  go_wp2_with fail
                  go_roundg (gk - 1)
                  case measure => omega
                  case rel => exact ⟨q + 1, x5, Ms2, by go_num, by omega, HG5, HS5⟩
                · have hzb : (z == 11) = false := by simpa using hz11
                  go_wp2_with fail
                  (with_reducible refine (unhide HWR).mono ?_)
                  rintro e w5 ⟨v5, x5, rfl, hg5, hs5, hr5⟩
                  have hG5 := HG4.out.step hg5 hr5.2.1 hr5.2.2
                  have HG5 := hide hG5
                  have HS5 : Hid (∀ j, j < i → SlotI x5 i 8 stage j (Ms2.getD j [])) := hide fun j hj => by
                    by_cases e : j = q
                    · subst e
                      exact hs5
                    · exact hr5.1 j _ e (((HG3.out.2 j hj).fr (f := ⟨w3, x3.fr.out⟩)).fr (f := ⟨w4, (x3.mark w3).fr.out⟩))
                  clear hg5 hs5 hr5 hG5 HWR
                  go_wp2_with fail
                  go_roundg (gk - 1)
                  case measure => omega
                  case rel => exact ⟨q + 1, x5, Ms2, by go_num, by omega, HG5, HS5⟩
            · have hql2 : ¬ (q : Int) < i := by omega
              go_wp2_with fail
              go_roundg (gO - 1)
              case measure => omega
              case rel => exact ⟨t + 1, x, Ms, by go_num, by omega, hG, hS⟩
        · have htl2 : ¬ (t : Int) < 900 := by omega
          go_wp2_with fail
          go_ret
          exact ⟨rfl, hG.out.ho.nil_below⟩
end Go.Proofs.YtkccjfgkbkodiaaGreat
