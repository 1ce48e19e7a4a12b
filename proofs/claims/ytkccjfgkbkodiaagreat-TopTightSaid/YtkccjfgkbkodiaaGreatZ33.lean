/-
  TmB · Gat: parts of the walk of TopTight, under no condition.
-/
import Derived.Test.YtkccjfgkbkodiaaGreatZ30
import Derived.Test.YtkccjfgkbkodiaaGreatZ31
import Derived.Test.YtkccjfgkbkodiaaGreatZ32
namespace Go.Proofs.YtkccjfgkbkodiaaGreat.Ti
open Go.RowKit
set_option maxRecDepth 100000
variable {g : Pre5}
/-- 'm[k] = v' at the operation. -/
theorem wpList_storeE {α : Type} {E : Elem α} {w : World} {ops : Array Oper} {rest : List Oper} {o : Oper} {a : Act} {Q : Exit → Act → World → Prop} (hg : o.guard = none) (m x v : Operand) (t e : TypeId) (hop : o.op = Op.mapUpdate t m x v)
    (ht : Tryz.prog.underlying t = some (.map 3 e)) {g n : Nat} {f : Int → Option α} (hm : a.eval m = .map (some g)) (h : MapE E w g n f) (hn : n < maxLen) {id : Int} (hx : a.eval x = .int .i64 id) (hid : Wf id) (u : α) (hv : a.eval v = E.val u)
    (hK : ∀ w', MapE E w' g (n + 1) (fun y => if y = id then some u else f y) → Only [g] w w' → wpList Tryz.prog ops Q rest (a.put o.dst undef) w') :
    wpList Tryz.prog ops Q (o :: rest) a w := by
  refine wpList_plain hg fun K' hK' => ?_
  obtain ⟨w', hrun, r1, r2⟩ := h.store ht hn hid u
  unfold Oper.wp
  simp [execOp, hop, hm, hx, hv, hrun, Result.andThen]
  exact hK' _ _ (hK w' r1 (turned_only r2))
/-- One more. -/
theorem Tm.add {w w' : World} {B p n mb : Nat} {now : Int} {f : Int → Option One} {F : List Nat} {P : Int → Option Nat} (h : Tm g w B p now n f F) (hm : TmM g w p now n f F mb P) {id : Int} {o : One} (hfit : Fits now o)
    {b : Nat} (hb : Blk w' b 101 (oneV o)) (hnew : w.heap.size ≤ b) (hmap : MapE ptrE w' mb (n + 1) (fun y => if y = id then some b else P y)) (ho : Only [mb] w w') : Tm g w' B p now (n + 1) (upd f id (some o)) (b :: F) := by
  have hpm : p ≠ mb := hm.map.notBlk hm.blk
  refine ⟨h.n0, h.n1, List.mem_cons_of_mem _ h.pF, fun k hk => ?_, fun y o2 hy => ?_, .inr ⟨mb, _, ho.blk hm.blk (by simpa using hpm), hmap, List.mem_cons_of_mem _ hm.mF, fun y => ?_, fun y c hy => ?_, fun y b2 o2 h1 h2 => ?_, fun y z c h1 h2 => ?_⟩⟩
  · rcases List.mem_cons.1 hk with rfl | hk
    · exact ⟨by have := h.blt; omega, hb.lt⟩
    · exact ⟨(h.lt k hk).1, Nat.lt_of_lt_of_le (h.lt k hk).2 ho.size⟩
  · by_cases hyx : y = id
    · rw [hyx, upd_same] at hy; cases hy; exact hfit
    · rw [upd_other f _ hyx] at hy; exact h.fits y o2 hy
  · by_cases hyx : y = id
    · rw [hyx, upd_same, if_pos rfl]; rfl
    · rw [upd_other f _ hyx, if_neg hyx]; exact hm.dom y
  · by_cases hyx : y = id
    · rw [if_pos hyx] at hy; cases hy; exact List.mem_cons_self ..
    · rw [if_neg hyx] at hy; exact List.mem_cons_of_mem _ (hm.oF y c hy)
  · by_cases hyx : y = id
    · rw [if_pos hyx] at h1; cases h1
      rw [hyx, upd_same] at h2; cases h2
      exact hb
    · rw [if_neg hyx] at h1
      rw [upd_other f _ hyx] at h2
      have hb2 := hm.one y b2 o2 h1 h2
      exact ho.blk hb2 (by simpa using hm.map.notBlk hb2)
  · have hold : ∀ y, P y = some b → False := fun y hy => by have := (h.lt b (hm.oF y b hy)).2; omega
    by_cases hyx : y = id
    · by_cases hzx : z = id
      · rw [hyx, hzx]
      · rw [if_pos hyx] at h1; cases h1
        rw [if_neg hzx] at h2; exact (hold z h2).elim
    · by_cases hzx : z = id
      · rw [if_pos hzx] at h2; cases h2
        rw [if_neg hyx] at h1; exact (hold y h1).elim
      · rw [if_neg hyx] at h1
        rw [if_neg hzx] at h2
        exact hm.inj y z c h1 h2
/-- The map is made. -/
theorem Tm.made {w : World} {B p n : Nat} {now : Int} {f : Int → Option One} {F : List Nat} (h : Tm g w B p now n f F) (hb : Blk w p 61 #[g.a, g.b, g.c, g.d, g.e, .int .i64 now, .map none]) (hf : ∀ x, f x = none) :
    Tm g ((w.setCell ⟨p, 6, none⟩ (.map (some w.heap.size))).alloc (.map #[] 0)) B p now n f (w.heap.size :: F) ∧ TmM g ((w.setCell ⟨p, 6, none⟩ (.map (some w.heap.size))).alloc (.map #[] 0)) p now n f (w.heap.size :: F) w.heap.size (fun _ => none) ∧
      Only F w ((w.setCell ⟨p, 6, none⟩ (.map (some w.heap.size))).alloc (.map #[] 0)) := by
  have hpl := h.plt
  have hM : TmM g ((w.setCell ⟨p, 6, none⟩ (.map (some w.heap.size))).alloc (.map #[] 0)) p now n f (w.heap.size :: F) w.heap.size (fun _ => none) := by
    refine ⟨(hb.set_ 6 _).alloc _, ?_, List.mem_cons_self .., fun x => by rw [hf x]; rfl, fun x b hx => (by cases hx), fun x b o hx => (by cases hx), fun x y b hx => (by cases hx)⟩
    have h9 := (MapE.new ptrE (w.setCell ⟨p, 6, none⟩ (.map (some w.heap.size)))).mono (Nat.zero_le n)
    rw [show (w.setCell ⟨p, 6, none⟩ (.map (some w.heap.size))).heap.size = w.heap.size by simp [World.setCell]] at h9
    exact h9
  refine ⟨⟨h.n0, h.n1, List.mem_cons_of_mem _ h.pF, fun k hk => ?_, h.fits, .inr ⟨_, _, hM⟩⟩, hM, ((Only.refl F w).setCell h.pF _).alloc _⟩
  rcases List.mem_cons.1 hk with rfl | hk
  · exact ⟨by have := h.blt; omega, by simp [World.setCell]⟩
  · exact ⟨(h.lt k hk).1, by have := (h.lt k hk).2; simp [World.setCell]; omega⟩
theorem start_nil (w : World) (id lim : Int) : Calls Tryz.prog 30 #[.pointer none, .int .i64 id, .int .i64 lim] w fun e w' => e = .returned (.bool false) ∧ w' = w := by
  go_enter Tryz.func30, Tryz.ntmps30
  go_wp2_with fail
  go_ret
  exact ⟨rfl, rfl⟩
theorem start_less {w : World} (p : Nat) {id lim : Int} (h : id < 0 ∨ lim < 0) : Calls Tryz.prog 30 #[.pointer (some ⟨p, 5, none⟩), .int .i64 id, .int .i64 lim] w fun e w' => e = .returned (.bool false) ∧ w' = w := by
  by_cases h1 : id < 0
  · clear h
    go_enter Tryz.func30, Tryz.ntmps30
    go_wp2_with fail
    go_ret
    exact ⟨rfl, rfl⟩
  · have h2 : lim < 0 := h.resolve_left h1
    clear h
    go_enter Tryz.func30, Tryz.ntmps30
    go_wp2_with fail
    go_ret
    exact ⟨rfl, rfl⟩
theorem start_there {w : World} {B p n : Nat} {now : Int} {f : Int → Option One} {F : List Nat} (h : Tm g w B p now n f F) {id lim : Int} {o : One} (hf : f id = some o) :
    Calls Tryz.prog 30 #[.pointer (some ⟨p, 5, none⟩), .int .i64 id, .int .i64 lim] w fun e w' => e = .returned (.bool false) ∧ w' = w := by
  by_cases h0 : id < 0 ∨ lim < 0
  · exact start_less p h0
  have h2 : 0 ≤ id := by omega
  have h3 : 0 ≤ lim := by omega
  rcases h.all with ⟨_, h2⟩ | ⟨mb, P, h1⟩
  · rw [h2] at hf; cases hf
  obtain ⟨b, hb⟩ := h1.some_ hf
  have c1 := h1.blk.cellv 6 _ rfl
  have hl := h1.map.look (t := 57) Tryz.underlying57 (zeroP w) (h1.map.wf hb)
  rw [hb] at hl
  simp only [ptrE, elV] at hl
  clear h h1 hb hf h0
  go_enter Tryz.func30, Tryz.ntmps30
  go_wp2_with fail
  go_ret
  exact ⟨rfl, rfl⟩
set_option maxRecDepth 100000 in
set_option maxHeartbeats 1000000 in
theorem start_yes {w : World} {B p n : Nat} {now : Int} {f : Int → Option One} {F : List Nat} (h : Tm g w B p now n f F) {id lim : Int} (hid : 0 ≤ id) (hw : Wf id) (hl : 0 ≤ lim) (hl2 : lim ≤ 9223372036854775807) (hf : f id = none) (hn : n ≤ 100000) :
    Calls Tryz.prog 30 #[.pointer (some ⟨p, 5, none⟩), .int .i64 id, .int .i64 lim] w fun e w' => e = .returned (.bool true) ∧ ∃ F', Tm g w' B p now (n + 1) (upd f id (some ⟨lim, now, now⟩)) F' ∧ Only F w w' ∧ ∀ k ∈ F', k ∈ F ∨ w.heap.size ≤ k := by
  have hfit : Fits now ⟨lim, now, now⟩ := ⟨hl, hl2, h.n0, Int.le_refl _, h.n0, Int.le_refl _⟩
  have hnm : n < maxLen := by unfold maxLen; omega
  have hen := fun (W : World) (m : Option Nat) => run_eql_map_nil (P := Tryz.prog) W 57 3 99 m Tryz.underlying57
  have HFIT := hide hfit
  have HW := hide hw
  have HN := hide hnm
  rcases h.all with ⟨hb, hff⟩ | ⟨mb, P, h1⟩
  · obtain ⟨mb, hmb⟩ : ∃ mb, mb = w.heap.size := ⟨_, rfl⟩
    obtain ⟨w0, hw0⟩ : ∃ w0, w0 = (w.setCell ⟨p, 6, none⟩ (.map (some w.heap.size))).alloc (.map #[] 0) := ⟨_, rfl⟩
    obtain ⟨hT, hM, hO⟩ := h.made hb hff
    rw [← hw0, ← hmb] at hT hM
    rw [← hw0] at hO
    have H := hide hT
    obtain ⟨P, hP⟩ : ∃ P : Int → Option Nat, P = fun _ => none := ⟨_, rfl⟩
    rw [← hP] at hM
    have HM := hide hM
    have HO := hide hO
    have hmm := @run_makeMap Tryz.prog
    have c0' := hb.cellv 5 _ rfl
    have c1' := hb.cellv 6 _ rfl
    have cf := hb.frozen 6
    have c0 := hM.blk.cellv 5 _ rfl
    have c1 := hM.blk.cellv 6 _ rfl
    have hlk := look_none (w := w) ptrE (t := 57) Tryz.underlying57 (zeroP w) hw
    simp only [ptrE] at hlk
    have hpl := h.plt
    have hws : w.heap.size ≤ w0.heap.size := hO.size
    have HWS := hide hws
    have HMB := hide hmb
    have HF := hide hf
    clear h hT hM hO hb hff hfit hw hnm hl2 hf hws hP hn
    go_enter Tryz.func30, Tryz.ntmps30
    go_wp2_with fail
    rw [← hw0]
    clear hmm c0' c1' cf hlk hw0 hmb
    refine wp_region_tree (fun W => W.cell? ⟨p, 5, none⟩ = some (.int .i64 now) ∧ W.cell? ⟨p, 6, none⟩ = some (.map (some mb))) 16 (.take [0, 1, 2, 3, 4, 5, 6, 7, 8, 9, 10, 11, 12, 13, 14] (.step 15 (.step 16 (.fin)))) (by kernel_rfl) (by kernel_rfl) (by intro _ _ _ _ _ h; exact h) ?_
    refine wpTree_take (⟨c0, c1⟩) ?_
    simp only [opsAt, List.getElem?_cons_zero, List.getElem?_cons_succ]
    iterate 15 (first | (refine wpPureH_step (v := ?_) rfl (fun W hS => ?_) ?_; rotate_left; · (obtain ⟨s1, s2⟩ := hS; (try simp only [Act.put, List.setIfInBounds_toArray, List.set_cons_zero, List.set_cons_succ]); go_simp; with_reducible rfl)) | (refine wpPureH_want (v := ?_) (by rfl) (fun W hS => ?_) ?_; rotate_left; · (obtain ⟨s1, s2⟩ := hS; (try simp only [Act.put, List.setIfInBounds_toArray, List.set_cons_zero, List.set_cons_succ]); go_simp; with_reducible rfl)))
    refine wpPureH_nil ?_
    simp only [Act.put, List.setIfInBounds_toArray, List.set_cons_zero, List.set_cons_succ]
    refine wpTree_step ?_
    simp only [opsAt, List.getElem?_cons_zero, List.getElem?_cons_succ]
    go_wp2_with fail
    have hA := Blk.new w0 101 (oneV ⟨lim, now, now⟩)
    have hoA := (Only.refl [] w0).alloc (.cells (oneV ⟨lim, now, now⟩) 101)
    have d0 := hoA.nil_below.cell (p := ⟨p, 5, none⟩) H.out.plt
    have d1 := hoA.nil_below.cell (p := ⟨p, 6, none⟩) H.out.plt
    rw [c0] at d0
    rw [c1] at d1
    refine ⟨.inr ⟨d0, d1⟩, ?_⟩
    refine wpTree_step ?_
    simp only [opsAt, List.getElem?_cons_zero, List.getElem?_cons_succ]
    refine wpList_storeE (E := ptrE) (g := mb) (n := n) (f := P) rfl (.tmp 38) (.tmp 39) (.tmp 50) 57 99 rfl Tryz.underlying57 rfl ((HM.out.map.keep hoA (by simp)).keepW rfl) HN.out rfl HW.out w0.heap.size rfl ?_
    intro w3 hm3 ho3
    have hoB : Only [mb] (w0.alloc (.cells (oneV ⟨lim, now, now⟩) 101)) w3 := ⟨ho3.os, ho3.tape, ho3.output, ho3.size, ho3.block⟩
    have hoC := (hoA.mono (T := [mb]) (by simp)).trans hoB
    have hbC : Blk w3 w0.heap.size 101 (oneV ⟨lim, now, now⟩) := hoB.blk hA (by have := HM.out.map.lt; simp; omega)
    have HT := hide (H.out.add HM.out HFIT.out hbC (Nat.le_refl _) hm3 hoC)
    have HOC := hide hoC
    clear hA hoA d0 d1 hm3 ho3 hoB hoC hbC
    go_wp2_with fail
    refine ⟨.inl trivial, wpTree_fin ?_⟩
    go_wp2_with fail
    go_ret
    refine ⟨rfl, _, HT.out, ⟨HOC.out.os.trans HO.out.os, HOC.out.tape.trans HO.out.tape, HOC.out.output.trans HO.out.output, Nat.le_trans HO.out.size HOC.out.size, fun k hk hn => (HOC.out.block k (Nat.lt_of_lt_of_le hk HO.out.size) (by rw [List.mem_singleton, HMB.out]; omega)).trans (HO.out.block k hk hn)⟩, fun k hk => ?_⟩
    rcases List.mem_cons.1 hk with rfl | hk
    · exact .inr HWS.out
    rcases List.mem_cons.1 hk with rfl | hk
    · exact .inr (Nat.le_of_eq HMB.out.symm)
    · exact .inl hk
  · have H := hide h
    have HM := hide h1
    have c0 := h1.blk.cellv 5 _ rfl
    have c1 := h1.blk.cellv 6 _ rfl
    have hlk := h1.map.look (t := 57) Tryz.underlying57 (zeroP w) hw
    rw [h1.none_ hf] at hlk
    simp only [ptrE, elV] at hlk
    have HF := hide hf
    clear h h1 hfit hw hnm hl2 hf hn
    go_enter Tryz.func30, Tryz.ntmps30
    go_wp2_with fail
    clear hlk
    refine wp_region_tree (fun W => W.cell? ⟨p, 5, none⟩ = some (.int .i64 now) ∧ W.cell? ⟨p, 6, none⟩ = some (.map (some mb))) 16 (.take [0, 1, 2, 3, 4, 5, 6, 7, 8, 9, 10, 11, 12, 13, 14] (.step 15 (.step 16 (.fin)))) (by kernel_rfl) (by kernel_rfl) (by intro _ _ _ _ _ h; exact h) ?_
    refine wpTree_take (⟨c0, c1⟩) ?_
    simp only [opsAt, List.getElem?_cons_zero, List.getElem?_cons_succ]
    iterate 15 (first | (refine wpPureH_step (v := ?_) rfl (fun W hS => ?_) ?_; rotate_left; · (obtain ⟨s1, s2⟩ := hS; (try simp only [Act.put, List.setIfInBounds_toArray, List.set_cons_zero, List.set_cons_succ]); go_simp; with_reducible rfl)) | (refine wpPureH_want (v := ?_) (by rfl) (fun W hS => ?_) ?_; rotate_left; · (obtain ⟨s1, s2⟩ := hS; (try simp only [Act.put, List.setIfInBounds_toArray, List.set_cons_zero, List.set_cons_succ]); go_simp; with_reducible rfl)))
    refine wpPureH_nil ?_
    simp only [Act.put, List.setIfInBounds_toArray, List.set_cons_zero, List.set_cons_succ]
    refine wpTree_step ?_
    simp only [opsAt, List.getElem?_cons_zero, List.getElem?_cons_succ]
    go_wp2_with fail
    have hA := Blk.new w 101 (oneV ⟨lim, now, now⟩)
    have hoA := (Only.refl [] w).alloc (.cells (oneV ⟨lim, now, now⟩) 101)
    have d0 := hoA.nil_below.cell (p := ⟨p, 5, none⟩) H.out.plt
    have d1 := hoA.nil_below.cell (p := ⟨p, 6, none⟩) H.out.plt
    rw [c0] at d0
    rw [c1] at d1
    refine ⟨.inr ⟨d0, d1⟩, ?_⟩
    refine wpTree_step ?_
    simp only [opsAt, List.getElem?_cons_zero, List.getElem?_cons_succ]
    refine wpList_storeE (E := ptrE) (g := mb) (n := n) (f := P) rfl (.tmp 38) (.tmp 39) (.tmp 50) 57 99 rfl Tryz.underlying57 rfl ((HM.out.map.keep hoA (by simp)).keepW rfl) HN.out rfl HW.out w.heap.size rfl ?_
    intro w3 hm3 ho3
    have hoB : Only [mb] (w.alloc (.cells (oneV ⟨lim, now, now⟩) 101)) w3 := ⟨ho3.os, ho3.tape, ho3.output, ho3.size, ho3.block⟩
    have hoC := (hoA.mono (T := [mb]) (by simp)).trans hoB
    have hbC : Blk w3 w.heap.size 101 (oneV ⟨lim, now, now⟩) := hoB.blk hA (by have := HM.out.map.lt; simp; omega)
    have HT := hide (H.out.add HM.out HFIT.out hbC (Nat.le_refl _) hm3 hoC)
    have HOC := hide hoC
    clear hA hoA d0 d1 hm3 ho3 hoB hoC hbC
    go_wp2_with fail
    refine ⟨.inl trivial, wpTree_fin ?_⟩
    go_wp2_with fail
    go_ret
    exact ⟨rfl, _, HT.out, HOC.out.mono (by intro k hk; rw [List.mem_singleton.1 hk]; exact HM.out.mF), fun k hk => by
      rcases List.mem_cons.1 hk with rfl | hk
      · exact .inr (Nat.le_refl _)
      · exact .inl hk⟩
end Go.Proofs.YtkccjfgkbkodiaaGreat.Ti
namespace Go.Proofs.YtkccjfgkbkodiaaGreat
open Go.RowKit
set_option maxRecDepth 100000
/-- Blocks and whose they are. -/
def Owns (w : World) (own : Nat → Nat) (j : Nat) (F : List Nat) : Prop := ∀ k ∈ F, own k = j ∧ k < w.heap.size
def own2 (own : Nat → Nat) (B j : Nat) : Nat → Nat := fun k => if B ≤ k then j else own k
section
variable {w w' : World} {own : Nat → Nat} {i j : Nat} {F G : List Nat}
theorem Owns.apart (h : Owns w own i F) (h2 : Owns w own j G) (hij : i ≠ j) : ∀ k ∈ F, k ∉ G := fun k hk hm => hij ((h k hk).1.symm.trans (h2 k hm).1)
theorem Owns.step (h : Owns w own i F) (hs : w.heap.size ≤ w'.heap.size) (j : Nat) : Owns w' (own2 own w.heap.size j) i F := fun k hk =>
  ⟨by unfold own2; rw [if_neg (by have := (h k hk).2; omega)]; exact (h k hk).1, Nat.lt_of_lt_of_le (h k hk).2 hs⟩
theorem Owns.mine (h : Owns w own j F) (hF : ∀ k ∈ G, k ∈ F ∨ w.heap.size ≤ k) (hlt : ∀ k ∈ G, k < w'.heap.size) : Owns w' (own2 own w.heap.size j) j G := fun k hk => by
  refine ⟨?_, hlt k hk⟩
  unfold own2
  split
  · rfl
  · rename_i h9
    exact (h k ((hF k hk).resolve_right h9)).1
end
/-- A session's blocks, all of them there. -/
theorem SesIs.small {w : World} {b d sg : Nat} {F : List Nat} {x : Ses} (h : SesIs w b F d sg x) : ∃ G, SesIs w b G d sg x ∧ (∀ k ∈ G, k ∈ F) ∧ b < w.heap.size ∧ (∀ k ∈ G, k < w.heap.size) ∧ b ∉ G := by
  obtain ⟨rp, Fr, vq, pv, Fp, hM, hF⟩ := h
  refine ⟨Fr ++ (slB vq ++ Fp), ⟨rp, Fr, vq, pv, Fp, hM, fun k hk => by simpa only [List.mem_append] using hk⟩, fun k hk => hF k (by simpa only [List.mem_append] using hk), hM.blk.lt, fun k hk => ?_, fun hm => ?_⟩
  · simp only [List.mem_append] at hk
    rcases hk with h | h | h
    · exact hM.ltr k h
    · exact (hM.sl.lt k h).2
    · exact hM.ltp k h
  · simp only [List.mem_append] at hm
    rcases hm with h | h | h
    · exact hM.br h
    · exact hM.bq h
    · exact hM.bp h
/-- What is no block of the gate's: the blocks of w0 that 'out' tells of are as they were there. -/
structure Frame where
  w0 : World
  out : Nat → Bool
structure Outside (w : World) (own : Nat → Nat) (fr : Frame) : Prop where
  os : w.os = fr.w0.os
  tape : w.tape = fr.w0.tape
  output : w.output = fr.w0.output
  size : fr.w0.heap.size ≤ w.heap.size
  blk : ∀ k, fr.out k = true → k < fr.w0.heap.size ∧ own k = 99 ∧ w.heap[k]? = fr.w0.heap[k]?
theorem Outside.step {w w' : World} {own : Nat → Nat} {fr : Frame} {S : List Nat} {i : Nat} (h : Outside w own fr) (ho : Only S w w') (hS : Owns w own i S) (hi : i ≠ 99) (j : Nat) : Outside w' (own2 own w.heap.size j) fr := by
  refine ⟨ho.os.trans h.os, ho.tape.trans h.tape, ho.output.trans h.output, Nat.le_trans h.size ho.size, fun k hk => ?_⟩
  obtain ⟨h1, h2, h3⟩ := h.blk k hk
  have hlt := Nat.lt_of_lt_of_le h1 h.size
  exact ⟨h1, by unfold own2; rw [if_neg (by omega)]; exact h2, (ho.block k hlt fun hm => hi ((hS k hm).1.symm.trans h2)).trans h3⟩
structure Gt where
  slots : List (Option Ses)
  ids : List Int
  many : Int
  rest : Int
  H : List Int
  O : List Bool
  L : List Int
  f : Int → Option Ti.One
  tb : Nat
  fr : Frame
def slotV (SB : Nat → Nat × List Nat) (i : Nat) : Option Ses → Value
  | none => .pointer none
  | some _ => .pointer (some ⟨(SB i).1, 0, none⟩)
def slotsV (SB : Nat → Nat × List Nat) (l : List (Option Ses)) : Array Value := (l.mapIdx (slotV SB)).toArray
theorem slotsV_get (SB : Nat → Nat × List Nat) (l : List (Option Ses)) (i : Nat) : (slotsV SB l)[i]? = l[i]?.map (slotV SB i) := by
  simp [slotsV]
/-- The gate's blocks. -/
structure GB where
  sb : Nat
  ib : Nat
  pp : Nat
  qh : Nat
  qo : Nat
  wp : Nat
  bs : Nat → Nat
def GB.pre (a : GB) (n : Nat) (many : Int) : Ti.Pre5 := ⟨.slice (some ⟨a.sb, 0, none⟩) n n, .slice (some ⟨a.ib, 0, none⟩) n n, .int .i64 many, .pointer (some ⟨a.pp, 0, none⟩), .pointer (some ⟨a.wp, 0, none⟩)⟩
structure GateM (w : World) (gp : Nat) (a : GB) (vw : Value) (Ft : List Nat) (SB : Nat → Nat × List Nat) (own : Nat → Nat) (n tn d sg : Nat) (x : Gt) : Prop where
  tm : Ti.Tm (a.pre n x.many) w 0 gp 0 tn x.f Ft
  sl : Blk w a.sb 66 (slotsV SB x.slots)
  il : Blk w a.ib 3 (intsV x.ids)
  pu : Pu.Purse w a.pp a.qh a.qo x.rest x.H x.O
  wh : Wl.Wheel w 0 a.wp n vw x.L
  ls : x.slots.length = n
  li : x.ids.length = n
  lh : x.H.length = n
  n1 : 1 ≤ n
  n8 : n ≤ 8
  ses : ∀ i y, x.slots[i]? = some (some y) → SesIs w (SB i).1 (SB i).2 d sg y
  o0 : Owns w own 0 [a.sb]
  o1 : Owns w own 1 [a.ib]
  o2 : Owns w own 2 [a.pp, a.qh, a.qo]
  o3 : Owns w own 3 (a.wp :: slB vw)
  o4 : Owns w own 4 Ft
  o5 : ∀ i y, x.slots[i]? = some (some y) → Owns w own (5 + i) ((SB i).1 :: (SB i).2)
  ob : ∀ i y, x.slots[i]? = some (some y) → (SB i).1 = a.bs i
  ot : Outside w own x.fr
section
variable {w w' : World} {gp : Nat} {a : GB} {vw : Value} {Ft : List Nat} {SB : Nat → Nat × List Nat} {own : Nat → Nat} {n tn d sg : Nat} {x : Gt}
theorem Wl.Wheel.keep {b p : Nat} {ni : Int} {v : Value} {L : List Int} {T : List Nat} (h : Wl.Wheel w b p ni v L) (ho : Only T w w') (hT : ∀ k ∈ p :: slB v, k ∉ T) : Wl.Wheel w' b p ni v L :=
  ⟨ho.blk h.blk (hT p (List.mem_cons_self ..)), h.sl.keep ho (fun k hk => hT k (List.mem_cons_of_mem _ hk)), h.n0, h.n100, h.inside, h.nodup⟩
/-- The purse went on. -/
theorem GateM.purse (h : GateM w gp a vw Ft SB own n tn d sg x) {H : List Int} {O : List Bool} (hp : Pu.Purse w' a.pp a.qh a.qo x.rest H O) (ho : Only [a.pp, a.qh, a.qo] w w') (hl : H.length = n) :
    GateM w' gp a vw Ft SB (own2 own w.heap.size 2) n tn d sg { x with H := H, O := O } :=
  ⟨h.tm.keep ho (h.o4.apart h.o2 (by decide)), ho.blk h.sl (h.o0.apart h.o2 (by decide) _ (List.mem_cons_self ..)), ho.blk h.il (h.o1.apart h.o2 (by decide) _ (List.mem_cons_self ..)), hp, Wl.Wheel.keep h.wh ho (h.o3.apart h.o2 (by decide)), h.ls, h.li, hl, h.n1, h.n8,
    fun i y hy => (h.ses i y hy).keep ho ((h.o5 i y hy).apart h.o2 (by omega) _ (List.mem_cons_self ..)) (fun k hk => (h.o5 i y hy).apart h.o2 (by omega) k (List.mem_cons_of_mem _ hk)),
    h.o0.step ho.size 2, h.o1.step ho.size 2, h.o2.step ho.size 2, h.o3.step ho.size 2, h.o4.step ho.size 2, fun i y hy => (h.o5 i y hy).step ho.size 2, h.ob, h.ot.step ho h.o2 (by decide) 2⟩
/-- Nothing of the gate's is written. -/
theorem GateM.new (h : GateM w gp a vw Ft SB own n tn d sg x) (ho : Only [] w w') : GateM w' gp a vw Ft SB (own2 own w.heap.size 2) n tn d sg x :=
  h.purse (x := x) (h.pu.keep ho (by simp) (by simp) (by simp)) (ho.mono (by simp)) h.lh
/-- The wheel went on. -/
theorem GateM.wheel (h : GateM w gp a vw Ft SB own n tn d sg x) {L : List Int} {v' : Value} (hp : Wl.Wheel w' 0 a.wp n v' L) (ho : Only (a.wp :: slB vw) w w') (hf : ∀ k ∈ slB v', k ∈ slB vw ∨ w.heap.size ≤ k) :
    GateM w' gp a v' Ft SB (own2 own w.heap.size 3) n tn d sg { x with L := L } :=
  ⟨h.tm.keep ho (h.o4.apart h.o3 (by decide)), ho.blk h.sl (h.o0.apart h.o3 (by decide) _ (List.mem_cons_self ..)), ho.blk h.il (h.o1.apart h.o3 (by decide) _ (List.mem_cons_self ..)), h.pu.keep ho (h.o2.apart h.o3 (by decide) _ (by simp)) (h.o2.apart h.o3 (by decide) _ (by simp)) (h.o2.apart h.o3 (by decide) _ (by simp)), hp, h.ls, h.li, h.lh, h.n1, h.n8,
    fun i y hy => (h.ses i y hy).keep ho ((h.o5 i y hy).apart h.o3 (by omega) _ (List.mem_cons_self ..)) (fun k hk => (h.o5 i y hy).apart h.o3 (by omega) k (List.mem_cons_of_mem _ hk)),
    h.o0.step ho.size 3, h.o1.step ho.size 3, h.o2.step ho.size 3, h.o3.mine (fun k hk => by
      rcases List.mem_cons.1 hk with rfl | hk
      · exact .inl (List.mem_cons_self ..)
      · exact (hf k hk).imp_left (List.mem_cons_of_mem _)) (fun k hk => by
      rcases List.mem_cons.1 hk with rfl | hk
      · exact hp.blk.lt
      · exact (hp.sl.lt k hk).2), h.o4.step ho.size 3, fun i y hy => (h.o5 i y hy).step ho.size 3, h.ob, h.ot.step ho h.o3 (by decide) 3⟩
/-- The timer went on. -/
theorem GateM.timer (h : GateM w gp a vw Ft SB own n tn d sg x) {f : Int → Option Ti.One} {tn' : Nat} {Ft' : List Nat} (hp : Ti.Tm (a.pre n x.many) w' 0 gp 0 tn' f Ft') (ho : Only Ft w w') (hf : ∀ k ∈ Ft', k ∈ Ft ∨ w.heap.size ≤ k) :
    GateM w' gp a vw Ft' SB (own2 own w.heap.size 4) n tn' d sg { x with f := f } :=
  ⟨hp, ho.blk h.sl (h.o0.apart h.o4 (by decide) _ (List.mem_cons_self ..)), ho.blk h.il (h.o1.apart h.o4 (by decide) _ (List.mem_cons_self ..)), h.pu.keep ho (h.o2.apart h.o4 (by decide) _ (by simp)) (h.o2.apart h.o4 (by decide) _ (by simp)) (h.o2.apart h.o4 (by decide) _ (by simp)), Wl.Wheel.keep h.wh ho (h.o3.apart h.o4 (by decide)), h.ls, h.li, h.lh, h.n1, h.n8,
    fun i y hy => (h.ses i y hy).keep ho ((h.o5 i y hy).apart h.o4 (by omega) _ (List.mem_cons_self ..)) (fun k hk => (h.o5 i y hy).apart h.o4 (by omega) k (List.mem_cons_of_mem _ hk)),
    h.o0.step ho.size 4, h.o1.step ho.size 4, h.o2.step ho.size 4, h.o3.step ho.size 4, h.o4.mine hf (fun k hk => (hp.lt k hk).2), fun i y hy => (h.o5 i y hy).step ho.size 4, h.ob, h.ot.step ho h.o4 (by decide) 4⟩
/-- A session went on. -/
theorem GateM.session (h : GateM w gp a vw Ft SB own n tn d sg x) {i : Nat} {y y' : Ses} {F' : List Nat} (hy : x.slots[i]? = some (some y)) (hp : SesIs w' (SB i).1 F' d sg y') (ho : Only ((SB i).1 :: (SB i).2) w w') (hf : ∀ k ∈ F', k ∈ (SB i).2 ∨ w.heap.size ≤ k) :
    ∃ G, GateM w' gp a vw Ft (fun j => if j = i then ((SB i).1, G) else SB j) (own2 own w.heap.size (5 + i)) n tn d sg { x with slots := x.slots.set i (some y') } := by
  obtain ⟨G, g1, g2, g3, g4, g5⟩ := hp.small
  have hi : i < x.slots.length := (List.getElem?_eq_some_iff.1 hy).1
  have hO := h.o5 i y hy
  have hne : ∀ j, j ≤ 4 → j ≠ 5 + i := fun j hj => by omega
  have hsl : slotsV (fun j => if j = i then ((SB i).1, G) else SB j) (x.slots.set i (some y')) = slotsV SB x.slots := by
    apply Array.ext'
    apply List.ext_getElem?
    intro k
    simp only [slotsV, List.getElem?_mapIdx]
    by_cases hk : k = i
    · subst hk
      rw [List.getElem?_set_self hi, hy]
      simp [slotV]
    · rw [List.getElem?_set_ne (Ne.symm hk)]
      cases x.slots[k]? with
      | none => rfl
      | some o => cases o <;> simp [slotV, hk]
  refine ⟨G, h.tm.keep ho (h.o4.apart hO (hne 4 (by omega))), by rw [hsl]; exact ho.blk h.sl (h.o0.apart hO (hne 0 (by omega)) _ (List.mem_cons_self ..)), ho.blk h.il (h.o1.apart hO (hne 1 (by omega)) _ (List.mem_cons_self ..)), h.pu.keep ho (h.o2.apart hO (hne 2 (by omega)) _ (by simp)) (h.o2.apart hO (hne 2 (by omega)) _ (by simp)) (h.o2.apart hO (hne 2 (by omega)) _ (by simp)), Wl.Wheel.keep h.wh ho (h.o3.apart hO (hne 3 (by omega))), by rw [List.length_set]; exact h.ls, h.li, h.lh, h.n1, h.n8, fun j z hz => ?_,
    h.o0.step ho.size _, h.o1.step ho.size _, h.o2.step ho.size _, h.o3.step ho.size _, h.o4.step ho.size _, fun j z hz => ?_, fun j z hz => ?_, h.ot.step ho hO (by have := h.ls; have := h.n8; omega) _⟩
  · by_cases hj : j = i
    · subst hj
      rw [show (x.slots.set j (some y'))[j]? = some (some y') from List.getElem?_set_self hi] at hz
      cases hz
      simpa using g1
    · rw [show (x.slots.set i (some y'))[j]? = x.slots[j]? from List.getElem?_set_ne (Ne.symm hj)] at hz
      simp only [if_neg hj]
      exact (h.ses j z hz).keep ho ((h.o5 j z hz).apart hO (by omega) _ (List.mem_cons_self ..)) (fun k hk => (h.o5 j z hz).apart hO (by omega) k (List.mem_cons_of_mem _ hk))
  · by_cases hj : j = i
    · subst hj
      simp only [if_true]
      exact hO.mine (fun k hk => by
        rcases List.mem_cons.1 hk with rfl | hk
        · exact .inl (List.mem_cons_self ..)
        · exact (hf k (g2 k hk)).imp_left (List.mem_cons_of_mem _)) (fun k hk => by
        rcases List.mem_cons.1 hk with rfl | hk
        · exact g3
        · exact g4 k hk)
    · rw [show (x.slots.set i (some y'))[j]? = x.slots[j]? from List.getElem?_set_ne (Ne.symm hj)] at hz
      simp only [if_neg hj]
      exact (h.o5 j z hz).step ho.size _
  · by_cases hj : j = i
    · subst hj
      simp only [if_true]
      exact h.ob j y hy
    · rw [show (x.slots.set i (some y'))[j]? = x.slots[j]? from List.getElem?_set_ne (Ne.symm hj)] at hz
      simp only [if_neg hj]
      exact h.ob j z hz
end
end Go.Proofs.YtkccjfgkbkodiaaGreat
