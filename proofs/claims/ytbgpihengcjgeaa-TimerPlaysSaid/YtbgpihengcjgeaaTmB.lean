/-
  The timer's Start.
-/
import Derived.Test.YtbgpihengcjgeaaTmA
import Derived.Test.YtbgpihengcjgeaaHeldOne
namespace Go.Proofs.Ytbgpihengcjgeaa
open Go.RowKit

/-- 'm[k] = v' at the operation. -/
theorem wpList_storeE {α : Type} {E : Elem α} {w : World} {ops : Array Oper} {rest : List Oper} {o : Oper} {a : Act} {Q : Exit → Act → World → Prop} (hg : o.guard = none) (m x v : Operand) (t e : TypeId) (hop : o.op = Op.mapUpdate t m x v)
    (ht : Try.prog.underlying t = some (.map 3 e)) {g n : Nat} {f : Int → Option α} (hm : a.eval m = .map (some g)) (h : MapE E w g n f) (hn : n < maxLen) {id : Int} (hx : a.eval x = .int .i64 id) (hid : Wf id) (u : α) (hv : a.eval v = E.val u)
    (hK : ∀ w', MapE E w' g (n + 1) (fun y => if y = id then some u else f y) → Only [g] w w' → wpList Try.prog ops Q rest (a.put o.dst undef) w') :
    wpList Try.prog ops Q (o :: rest) a w := by
  refine wpList_plain hg fun K' hK' => ?_
  obtain ⟨w', hrun, r1, r2⟩ := h.store ht hn hid u
  unfold Oper.wp
  simp [execOp, hop, hm, hx, hv, hrun, Result.andThen]
  exact hK' _ _ (hK w' r1 (turned_only r2))

/-- One more. -/
theorem Tm.add {w w' : World} {B p n mb : Nat} {now : Int} {f : Int → Option One} {F : List Nat} {P : Int → Option Nat} (h : Tm w B p now n f F) (hm : TmM w p now n f F mb P) {id : Int} {o : One} (hfit : Fits now o)
    {b : Nat} (hb : Blk w' b 55 (oneV o)) (hnew : w.heap.size ≤ b) (hmap : MapE ptrE w' mb (n + 1) (fun y => if y = id then some b else P y)) (ho : Only [mb] w w') : Tm w' B p now (n + 1) (upd f id (some o)) (b :: F) := by
  have hpm : p ≠ mb := hm.map.notBlk hm.blk
  refine ⟨h.n0, h.n1, List.mem_cons_of_mem _ h.pF, fun k hk => ?_, fun y o2 hy => ?_, .inr ⟨mb, _, ho.blk hm.blk (by simpa using hpm), hmap, List.mem_cons_of_mem _ hm.mF, fun y => ?_, fun y c hy => ?_, fun y b2 o2 h1 h2 => ?_, fun y z c h1 h2 => ?_⟩⟩
  · rcases List.mem_cons.1 hk with rfl | hk
    · exact ⟨by have := h.blt; omega, hb.lt⟩
    · exact ⟨(h.lt k hk).1, Nat.lt_of_lt_of_le (h.lt k hk).2 ho.size⟩
  · by_cases hyx : y = id
    · rw [hyx, upd_same] at hy; cases hy; exact hfit
    · rw [upd_other f _ hyx] at hy; exact h.fits y o2 hy
  · by_cases hyx : y = id
    · rw [hyx, upd_same, if_pos rfl]; rfl
    · rw [upd_other f _ hyx, if_neg hyx]; exact hm.dom y
  · by_cases hyx : y = id
    · rw [if_pos hyx] at hy; cases hy; exact List.mem_cons_self ..
    · rw [if_neg hyx] at hy; exact List.mem_cons_of_mem _ (hm.oF y c hy)
  · by_cases hyx : y = id
    · rw [if_pos hyx] at h1; cases h1
      rw [hyx, upd_same] at h2; cases h2
      exact hb
    · rw [if_neg hyx] at h1
      rw [upd_other f _ hyx] at h2
      have hb2 := hm.one y b2 o2 h1 h2
      exact ho.blk hb2 (by simpa using hm.map.notBlk hb2)
  · have hold : ∀ y, P y = some b → False := fun y hy => by have := (h.lt b (hm.oF y b hy)).2; omega
    by_cases hyx : y = id
    · by_cases hzx : z = id
      · rw [hyx, hzx]
      · rw [if_pos hyx] at h1; cases h1
        rw [if_neg hzx] at h2; exact (hold z h2).elim
    · by_cases hzx : z = id
      · rw [if_pos hzx] at h2; cases h2
        rw [if_neg hyx] at h1; exact (hold y h1).elim
      · rw [if_neg hyx] at h1
        rw [if_neg hzx] at h2
        exact hm.inj y z c h1 h2
/-- The map is made. -/
theorem Tm.made {w : World} {B p n : Nat} {now : Int} {f : Int → Option One} {F : List Nat} (h : Tm w B p now n f F) (hb : Blk w p 27 #[.int .i64 now, .map none]) (hf : ∀ x, f x = none) :
    Tm ((w.setCell ⟨p, 1, none⟩ (.map (some w.heap.size))).alloc (.map #[] 0)) B p now n f (w.heap.size :: F) ∧ TmM ((w.setCell ⟨p, 1, none⟩ (.map (some w.heap.size))).alloc (.map #[] 0)) p now n f (w.heap.size :: F) w.heap.size (fun _ => none) ∧
      Only F w ((w.setCell ⟨p, 1, none⟩ (.map (some w.heap.size))).alloc (.map #[] 0)) := by
  have hpl := h.plt
  have hM : TmM ((w.setCell ⟨p, 1, none⟩ (.map (some w.heap.size))).alloc (.map #[] 0)) p now n f (w.heap.size :: F) w.heap.size (fun _ => none) := by
    refine ⟨(hb.set_ 1 _).alloc _, ?_, List.mem_cons_self .., fun x => by rw [hf x]; rfl, fun x b hx => (by cases hx), fun x b o hx => (by cases hx), fun x y b hx => (by cases hx)⟩
    have h9 := (MapE.new ptrE (w.setCell ⟨p, 1, none⟩ (.map (some w.heap.size)))).mono (Nat.zero_le n)
    rw [show (w.setCell ⟨p, 1, none⟩ (.map (some w.heap.size))).heap.size = w.heap.size by simp [World.setCell]] at h9
    exact h9
  refine ⟨⟨h.n0, h.n1, List.mem_cons_of_mem _ h.pF, fun k hk => ?_, h.fits, .inr ⟨_, _, hM⟩⟩, hM, ((Only.refl F w).setCell h.pF _).alloc _⟩
  rcases List.mem_cons.1 hk with rfl | hk
  · exact ⟨by have := h.blt; omega, by simp [World.setCell]⟩
  · exact ⟨(h.lt k hk).1, by have := (h.lt k hk).2; simp [World.setCell]; omega⟩

theorem start_nil (w : World) (id lim : Int) : Calls Try.prog 9 #[.pointer none, .int .i64 id, .int .i64 lim] w fun e w' => e = .returned (.bool false) ∧ w' = w := by
  go_enter Try.func9, Try.ntmps9
  go_wp2_with fail
  go_ret
  exact ⟨rfl, rfl⟩
theorem start_less {w : World} (p : Nat) {id lim : Int} (h : id < 0 ∨ lim < 0) : Calls Try.prog 9 #[.pointer (some ⟨p, 0, none⟩), .int .i64 id, .int .i64 lim] w fun e w' => e = .returned (.bool false) ∧ w' = w := by
  by_cases h1 : id < 0
  · clear h
    go_enter Try.func9, Try.ntmps9
    go_wp2_with fail
    go_ret
    exact ⟨rfl, rfl⟩
  · have h2 : lim < 0 := h.resolve_left h1
    clear h
    go_enter Try.func9, Try.ntmps9
    go_wp2_with fail
    go_ret
    exact ⟨rfl, rfl⟩
theorem start_there {w : World} {B p n : Nat} {now : Int} {f : Int → Option One} {F : List Nat} (h : Tm w B p now n f F) {id lim : Int} {o : One} (hf : f id = some o) :
    Calls Try.prog 9 #[.pointer (some ⟨p, 0, none⟩), .int .i64 id, .int .i64 lim] w fun e w' => e = .returned (.bool false) ∧ w' = w := by
  by_cases h0 : id < 0 ∨ lim < 0
  · exact start_less p h0
  have h2 : 0 ≤ id := by omega
  have h3 : 0 ≤ lim := by omega
  rcases h.all with ⟨_, h2⟩ | ⟨mb, P, h1⟩
  · rw [h2] at hf; cases hf
  obtain ⟨b, hb⟩ := h1.some_ hf
  have c1 := h1.blk.cellv 1 _ rfl
  have hl := h1.map.look (t := 25) Try.underlying25 (zeroP w) (h1.map.wf hb)
  rw [hb] at hl
  simp only [ptrE, elV] at hl
  clear h h1 hb hf h0
  go_enter Try.func9, Try.ntmps9
  go_wp2_with fail
  go_ret
  exact ⟨rfl, rfl⟩
set_option maxRecDepth 100000 in
set_option maxHeartbeats 1000000 in
theorem start_yes {w : World} {B p n : Nat} {now : Int} {f : Int → Option One} {F : List Nat} (h : Tm w B p now n f F) {id lim : Int} (hid : 0 ≤ id) (hw : Wf id) (hl : 0 ≤ lim) (hl2 : lim ≤ 9223372036854775807) (hf : f id = none) (hn : n ≤ 100000) :
    Calls Try.prog 9 #[.pointer (some ⟨p, 0, none⟩), .int .i64 id, .int .i64 lim] w fun e w' => e = .returned (.bool true) ∧ ∃ F', Tm w' B p now (n + 1) (upd f id (some ⟨lim, now, now⟩)) F' ∧ Only F w w' ∧ ∀ k ∈ F', k ∈ F ∨ w.heap.size ≤ k := by
  have hfit : Fits now ⟨lim, now, now⟩ := ⟨hl, hl2, h.n0, Int.le_refl _, h.n0, Int.le_refl _⟩
  have hnm : n < maxLen := by unfold maxLen; omega
  have hen := fun (W : World) (m : Option Nat) => run_eql_map_nil (P := Try.prog) W 25 3 53 m Try.underlying25
  have HFIT := hide hfit
  have HW := hide hw
  have HN := hide hnm
  rcases h.all with ⟨hb, hff⟩ | ⟨mb, P, h1⟩
  · obtain ⟨mb, hmb⟩ : ∃ mb, mb = w.heap.size := ⟨_, rfl⟩
    obtain ⟨w0, hw0⟩ : ∃ w0, w0 = (w.setCell ⟨p, 1, none⟩ (.map (some w.heap.size))).alloc (.map #[] 0) := ⟨_, rfl⟩
    obtain ⟨hT, hM, hO⟩ := h.made hb hff
    rw [← hw0, ← hmb] at hT hM
    rw [← hw0] at hO
    have H := hide hT
    obtain ⟨P, hP⟩ : ∃ P : Int → Option Nat, P = fun _ => none := ⟨_, rfl⟩
    rw [← hP] at hM
    have HM := hide hM
    have HO := hide hO
    have hmm := @run_makeMap Try.prog
    have c0' := hb.cellv 0 _ rfl
    have c1' := hb.cellv 1 _ rfl
    have cf := hb.frozen 1
    have c0 := hM.blk.cellv 0 _ rfl
    have c1 := hM.blk.cellv 1 _ rfl
    have hlk := look_none (w := w) ptrE (t := 25) Try.underlying25 (zeroP w) hw
    simp only [ptrE] at hlk
    have hpl := h.plt
    have hws : w.heap.size ≤ w0.heap.size := hO.size
    have HWS := hide hws
    have HMB := hide hmb
    have HF := hide hf
    clear h hT hM hO hb hff hfit hw hnm hl2 hf hws hP hn
    go_enter Try.func9, Try.ntmps9
    go_wp2_with fail
    rw [← hw0]
    clear hmm c0' c1' cf hlk hw0 hmb
    refine wp_region_tree (fun W => W.cell? ⟨p, 0, none⟩ = some (.int .i64 now) ∧ W.cell? ⟨p, 1, none⟩ = some (.map (some mb))) 16 (.take [0, 1, 2, 3, 4, 5, 6, 7, 8, 9, 10, 11, 12, 13, 14] (.step 15 (.step 16 (.fin)))) (by kernel_rfl) (by kernel_rfl) (by intro _ _ _ _ _ h; exact h) ?_
    refine wpTree_take (⟨c0, c1⟩) ?_
    simp only [opsAt, List.getElem?_cons_zero, List.getElem?_cons_succ]
    first | (refine wpPureH_step (v := ?_) rfl (fun W hS => ?_) ?_; rotate_left; · (obtain ⟨s1, s2⟩ := hS; (try simp only [Act.put, List.setIfInBounds_toArray, List.set_cons_zero, List.set_cons_succ]); go_simp; with_reducible rfl)) | (refine wpPureH_want (v := ?_) (by rfl) (fun W hS => ?_) ?_; rotate_left; · (obtain ⟨s1, s2⟩ := hS; (try simp only [Act.put, List.setIfInBounds_toArray, List.set_cons_zero, List.set_cons_succ]); go_simp; with_reducible rfl))
    first | (refine wpPureH_step (v := ?_) rfl (fun W hS => ?_) ?_; rotate_left; · (obtain ⟨s1, s2⟩ := hS; (try simp only [Act.put, List.setIfInBounds_toArray, List.set_cons_zero, List.set_cons_succ]); go_simp; with_reducible rfl)) | (refine wpPureH_want (v := ?_) (by rfl) (fun W hS => ?_) ?_; rotate_left; · (obtain ⟨s1, s2⟩ := hS; (try simp only [Act.put, List.setIfInBounds_toArray, List.set_cons_zero, List.set_cons_succ]); go_simp; with_reducible rfl))
    first | (refine wpPureH_step (v := ?_) rfl (fun W hS => ?_) ?_; rotate_left; · (obtain ⟨s1, s2⟩ := hS; (try simp only [Act.put, List.setIfInBounds_toArray, List.set_cons_zero, List.set_cons_succ]); go_simp; with_reducible rfl)) | (refine wpPureH_want (v := ?_) (by rfl) (fun W hS => ?_) ?_; rotate_left; · (obtain ⟨s1, s2⟩ := hS; (try simp only [Act.put, List.setIfInBounds_toArray, List.set_cons_zero, List.set_cons_succ]); go_simp; with_reducible rfl))
    first | (refine wpPureH_step (v := ?_) rfl (fun W hS => ?_) ?_; rotate_left; · (obtain ⟨s1, s2⟩ := hS; (try simp only [Act.put, List.setIfInBounds_toArray, List.set_cons_zero, List.set_cons_succ]); go_simp; with_reducible rfl)) | (refine wpPureH_want (v := ?_) (by rfl) (fun W hS => ?_) ?_; rotate_left; · (obtain ⟨s1, s2⟩ := hS; (try simp only [Act.put, List.setIfInBounds_toArray, List.set_cons_zero, List.set_cons_succ]); go_simp; with_reducible rfl))
    first | (refine wpPureH_step (v := ?_) rfl (fun W hS => ?_) ?_; rotate_left; · (obtain ⟨s1, s2⟩ := hS; (try simp only [Act.put, List.setIfInBounds_toArray, List.set_cons_zero, List.set_cons_succ]); go_simp; with_reducible rfl)) | (refine wpPureH_want (v := ?_) (by rfl) (fun W hS => ?_) ?_; rotate_left; · (obtain ⟨s1, s2⟩ := hS; (try simp only [Act.put, List.setIfInBounds_toArray, List.set_cons_zero, List.set_cons_succ]); go_simp; with_reducible rfl))
    first | (refine wpPureH_step (v := ?_) rfl (fun W hS => ?_) ?_; rotate_left; · (obtain ⟨s1, s2⟩ := hS; (try simp only [Act.put, List.setIfInBounds_toArray, List.set_cons_zero, List.set_cons_succ]); go_simp; with_reducible rfl)) | (refine wpPureH_want (v := ?_) (by rfl) (fun W hS => ?_) ?_; rotate_left; · (obtain ⟨s1, s2⟩ := hS; (try simp only [Act.put, List.setIfInBounds_toArray, List.set_cons_zero, List.set_cons_succ]); go_simp; with_reducible rfl))
    first | (refine wpPureH_step (v := ?_) rfl (fun W hS => ?_) ?_; rotate_left; · (obtain ⟨s1, s2⟩ := hS; (try simp only [Act.put, List.setIfInBounds_toArray, List.set_cons_zero, List.set_cons_succ]); go_simp; with_reducible rfl)) | (refine wpPureH_want (v := ?_) (by rfl) (fun W hS => ?_) ?_; rotate_left; · (obtain ⟨s1, s2⟩ := hS; (try simp only [Act.put, List.setIfInBounds_toArray, List.set_cons_zero, List.set_cons_succ]); go_simp; with_reducible rfl))
    first | (refine wpPureH_step (v := ?_) rfl (fun W hS => ?_) ?_; rotate_left; · (obtain ⟨s1, s2⟩ := hS; (try simp only [Act.put, List.setIfInBounds_toArray, List.set_cons_zero, List.set_cons_succ]); go_simp; with_reducible rfl)) | (refine wpPureH_want (v := ?_) (by rfl) (fun W hS => ?_) ?_; rotate_left; · (obtain ⟨s1, s2⟩ := hS; (try simp only [Act.put, List.setIfInBounds_toArray, List.set_cons_zero, List.set_cons_succ]); go_simp; with_reducible rfl))
    first | (refine wpPureH_step (v := ?_) rfl (fun W hS => ?_) ?_; rotate_left; · (obtain ⟨s1, s2⟩ := hS; (try simp only [Act.put, List.setIfInBounds_toArray, List.set_cons_zero, List.set_cons_succ]); go_simp; with_reducible rfl)) | (refine wpPureH_want (v := ?_) (by rfl) (fun W hS => ?_) ?_; rotate_left; · (obtain ⟨s1, s2⟩ := hS; (try simp only [Act.put, List.setIfInBounds_toArray, List.set_cons_zero, List.set_cons_succ]); go_simp; with_reducible rfl))
    first | (refine wpPureH_step (v := ?_) rfl (fun W hS => ?_) ?_; rotate_left; · (obtain ⟨s1, s2⟩ := hS; (try simp only [Act.put, List.setIfInBounds_toArray, List.set_cons_zero, List.set_cons_succ]); go_simp; with_reducible rfl)) | (refine wpPureH_want (v := ?_) (by rfl) (fun W hS => ?_) ?_; rotate_left; · (obtain ⟨s1, s2⟩ := hS; (try simp only [Act.put, List.setIfInBounds_toArray, List.set_cons_zero, List.set_cons_succ]); go_simp; with_reducible rfl))
    first | (refine wpPureH_step (v := ?_) rfl (fun W hS => ?_) ?_; rotate_left; · (obtain ⟨s1, s2⟩ := hS; (try simp only [Act.put, List.setIfInBounds_toArray, List.set_cons_zero, List.set_cons_succ]); go_simp; with_reducible rfl)) | (refine wpPureH_want (v := ?_) (by rfl) (fun W hS => ?_) ?_; rotate_left; · (obtain ⟨s1, s2⟩ := hS; (try simp only [Act.put, List.setIfInBounds_toArray, List.set_cons_zero, List.set_cons_succ]); go_simp; with_reducible rfl))
    first | (refine wpPureH_step (v := ?_) rfl (fun W hS => ?_) ?_; rotate_left; · (obtain ⟨s1, s2⟩ := hS; (try simp only [Act.put, List.setIfInBounds_toArray, List.set_cons_zero, List.set_cons_succ]); go_simp; with_reducible rfl)) | (refine wpPureH_want (v := ?_) (by rfl) (fun W hS => ?_) ?_; rotate_left; · (obtain ⟨s1, s2⟩ := hS; (try simp only [Act.put, List.setIfInBounds_toArray, List.set_cons_zero, List.set_cons_succ]); go_simp; with_reducible rfl))
    first | (refine wpPureH_step (v := ?_) rfl (fun W hS => ?_) ?_; rotate_left; · (obtain ⟨s1, s2⟩ := hS; (try simp only [Act.put, List.setIfInBounds_toArray, List.set_cons_zero, List.set_cons_succ]); go_simp; with_reducible rfl)) | (refine wpPureH_want (v := ?_) (by rfl) (fun W hS => ?_) ?_; rotate_left; · (obtain ⟨s1, s2⟩ := hS; (try simp only [Act.put, List.setIfInBounds_toArray, List.set_cons_zero, List.set_cons_succ]); go_simp; with_reducible rfl))
    first | (refine wpPureH_step (v := ?_) rfl (fun W hS => ?_) ?_; rotate_left; · (obtain ⟨s1, s2⟩ := hS; (try simp only [Act.put, List.setIfInBounds_toArray, List.set_cons_zero, List.set_cons_succ]); go_simp; with_reducible rfl)) | (refine wpPureH_want (v := ?_) (by rfl) (fun W hS => ?_) ?_; rotate_left; · (obtain ⟨s1, s2⟩ := hS; (try simp only [Act.put, List.setIfInBounds_toArray, List.set_cons_zero, List.set_cons_succ]); go_simp; with_reducible rfl))
    first | (refine wpPureH_step (v := ?_) rfl (fun W hS => ?_) ?_; rotate_left; · (obtain ⟨s1, s2⟩ := hS; (try simp only [Act.put, List.setIfInBounds_toArray, List.set_cons_zero, List.set_cons_succ]); go_simp; with_reducible rfl)) | (refine wpPureH_want (v := ?_) (by rfl) (fun W hS => ?_) ?_; rotate_left; · (obtain ⟨s1, s2⟩ := hS; (try simp only [Act.put, List.setIfInBounds_toArray, List.set_cons_zero, List.set_cons_succ]); go_simp; with_reducible rfl))
    refine wpPureH_nil ?_
    simp only [Act.put, List.setIfInBounds_toArray, List.set_cons_zero, List.set_cons_succ]
    refine wpTree_step ?_
    simp only [opsAt, List.getElem?_cons_zero, List.getElem?_cons_succ]
    go_wp2_with fail
    have hA := Blk.new w0 55 (oneV ⟨lim, now, now⟩)
    have hoA := (Only.refl [] w0).alloc (.cells (oneV ⟨lim, now, now⟩) 55)
    have d0 := hoA.nil_below.cell (p := ⟨p, 0, none⟩) H.out.plt
    have d1 := hoA.nil_below.cell (p := ⟨p, 1, none⟩) H.out.plt
    rw [c0] at d0
    rw [c1] at d1
    refine ⟨.inr ⟨d0, d1⟩, ?_⟩
    refine wpTree_step ?_
    simp only [opsAt, List.getElem?_cons_zero, List.getElem?_cons_succ]
    refine wpList_storeE (E := ptrE) (g := mb) (n := n) (f := P) rfl (.tmp 38) (.tmp 39) (.tmp 50) 25 53 rfl Try.underlying25 rfl ((HM.out.map.keep hoA (by simp)).keepW rfl) HN.out rfl HW.out w0.heap.size rfl ?_
    intro w3 hm3 ho3
    have hoB : Only [mb] (w0.alloc (.cells (oneV ⟨lim, now, now⟩) 55)) w3 := ⟨ho3.os, ho3.tape, ho3.output, ho3.size, ho3.block⟩
    have hoC := (hoA.mono (T := [mb]) (by simp)).trans hoB
    have hbC : Blk w3 w0.heap.size 55 (oneV ⟨lim, now, now⟩) := hoB.blk hA (by have := HM.out.map.lt; simp; omega)
    have HT := hide (H.out.add HM.out HFIT.out hbC (Nat.le_refl _) hm3 hoC)
    have HOC := hide hoC
    clear hA hoA d0 d1 hm3 ho3 hoB hoC hbC
    go_wp2_with fail
    refine ⟨.inl trivial, wpTree_fin ?_⟩
    go_wp2_with fail
    go_ret
    refine ⟨rfl, _, HT.out, ⟨HOC.out.os.trans HO.out.os, HOC.out.tape.trans HO.out.tape, HOC.out.output.trans HO.out.output, Nat.le_trans HO.out.size HOC.out.size, fun k hk hn => (HOC.out.block k (Nat.lt_of_lt_of_le hk HO.out.size) (by rw [List.mem_singleton, HMB.out]; omega)).trans (HO.out.block k hk hn)⟩, fun k hk => ?_⟩
    rcases List.mem_cons.1 hk with rfl | hk
    · exact .inr HWS.out
    rcases List.mem_cons.1 hk with rfl | hk
    · exact .inr (Nat.le_of_eq HMB.out.symm)
    · exact .inl hk
  · have H := hide h
    have HM := hide h1
    have c0 := h1.blk.cellv 0 _ rfl
    have c1 := h1.blk.cellv 1 _ rfl
    have hlk := h1.map.look (t := 25) Try.underlying25 (zeroP w) hw
    rw [h1.none_ hf] at hlk
    simp only [ptrE, elV] at hlk
    have HF := hide hf
    clear h h1 hfit hw hnm hl2 hf hn
    go_enter Try.func9, Try.ntmps9
    go_wp2_with fail
    clear hlk
    refine wp_region_tree (fun W => W.cell? ⟨p, 0, none⟩ = some (.int .i64 now) ∧ W.cell? ⟨p, 1, none⟩ = some (.map (some mb))) 16 (.take [0, 1, 2, 3, 4, 5, 6, 7, 8, 9, 10, 11, 12, 13, 14] (.step 15 (.step 16 (.fin)))) (by kernel_rfl) (by kernel_rfl) (by intro _ _ _ _ _ h; exact h) ?_
    refine wpTree_take (⟨c0, c1⟩) ?_
    simp only [opsAt, List.getElem?_cons_zero, List.getElem?_cons_succ]
    first | (refine wpPureH_step (v := ?_) rfl (fun W hS => ?_) ?_; rotate_left; · (obtain ⟨s1, s2⟩ := hS; (try simp only [Act.put, List.setIfInBounds_toArray, List.set_cons_zero, List.set_cons_succ]); go_simp; with_reducible rfl)) | (refine wpPureH_want (v := ?_) (by rfl) (fun W hS => ?_) ?_; rotate_left; · (obtain ⟨s1, s2⟩ := hS; (try simp only [Act.put, List.setIfInBounds_toArray, List.set_cons_zero, List.set_cons_succ]); go_simp; with_reducible rfl))
    first | (refine wpPureH_step (v := ?_) rfl (fun W hS => ?_) ?_; rotate_left; · (obtain ⟨s1, s2⟩ := hS; (try simp only [Act.put, List.setIfInBounds_toArray, List.set_cons_zero, List.set_cons_succ]); go_simp; with_reducible rfl)) | (refine wpPureH_want (v := ?_) (by rfl) (fun W hS => ?_) ?_; rotate_left; · (obtain ⟨s1, s2⟩ := hS; (try simp only [Act.put, List.setIfInBounds_toArray, List.set_cons_zero, List.set_cons_succ]); go_simp; with_reducible rfl))
    first | (refine wpPureH_step (v := ?_) rfl (fun W hS => ?_) ?_; rotate_left; · (obtain ⟨s1, s2⟩ := hS; (try simp only [Act.put, List.setIfInBounds_toArray, List.set_cons_zero, List.set_cons_succ]); go_simp; with_reducible rfl)) | (refine wpPureH_want (v := ?_) (by rfl) (fun W hS => ?_) ?_; rotate_left; · (obtain ⟨s1, s2⟩ := hS; (try simp only [Act.put, List.setIfInBounds_toArray, List.set_cons_zero, List.set_cons_succ]); go_simp; with_reducible rfl))
    first | (refine wpPureH_step (v := ?_) rfl (fun W hS => ?_) ?_; rotate_left; · (obtain ⟨s1, s2⟩ := hS; (try simp only [Act.put, List.setIfInBounds_toArray, List.set_cons_zero, List.set_cons_succ]); go_simp; with_reducible rfl)) | (refine wpPureH_want (v := ?_) (by rfl) (fun W hS => ?_) ?_; rotate_left; · (obtain ⟨s1, s2⟩ := hS; (try simp only [Act.put, List.setIfInBounds_toArray, List.set_cons_zero, List.set_cons_succ]); go_simp; with_reducible rfl))
    first | (refine wpPureH_step (v := ?_) rfl (fun W hS => ?_) ?_; rotate_left; · (obtain ⟨s1, s2⟩ := hS; (try simp only [Act.put, List.setIfInBounds_toArray, List.set_cons_zero, List.set_cons_succ]); go_simp; with_reducible rfl)) | (refine wpPureH_want (v := ?_) (by rfl) (fun W hS => ?_) ?_; rotate_left; · (obtain ⟨s1, s2⟩ := hS; (try simp only [Act.put, List.setIfInBounds_toArray, List.set_cons_zero, List.set_cons_succ]); go_simp; with_reducible rfl))
    first | (refine wpPureH_step (v := ?_) rfl (fun W hS => ?_) ?_; rotate_left; · (obtain ⟨s1, s2⟩ := hS; (try simp only [Act.put, List.setIfInBounds_toArray, List.set_cons_zero, List.set_cons_succ]); go_simp; with_reducible rfl)) | (refine wpPureH_want (v := ?_) (by rfl) (fun W hS => ?_) ?_; rotate_left; · (obtain ⟨s1, s2⟩ := hS; (try simp only [Act.put, List.setIfInBounds_toArray, List.set_cons_zero, List.set_cons_succ]); go_simp; with_reducible rfl))
    first | (refine wpPureH_step (v := ?_) rfl (fun W hS => ?_) ?_; rotate_left; · (obtain ⟨s1, s2⟩ := hS; (try simp only [Act.put, List.setIfInBounds_toArray, List.set_cons_zero, List.set_cons_succ]); go_simp; with_reducible rfl)) | (refine wpPureH_want (v := ?_) (by rfl) (fun W hS => ?_) ?_; rotate_left; · (obtain ⟨s1, s2⟩ := hS; (try simp only [Act.put, List.setIfInBounds_toArray, List.set_cons_zero, List.set_cons_succ]); go_simp; with_reducible rfl))
    first | (refine wpPureH_step (v := ?_) rfl (fun W hS => ?_) ?_; rotate_left; · (obtain ⟨s1, s2⟩ := hS; (try simp only [Act.put, List.setIfInBounds_toArray, List.set_cons_zero, List.set_cons_succ]); go_simp; with_reducible rfl)) | (refine wpPureH_want (v := ?_) (by rfl) (fun W hS => ?_) ?_; rotate_left; · (obtain ⟨s1, s2⟩ := hS; (try simp only [Act.put, List.setIfInBounds_toArray, List.set_cons_zero, List.set_cons_succ]); go_simp; with_reducible rfl))
    first | (refine wpPureH_step (v := ?_) rfl (fun W hS => ?_) ?_; rotate_left; · (obtain ⟨s1, s2⟩ := hS; (try simp only [Act.put, List.setIfInBounds_toArray, List.set_cons_zero, List.set_cons_succ]); go_simp; with_reducible rfl)) | (refine wpPureH_want (v := ?_) (by rfl) (fun W hS => ?_) ?_; rotate_left; · (obtain ⟨s1, s2⟩ := hS; (try simp only [Act.put, List.setIfInBounds_toArray, List.set_cons_zero, List.set_cons_succ]); go_simp; with_reducible rfl))
    first | (refine wpPureH_step (v := ?_) rfl (fun W hS => ?_) ?_; rotate_left; · (obtain ⟨s1, s2⟩ := hS; (try simp only [Act.put, List.setIfInBounds_toArray, List.set_cons_zero, List.set_cons_succ]); go_simp; with_reducible rfl)) | (refine wpPureH_want (v := ?_) (by rfl) (fun W hS => ?_) ?_; rotate_left; · (obtain ⟨s1, s2⟩ := hS; (try simp only [Act.put, List.setIfInBounds_toArray, List.set_cons_zero, List.set_cons_succ]); go_simp; with_reducible rfl))
    first | (refine wpPureH_step (v := ?_) rfl (fun W hS => ?_) ?_; rotate_left; · (obtain ⟨s1, s2⟩ := hS; (try simp only [Act.put, List.setIfInBounds_toArray, List.set_cons_zero, List.set_cons_succ]); go_simp; with_reducible rfl)) | (refine wpPureH_want (v := ?_) (by rfl) (fun W hS => ?_) ?_; rotate_left; · (obtain ⟨s1, s2⟩ := hS; (try simp only [Act.put, List.setIfInBounds_toArray, List.set_cons_zero, List.set_cons_succ]); go_simp; with_reducible rfl))
    first | (refine wpPureH_step (v := ?_) rfl (fun W hS => ?_) ?_; rotate_left; · (obtain ⟨s1, s2⟩ := hS; (try simp only [Act.put, List.setIfInBounds_toArray, List.set_cons_zero, List.set_cons_succ]); go_simp; with_reducible rfl)) | (refine wpPureH_want (v := ?_) (by rfl) (fun W hS => ?_) ?_; rotate_left; · (obtain ⟨s1, s2⟩ := hS; (try simp only [Act.put, List.setIfInBounds_toArray, List.set_cons_zero, List.set_cons_succ]); go_simp; with_reducible rfl))
    first | (refine wpPureH_step (v := ?_) rfl (fun W hS => ?_) ?_; rotate_left; · (obtain ⟨s1, s2⟩ := hS; (try simp only [Act.put, List.setIfInBounds_toArray, List.set_cons_zero, List.set_cons_succ]); go_simp; with_reducible rfl)) | (refine wpPureH_want (v := ?_) (by rfl) (fun W hS => ?_) ?_; rotate_left; · (obtain ⟨s1, s2⟩ := hS; (try simp only [Act.put, List.setIfInBounds_toArray, List.set_cons_zero, List.set_cons_succ]); go_simp; with_reducible rfl))
    first | (refine wpPureH_step (v := ?_) rfl (fun W hS => ?_) ?_; rotate_left; · (obtain ⟨s1, s2⟩ := hS; (try simp only [Act.put, List.setIfInBounds_toArray, List.set_cons_zero, List.set_cons_succ]); go_simp; with_reducible rfl)) | (refine wpPureH_want (v := ?_) (by rfl) (fun W hS => ?_) ?_; rotate_left; · (obtain ⟨s1, s2⟩ := hS; (try simp only [Act.put, List.setIfInBounds_toArray, List.set_cons_zero, List.set_cons_succ]); go_simp; with_reducible rfl))
    first | (refine wpPureH_step (v := ?_) rfl (fun W hS => ?_) ?_; rotate_left; · (obtain ⟨s1, s2⟩ := hS; (try simp only [Act.put, List.setIfInBounds_toArray, List.set_cons_zero, List.set_cons_succ]); go_simp; with_reducible rfl)) | (refine wpPureH_want (v := ?_) (by rfl) (fun W hS => ?_) ?_; rotate_left; · (obtain ⟨s1, s2⟩ := hS; (try simp only [Act.put, List.setIfInBounds_toArray, List.set_cons_zero, List.set_cons_succ]); go_simp; with_reducible rfl))
    refine wpPureH_nil ?_
    simp only [Act.put, List.setIfInBounds_toArray, List.set_cons_zero, List.set_cons_succ]
    refine wpTree_step ?_
    simp only [opsAt, List.getElem?_cons_zero, List.getElem?_cons_succ]
    go_wp2_with fail
    have hA := Blk.new w 55 (oneV ⟨lim, now, now⟩)
    have hoA := (Only.refl [] w).alloc (.cells (oneV ⟨lim, now, now⟩) 55)
    have d0 := hoA.nil_below.cell (p := ⟨p, 0, none⟩) H.out.plt
    have d1 := hoA.nil_below.cell (p := ⟨p, 1, none⟩) H.out.plt
    rw [c0] at d0
    rw [c1] at d1
    refine ⟨.inr ⟨d0, d1⟩, ?_⟩
    refine wpTree_step ?_
    simp only [opsAt, List.getElem?_cons_zero, List.getElem?_cons_succ]
    refine wpList_storeE (E := ptrE) (g := mb) (n := n) (f := P) rfl (.tmp 38) (.tmp 39) (.tmp 50) 25 53 rfl Try.underlying25 rfl ((HM.out.map.keep hoA (by simp)).keepW rfl) HN.out rfl HW.out w.heap.size rfl ?_
    intro w3 hm3 ho3
    have hoB : Only [mb] (w.alloc (.cells (oneV ⟨lim, now, now⟩) 55)) w3 := ⟨ho3.os, ho3.tape, ho3.output, ho3.size, ho3.block⟩
    have hoC := (hoA.mono (T := [mb]) (by simp)).trans hoB
    have hbC : Blk w3 w.heap.size 55 (oneV ⟨lim, now, now⟩) := hoB.blk hA (by have := HM.out.map.lt; simp; omega)
    have HT := hide (H.out.add HM.out HFIT.out hbC (Nat.le_refl _) hm3 hoC)
    have HOC := hide hoC
    clear hA hoA d0 d1 hm3 ho3 hoB hoC hbC
    go_wp2_with fail
    refine ⟨.inl trivial, wpTree_fin ?_⟩
    go_wp2_with fail
    go_ret
    exact ⟨rfl, _, HT.out, HOC.out.mono (by intro k hk; rw [List.mem_singleton.1 hk]; exact HM.out.mF), fun k hk => by
      rcases List.mem_cons.1 hk with rfl | hk
      · exact .inr (Nat.le_refl _)
      · exact .inl hk⟩
end Go.Proofs.Ytbgpihengcjgeaa
