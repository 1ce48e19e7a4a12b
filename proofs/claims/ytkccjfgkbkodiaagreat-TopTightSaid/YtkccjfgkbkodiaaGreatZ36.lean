/-
  GatN · Exa · LawA: parts of the walk of TopTight, under no condition.
-/
import Derived.Test.YtkccjfgkbkodiaaGreatZ29
import Derived.Test.YtkccjfgkbkodiaaGreatZ35
namespace Go.Proofs.YtkccjfgkbkodiaaGreat
open Go.RowKit
set_option maxRecDepth 100000
/-- A gate that nobody was at. -/
def Gt.fresh (n : Nat) (rest : Int) (w W : World) : Gt := ⟨List.replicate n none, List.replicate n 0, 0, rest, List.replicate n 0, List.replicate n false, [], fun _ => none, 0, ⟨W, fun k => decide (k < w.heap.size)⟩⟩
def ownN (s sb ib pp qh qo wp k : Nat) : Nat := if k < s then 99 else if k = sb then 0 else if k = ib then 1 else if k = pp ∨ k = qh ∨ k = qo then 2 else if k = wp then 3 else 4
theorem GateIs.made {w W : World} {gp sb ib pp qh qo wp n d sg : Nat} {rest : Int} (h1 : 1 ≤ n) (h8 : n ≤ 8) (hsl : Blk W sb 66 (List.replicate n (Value.pointer none)).toArray) (hil : Blk W ib 3 (List.replicate n (Value.int .i64 0)).toArray) (hpu : Pu.Purse W pp qh qo rest (List.replicate n 0) (List.replicate n false))
    (hwh : Wl.Wheel W 0 wp n (.slice none 0 0) []) (hg : Blk W gp 61 #[.slice (some ⟨sb, 0, none⟩) n n, .slice (some ⟨ib, 0, none⟩) n n, .int .i64 0, .pointer (some ⟨pp, 0, none⟩), .pointer (some ⟨wp, 0, none⟩), .int .i64 0, .map none])
    (ho : Only [] w W) (hs : w.heap.size ≤ sb ∧ w.heap.size ≤ ib ∧ w.heap.size ≤ pp ∧ w.heap.size ≤ qh ∧ w.heap.size ≤ qo ∧ w.heap.size ≤ wp ∧ w.heap.size ≤ gp) (hne : ib ≠ qh) :
    GateIs W gp ⟨sb, ib, pp, qh, qo, wp, fun _ => 0⟩ n d sg (Gt.fresh n rest w W) := by
  obtain ⟨s1, s2, s3, s4, s5, s6, s7⟩ := hs
  have ap := hpu.apart
  have n1 : ib ≠ sb := hil.ne_ hsl (by decide)
  have n2 : pp ≠ sb := hpu.bp.ne_ hsl (by decide)
  have n3 : qh ≠ sb := hpu.bh.ne_ hsl (by decide)
  have n4 : qo ≠ sb := hpu.bo.ne_ hsl (by decide)
  have n5 : pp ≠ ib := hpu.bp.ne_ hil (by decide)
  have n6 : qo ≠ ib := hpu.bo.ne_ hil (by decide)
  have n7 : wp ≠ sb := hwh.blk.ne_ hsl (by decide)
  have n8 : wp ≠ ib := hwh.blk.ne_ hil (by decide)
  have n9 : wp ≠ pp := hwh.blk.ne_ hpu.bp (by decide)
  have n10 : wp ≠ qh := hwh.blk.ne_ hpu.bh (by decide)
  have n11 : wp ≠ qo := hwh.blk.ne_ hpu.bo (by decide)
  have n12 : gp ≠ sb := hg.ne_ hsl (by decide)
  have n13 : gp ≠ ib := hg.ne_ hil (by decide)
  have n14 : gp ≠ pp := hg.ne_ hpu.bp (by decide)
  have n15 : gp ≠ qh := hg.ne_ hpu.bh (by decide)
  have n16 : gp ≠ qo := hg.ne_ hpu.bo (by decide)
  have n17 : gp ≠ wp := hg.ne_ hwh.blk (by decide)
  have hne' := hne
  refine ⟨.slice none 0 0, [gp], fun _ => (0, []), ownN w.heap.size sb ib pp qh qo wp, 0, ⟨Ti.Tm.new hg (Nat.zero_le _), ?_, ?_, hpu, hwh, by simp [Gt.fresh], by simp [Gt.fresh], by simp [Gt.fresh], h1, h8, ?_, ?_, ?_, ?_, ?_, ?_, ?_, ?_, ?_⟩, Nat.le_refl _⟩
  · have e : slotsV (fun _ => (0, [])) (List.replicate n none) = (List.replicate n (Value.pointer none)).toArray := by
      apply Array.ext'
      apply List.ext_getElem?
      intro k
      simp only [slotsV, List.getElem?_mapIdx, List.getElem?_replicate]
      split <;> rfl
    show Blk W sb _ (slotsV _ (List.replicate n none))
    rw [e]
    exact hsl
  · show Blk W ib _ (intsV (List.replicate n 0))
    rw [show intsV (List.replicate n 0) = (List.replicate n (Value.int .i64 0)).toArray by simp [intsV]]
    exact hil
  · intro i y hy
    simp [Gt.fresh, List.getElem?_replicate] at hy
  · intro k hk
    have e : k = sb := List.mem_singleton.1 hk
    rw [e]
    exact ⟨by unfold ownN; rw [if_neg (by omega), if_pos rfl], hsl.lt⟩
  · intro k hk
    have e : k = ib := List.mem_singleton.1 hk
    rw [e]
    exact ⟨by unfold ownN; rw [if_neg (by omega), if_neg n1, if_pos rfl], hil.lt⟩
  · intro k hk
    simp only [List.mem_cons, List.not_mem_nil, or_false] at hk
    rcases hk with rfl | rfl | rfl
    · exact ⟨by unfold ownN; rw [if_neg (by omega), if_neg n2, if_neg n5, if_pos (.inl rfl)], hpu.bp.lt⟩
    · exact ⟨by unfold ownN; rw [if_neg (by omega), if_neg n3, if_neg (Ne.symm hne), if_pos (.inr (.inl rfl))], hpu.bh.lt⟩
    · exact ⟨by unfold ownN; rw [if_neg (by omega), if_neg n4, if_neg n6, if_pos (.inr (.inr rfl))], hpu.bo.lt⟩
  · intro k hk
    simp only [slB, List.mem_cons, List.not_mem_nil, or_false] at hk
    subst hk
    exact ⟨by unfold ownN; rw [if_neg (by omega), if_neg n7, if_neg n8, if_neg (by simp [n9, n10, n11]), if_pos rfl], hwh.blk.lt⟩
  · intro k hk
    have e : k = gp := List.mem_singleton.1 hk
    rw [e]
    exact ⟨by unfold ownN; rw [if_neg (by omega), if_neg n12, if_neg n13, if_neg (by simp [n14, n15, n16]), if_neg n17], hg.lt⟩
  · intro i y hy
    simp [Gt.fresh, List.getElem?_replicate] at hy
  · intro i y hy
    simp [Gt.fresh, List.getElem?_replicate] at hy
  · refine ⟨rfl, rfl, rfl, Nat.le_refl _, fun k hk => ?_⟩
    have hk2 : k < w.heap.size := by simpa [Gt.fresh] using hk
    exact ⟨Nat.lt_of_lt_of_le hk2 ho.size, by unfold ownN; rw [if_pos hk2], rfl⟩
theorem info_sp : (Tryz.prog.info? 66).map (fun i => (i.zero, i.size, i.bytes)) = some (some (.pointer none), 1, 8) := by kernel_rfl
theorem info_i : (Tryz.prog.info? 3).map (fun i => (i.zero, i.size, i.bytes)) = some (some (.int .i64 0), 1, 8) := by kernel_rfl
set_option maxHeartbeats 4000000 in
theorem gate_new (w : World) (bud : Int) (n : Nat) (d sg : Nat) (h1 : 1 ≤ n) (h8 : n ≤ 8) (hb1 : (n : Int) * 700 ≤ bud) (hb2 : bud ≤ 40000) :
    Calls Tryz.prog 8 #[.int .i64 bud, .int .i64 (n : Int)] w fun e w' => ∃ gp a, e = .returned (.pointer (some ⟨gp, 0, none⟩)) ∧ GateIs w' gp a n d sg (Gt.fresh n (bud - n * 700) w w') ∧ Only [] w w' := by
  have HP := hide (Pu.new_yes bud n w h1 h8 hb1 hb2)
  have HW := fun W => hide (Wl.new_any (n : Int) n (by omega) W)
  obtain ⟨cs, hcs⟩ : ∃ cs, cs = (List.replicate n (Value.pointer none)).toArray := ⟨_, rfl⟩
  obtain ⟨ci, hci⟩ : ∃ ci, ci = (List.replicate n (Value.int .i64 0)).toArray := ⟨_, rfl⟩
  have hm1 := run_make_cells (P := Tryz.prog) Tryz.underlying54 (.pointer none) 8 info_sp rfl n n rfl (by omega) (by omega)
  have hm2 := run_make_cells (P := Tryz.prog) Tryz.underlying30 (.int .i64 0) 8 info_i rfl n n rfl (by omega) (by omega)
  rw [← hcs] at hm1
  rw [← hci] at hm2
  have HN := hide (And.intro h1 (And.intro h8 (And.intro hcs hci)))
  have fin : ∀ (p qh qo : Nat) (y0 : World) (sb ib wp gp : Nat) (y4 : World), Only [] y0 y4 → Blk y4 sb 66 cs → Blk y4 ib 3 ci → Wl.Wheel y4 0 wp n (.slice none 0 0) [] → Blk y4 gp 61 #[.slice (some ⟨sb, 0, none⟩) n n, .slice (some ⟨ib, 0, none⟩) n n, .int .i64 0, .pointer (some ⟨p, 0, none⟩), .pointer (some ⟨wp, 0, none⟩), .int .i64 0, .map none] →
      y0.heap.size ≤ sb → y0.heap.size ≤ ib → y0.heap.size ≤ wp → y0.heap.size ≤ gp → Pu.Purse y0 p qh qo (bud - n * 700) (List.replicate n 0) (List.replicate n false) → Only [] w y0 → qh < y0.heap.size → w.heap.size ≤ p → w.heap.size ≤ qh → w.heap.size ≤ qo →
      ∃ gp' a, Ending.returned (.pointer (some ⟨gp, 0, none⟩)) = .returned (.pointer (some ⟨gp', 0, none⟩)) ∧ GateIs y4 gp' a n d sg (Gt.fresh n (bud - n * 700) w y4) ∧ Only [] w y4 := by
    intro p qh qo y0 sb ib wp gp y4 o hsl hil hwh hg g1 g2 g3 g4 hpu o0 hql p1 p2 p3
    have hs0 := o0.size
    rw [hcs] at hsl
    rw [hci] at hil
    exact ⟨gp, _, rfl, GateIs.made h1 h8 hsl hil (hpu.keep o (by simp) (by simp) (by simp)) hwh hg (o0.trans o) ⟨by omega, by omega, p1, p2, p3, by omega, by omega⟩ (by omega), o0.trans o⟩
  clear hcs hci h1 h8 hb1 hb2
  go_enter Tryz.func8, Tryz.ntmps8
  go_wp2_with fail
  (with_reducible refine (unhide HP).mono ?_)
  rintro e w1 ⟨p, qh, qo, rfl, hp, hp1, hp2, hp3, hbl⟩
  have HPU := hide (And.intro hp (And.intro hp1 (And.intro hp2 (And.intro hp3 (Only.of_below hbl [])))))
  clear hp hp1 hp2 hp3 hbl HP
  go_upto_region 4 with (fail)
  refine wp_region_tree (fun _ => True) 10 (.take [0, 2, 4, 5] (.three 1 (.two 3 (.step 6 (.step 7 (.step 8 (.step 9 .fin)))) 6 (.step 3 (.step 7 (.step 8 (.step 9 .fin))))) 3 (.two 1 (.step 6 (.step 7 (.step 8 (.step 9 .fin)))) 6 (.step 1 (.step 7 (.step 8 (.step 9 .fin))))) 6 (.two 1 (.step 3 (.step 7 (.step 8 (.step 9 .fin)))) 3 (.step 1 (.step 7 (.step 8 (.step 9 .fin))))))) (by kernel_rfl) (by kernel_rfl) (by intro _ _ _ _ _ h; exact h) ?_
  obtain ⟨y0, hy0⟩ : ∃ y0, y0 = w1.drew := ⟨_, rfl⟩
  have o0 : Only [] w y0 := by rw [hy0]; exact HPU.out.2.2.2.2.drew
  have hpu : Pu.Purse y0 p qh qo (bud - n * 700) (List.replicate n 0) (List.replicate n false) := by rw [hy0]; exact HPU.out.1.drewN 1
  have hql : qh < y0.heap.size := hpu.bh.lt
  rw [← hy0]
  have HP0 := hide (And.intro o0 (And.intro hpu hql))
  clear hy0 o0 hpu hql
  refine wpTree_take (trivial) ?_
  simp only [opsAt, List.getElem?_cons_zero, List.getElem?_cons_succ]
  iterate 4 (first | (refine wpPureH_step (v := ?_) rfl (fun W hS => ?_) ?_; rotate_left; · (obtain _ := hS; (try simp only [Act.put, List.setIfInBounds_toArray, List.set_cons_zero, List.set_cons_succ]); go_simp; with_reducible rfl)) | (refine wpPureH_want (v := ?_) (by rfl) (fun W hS => ?_) ?_; rotate_left; · (obtain _ := hS; (try simp only [Act.put, List.setIfInBounds_toArray, List.set_cons_zero, List.set_cons_succ]); go_simp; with_reducible rfl)))
  refine wpPureH_nil ?_
  simp only [Act.put, List.setIfInBounds_toArray, List.set_cons_zero, List.set_cons_succ]
  refine wpTree_three ?_ ?_ ?_
  · skip
    refine wpTree_step ?_
    simp only [opsAt, List.getElem?_cons_zero, List.getElem?_cons_succ]
    go_wp2_with fail
    obtain ⟨y1, hy1⟩ : ∃ y, y = y0.alloc (.cells cs 66) := ⟨_, rfl⟩
    have o1 : Only [] y0 y1 := by rw [hy1]; exact (Only.refl [] y0).alloc _
    have hsl : Blk y1 y0.heap.size 66 cs := by rw [hy1]; exact Blk.new _ _ _
    have l1 : y0.heap.size < y1.heap.size := by rw [hy1]; simp
    rw [← hy1]
    clear hy1
    refine ⟨.inr trivial, ?_⟩
    refine wpTree_two ?_ ?_
    · skip
      refine wpTree_step ?_
      simp only [opsAt, List.getElem?_cons_zero, List.getElem?_cons_succ]
      go_wp2_with fail
      obtain ⟨y2, hy2⟩ : ∃ y, y = y1.alloc (.cells ci 3) := ⟨_, rfl⟩
      have o2 : Only [] y1 y2 := by rw [hy2]; exact (Only.refl [] y1).alloc _
      have hil : Blk y2 y1.heap.size 3 ci := by rw [hy2]; exact Blk.new _ _ _
      have l2 : y1.heap.size < y2.heap.size := by rw [hy2]; simp
      rw [← hy2]
      clear hy2
      refine ⟨.inr trivial, ?_⟩
      refine wpTree_step ?_
      simp only [opsAt, List.getElem?_cons_zero, List.getElem?_cons_succ]
      go_wp2_with fail
      (with_reducible refine (unhide (HW _)).mono ?_)
      rintro e y3 ⟨rfl, hy3⟩
      have o3 : Only [] y2 y3 := by rw [hy3]; exact (Only.refl [] y2).alloc _
      have hwh : Wl.Wheel y3 0 y2.heap.size n (.slice none 0 0) [] := by rw [hy3]; exact Wl.wheel_new y2 0 n (by omega) (by have := HN.out.2.1; omega)
      have l3 : y2.heap.size < y3.heap.size := by rw [hy3]; simp
      clear hy3
      go_wp2_with fail
      refine ⟨.inr trivial, ?_⟩
      refine wpTree_step ?_
      simp only [opsAt, List.getElem?_cons_zero, List.getElem?_cons_succ]
      go_wp2_with fail
      refine ⟨.inr trivial, ?_⟩
      refine wpTree_step ?_
      simp only [opsAt, List.getElem?_cons_zero, List.getElem?_cons_succ]
      go_wp2_with fail
      obtain ⟨y4, hy4⟩ : ∃ y, y = y3.alloc (.cells #[.slice (some ⟨y0.heap.size, 0, none⟩) n n, .slice (some ⟨y1.heap.size, 0, none⟩) n n, .int .i64 0, .pointer (some ⟨p, 0, none⟩), .pointer (some ⟨y2.heap.size, 0, none⟩), .int .i64 0, .map none] 61) := ⟨_, rfl⟩
      have o4 : Only [] y3 y4 := by rw [hy4]; exact (Only.refl [] y3).alloc _
      have hg : Blk y4 y3.heap.size 61 #[.slice (some ⟨y0.heap.size, 0, none⟩) n n, .slice (some ⟨y1.heap.size, 0, none⟩) n n, .int .i64 0, .pointer (some ⟨p, 0, none⟩), .pointer (some ⟨y2.heap.size, 0, none⟩), .int .i64 0, .map none] := by rw [hy4]; exact Blk.new _ _ _
      rw [← hy4]
      clear hy4
      refine ⟨.inr trivial, ?_⟩
      refine wpTree_step ?_
      simp only [opsAt, List.getElem?_cons_zero, List.getElem?_cons_succ]
      go_wp2_with fail
      refine ⟨.inr trivial, wpTree_fin ?_⟩
      go_wp2_with fail
      go_ret
      have o34 := o4
      have o24 := o3.trans o4
      have o14 := o2.trans o24
      exact fin p qh qo _ _ _ _ _ y4 (o1.trans o14) (o14.blk hsl (by simp)) (o24.blk hil (by simp)) (Wl.Wheel.keep hwh o34 (by simp)) hg (by omega) (by omega) (by omega) (by omega) HP0.out.2.1 HP0.out.1 HP0.out.2.2 HPU.out.2.1 HPU.out.2.2.1 HPU.out.2.2.2.1
    · skip
      refine wpTree_step ?_
      simp only [opsAt, List.getElem?_cons_zero, List.getElem?_cons_succ]
      go_wp2_with fail
      (with_reducible refine (unhide (HW _)).mono ?_)
      rintro e y2 ⟨rfl, hy2⟩
      have o2 : Only [] y1 y2 := by rw [hy2]; exact (Only.refl [] y1).alloc _
      have hwh : Wl.Wheel y2 0 y1.heap.size n (.slice none 0 0) [] := by rw [hy2]; exact Wl.wheel_new y1 0 n (by omega) (by have := HN.out.2.1; omega)
      have l2 : y1.heap.size < y2.heap.size := by rw [hy2]; simp
      clear hy2
      go_wp2_with fail
      refine ⟨.inr trivial, ?_⟩
      refine wpTree_step ?_
      simp only [opsAt, List.getElem?_cons_zero, List.getElem?_cons_succ]
      go_wp2_with fail
      obtain ⟨y3, hy3⟩ : ∃ y, y = y2.alloc (.cells ci 3) := ⟨_, rfl⟩
      have o3 : Only [] y2 y3 := by rw [hy3]; exact (Only.refl [] y2).alloc _
      have hil : Blk y3 y2.heap.size 3 ci := by rw [hy3]; exact Blk.new _ _ _
      have l3 : y2.heap.size < y3.heap.size := by rw [hy3]; simp
      rw [← hy3]
      clear hy3
      refine ⟨.inr trivial, ?_⟩
      refine wpTree_step ?_
      simp only [opsAt, List.getElem?_cons_zero, List.getElem?_cons_succ]
      go_wp2_with fail
      refine ⟨.inr trivial, ?_⟩
      refine wpTree_step ?_
      simp only [opsAt, List.getElem?_cons_zero, List.getElem?_cons_succ]
      go_wp2_with fail
      obtain ⟨y4, hy4⟩ : ∃ y, y = y3.alloc (.cells #[.slice (some ⟨y0.heap.size, 0, none⟩) n n, .slice (some ⟨y2.heap.size, 0, none⟩) n n, .int .i64 0, .pointer (some ⟨p, 0, none⟩), .pointer (some ⟨y1.heap.size, 0, none⟩), .int .i64 0, .map none] 61) := ⟨_, rfl⟩
      have o4 : Only [] y3 y4 := by rw [hy4]; exact (Only.refl [] y3).alloc _
      have hg : Blk y4 y3.heap.size 61 #[.slice (some ⟨y0.heap.size, 0, none⟩) n n, .slice (some ⟨y2.heap.size, 0, none⟩) n n, .int .i64 0, .pointer (some ⟨p, 0, none⟩), .pointer (some ⟨y1.heap.size, 0, none⟩), .int .i64 0, .map none] := by rw [hy4]; exact Blk.new _ _ _
      rw [← hy4]
      clear hy4
      refine ⟨.inr trivial, ?_⟩
      refine wpTree_step ?_
      simp only [opsAt, List.getElem?_cons_zero, List.getElem?_cons_succ]
      go_wp2_with fail
      refine ⟨.inr trivial, wpTree_fin ?_⟩
      go_wp2_with fail
      go_ret
      have o34 := o4
      have o24 := o3.trans o4
      have o14 := o2.trans o24
      exact fin p qh qo _ _ _ _ _ y4 (o1.trans o14) (o14.blk hsl (by simp)) (o34.blk hil (by simp)) (Wl.Wheel.keep hwh o24 (by simp)) hg (by omega) (by omega) (by omega) (by omega) HP0.out.2.1 HP0.out.1 HP0.out.2.2 HPU.out.2.1 HPU.out.2.2.1 HPU.out.2.2.2.1
  · skip
    refine wpTree_step ?_
    simp only [opsAt, List.getElem?_cons_zero, List.getElem?_cons_succ]
    go_wp2_with fail
    obtain ⟨y1, hy1⟩ : ∃ y, y = y0.alloc (.cells ci 3) := ⟨_, rfl⟩
    have o1 : Only [] y0 y1 := by rw [hy1]; exact (Only.refl [] y0).alloc _
    have hil : Blk y1 y0.heap.size 3 ci := by rw [hy1]; exact Blk.new _ _ _
    have l1 : y0.heap.size < y1.heap.size := by rw [hy1]; simp
    rw [← hy1]
    clear hy1
    refine ⟨.inr trivial, ?_⟩
    refine wpTree_two ?_ ?_
    · skip
      refine wpTree_step ?_
      simp only [opsAt, List.getElem?_cons_zero, List.getElem?_cons_succ]
      go_wp2_with fail
      obtain ⟨y2, hy2⟩ : ∃ y, y = y1.alloc (.cells cs 66) := ⟨_, rfl⟩
      have o2 : Only [] y1 y2 := by rw [hy2]; exact (Only.refl [] y1).alloc _
      have hsl : Blk y2 y1.heap.size 66 cs := by rw [hy2]; exact Blk.new _ _ _
      have l2 : y1.heap.size < y2.heap.size := by rw [hy2]; simp
      rw [← hy2]
      clear hy2
      refine ⟨.inr trivial, ?_⟩
      refine wpTree_step ?_
      simp only [opsAt, List.getElem?_cons_zero, List.getElem?_cons_succ]
      go_wp2_with fail
      (with_reducible refine (unhide (HW _)).mono ?_)
      rintro e y3 ⟨rfl, hy3⟩
      have o3 : Only [] y2 y3 := by rw [hy3]; exact (Only.refl [] y2).alloc _
      have hwh : Wl.Wheel y3 0 y2.heap.size n (.slice none 0 0) [] := by rw [hy3]; exact Wl.wheel_new y2 0 n (by omega) (by have := HN.out.2.1; omega)
      have l3 : y2.heap.size < y3.heap.size := by rw [hy3]; simp
      clear hy3
      go_wp2_with fail
      refine ⟨.inr trivial, ?_⟩
      refine wpTree_step ?_
      simp only [opsAt, List.getElem?_cons_zero, List.getElem?_cons_succ]
      go_wp2_with fail
      refine ⟨.inr trivial, ?_⟩
      refine wpTree_step ?_
      simp only [opsAt, List.getElem?_cons_zero, List.getElem?_cons_succ]
      go_wp2_with fail
      obtain ⟨y4, hy4⟩ : ∃ y, y = y3.alloc (.cells #[.slice (some ⟨y1.heap.size, 0, none⟩) n n, .slice (some ⟨y0.heap.size, 0, none⟩) n n, .int .i64 0, .pointer (some ⟨p, 0, none⟩), .pointer (some ⟨y2.heap.size, 0, none⟩), .int .i64 0, .map none] 61) := ⟨_, rfl⟩
      have o4 : Only [] y3 y4 := by rw [hy4]; exact (Only.refl [] y3).alloc _
      have hg : Blk y4 y3.heap.size 61 #[.slice (some ⟨y1.heap.size, 0, none⟩) n n, .slice (some ⟨y0.heap.size, 0, none⟩) n n, .int .i64 0, .pointer (some ⟨p, 0, none⟩), .pointer (some ⟨y2.heap.size, 0, none⟩), .int .i64 0, .map none] := by rw [hy4]; exact Blk.new _ _ _
      rw [← hy4]
      clear hy4
      refine ⟨.inr trivial, ?_⟩
      refine wpTree_step ?_
      simp only [opsAt, List.getElem?_cons_zero, List.getElem?_cons_succ]
      go_wp2_with fail
      refine ⟨.inr trivial, wpTree_fin ?_⟩
      go_wp2_with fail
      go_ret
      have o34 := o4
      have o24 := o3.trans o4
      have o14 := o2.trans o24
      exact fin p qh qo _ _ _ _ _ y4 (o1.trans o14) (o24.blk hsl (by simp)) (o14.blk hil (by simp)) (Wl.Wheel.keep hwh o34 (by simp)) hg (by omega) (by omega) (by omega) (by omega) HP0.out.2.1 HP0.out.1 HP0.out.2.2 HPU.out.2.1 HPU.out.2.2.1 HPU.out.2.2.2.1
    · skip
      refine wpTree_step ?_
      simp only [opsAt, List.getElem?_cons_zero, List.getElem?_cons_succ]
      go_wp2_with fail
      (with_reducible refine (unhide (HW _)).mono ?_)
      rintro e y2 ⟨rfl, hy2⟩
      have o2 : Only [] y1 y2 := by rw [hy2]; exact (Only.refl [] y1).alloc _
      have hwh : Wl.Wheel y2 0 y1.heap.size n (.slice none 0 0) [] := by rw [hy2]; exact Wl.wheel_new y1 0 n (by omega) (by have := HN.out.2.1; omega)
      have l2 : y1.heap.size < y2.heap.size := by rw [hy2]; simp
      clear hy2
      go_wp2_with fail
      refine ⟨.inr trivial, ?_⟩
      refine wpTree_step ?_
      simp only [opsAt, List.getElem?_cons_zero, List.getElem?_cons_succ]
      go_wp2_with fail
      obtain ⟨y3, hy3⟩ : ∃ y, y = y2.alloc (.cells cs 66) := ⟨_, rfl⟩
      have o3 : Only [] y2 y3 := by rw [hy3]; exact (Only.refl [] y2).alloc _
      have hsl : Blk y3 y2.heap.size 66 cs := by rw [hy3]; exact Blk.new _ _ _
      have l3 : y2.heap.size < y3.heap.size := by rw [hy3]; simp
      rw [← hy3]
      clear hy3
      refine ⟨.inr trivial, ?_⟩
      refine wpTree_step ?_
      simp only [opsAt, List.getElem?_cons_zero, List.getElem?_cons_succ]
      go_wp2_with fail
      refine ⟨.inr trivial, ?_⟩
      refine wpTree_step ?_
      simp only [opsAt, List.getElem?_cons_zero, List.getElem?_cons_succ]
      go_wp2_with fail
      obtain ⟨y4, hy4⟩ : ∃ y, y = y3.alloc (.cells #[.slice (some ⟨y2.heap.size, 0, none⟩) n n, .slice (some ⟨y0.heap.size, 0, none⟩) n n, .int .i64 0, .pointer (some ⟨p, 0, none⟩), .pointer (some ⟨y1.heap.size, 0, none⟩), .int .i64 0, .map none] 61) := ⟨_, rfl⟩
      have o4 : Only [] y3 y4 := by rw [hy4]; exact (Only.refl [] y3).alloc _
      have hg : Blk y4 y3.heap.size 61 #[.slice (some ⟨y2.heap.size, 0, none⟩) n n, .slice (some ⟨y0.heap.size, 0, none⟩) n n, .int .i64 0, .pointer (some ⟨p, 0, none⟩), .pointer (some ⟨y1.heap.size, 0, none⟩), .int .i64 0, .map none] := by rw [hy4]; exact Blk.new _ _ _
      rw [← hy4]
      clear hy4
      refine ⟨.inr trivial, ?_⟩
      refine wpTree_step ?_
      simp only [opsAt, List.getElem?_cons_zero, List.getElem?_cons_succ]
      go_wp2_with fail
      refine ⟨.inr trivial, wpTree_fin ?_⟩
      go_wp2_with fail
      go_ret
      have o34 := o4
      have o24 := o3.trans o4
      have o14 := o2.trans o24
      exact fin p qh qo _ _ _ _ _ y4 (o1.trans o14) (o34.blk hsl (by simp)) (o14.blk hil (by simp)) (Wl.Wheel.keep hwh o24 (by simp)) hg (by omega) (by omega) (by omega) (by omega) HP0.out.2.1 HP0.out.1 HP0.out.2.2 HPU.out.2.1 HPU.out.2.2.1 HPU.out.2.2.2.1
  · skip
    refine wpTree_step ?_
    simp only [opsAt, List.getElem?_cons_zero, List.getElem?_cons_succ]
    go_wp2_with fail
    (with_reducible refine (unhide (HW _)).mono ?_)
    rintro e y1 ⟨rfl, hy1⟩
    have o1 : Only [] y0 y1 := by rw [hy1]; exact (Only.refl [] y0).alloc _
    have hwh : Wl.Wheel y1 0 y0.heap.size n (.slice none 0 0) [] := by rw [hy1]; exact Wl.wheel_new y0 0 n (by omega) (by have := HN.out.2.1; omega)
    have l1 : y0.heap.size < y1.heap.size := by rw [hy1]; simp
    clear hy1
    go_wp2_with fail
    refine ⟨.inr trivial, ?_⟩
    refine wpTree_two ?_ ?_
    · skip
      refine wpTree_step ?_
      simp only [opsAt, List.getElem?_cons_zero, List.getElem?_cons_succ]
      go_wp2_with fail
      obtain ⟨y2, hy2⟩ : ∃ y, y = y1.alloc (.cells cs 66) := ⟨_, rfl⟩
      have o2 : Only [] y1 y2 := by rw [hy2]; exact (Only.refl [] y1).alloc _
      have hsl : Blk y2 y1.heap.size 66 cs := by rw [hy2]; exact Blk.new _ _ _
      have l2 : y1.heap.size < y2.heap.size := by rw [hy2]; simp
      rw [← hy2]
      clear hy2
      refine ⟨.inr trivial, ?_⟩
      refine wpTree_step ?_
      simp only [opsAt, List.getElem?_cons_zero, List.getElem?_cons_succ]
      go_wp2_with fail
      obtain ⟨y3, hy3⟩ : ∃ y, y = y2.alloc (.cells ci 3) := ⟨_, rfl⟩
      have o3 : Only [] y2 y3 := by rw [hy3]; exact (Only.refl [] y2).alloc _
      have hil : Blk y3 y2.heap.size 3 ci := by rw [hy3]; exact Blk.new _ _ _
      have l3 : y2.heap.size < y3.heap.size := by rw [hy3]; simp
      rw [← hy3]
      clear hy3
      refine ⟨.inr trivial, ?_⟩
      refine wpTree_step ?_
      simp only [opsAt, List.getElem?_cons_zero, List.getElem?_cons_succ]
      go_wp2_with fail
      refine ⟨.inr trivial, ?_⟩
      refine wpTree_step ?_
      simp only [opsAt, List.getElem?_cons_zero, List.getElem?_cons_succ]
      go_wp2_with fail
      obtain ⟨y4, hy4⟩ : ∃ y, y = y3.alloc (.cells #[.slice (some ⟨y1.heap.size, 0, none⟩) n n, .slice (some ⟨y2.heap.size, 0, none⟩) n n, .int .i64 0, .pointer (some ⟨p, 0, none⟩), .pointer (some ⟨y0.heap.size, 0, none⟩), .int .i64 0, .map none] 61) := ⟨_, rfl⟩
      have o4 : Only [] y3 y4 := by rw [hy4]; exact (Only.refl [] y3).alloc _
      have hg : Blk y4 y3.heap.size 61 #[.slice (some ⟨y1.heap.size, 0, none⟩) n n, .slice (some ⟨y2.heap.size, 0, none⟩) n n, .int .i64 0, .pointer (some ⟨p, 0, none⟩), .pointer (some ⟨y0.heap.size, 0, none⟩), .int .i64 0, .map none] := by rw [hy4]; exact Blk.new _ _ _
      rw [← hy4]
      clear hy4
      refine ⟨.inr trivial, ?_⟩
      refine wpTree_step ?_
      simp only [opsAt, List.getElem?_cons_zero, List.getElem?_cons_succ]
      go_wp2_with fail
      refine ⟨.inr trivial, wpTree_fin ?_⟩
      go_wp2_with fail
      go_ret
      have o34 := o4
      have o24 := o3.trans o4
      have o14 := o2.trans o24
      exact fin p qh qo _ _ _ _ _ y4 (o1.trans o14) (o24.blk hsl (by simp)) (o34.blk hil (by simp)) (Wl.Wheel.keep hwh o14 (by simp)) hg (by omega) (by omega) (by omega) (by omega) HP0.out.2.1 HP0.out.1 HP0.out.2.2 HPU.out.2.1 HPU.out.2.2.1 HPU.out.2.2.2.1
    · skip
      refine wpTree_step ?_
      simp only [opsAt, List.getElem?_cons_zero, List.getElem?_cons_succ]
      go_wp2_with fail
      obtain ⟨y2, hy2⟩ : ∃ y, y = y1.alloc (.cells ci 3) := ⟨_, rfl⟩
      have o2 : Only [] y1 y2 := by rw [hy2]; exact (Only.refl [] y1).alloc _
      have hil : Blk y2 y1.heap.size 3 ci := by rw [hy2]; exact Blk.new _ _ _
      have l2 : y1.heap.size < y2.heap.size := by rw [hy2]; simp
      rw [← hy2]
      clear hy2
      refine ⟨.inr trivial, ?_⟩
      refine wpTree_step ?_
      simp only [opsAt, List.getElem?_cons_zero, List.getElem?_cons_succ]
      go_wp2_with fail
      obtain ⟨y3, hy3⟩ : ∃ y, y = y2.alloc (.cells cs 66) := ⟨_, rfl⟩
      have o3 : Only [] y2 y3 := by rw [hy3]; exact (Only.refl [] y2).alloc _
      have hsl : Blk y3 y2.heap.size 66 cs := by rw [hy3]; exact Blk.new _ _ _
      have l3 : y2.heap.size < y3.heap.size := by rw [hy3]; simp
      rw [← hy3]
      clear hy3
      refine ⟨.inr trivial, ?_⟩
      refine wpTree_step ?_
      simp only [opsAt, List.getElem?_cons_zero, List.getElem?_cons_succ]
      go_wp2_with fail
      refine ⟨.inr trivial, ?_⟩
      refine wpTree_step ?_
      simp only [opsAt, List.getElem?_cons_zero, List.getElem?_cons_succ]
      go_wp2_with fail
      obtain ⟨y4, hy4⟩ : ∃ y, y = y3.alloc (.cells #[.slice (some ⟨y2.heap.size, 0, none⟩) n n, .slice (some ⟨y1.heap.size, 0, none⟩) n n, .int .i64 0, .pointer (some ⟨p, 0, none⟩), .pointer (some ⟨y0.heap.size, 0, none⟩), .int .i64 0, .map none] 61) := ⟨_, rfl⟩
      have o4 : Only [] y3 y4 := by rw [hy4]; exact (Only.refl [] y3).alloc _
      have hg : Blk y4 y3.heap.size 61 #[.slice (some ⟨y2.heap.size, 0, none⟩) n n, .slice (some ⟨y1.heap.size, 0, none⟩) n n, .int .i64 0, .pointer (some ⟨p, 0, none⟩), .pointer (some ⟨y0.heap.size, 0, none⟩), .int .i64 0, .map none] := by rw [hy4]; exact Blk.new _ _ _
      rw [← hy4]
      clear hy4
      refine ⟨.inr trivial, ?_⟩
      refine wpTree_step ?_
      simp only [opsAt, List.getElem?_cons_zero, List.getElem?_cons_succ]
      go_wp2_with fail
      refine ⟨.inr trivial, wpTree_fin ?_⟩
      go_wp2_with fail
      go_ret
      have o34 := o4
      have o24 := o3.trans o4
      have o14 := o2.trans o24
      exact fin p qh qo _ _ _ _ _ y4 (o1.trans o14) (o34.blk hsl (by simp)) (o24.blk hil (by simp)) (Wl.Wheel.keep hwh o14 (by simp)) hg (by omega) (by omega) (by omega) (by omega) HP0.out.2.1 HP0.out.1 HP0.out.2.2 HPU.out.2.1 HPU.out.2.2.1 HPU.out.2.2.2.1
end Go.Proofs.YtkccjfgkbkodiaaGreat
namespace Go.Proofs.YtkccjfgkbkodiaaGreat
open Go.RowKit
def Lex.didF (x : Lex) (u : UInt8) : Lex × List Tok :=
  if x.e ≠ 0 then (x, [])
  else if x.st = 3 then ((x.word u).1, if (x.word u).1.e = 0 then (x.word u).2 else [])
  else if x.st = 2 then ((x.number u).1, if (x.number u).1.e = 0 then (x.number u).2 else [])
  else ((x.between u).1, if (x.between u).1.e = 0 then (x.between u).2 else [])
theorem Lex.did_F {x x' : Lex} {u : UInt8} {ts : List Tok} (h : x.did u x' ts) (hs : x.st ≠ 1) : x' = (x.didF u).1 ∧ ts = (x.didF u).2 := by
  unfold Lex.did at h
  unfold Lex.didF
  by_cases he : x.e ≠ 0
  · rw [if_pos he] at h ⊢
    exact h
  rw [if_neg he, if_neg hs] at h
  rw [if_neg he]
  by_cases h3 : x.st = 3
  · rw [if_pos h3] at h ⊢
    obtain ⟨rfl, rfl⟩ := h
    exact ⟨rfl, rfl⟩
  rw [if_neg h3] at h ⊢
  by_cases h2 : x.st = 2
  · rw [if_pos h2] at h ⊢
    obtain ⟨rfl, rfl⟩ := h
    exact ⟨rfl, rfl⟩
  rw [if_neg h2] at h ⊢
  obtain ⟨rfl, rfl⟩ := h
  exact ⟨rfl, rfl⟩
def Par.didF (p : Par) (d : Nat) (u : UInt8) : Par × List Part × Int :=
  if p.e ≠ 0 then (p, [], p.e) else Par.parts d { p with l := (p.l.didF u).1 } (p.l.didF u).2 [] (p.l.didF u).1.e
theorem Par.did_F {p : Par} {d : Nat} {u : UInt8} {r : Par × List Part × Int} (h : p.did d u r) (hs : p.l.st ≠ 1) : r = p.didF d u := by
  unfold Par.did at h
  unfold Par.didF
  by_cases he : p.e ≠ 0
  · rw [if_pos he] at h ⊢
    exact h
  rw [if_neg he] at h ⊢
  obtain ⟨l', ts, h1, rfl⟩ := h
  obtain ⟨rfl, rfl⟩ := Lex.did_F h1 hs
  rfl
def Pip.didF (m : Pip) (d : Nat) (u : UInt8) : Pip × List UInt8 × Int :=
  if m.may ≠ 0 then (m, [], m.may) else Pip.write { m with par := (m.par.didF d u).1 } (m.par.didF d u).2.1 (m.par.didF d u).2.2 []
theorem Pip.did_F {m : Pip} {d : Nat} {u : UInt8} {r : Pip × List UInt8 × Int} (h : m.did d u r) (hs : m.par.l.st ≠ 1) : r = m.didF d u := by
  unfold Pip.did at h
  unfold Pip.didF
  by_cases he : m.may ≠ 0
  · rw [if_pos he] at h ⊢
    exact h
  rw [if_neg he] at h ⊢
  obtain ⟨p', h1, rfl⟩ := h
  rw [Par.did_F h1 hs]
/-- No text is open. -/
def Ses.flat (x : Ses) : Bool := match x.p with
  | none => true
  | some m => decide (m.par.l.st ≠ 1)
def Ses.onceF (d sg : Nat) (x : Ses) : Ses :=
  if x.told then match x.p with
    | none => x
    | some m => match x.inb with
      | [] => ({ x with p := some (m.endd d).1, outL := addL x.outL (m.endd d).2.1 } : Ses).fin (m.endd d).2.2 true
      | u :: l => if (m.didF d u).2.2 = 0 then { x with inb := l, p := some (m.didF d u).1, outL := addL x.outL (m.didF d u).2.1 } else ({ x with inb := l, p := some (m.didF d u).1, outL := addL x.outL (m.didF d u).2.1 } : Ses).fin (m.didF d u).2.2 true
  else match x.inb with
    | [] => x.fin 3 false
    | u :: l => if x.header.length + 1 < 8 then { x with inb := l, header := x.header ++ [u] } else { x with inb := l, header := hp d sg, told := true, p := some (Pip.new sg), outL := x.outL ++ [[75]] }
theorem Ses.once_F {x x' : Ses} {d sg : Nat} (h : x.onceR d sg x') (hs : x.flat = true) : x' = x.onceF d sg := by
  unfold Ses.onceF
  rcases h with ⟨ht, hi, rfl⟩ | ⟨m, ht, hi, hp, rfl⟩ | ⟨u, l, m, r, ht, hi, hp, hr, rfl⟩ | ⟨u, l, ht, hi, h8, rfl⟩ | ⟨u, l, ht, hi, h8, rfl⟩
  · simp [ht, hi]
  · simp [ht, hi, hp]
  · have h1 : m.par.l.st ≠ 1 := by
      unfold Ses.flat at hs
      rw [hp] at hs
      simpa using hs
    rw [Pip.did_F hr h1]
    simp only [ht, hi, hp, if_true]
  · simp only [ht, hi, if_pos h8, if_false, Bool.false_eq_true]
  · simp only [ht, hi, if_neg (show ¬ x.header.length + 1 < 8 by omega), if_false, Bool.false_eq_true]
def Ses.chargeF (x : Ses) : Nat :=
  if x.ended then x.inb.length + x.outL.flatten.length
  else x.inb.length + x.outL.flatten.length + (match x.p with
    | none => 0
    | some m => if m.may ≠ 0 then 0 else (if m.par.e ≠ 0 then 0 else m.par.maps.length) + m.stg.size) + 2
theorem Ses.charge_F {x : Ses} {c : Nat} (h : x.chargeBy c) (hs : x.flat = true) : c = x.chargeF := by
  unfold Ses.chargeBy at h
  unfold Ses.chargeF
  by_cases he : x.ended = true
  · rw [if_pos he] at h ⊢
    exact h
  rw [if_neg he] at h ⊢
  obtain ⟨k, hk, rfl⟩ := h
  unfold Ses.heldBy at hk
  unfold Ses.flat at hs
  cases hp : x.p with
  | none =>
    rw [hp] at hk
    simp only at hk ⊢
    omega
  | some m =>
    rw [hp] at hk hs
    simp only at hk hs ⊢
    have h1 : m.par.l.st ≠ 1 := by simpa using hs
    unfold Pip.heldBy at hk
    by_cases hm : m.may ≠ 0
    · rw [if_pos hm] at hk ⊢
      omega
    rw [if_neg hm] at hk ⊢
    obtain ⟨b, hb, rfl⟩ := hk
    unfold Par.heldBy at hb
    by_cases hpe : m.par.e ≠ 0
    · rw [if_pos hpe] at hb ⊢
      omega
    rw [if_neg hpe] at hb ⊢
    obtain ⟨k, _, hk0, rfl⟩ := hb
    rw [hk0 h1]
    omega
/-- So many rounds, where each stays within the reserve. -/
def Ses.runF (d sg : Nat) : Nat → Ses → Nat → Option (Ses × Nat)
  | 0, x, n => some (x, n)
  | k + 1, x, n => if x.ready then (if x.flat && (x.onceF d sg).flat && decide ((x.onceF d sg).chargeF ≤ 700) then Ses.runF d sg k (x.onceF d sg) (n + 1) else none) else some (x, n)
theorem Ses.run_F {σ : Type} {M : σ → Nat → Bool → σ → Prop} {d sg : Nat} (hM : ∀ s c ok s', M s c ok s' → c ≤ 700 → ok = true) : ∀ (k : Nat) {x x' : Ses} {s s' : σ} {n n' : Nat} {r : Ses × Nat}, RunR M d sg k x s n x' s' n' → x.runF d sg k n = some r → x' = r.1 ∧ n' = r.2 := by
  intro k
  induction k with
  | zero =>
    intro x x' s s' n n' r h hr
    obtain ⟨rfl, rfl, rfl⟩ := h
    cases hr
    exact ⟨rfl, rfl⟩
  | succ k ih =>
    intro x x' s s' n n' r h hr
    unfold RunR at h
    unfold Ses.runF at hr
    by_cases hrd : x.ready = true
    · rw [if_pos hrd] at h hr
      obtain ⟨x1, c, ok, s1, h1, _, h2, h3, h4⟩ := h
      split at hr
      · rename_i hc
        simp only [Bool.and_eq_true, decide_eq_true_eq] at hc
        have e1 := Ses.once_F h1 hc.1.1
        subst e1
        have e2 := Ses.charge_F h2 hc.1.2
        have e3 := hM _ _ _ _ h3 (by omega)
        subst e3
        exact ih h4 hr
      · cases hr
    · rw [if_neg hrd] at h hr
      obtain ⟨rfl, rfl, rfl⟩ := h
      cases hr
      exact ⟨rfl, rfl⟩
end Go.Proofs.YtkccjfgkbkodiaaGreat
namespace Go.Proofs.YtkccjfgkbkodiaaGreat
open Go.RowKit
theorem ErrOk.ne {e : Int} (h : ErrOk e) : e ≠ 11 := by unfold ErrOk at h; omega
theorem Ses.Fit.charge_small {x : Ses} {d sg N : Nat} {rest : List UInt8} (h : x.Fit d sg N rest) (hd : d ≤ 100) (hs : sg ≤ 9) {c : Nat} (hc : x.chargeBy c) : c ≤ x.inb.length + x.outL.flatten.length + 320 := by
  unfold Ses.chargeBy at hc
  split at hc
  · omega
  · rename_i he
    obtain ⟨k, hk, rfl⟩ := hc
    unfold Ses.heldBy at hk
    cases ht : x.told with
    | false =>
      rw [h.nop ht] at hk
      simp only at hk
      omega
    | true =>
      obtain ⟨m, hm, hg⟩ := h.pip ht (by simpa using he)
      rw [hm] at hk
      simp only at hk
      unfold Pip.heldBy at hk
      split at hk
      · omega
      · obtain ⟨a, h1, rfl⟩ := hk
        have h2 := hg.ok.stg.ok.le
        have h3 := hg.lim
        have h4 := hg.ok.par.deep
        unfold Par.heldBy at h1
        split at h1
        · omega
        · obtain ⟨k, h5, _, rfl⟩ := h1
          omega
theorem run_small {σ : Type} {M : σ → Nat → Bool → σ → Prop} {d sg B : Nat} {rest : List UInt8} (hM : ∀ s c ok s', M s c ok s' → c ≤ 700 → ok = true) (hd : d ≤ 100) (hs : sg ≤ 9) : ∀ (k : Nat) {x x' : Ses} {s s' : σ} {n n' : Nat}, RunR M d sg k x s n x' s' n' → x.Fit2 d sg B rest → x.Nok → x.inb.length ≤ 64 → x.e ≠ 11 → x'.e ≠ 11 := by
  intro k
  induction k with
  | zero =>
    intro x x' s s' n n' h _ _ _ he
    obtain ⟨rfl, rfl, rfl⟩ := h
    exact he
  | succ k ih =>
    intro x x' s s' n n' h hf hn h64 he
    unfold RunR at h
    by_cases hrd : x.ready = true
    · rw [if_pos hrd] at h
      obtain ⟨x1, c, ok, s1, h1, h2, h3, h4, h5⟩ := h
      obtain ⟨hen, ho⟩ := Ses.ready_out hrd
      have hf1 := h1.fit2 hf hen (by omega) hn
      obtain ⟨N, hN, _⟩ := hf
      obtain ⟨f1, f2, f3, f4, f5, f6⟩ := h1.fit hN hen (by omega) hn
      have hc := f1.charge_small hd hs h3
      have h9 := f4 hs
      have hok := hM _ _ _ _ h4 (by omega)
      subst hok
      exact ih h5 hf1 h2 (Nat.le_trans f5 h64) (by
        show x1.e ≠ 11
        rcases f2 with h | h
        · rw [h]; exact he
        · exact h.ne)
    · rw [if_neg hrd] at h
      obtain ⟨rfl, rfl, rfl⟩ := h
      exact he
/-- The purse of a session in its run. -/
def MayH (i : Nat) (H : List Int) (c : Nat) (ok : Bool) (H' : List Int) : Prop := (c ≤ 700 → ok = true) ∧ H' = if ok then H.set i (c : Int) else H
theorem runR_H {d sg i : Nat} : ∀ (k : Nat) {x x' : Ses} {H H' : List Int} {n n' : Nat}, RunR (MayH i) d sg k x H n x' H' n' → ∀ z, H'.set i z = H.set i z := by
  intro k
  induction k with
  | zero =>
    intro x x' H H' n n' h z
    obtain ⟨rfl, rfl, rfl⟩ := h
    rfl
  | succ k ih =>
    intro x x' H H' n n' h z
    unfold RunR at h
    split at h
    · obtain ⟨x1, c, ok, s1, _, _, _, ⟨_, rfl⟩, h5⟩ := h
      rw [ih h5 z]
      cases ok <;> simp
    · obtain ⟨rfl, rfl, rfl⟩ := h
      rfl
/-- One slot's session went on. -/
structure Kept (x x' : Gt) (i : Nat) (y : Ses) : Prop where
  slots : x'.slots = x.slots.set i (some y)
  ids : x'.ids = x.ids
  many : x'.many = x.many
  rest : x'.rest = x.rest
  O : x'.O = x.O
  H : ∀ z, x'.H.set i z = x.H.set i z
  f : ∀ j, (x'.f j).isSome = (x.f j).isSome
  L : ∀ j, j ∈ x'.L ↔ j ∈ x.L
  fr : x'.fr = x.fr
theorem Gt.charged_H {x : Gt} {i c : Nat} (z : Int) : (x.charged i c).H.set i z = x.H.set i z := by unfold Gt.charged; split <;> simp
theorem Gt.kept (x : Gt) (i c : Nat) (y : Ses) : Kept x ((x.now i y).charged i c) i y :=
  ⟨Gt.charged_slots, Gt.charged_ids, Gt.charged_many, Gt.charged_rest, Gt.charged_O, fun z => Gt.charged_H z, fun j => by rw [Gt.charged_f]; rfl, fun j => by rw [Gt.charged_L]; rfl, Gt.charged_fr⟩
theorem SameBut.kept {x x' : Gt} {i c : Nat} {y : Ses} (h : SameBut ((x.now i y).charged i c) x') : Kept x x' i y ∧ x'.L = x.L := by
  obtain ⟨f', h1, rfl⟩ := h
  have hk := Gt.kept x i c y
  exact ⟨⟨hk.slots, hk.ids, hk.many, hk.rest, hk.O, hk.H, fun j => (h1 j).trans (hk.f j), hk.L, hk.fr⟩, Gt.charged_L⟩
/-- A live session, and what may still come to it. -/
structure LiveI (x : Gt) (d sg i : Nat) (y : Ses) (rest : List UInt8) : Prop where
  fit : ∃ B, y.Fit2 d sg B rest ∧ B + 2 * rest.length ≤ 1300
  few : y.Few
  f : (x.f (i : Int)).isSome = true
  opn : Pu.opn x.O (i : Int) = true
  L : (i : Int) ∈ x.L
  e : sg ≤ 9 → y.e ≠ 11
structure SlotI (x : Gt) (n d sg i : Nat) (rest : List UInt8) : Prop where
  id : x.ids[i]? = some ((i * (n + 1) : Nat) : Int)
  st : x.slots[i]? = some none ∨ ∃ y, x.slots[i]? = some (some y) ∧ LiveI x d sg i y rest
section
variable {x x' : Gt} {n d sg i j : Nat} {y y' : Ses} {r r' : List UInt8}
theorem Kept.at_ (h : Kept x x' i y) {o : Option Ses} (hy : x.slots[i]? = some o) : x'.slots[i]? = some (some y) := by
  rw [h.slots]
  exact List.getElem?_set_self (List.getElem?_eq_some_iff.1 hy).1
theorem SlotI.other (h : SlotI x n d sg j r) (hk : Kept x x' i y) (hj : j ≠ i) : SlotI x' n d sg j r := by
  have hs : x'.slots[j]? = x.slots[j]? := by rw [hk.slots]; exact List.getElem?_set_ne (Ne.symm hj)
  refine ⟨by rw [hk.ids]; exact h.id, ?_⟩
  rw [hs]
  refine h.st.imp_right fun ⟨z, hz, hl⟩ => ⟨z, hz, hl.fit, hl.few, by rw [hk.f]; exact hl.f, by rw [hk.O]; exact hl.opn, (hk.L _).2 hl.L, hl.e⟩
theorem SlotI.over (h : SlotI x n d sg j r) (hk : Over x i x') (hj : j ≠ i) : SlotI x' n d sg j r := by
  obtain ⟨k1, k2, k3, k4, k5, k6, k7, k8, k9⟩ := hk
  have hs : x'.slots[j]? = x.slots[j]? := by rw [k1]; exact List.getElem?_set_ne (Ne.symm hj)
  have hne : (j : Int) ≠ (i : Int) := by omega
  refine ⟨by rw [k2]; exact h.id, ?_⟩
  rw [hs]
  refine h.st.imp_right fun ⟨z, hz, hl⟩ => ⟨z, hz, hl.fit, hl.few, by rw [k8, if_neg hne]; exact hl.f, ?_, by rw [k7]; exact (List.mem_erase_of_ne hne).2 hl.L, hl.e⟩
  have h9 := hl.opn
  unfold Pu.opn at h9 ⊢
  rw [k6]
  rw [show ((j : Int)).toNat = j by simp] at h9 ⊢
  rw [List.getElem?_set_ne (Ne.symm hj)]
  exact h9
theorem SlotI.gone (h : SlotI x n d sg i r) (hk : Over x i x') (hy : x.slots[i]? = some (some y)) : SlotI x' n d sg i r' := by
  obtain ⟨k1, k2, k3, k4, k5, k6, k7, k8, k9⟩ := hk
  exact ⟨by rw [k2]; exact h.id, .inl (by rw [k1]; exact List.getElem?_set_self (List.getElem?_eq_some_iff.1 hy).1)⟩
theorem SlotI.mine (h : SlotI x n d sg i r) (hl : LiveI x d sg i y r) (hy : x.slots[i]? = some (some y)) (hk : Kept x x' i y') (h1 : ∃ B, y'.Fit2 d sg B r' ∧ B + 2 * r'.length ≤ 1300) (h2 : y'.Few) (h3 : sg ≤ 9 → y'.e ≠ 11) : SlotI x' n d sg i r' :=
  ⟨by rw [hk.ids]; exact h.id, .inr ⟨y', hk.at_ hy, h1, h2, by rw [hk.f]; exact hl.f, by rw [hk.O]; exact hl.opn, (hk.L _).2 hl.L, h3⟩⟩
/-- Bytes that come to a session. -/
theorem LiveI.fed (hl : LiveI x d sg i y r) {room : Int} {k : Nat} (hk : k = if y.half = true ∨ y.ended = true then 0 else min (min r.length (max room 0).toNat) (64 - y.inb.length)) :
    k ≤ r.length ∧ (∃ B, ({ y with inb := y.inb ++ r.take k } : Ses).Fit2 d sg B (r.drop k) ∧ B + 2 * (r.drop k).length ≤ 1300) := by
  have hkr : k ≤ r.length := by
    rw [hk]
    split <;> omega
  obtain ⟨B, ⟨N, hf, hN⟩, hB⟩ := hl.fit
  have hlt : (r.take k).length = k := by rw [List.length_take]; omega
  have hld : (r.drop k).length = r.length - k := List.length_drop
  refine ⟨hkr, B + 2 * k, ⟨N, ⟨hf.nop, fun h1 h2 => ?_, hf.pip, fun h1 => ?_⟩, ?_⟩, by omega⟩
  · obtain ⟨h3, doc, h4⟩ := hf.hdr h1 h2
    exact ⟨h3, doc, by rw [← h4]; simp⟩
  · obtain ⟨h2, h3⟩ := hf.over h1
    have hk0 : k = 0 := by rw [hk, if_pos (.inr h1)]
    subst hk0
    exact ⟨h2, by simpa using h3⟩
  · show N + 2 * (y.inb ++ r.take k).length ≤ _
    rw [List.length_append, hlt]
    omega
/-- Bytes that go out of it. -/
theorem LiveI.written (hl : LiveI x d sg i y r) (k : Nat) : (∃ B, ({ y with outL := dropQ k y.outL } : Ses).Fit2 d sg B r ∧ B + 2 * r.length ≤ 1300) := by
  obtain ⟨B, ⟨N, hf, hN⟩, hB⟩ := hl.fit
  exact ⟨B, ⟨N, ⟨hf.nop, hf.hdr, hf.pip, hf.over⟩, hN⟩, hB⟩
end
end Go.Proofs.YtkccjfgkbkodiaaGreat
