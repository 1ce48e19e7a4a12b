/-
  StgB: parts of the walk of TopTight, under no condition.
-/
import Derived.Test.YtkccjfgkbkodiaaGreatZ16
namespace Go.Proofs.YtkccjfgkbkodiaaGreat
open Go.RowKit
def fixP : Part → Nat → Part
  | .begin_ m n, k => if n < 0 then .begin_ m (if m then (k : Int) / 2 else (k : Int)) else .begin_ m n
  | p, _ => p
def Stg.close (s : Stg) : Stg × List Part × Int :=
  match s.opn with
  | [] => (s, [], 0)
  | c :: M =>
    if M = [] then ({ s with opn := [], held := [], size := 0 }, (match s.held[c.1]? with | some p => s.held.set c.1 (fixP p c.2) | none => s.held) ++ [.close], 0)
    else ((Stg.hold { s with opn := M, held := (match s.held[c.1]? with | some p => s.held.set c.1 (fixP p c.2) | none => s.held) } .close).1, [], (Stg.hold { s with opn := M, held := (match s.held[c.1]? with | some p => s.held.set c.1 (fixP p c.2) | none => s.held) } .close).2)
theorem SlN.cut {w : World} {base : Nat} {t : TypeId} {s g off n cap : Nat} {xs ys : List Value} (h : SlN w base t s (.slice (some ⟨g, off, none⟩) (n + 1) cap) (n + 1) (xs ++ ys)) (hx : xs.length = n * s) : SlN w base t s (.slice (some ⟨g, off, none⟩) n cap) n xs := by
  rcases h with ⟨hv, _⟩ | ⟨g', off', cap', cs, hv, hb, hg, h1, h2, h3, h4, h5⟩
  · cases hv
  · injection hv with e1 e2 e3
    injection e1 with e1
    injection e1 with e4 e5
    subst e3 e4 e5
    refine .inr ⟨g, off, cap, cs, rfl, hb, hg, h1, by omega, h3, hx, fun j hj => ?_⟩
    rw [h5 j (by simp; omega), List.getElem?_append_left hj]
/-- Parts, and an error, are handed back by a stage. -/
def StgPost (w : World) (s : Nat) (F : List Nat) (r : Stg × List Part × Int) (e : Ending) (w' : World) : Prop :=
  ∃ ov F', e = .returned (.tuple #[ov, .int .i64 r.2.2]) ∧ SlN w' 0 20 1 ov r.2.1.length (partsV r.2.1) ∧ StgIs w' s F' r.1 ∧ Only (s :: F) w w' ∧ (∀ k ∈ slB ov, k ∈ F ∨ w.heap.size ≤ k) ∧ ∀ k ∈ F', k ∈ F ∨ w.heap.size ≤ k
theorem SlN.at {w : World} {base s n : Nat} {t : TypeId} {g off cap n' : Nat} {xs : List Value} (h : SlN w base t s (.slice (some ⟨g, off, none⟩) n' cap) n xs) (j : Nat) (u : Value) (hj : xs[j]? = some u) : w.cell? ⟨g, off + j, none⟩ = some u ∧ w.frozen? ⟨g, off + j, none⟩ = false ∧ g < w.heap.size := by
  have hl : j < xs.length := (List.getElem?_eq_some_iff.1 hj).1
  obtain ⟨g', off', cap', hv, hc, hf⟩ := h.cell j hl
  injection hv with e1 e2 e3
  injection e1 with e1
  injection e1 with e4 e5
  subst e4 e5
  refine ⟨by rw [hc]; rw [List.getElem?_eq_getElem hl] at hj; exact hj, hf, (h.lt g (by simp [slB])).2⟩
theorem StgM.setheld {w : World} {s : Nat} {st : Stg} {gh oh n hc : Nat} {ov : Value} (h : StgM w s st (.slice (some ⟨gh, oh, none⟩) n hc) ov) (hn : n = st.held.length) {ca : Nat} (hcl : ca < st.held.length) (p : Part) :
    StgM (w.setCell ⟨gh, oh + ca, none⟩ p.val) s { st with held := st.held.set ca p } (.slice (some ⟨gh, oh, none⟩) n hc) ov := by
  subst hn
  refine ⟨h.blk.far (fun e => h.outh (by simp [slB, e])) _, ?_, h.opn.far (fun hk => ?_) _⟩
  · have h9 := h.held.set ca (by simp [partsV]; omega) p.val
    rw [List.length_set, show partsV (st.held.set ca p) = (partsV st.held).set ca p.val by simp [partsV, List.map_set]]
    exact h9
  · obtain ⟨cs, hb⟩ := h.opn.blkOf _ hk
    exact h.held.notBlk hb (by decide) (by simp [slB])
set_option maxRecDepth 100000 in
set_option maxHeartbeats 4000000 in
theorem stg_close {w : World} {s : Nat} {F : List Nat} {st : Stg} (h : StgIs w s F st) {c : Nat × Nat} {M : List (Nat × Nat)} (hop : st.opn = c :: M) {m : Bool} (hB : st.held[c.1]? = some (.begin_ m (-1))) (h2 : c.2 ≤ 3000) (hM : M.length ≤ 3000)
    (hl : st.held.length ≤ 3000) (hz : st.size ≤ 3000) (hm : st.limit ≤ 3000) :
    Calls Tryz.prog 138 #[.pointer (some ⟨s, 0, none⟩)] w (StgPost w s F st.close) := by
  obtain ⟨hv, ov, h, hF1, hF2⟩ := h
  obtain ⟨R, hR⟩ : ∃ r, st.close = r := ⟨_, rfl⟩
  rw [hR]
  unfold Stg.close at hR
  rw [hop] at hR
  simp only [hB] at hR
  rw [show fixP (.begin_ m (-1)) c.2 = .begin_ m (if m then (c.2 : Int) / 2 else (c.2 : Int)) from rfl] at hR
  obtain ⟨ca, cp⟩ := c
  simp only at hR hB h2
  have hcl : ca < st.held.length := (List.getElem?_eq_some_iff.1 hB).1
  obtain ⟨n, hn⟩ : ∃ n, n = st.held.length := ⟨_, rfl⟩
  obtain ⟨j, hj⟩ : ∃ j, j = M.length := ⟨_, rfl⟩
  have hhr := h.held
  have hor := h.opn
  rw [hop, List.length_cons, ← hj, opnV_cons] at hor
  rw [← hn] at hhr
  obtain ⟨gh, oh, hc, rfl, z1, z2⟩ := hhr.cell ca (by simp [partsV]; omega)
  obtain ⟨go, oo, oc, rfl, z3, z4⟩ := hor.cell (j * 2) (by rw [List.length_append, opnV_length, ← hj]; simp)
  obtain ⟨p0, fp0, lh⟩ := hhr.at ca _ (show (partsV st.held)[ca]? = some (Part.begin_ m (-1)).val by simp [partsV, hB])
  obtain ⟨q0, fq0, lo⟩ := hor.at (j * 2) (.int .i64 ca) (by rw [List.getElem?_append_right (by rw [opnV_length, ← hj]; omega), opnV_length, ← hj]; simp)
  obtain ⟨q1, fq1, lq1⟩ := hor.at (j * 2 + 1) (.int .i64 cp) (by rw [List.getElem?_append_right (by rw [opnV_length, ← hj]; omega), opnV_length, ← hj]; simp)
  rw [← Nat.add_assoc] at q1
  have hcap := hor.cap_le
  have hcut := hor.cut (by rw [opnV_length, ← hj])
  have hMb : StgM (w.setCell ⟨s, 3, none⟩ (.slice (some ⟨go, oo, none⟩) j oc)) s { st with opn := M } (.slice (some ⟨gh, oh, none⟩) n hc) (.slice (some ⟨go, oo, none⟩) j oc) :=
    h.setown (st' := { st with opn := M }) (i := 3) rfl h.held (by rw [← hj]; exact hcut)
  have hgh : gh ≠ s := fun e => h.outh (by simp [slB, e])
  have hgo : go ≠ s := fun e => h.outo (by simp [slB, e])
  have HSL := fun (W : World) => slice_top (P := Tryz.prog) (t := 189) (z := 2) Tryz.underlying189 (by intro w; kernel_rfl) go oo (j + 1) j oc (by omega) (j : Int) rfl W
  have x1 : w.cell? ⟨s, 1, none⟩ = some (.slice (some ⟨gh, oh, none⟩) n hc) := h.blk.cellv 1 _ rfl
  have x3 : w.cell? ⟨s, 3, none⟩ = some (.slice (some ⟨go, oo, none⟩) (j + 1) oc) := h.blk.cellv 3 _ rfl
  have f3 := h.blk.frozen 3
  have ls := h.blk.lt
  have hj100 : (j : Int) ≤ 3000 := by omega
  have hcp : (cp : Int) ≤ 3000 := by omega
  have hcn : (ca : Int) < (n : Int) := by omega
  have H := hide h
  have HMB := hide hMb
  have HN := hide hn
  have HJ := hide hj
  have HBB := hide hB
  have HF1 := hide hF1
  have HF2 := hide hF2
  have HL := hide hl
  have HZ := hide hz
  have HM := hide hm
  have HR := hide hR
  have HOP := hide hop
  clear fq0 fq1 lq1 z1 z2 z3 z4 h hMb hn hj hB hF1 hF2 hl hz hm hR hop hhr hor hcap hcut hM h2 hcl
  rw [show (Part.begin_ m (-1)).val = .iface 243 (.agg #[.bool m, .int .i64 (-1)]) from rfl] at p0
  have HTA : ∀ W, (Instr.typeAssert (.iface 243 (.agg #[.bool m, .int .i64 (-1)])) 20 243 true).run Tryz.prog W = .ok (.tuple #[.agg #[.bool m, .int .i64 (-1)], .bool true]) W := fun W => ta_begin (.begin_ m (-1)) W
  go_enter Tryz.func138, Tryz.ntmps138
  go_upto_region 4 with (fail)
  have hA := HMB.out.new ((Only.refl [] _).alloc (.cells #[.int .i64 ca, .int .i64 cp] 249))
  have bt : Blk ((w.setCell ⟨s, 3, none⟩ (.slice (some ⟨go, oo, none⟩) j oc)).alloc (.cells #[.int .i64 ca, .int .i64 cp] 249)) w.heap.size 249 #[.int .i64 ca, .int .i64 cp] := by simpa using Blk.new (w.setCell ⟨s, 3, none⟩ (.slice (some ⟨go, oo, none⟩) j oc)) 249 #[.int .i64 ca, .int .i64 cp]
  have hA1 := hA.blk.cellv 1 _ rfl
  have bt0 := bt.cellv 0 _ rfl
  have hAr := hA.held
  simp only at hAr
  obtain ⟨hp, fp, lp⟩ := hAr.at ca _ (show (partsV st.held)[ca]? = some (Part.begin_ m (-1)).val by simp [partsV, HBB.out])
  rw [show (Part.begin_ m (-1)).val = .iface 243 (.agg #[.bool m, .int .i64 (-1)]) from rfl] at hp
  refine wp_region_tree (fun W => W.cell? ⟨s, 1, none⟩ = some (.slice (some ⟨gh, oh, none⟩) n hc) ∧ W.cell? ⟨w.heap.size, 0, none⟩ = some (.int .i64 ca) ∧ W.cell? ⟨gh, oh + ca, none⟩ = some (.iface 243 (.agg #[.bool m, .int .i64 (-1)]))) 14 (.take [0, 1, 2, 3, 4, 5, 6, 7, 8, 9, 10, 11] (.step 12 (.step 13 (.step 14 (.fin))))) (by kernel_rfl) (by kernel_rfl) (by intro _ _ _ _ _ h; exact h) ?_
  refine wpTree_take (⟨hA1, bt0, hp⟩) ?_
  simp only [opsAt, List.getElem?_cons_zero, List.getElem?_cons_succ]
  iterate 12 (first | (refine wpPureH_step (v := ?_) rfl (fun W hS => ?_) ?_; rotate_left; · (obtain ⟨s1, s2, s3⟩ := hS; (try simp only [Act.put, List.setIfInBounds_toArray, List.set_cons_zero, List.set_cons_succ]); go_simp; with_reducible rfl)) | (refine wpPureH_want (v := ?_) (by rfl) (fun W hS => ?_) ?_; rotate_left; · (obtain ⟨s1, s2, s3⟩ := hS; (try simp only [Act.put, List.setIfInBounds_toArray, List.set_cons_zero, List.set_cons_succ]); go_simp; with_reducible rfl)))
  refine wpPureH_nil ?_
  simp only [Act.put, List.setIfInBounds_toArray, List.set_cons_zero, List.set_cons_succ]
  have hB := hA.new ((Only.refl [] _).alloc (.cells #[.bool false, .int .i64 0] 243))
  have hp2 := hp
  have bt2 := bt.alloc (.cells #[.bool false, .int .i64 0] 243)
  have hB1 := hB.blk.cellv 1 _ rfl
  have bt20 := bt2.cellv 0 _ rfl
  have hBr := hB.held
  simp only at hBr
  obtain ⟨hp2, fp2, lp2⟩ := hBr.at ca _ (show (partsV st.held)[ca]? = some (Part.begin_ m (-1)).val by simp [partsV, HBB.out])
  rw [show (Part.begin_ m (-1)).val = .iface 243 (.agg #[.bool m, .int .i64 (-1)]) from rfl] at hp2
  refine wpTree_step ?_
  simp only [opsAt, List.getElem?_cons_zero, List.getElem?_cons_succ]
  go_wp2_with fail
  refine ⟨.inr ⟨hB1, bt20, hp2⟩, ?_⟩
  have hC := hA.new ((Only.refl [] _).alloc (.cells #[.bool m, .int .i64 (-1)] 243))
  have bt3 := bt.alloc (.cells #[.bool m, .int .i64 (-1)] 243)
  have hC1 := hC.blk.cellv 1 _ rfl
  have bt30 := bt3.cellv 0 _ rfl
  have bt31 := bt3.cellv 1 _ rfl
  have hCr := hC.held
  simp only at hCr
  obtain ⟨hp3, fp3, lp3⟩ := hCr.at ca _ (show (partsV st.held)[ca]? = some (Part.begin_ m (-1)).val by simp [partsV, HBB.out])
  rw [show (Part.begin_ m (-1)).val = .iface 243 (.agg #[.bool m, .int .i64 (-1)]) from rfl] at hp3
  refine wpTree_step ?_
  simp only [opsAt, List.getElem?_cons_zero, List.getElem?_cons_succ]
  go_wp2_with fail
  refine ⟨.inr ⟨hC1, bt30, hp3⟩, ?_⟩
  refine wpTree_step ?_
  simp only [opsAt, List.getElem?_cons_zero, List.getElem?_cons_succ]
  go_wp2_with fail
  refine ⟨.inl trivial, wpTree_fin ?_⟩
  have HA := hide hA
  have HBT := hide bt
  clear hA bt hB bt2 hB1 bt20 hBr hp2 fp2 lp2 hC bt3 hC1 bt30 bt31 hCr hp3 fp3 lp3 hA1 bt0 hAr hp fp lp HTA HSL x1 x3 f3 p0 fp0 q0 q1
  cases m with
  | false =>
    have hC := HA.out.new ((Only.refl [] _).alloc (.cells #[.bool false, .int .i64 (cp : Int)] 243))
    have bt3 := HBT.out.alloc (.cells #[.bool false, .int .i64 (cp : Int)] 243)
    have bx : Blk (((w.setCell ⟨s, 3, none⟩ (.slice (some ⟨go, oo, none⟩) j oc)).alloc (.cells #[.int .i64 ca, .int .i64 cp] 249)).alloc (.cells #[.bool false, .int .i64 (cp : Int)] 243)) (w.heap.size + 1) 243 #[.bool false, .int .i64 (cp : Int)] := by simpa using Blk.new ((w.setCell ⟨s, 3, none⟩ (.slice (some ⟨go, oo, none⟩) j oc)).alloc (.cells #[.int .i64 ca, .int .i64 cp] 249)) 243 #[.bool false, .int .i64 (cp : Int)]
    have hC1 := hC.blk.cellv 1 _ rfl
    have bt30 := bt3.cellv 0 _ rfl
    have bx0 := bx.cellv 0 _ rfl
    have bx1 := bx.cellv 1 _ rfl
    have hCr := hC.held
    simp only at hCr
    obtain ⟨hp3, fp3, lp3⟩ := hCr.at ca _ (show (partsV st.held)[ca]? = some (Part.begin_ false (-1)).val by simp [partsV, HBB.out])
    go_upto_region 9 with (fail)
    refine wp_region_tree (fun W => W.cell? ⟨s, 1, none⟩ = some (.slice (some ⟨gh, oh, none⟩) n hc) ∧ W.cell? ⟨w.heap.size, 0, none⟩ = some (.int .i64 ca) ∧ W.cell? ⟨w.heap.size + 1, 0, none⟩ = some (.bool false) ∧ W.cell? ⟨w.heap.size + 1, 1, none⟩ = some (.int .i64 (cp : Int))) 9 (.take [0, 1, 2, 3, 4, 5, 6, 7, 8] (.step 9 (.fin))) (by kernel_rfl) (by kernel_rfl) (by intro _ _ _ _ _ h; exact h) ?_
    refine wpTree_take (⟨hC1, bt30, bx0, bx1⟩) ?_
    simp only [opsAt, List.getElem?_cons_zero, List.getElem?_cons_succ]
    iterate 9 (first | (refine wpPureH_step (v := ?_) rfl (fun W hS => ?_) ?_; rotate_left; · (obtain ⟨s1, s2, s3, s4⟩ := hS; (try simp only [Act.put, List.setIfInBounds_toArray, List.set_cons_zero, List.set_cons_succ]); go_simp; with_reducible rfl)) | (refine wpPureH_want (v := ?_) (by rfl) (fun W hS => ?_) ?_; rotate_left; · (obtain ⟨s1, s2, s3, s4⟩ := hS; (try simp only [Act.put, List.setIfInBounds_toArray, List.set_cons_zero, List.set_cons_succ]); go_simp; with_reducible rfl)))
    refine wpPureH_nil ?_
    simp only [Act.put, List.setIfInBounds_toArray, List.set_cons_zero, List.set_cons_succ]
    refine wpTree_step ?_
    simp only [opsAt, List.getElem?_cons_zero, List.getElem?_cons_succ]
    go_wp2_with fail
    first | refine ⟨.inl trivial, wpTree_fin ?_⟩ | (go_wp2_with fail; refine wpTree_fin ?_)
    have hD0 := (((((HMB.out.setheld HN.out (show ca < st.held.length by have := HN.out; omega) (.begin_ false (cp : Int)) (ca := ca)).new ((Only.refl [] _).alloc (.cells #[.int .i64 ca, .int .i64 cp] 249))).new ((Only.refl [] _).alloc (.cells #[.bool false, .int .i64 (cp : Int)] 243))).new ((Only.refl [] _).drew)).new ((Only.refl [] _).drew))
    have hoD : Only (s :: F) w ((((((w.setCell ⟨s, 3, none⟩ (.slice (some ⟨go, oo, none⟩) j oc)).setCell ⟨gh, oh + ca, none⟩ (Part.begin_ false (cp : Int)).val).alloc (.cells #[.int .i64 ca, .int .i64 cp] 249)).alloc (.cells #[.bool false, .int .i64 (cp : Int)] 243)).drew).drew) :=
      ((((((Only.refl _ w).setCell (p := ⟨s, 3, none⟩) (List.mem_cons_self ..) _).setCell (p := ⟨gh, oh + ca, none⟩) (List.mem_cons_of_mem _ (HF1.out gh (by simp [slB]))) _).alloc _).alloc _).drew).drew
    rw [show (Part.begin_ false (cp : Int)).val = .iface 243 (.agg #[.bool false, .int .i64 (cp : Int)]) from rfl] at hD0 hoD
    generalize (((((w.setCell ⟨s, 3, none⟩ (.slice (some ⟨go, oo, none⟩) j oc)).setCell ⟨gh, oh + ca, none⟩ (.iface 243 (.agg #[.bool false, .int .i64 (cp : Int)]))).alloc (.cells #[.int .i64 ca, .int .i64 cp] 249)).alloc (.cells #[.bool false, .int .i64 (cp : Int)] 243)).drew).drew = WD at hD0 hoD ⊢
    have hR := HR.out
    generalize hHH : st.held.set ca (.begin_ false (cp : Int)) = HH at hD0
    have hnH : n = HH.length := by rw [← hHH, List.length_set]; exact HN.out
    have hRH : (if M = [] then (({ st with opn := [], held := [], size := 0 } : Stg), HH ++ [.close], (0 : Int)) else ((Stg.hold { st with opn := M, held := HH } .close).1, [], (Stg.hold { st with opn := M, held := HH } .close).2)) = R := by rw [← hHH]; exact hR
    have HRH := hide hRH
    have HNH := hide hnH
    have d1 : WD.cell? ⟨s, 1, none⟩ = some (.slice (some ⟨gh, oh, none⟩) n hc) := hD0.blk.cellv 1 _ rfl
    have d2 : WD.cell? ⟨s, 2, none⟩ = some (.int .i64 st.size) := hD0.blk.cellv 2 _ rfl
    have HD := hide hD0
    have HOD := hide hoD
    clear hC bt3 bx hC1 bt30 bx0 bx1 hCr hp3 fp3 lp3 HA HBT hHH hD0 hoD hR hRH hnH
    by_cases hj0 : j = 0
    · subst hj0
      have hM0 : M = [] := List.eq_nil_of_length_eq_zero HJ.out.symm
      have hrow : SlN WD 0 20 1 (.slice (some ⟨gh, oh, none⟩) n hc) n (partsV HH) := by have h9 := HD.out.held; simp only at h9; rw [← HNH.out] at h9; exact h9
      have HRW := hide hrow
      have HM0 := hide hM0
      clear hM0 hrow
      go_wp2_with (at_builtin; go_loud (refine wpList_append_slN rfl (.tmp 76) (.tmp 79) 152 rfl _ 16 Tryz.underlying152 info_any rfl (by decide) (HRW.out.alloc (.cells #[.iface 246 (.agg #[])] 20)) (SlN.one (base := 0) (Nat.zero_le _) (Blk.new WD 20 #[.iface 246 (.agg #[])])).src rfl rfl rfl (by intro y hy; simp at hy; subst hy; rfl) ?g4 ?g5 (Nat.zero_le _) ?_))
      case g4 => have := HL.out; have := HN.out; unfold maxLen; omega
      case g5 => have := HL.out; have := HN.out; omega
      intro v' w' hv' ho' hf'
      obtain ⟨a', c', rfl⟩ := hv'.form
      have hb1 : Blk w' s 191 (stgV _ (.slice (some ⟨gh, oh, none⟩) n hc) (.slice (some ⟨go, oo, none⟩) 0 oc)) := ho'.blk (HD.out.blk.alloc _) HD.out.outh
      have hop1 := (HD.out.opn.alloc (.cells #[.iface 246 (.agg #[])] 20)).keep ho' (fun k hk hm => by
        obtain ⟨cs, hb⟩ := HD.out.opn.blkOf k hk
        exact HRW.out.notBlk hb (by decide) hm)
      have e1 : w'.cell? ⟨s, 1, none⟩ = some (.slice (some ⟨gh, oh, none⟩) n hc) := hb1.cellv 1 _ rfl
      have e2 : w'.cell? ⟨s, 2, none⟩ = some (.int .i64 st.size) := hb1.cellv 2 _ rfl
      have k1 := hb1.frozen 1
      have k2 := hb1.frozen 2
      have HV := hide hv'
      have HB1 := hide hb1
      have HOP1 := hide hop1
      have hO1 : Only (s :: F) w w' := (HOD.out.alloc (.cells #[.iface 246 (.agg #[])] 20)).trans (ho'.mono (fun k hk => List.mem_cons_of_mem _ (HF1.out k hk)))
      have HO1 := hide hO1
      have HFR : Hid (∀ k ∈ slB (.slice a' (n + 1) c'), k ∈ F ∨ w.heap.size ≤ k) := hide (fun k hk => (hf' k hk).elim (fun h9 => .inl (HF1.out k h9)) (fun h9 => .inr (by have := HOD.out.size; first | omega | (simp at h9; omega))))
      have HS9 : Hid (s ∉ slB (.slice a' (n + 1) c')) := hide (hv'.notBlk hb1 (by decide))
      clear hv' ho' hf' hb1 hop1 hO1
      go_wp2_with fail
      go_ret2
      have hRR := HRH.out
      rw [if_pos HM0.out] at hRR
      rw [← hRR]
      refine ⟨_, slB (.slice (some ⟨go, oo, none⟩) 0 oc), rfl, ?_, ⟨.slice none 0 0, .slice (some ⟨go, oo, none⟩) 0 oc, ⟨(HB1.out.set_ 1 (.slice none 0 0)).set_ 2 (.int .i64 0), SlN.nil _ _ _ _, ?_⟩, by simp [slB], fun k hk => hk⟩, (HO1.out.setCell (p := ⟨s, 1, none⟩) (List.mem_cons_self ..) _).setCell (p := ⟨s, 2, none⟩) (List.mem_cons_self ..) _, HFR.out, fun k hk => .inl (HF2.out k (by simpa [slB] using hk))⟩
      · have h9 := (HV.out.far (p := ⟨s, 1, none⟩) HS9.out (.slice none 0 0)).far (p := ⟨s, 2, none⟩) HS9.out (.int .i64 0)
        rw [List.length_append, ← HNH.out, show partsV (HH ++ [.close]) = partsV HH ++ [.iface 246 (.agg #[])] by simp [partsV, Part.val]]
        exact h9
      · have h9 := HOP1.out
        simp only [HM0.out] at h9
        exact (h9.far (p := ⟨s, 1, none⟩) (h9.notBlk HB1.out (by decide)) (.slice none 0 0)).far (p := ⟨s, 2, none⟩) (h9.notBlk HB1.out (by decide)) (.int .i64 0)
    · have hM0 : M ≠ [] := fun h9 => hj0 (by rw [HJ.out, h9]; rfl)
      have HM0 := hide hM0
      have hjp : 0 < j := by omega
      have hH := stg_hold HD.out .close rfl (by simp only; rw [← HNH.out]; have := HL.out; have := HN.out; omega) HZ.out HM.out
      rw [show Part.close.val = .iface 246 (.agg #[]) from rfl] at hH
      have HH := hide hH
      clear hj0 hM0 hH
      go_wp2_with fail
      (with_reducible refine (unhide HH).mono ?_)
      rintro e w2 ⟨rfl, hv2, ov2, hm2, ho2, hf2, hf3⟩
      have HM2 := hide hm2
      have HO2 := hide ho2
      have HF3 := hide (And.intro hf2 hf3)
      clear HH hm2 ho2 hf2 hf3
      go_wp2_with fail
      go_ret2
      have hRR := HRH.out
      rw [if_neg HM0.out] at hRR
      rw [← hRR]
      have fr : ∀ k, k ∈ slB hv2 ∨ k ∈ slB ov2 → k ∈ F ∨ w.heap.size ≤ k := fun k hk => hk.elim (fun h9 => (HF3.out.1 k h9).elim (fun h8 => .inl (HF1.out k h8)) (fun h8 => .inr (Nat.le_trans HOD.out.size h8))) (fun h9 => .inl (HF2.out k (by have := HF3.out.2 k h9; simpa [slB] using this)))
      refine ⟨_, slB hv2 ++ slB ov2, rfl, SlN.nil _ _ _ _, ⟨hv2, ov2, HM2.out, fun k hk => List.mem_append_left _ hk, fun k hk => List.mem_append_right _ hk⟩, HOD.out.trans (HO2.out.mono fun k hk => ?_), by simp [slB], fun k hk => fr k (List.mem_append.1 hk)⟩
      rcases List.mem_cons.1 hk with rfl | hk
      · exact List.mem_cons_self ..
      · exact List.mem_cons_of_mem _ (HF1.out k hk)
  | true =>
    have hC := HA.out.new ((Only.refl [] _).alloc (.cells #[.bool true, .int .i64 ((cp : Int) / 2)] 243))
    have bt3 := HBT.out.alloc (.cells #[.bool true, .int .i64 ((cp : Int) / 2)] 243)
    have bx : Blk (((w.setCell ⟨s, 3, none⟩ (.slice (some ⟨go, oo, none⟩) j oc)).alloc (.cells #[.int .i64 ca, .int .i64 cp] 249)).alloc (.cells #[.bool true, .int .i64 ((cp : Int) / 2)] 243)) (w.heap.size + 1) 243 #[.bool true, .int .i64 ((cp : Int) / 2)] := by simpa using Blk.new ((w.setCell ⟨s, 3, none⟩ (.slice (some ⟨go, oo, none⟩) j oc)).alloc (.cells #[.int .i64 ca, .int .i64 cp] 249)) 243 #[.bool true, .int .i64 ((cp : Int) / 2)]
    have hC1 := hC.blk.cellv 1 _ rfl
    have bt30 := bt3.cellv 0 _ rfl
    have bx0 := bx.cellv 0 _ rfl
    have bx1 := bx.cellv 1 _ rfl
    have hCr := hC.held
    simp only at hCr
    obtain ⟨hp3, fp3, lp3⟩ := hCr.at ca _ (show (partsV st.held)[ca]? = some (Part.begin_ true (-1)).val by simp [partsV, HBB.out])
    go_upto_region 9 with (fail)
    refine wp_region_tree (fun W => W.cell? ⟨s, 1, none⟩ = some (.slice (some ⟨gh, oh, none⟩) n hc) ∧ W.cell? ⟨w.heap.size, 0, none⟩ = some (.int .i64 ca) ∧ W.cell? ⟨w.heap.size + 1, 0, none⟩ = some (.bool true) ∧ W.cell? ⟨w.heap.size + 1, 1, none⟩ = some (.int .i64 ((cp : Int) / 2))) 9 (.take [0, 1, 2, 3, 4, 5, 6, 7, 8] (.step 9 (.fin))) (by kernel_rfl) (by kernel_rfl) (by intro _ _ _ _ _ h; exact h) ?_
    refine wpTree_take (⟨hC1, bt30, bx0, bx1⟩) ?_
    simp only [opsAt, List.getElem?_cons_zero, List.getElem?_cons_succ]
    iterate 9 (first | (refine wpPureH_step (v := ?_) rfl (fun W hS => ?_) ?_; rotate_left; · (obtain ⟨s1, s2, s3, s4⟩ := hS; (try simp only [Act.put, List.setIfInBounds_toArray, List.set_cons_zero, List.set_cons_succ]); go_simp; with_reducible rfl)) | (refine wpPureH_want (v := ?_) (by rfl) (fun W hS => ?_) ?_; rotate_left; · (obtain ⟨s1, s2, s3, s4⟩ := hS; (try simp only [Act.put, List.setIfInBounds_toArray, List.set_cons_zero, List.set_cons_succ]); go_simp; with_reducible rfl)))
    refine wpPureH_nil ?_
    simp only [Act.put, List.setIfInBounds_toArray, List.set_cons_zero, List.set_cons_succ]
    refine wpTree_step ?_
    simp only [opsAt, List.getElem?_cons_zero, List.getElem?_cons_succ]
    go_wp2_with fail
    first | refine ⟨.inl trivial, wpTree_fin ?_⟩ | (go_wp2_with fail; refine wpTree_fin ?_)
    have hD0 := (((((HMB.out.setheld HN.out (show ca < st.held.length by have := HN.out; omega) (.begin_ true ((cp : Int) / 2)) (ca := ca)).new ((Only.refl [] _).alloc (.cells #[.int .i64 ca, .int .i64 cp] 249))).new ((Only.refl [] _).alloc (.cells #[.bool true, .int .i64 ((cp : Int) / 2)] 243))).new ((Only.refl [] _).drew)).new ((Only.refl [] _).drew))
    have hoD : Only (s :: F) w ((((((w.setCell ⟨s, 3, none⟩ (.slice (some ⟨go, oo, none⟩) j oc)).setCell ⟨gh, oh + ca, none⟩ (Part.begin_ true ((cp : Int) / 2)).val).alloc (.cells #[.int .i64 ca, .int .i64 cp] 249)).alloc (.cells #[.bool true, .int .i64 ((cp : Int) / 2)] 243)).drew).drew) :=
      ((((((Only.refl _ w).setCell (p := ⟨s, 3, none⟩) (List.mem_cons_self ..) _).setCell (p := ⟨gh, oh + ca, none⟩) (List.mem_cons_of_mem _ (HF1.out gh (by simp [slB]))) _).alloc _).alloc _).drew).drew
    rw [show (Part.begin_ true ((cp : Int) / 2)).val = .iface 243 (.agg #[.bool true, .int .i64 ((cp : Int) / 2)]) from rfl] at hD0 hoD
    generalize (((((w.setCell ⟨s, 3, none⟩ (.slice (some ⟨go, oo, none⟩) j oc)).setCell ⟨gh, oh + ca, none⟩ (.iface 243 (.agg #[.bool true, .int .i64 ((cp : Int) / 2)]))).alloc (.cells #[.int .i64 ca, .int .i64 cp] 249)).alloc (.cells #[.bool true, .int .i64 ((cp : Int) / 2)] 243)).drew).drew = WD at hD0 hoD ⊢
    have hR := HR.out
    generalize hHH : st.held.set ca (.begin_ true ((cp : Int) / 2)) = HH at hD0
    have hnH : n = HH.length := by rw [← hHH, List.length_set]; exact HN.out
    have hRH : (if M = [] then (({ st with opn := [], held := [], size := 0 } : Stg), HH ++ [.close], (0 : Int)) else ((Stg.hold { st with opn := M, held := HH } .close).1, [], (Stg.hold { st with opn := M, held := HH } .close).2)) = R := by rw [← hHH]; exact hR
    have HRH := hide hRH
    have HNH := hide hnH
    have d1 : WD.cell? ⟨s, 1, none⟩ = some (.slice (some ⟨gh, oh, none⟩) n hc) := hD0.blk.cellv 1 _ rfl
    have d2 : WD.cell? ⟨s, 2, none⟩ = some (.int .i64 st.size) := hD0.blk.cellv 2 _ rfl
    have HD := hide hD0
    have HOD := hide hoD
    clear hC bt3 bx hC1 bt30 bx0 bx1 hCr hp3 fp3 lp3 HA HBT hHH hD0 hoD hR hRH hnH
    by_cases hj0 : j = 0
    · subst hj0
      have hM0 : M = [] := List.eq_nil_of_length_eq_zero HJ.out.symm
      have hrow : SlN WD 0 20 1 (.slice (some ⟨gh, oh, none⟩) n hc) n (partsV HH) := by have h9 := HD.out.held; simp only at h9; rw [← HNH.out] at h9; exact h9
      have HRW := hide hrow
      have HM0 := hide hM0
      clear hM0 hrow
      go_wp2_with (at_builtin; go_loud (refine wpList_append_slN rfl (.tmp 76) (.tmp 79) 152 rfl _ 16 Tryz.underlying152 info_any rfl (by decide) (HRW.out.alloc (.cells #[.iface 246 (.agg #[])] 20)) (SlN.one (base := 0) (Nat.zero_le _) (Blk.new WD 20 #[.iface 246 (.agg #[])])).src rfl rfl rfl (by intro y hy; simp at hy; subst hy; rfl) ?g4 ?g5 (Nat.zero_le _) ?_))
      case g4 => have := HL.out; have := HN.out; unfold maxLen; omega
      case g5 => have := HL.out; have := HN.out; omega
      intro v' w' hv' ho' hf'
      obtain ⟨a', c', rfl⟩ := hv'.form
      have hb1 : Blk w' s 191 (stgV _ (.slice (some ⟨gh, oh, none⟩) n hc) (.slice (some ⟨go, oo, none⟩) 0 oc)) := ho'.blk (HD.out.blk.alloc _) HD.out.outh
      have hop1 := (HD.out.opn.alloc (.cells #[.iface 246 (.agg #[])] 20)).keep ho' (fun k hk hm => by
        obtain ⟨cs, hb⟩ := HD.out.opn.blkOf k hk
        exact HRW.out.notBlk hb (by decide) hm)
      have e1 : w'.cell? ⟨s, 1, none⟩ = some (.slice (some ⟨gh, oh, none⟩) n hc) := hb1.cellv 1 _ rfl
      have e2 : w'.cell? ⟨s, 2, none⟩ = some (.int .i64 st.size) := hb1.cellv 2 _ rfl
      have k1 := hb1.frozen 1
      have k2 := hb1.frozen 2
      have HV := hide hv'
      have HB1 := hide hb1
      have HOP1 := hide hop1
      have hO1 : Only (s :: F) w w' := (HOD.out.alloc (.cells #[.iface 246 (.agg #[])] 20)).trans (ho'.mono (fun k hk => List.mem_cons_of_mem _ (HF1.out k hk)))
      have HO1 := hide hO1
      have HFR : Hid (∀ k ∈ slB (.slice a' (n + 1) c'), k ∈ F ∨ w.heap.size ≤ k) := hide (fun k hk => (hf' k hk).elim (fun h9 => .inl (HF1.out k h9)) (fun h9 => .inr (by have := HOD.out.size; first | omega | (simp at h9; omega))))
      have HS9 : Hid (s ∉ slB (.slice a' (n + 1) c')) := hide (hv'.notBlk hb1 (by decide))
      clear hv' ho' hf' hb1 hop1 hO1
      go_wp2_with fail
      go_ret2
      have hRR := HRH.out
      rw [if_pos HM0.out] at hRR
      rw [← hRR]
      refine ⟨_, slB (.slice (some ⟨go, oo, none⟩) 0 oc), rfl, ?_, ⟨.slice none 0 0, .slice (some ⟨go, oo, none⟩) 0 oc, ⟨(HB1.out.set_ 1 (.slice none 0 0)).set_ 2 (.int .i64 0), SlN.nil _ _ _ _, ?_⟩, by simp [slB], fun k hk => hk⟩, (HO1.out.setCell (p := ⟨s, 1, none⟩) (List.mem_cons_self ..) _).setCell (p := ⟨s, 2, none⟩) (List.mem_cons_self ..) _, HFR.out, fun k hk => .inl (HF2.out k (by simpa [slB] using hk))⟩
      · have h9 := (HV.out.far (p := ⟨s, 1, none⟩) HS9.out (.slice none 0 0)).far (p := ⟨s, 2, none⟩) HS9.out (.int .i64 0)
        rw [List.length_append, ← HNH.out, show partsV (HH ++ [.close]) = partsV HH ++ [.iface 246 (.agg #[])] by simp [partsV, Part.val]]
        exact h9
      · have h9 := HOP1.out
        simp only [HM0.out] at h9
        exact (h9.far (p := ⟨s, 1, none⟩) (h9.notBlk HB1.out (by decide)) (.slice none 0 0)).far (p := ⟨s, 2, none⟩) (h9.notBlk HB1.out (by decide)) (.int .i64 0)
    · have hM0 : M ≠ [] := fun h9 => hj0 (by rw [HJ.out, h9]; rfl)
      have HM0 := hide hM0
      have hjp : 0 < j := by omega
      have hH := stg_hold HD.out .close rfl (by simp only; rw [← HNH.out]; have := HL.out; have := HN.out; omega) HZ.out HM.out
      rw [show Part.close.val = .iface 246 (.agg #[]) from rfl] at hH
      have HH := hide hH
      clear hj0 hM0 hH
      go_wp2_with fail
      (with_reducible refine (unhide HH).mono ?_)
      rintro e w2 ⟨rfl, hv2, ov2, hm2, ho2, hf2, hf3⟩
      have HM2 := hide hm2
      have HO2 := hide ho2
      have HF3 := hide (And.intro hf2 hf3)
      clear HH hm2 ho2 hf2 hf3
      go_wp2_with fail
      go_ret2
      have hRR := HRH.out
      rw [if_neg HM0.out] at hRR
      rw [← hRR]
      have fr : ∀ k, k ∈ slB hv2 ∨ k ∈ slB ov2 → k ∈ F ∨ w.heap.size ≤ k := fun k hk => hk.elim (fun h9 => (HF3.out.1 k h9).elim (fun h8 => .inl (HF1.out k h8)) (fun h8 => .inr (Nat.le_trans HOD.out.size h8))) (fun h9 => .inl (HF2.out k (by have := HF3.out.2 k h9; simpa [slB] using this)))
      refine ⟨_, slB hv2 ++ slB ov2, rfl, SlN.nil _ _ _ _, ⟨hv2, ov2, HM2.out, fun k hk => List.mem_append_left _ hk, fun k hk => List.mem_append_right _ hk⟩, HOD.out.trans (HO2.out.mono fun k hk => ?_), by simp [slB], fun k hk => fr k (List.mem_append.1 hk)⟩
      rcases List.mem_cons.1 hk with rfl | hk
      · exact List.mem_cons_self ..
      · exact List.mem_cons_of_mem _ (HF1.out k hk)
end Go.Proofs.YtkccjfgkbkodiaaGreat
