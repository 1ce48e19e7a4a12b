/-
  SesG: parts of the walk of TopTight, under no condition.
-/
import Derived.Test.YtkccjfgkbkodiaaGreatZ27
namespace Go.Proofs.YtkccjfgkbkodiaaGreat
open Go.RowKit
theorem SesM.setnew {w w' : World} {b d sg rp : Nat} {x x' : Ses} {Fr Fp Fp' : List Nat} {vq pv pv' : Value} (h : SesM w b d sg x rp Fr vq pv Fp) (hb : Blk w' b 96 (sesL rp vq x' pv' d sg).toArray) (ho : Only [b] w w') (h1 : x'.inb = x.inb) (h2 : x'.outL = x.outL) (hp : SesP w d pv' Fp' x'.p) (hs : ∀ k ∈ Fp', k < w.heap.size ∧ k ≠ b ∧ k ∉ Fr ∧ k ∉ slB vq) :
    SesM w' b d sg x' rp Fr vq pv' Fp' := by
  have hbq := h.bq
  refine ⟨hb, by rw [h1]; exact ring_keep h.ring ho (fun k hk hm => h.br (List.mem_singleton.1 hm ▸ hk)), by rw [h2]; exact h.sl.keep ho (fun k hk hm => hbq (List.mem_singleton.1 hm ▸ hk)), by rw [h2]; exact h.ne, hp.keep ho (fun k hk hm => (hs k hk).2.1 (List.mem_singleton.1 hm)), fun k hk => Nat.lt_of_lt_of_le (h.ltr k hk) ho.size, fun k hk => Nat.lt_of_lt_of_le (hs k hk).1 ho.size, h.br, fun hm => (hs b hm).2.1 rfl, h.rq, fun k hk hm => (hs k hm).2.2.1 hk, fun k hk hm => (hs k hm).2.2.2 hk⟩
set_option maxRecDepth 100000 in
set_option maxHeartbeats 4000000 in
theorem once_hello {w : World} {b d sg : Nat} {F : List Nat} {x : Ses} {u : UInt8} {l : List UInt8} (h : SesIs w b F d sg x) (ht : x.told = false) (hi : x.inb = u :: l) (h8 : x.header.length + 1 < 8) (hh : x.header ++ [u] = (hp d sg).take (x.header.length + 1)) :
    Calls Tryz.prog 67 #[.pointer (some ⟨b, 0, none⟩)] w (OncePost w b F d sg fun x' => x' = { x with inb := l, header := x.header ++ [u] }) := by
  obtain ⟨rp, Fr, vq, pv, Fp, hM, hF⟩ := h
  obtain ⟨hd, hhd⟩ : ∃ hd, hd = x.header ++ [u] := ⟨_, rfl⟩
  have HG := fun W => hide (get_more (l := hd) (d := d) (s := sg) (by rw [hhd]; simp) (by rw [hhd]; simp; omega) (by rw [hhd, List.length_append]; exact hh) W)
  rw [← hhd]
  have hlen : ¬9223372036854775807 < x.header.length + 1 := by omega
  have c0 := hM.cells.1
  have HT := hide (ring_take_kt Fr rp 64 x.inb 1 w hM.ring 1 (by rw [hi]; simp; omega))
  rw [hi] at HT
  have HM := hide hM
  have HF := hide hF
  have HTD := hide ht
  have HHD := hide hhd
  clear hM hF hi ht h8 hh hhd
  go_enter Tryz.func67, Tryz.ntmps67
  go_wp2_with fail
  (with_reducible refine (unhide HT).mono ?_)
  rintro e w1 ⟨rfl, hr1, ho1⟩
  have hM1 := HM.out.ringed hr1 ho1
  rw [show ({ x with inb := (u :: l).drop 1 } : Ses) = { x with inb := l } from rfl] at hM1
  have d9 : w1.cell? ⟨b, 9, none⟩ = some (.bool x.told) := hM1.cells.2.2.1
  have d3 : w1.cell? ⟨b, 3, none⟩ = some (.string (S x.header)) := hM1.cells.2.1
  have f3 := hM1.blk.frozen 3
  rw [HTD.out] at d9
  have HM1 := hide hM1
  have HO1 := hide (ho1.mono (T := b :: F) fun k hk => List.mem_cons_of_mem _ (HF.out k (.inl hk)))
  rw [show (u :: l).take 1 = [u] from rfl]
  clear HT hr1 ho1 hM1
  go_wp2_with fail
  rw [← HHD.out]
  have HM2 := hide (HM1.out.setflat (x' := { x with inb := l, header := hd }) (i := 3) (u := .string (S hd)) rfl rfl rfl rfl)
  have HO2 := hide (HO1.out.setCell (p := ⟨b, 3, none⟩) (List.mem_cons_self ..) (.string (S hd)))
  clear HM1 HO1
  have d3 : (w1.setCell ⟨b, 3, none⟩ (.string (S hd))).cell? ⟨b, 3, none⟩ = some (.string (S hd)) := HM2.out.cells.2.1
  (with_reducible refine (unhide (HG _)).mono ?_)
  rintro e w2 ⟨rfl, ho2⟩
  unfold setV
  have HM3 := hide (HM2.out.new ho2)
  have HO3 := hide (HO2.out.trans (ho2.mono (by simp)))
  clear HM2 HO2 ho2 HG
  go_wp2_with fail
  go_end0
  refine (HM3.out.new ((Only.refl [] w2).alloc _)).toIs (A := b :: F) (fun k hk => .inl (HF.out k hk)) (HO3.out.alloc _) (fun k hk => hk) rfl
set_option maxRecDepth 100000 in
set_option maxHeartbeats 4000000 in
theorem once_told {w : World} {b d sg : Nat} {F : List Nat} {x : Ses} {u : UInt8} {l : List UInt8} (h : SesIs w b F d sg x) (ht : x.told = false) (hi : x.inb = u :: l) (hh : x.header ++ [u] = hp d sg) (hd1 : 1 ≤ d) (hd2 : d ≤ 16) (hs : sg ≤ 2000) (hsz : x.outL.flatten.length ≤ 800000) :
    Calls Tryz.prog 67 #[.pointer (some ⟨b, 0, none⟩)] w (OncePost w b F d sg fun x' => x' = { x with inb := l, header := hp d sg, told := true, p := some (Pip.new sg), outL := x.outL ++ [[75]] }) := by
  obtain ⟨rp, Fr, vq, pv, Fp, hM, hF⟩ := h
  have HG := fun W => hide (get_ok hd1 hd2 hs W)
  have HPN := fun W => hide (pip_new hd1 hd2 hs W)
  unfold setV at HG HPN
  have hlen : ¬9223372036854775807 < x.header.length + 1 := by
    have := congrArg List.length hh
    simp [hp] at this
    omega
  have c0 := hM.cells.1
  have HT := hide (ring_take_kt Fr rp 64 x.inb 1 w hM.ring 1 (by rw [hi]; simp; omega))
  rw [hi] at HT
  have HM := hide hM
  have HF := hide hF
  have HTD := hide ht
  have HSZ := hide hsz
  have HHD := hide hh
  clear hM hF hi ht hh hd1 hd2 hs hsz
  go_enter Tryz.func67, Tryz.ntmps67
  go_wp2_with fail
  (with_reducible refine (unhide HT).mono ?_)
  rintro e w1 ⟨rfl, hr1, ho1⟩
  have hM1 := HM.out.ringed hr1 ho1
  rw [show ({ x with inb := (u :: l).drop 1 } : Ses) = { x with inb := l } from rfl] at hM1
  have d9 : w1.cell? ⟨b, 9, none⟩ = some (.bool x.told) := hM1.cells.2.2.1
  have d3 : w1.cell? ⟨b, 3, none⟩ = some (.string (S x.header)) := hM1.cells.2.1
  have f3 := hM1.blk.frozen 3
  rw [HTD.out] at d9
  have HM1 := hide hM1
  have HO1 := hide (ho1.mono (T := b :: F) fun k hk => List.mem_cons_of_mem _ (HF.out k (.inl hk)))
  rw [show (u :: l).take 1 = [u] from rfl]
  clear HT hr1 ho1 hM1
  go_wp2_with fail
  rw [HHD.out]
  have HM2 := hide (HM1.out.setflat (x' := { x with inb := l, header := hp d sg }) (i := 3) (u := .string (S (hp d sg))) rfl rfl rfl rfl)
  have HO2 := hide (HO1.out.setCell (p := ⟨b, 3, none⟩) (List.mem_cons_self ..) (.string (S (hp d sg))))
  clear HM1 HO1
  have d3 : (w1.setCell ⟨b, 3, none⟩ (.string (S (hp d sg)))).cell? ⟨b, 3, none⟩ = some (.string (S (hp d sg))) := HM2.out.cells.2.1
  (with_reducible refine (unhide (HG _)).mono ?_)
  rintro e w2 ⟨rfl, ho2⟩
  have HM3 := hide (HM2.out.new ho2)
  have HO3 := hide (HO2.out.trans (ho2.mono (by simp)))
  clear HM2 HO2 ho2 HG
  go_upto_region 7 with (fail)
  have hB : Blk (w2.alloc (.cells #[.int .i64 1, .int .i64 3, .int .i64 d, .int .i64 sg, .int .i64 0] 29)).drew w2.heap.size 29 #[.int .i64 1, .int .i64 3, .int .i64 d, .int .i64 sg, .int .i64 0] := ((Only.refl [] _).drew).blk (Blk.new w2 29 #[.int .i64 1, .int .i64 3, .int .i64 d, .int .i64 sg, .int .i64 0]) (by simp)
  have S5 : ∀ W, Blk W w2.heap.size 29 #[.int .i64 1, .int .i64 3, .int .i64 d, .int .i64 sg, .int .i64 0] → W.cell? ⟨w2.heap.size, 0, none⟩ = some (.int .i64 1) ∧ W.cell? ⟨w2.heap.size, 1, none⟩ = some (.int .i64 3) ∧ W.cell? ⟨w2.heap.size, 2, none⟩ = some (.int .i64 d) ∧ W.cell? ⟨w2.heap.size, 3, none⟩ = some (.int .i64 sg) ∧ W.cell? ⟨w2.heap.size, 4, none⟩ = some (.int .i64 0) :=
    fun W h => ⟨h.cellv 0 _ rfl, h.cellv 1 _ rfl, h.cellv 2 _ rfl, h.cellv 3 _ rfl, h.cellv 4 _ rfl⟩
  have HOd := hide (((Only.refl [] w2).alloc (.cells #[.int .i64 1, .int .i64 3, .int .i64 d, .int .i64 sg, .int .i64 0] 29)).drew)
  have HS5 := hide S5
  have HB := hide hB
  clear hB S5
  refine wp_region_tree (fun W => W.cell? ⟨w2.heap.size, 0, none⟩ = some (.int .i64 1) ∧ W.cell? ⟨w2.heap.size, 1, none⟩ = some (.int .i64 3) ∧ W.cell? ⟨w2.heap.size, 2, none⟩ = some (.int .i64 d) ∧ W.cell? ⟨w2.heap.size, 3, none⟩ = some (.int .i64 sg) ∧ W.cell? ⟨w2.heap.size, 4, none⟩ = some (.int .i64 0)) 15 (.take [0, 1, 2, 3, 4] (.step 5 (.take [6, 7] (.step 8 (.take [9, 10] (.step 11 (.take [12, 13] (.step 14 (.fin))))))))) (by kernel_rfl) (by kernel_rfl) (by intro _ _ _ _ _ h; exact h) ?_
  refine wpTree_take (HS5.out _ HB.out) ?_
  simp only [opsAt, List.getElem?_cons_zero, List.getElem?_cons_succ]
  iterate 5 (first | (refine wpPureH_step (v := ?_) rfl (fun W hS => ?_) ?_; rotate_left; · (obtain ⟨s0, s1, s2, s3, s4⟩ := hS; (try simp only [Act.put, List.setIfInBounds_toArray, List.set_cons_zero, List.set_cons_succ]); go_simp; with_reducible rfl)) | (refine wpPureH_want (v := ?_) (by rfl) (fun W hS => ?_) ?_; rotate_left; · (obtain ⟨s0, s1, s2, s3, s4⟩ := hS; (try simp only [Act.put, List.setIfInBounds_toArray, List.set_cons_zero, List.set_cons_succ]); go_simp; with_reducible rfl)))
  refine wpPureH_nil ?_
  simp only [Act.put, List.setIfInBounds_toArray, List.set_cons_zero, List.set_cons_succ]
  refine wpTree_step ?_
  simp only [opsAt, List.getElem?_cons_zero, List.getElem?_cons_succ]
  go_wp2_with fail
  (with_reducible refine (unhide (HPN _)).mono ?_)
  rintro e w4 ⟨q, G, rfl, hp4, ho4, hq4, hg4⟩
  have hM4 := HM3.out.new (HOd.out.trans ho4)
  have h4 := HS5.out _ (ho4.blk HB.out (by simp))
  obtain ⟨⟨z4, v4⟩, ⟨z5, v5⟩, ⟨z6, v6⟩, ⟨z7, v7⟩, ⟨z8, v8⟩, ⟨z9, v9⟩, ⟨z10, v10⟩⟩ : (∃ z, w4.cell? ⟨b, 4, none⟩ = some z) ∧ (∃ z, w4.cell? ⟨b, 5, none⟩ = some z) ∧ (∃ z, w4.cell? ⟨b, 6, none⟩ = some z) ∧ (∃ z, w4.cell? ⟨b, 7, none⟩ = some z) ∧ (∃ z, w4.cell? ⟨b, 8, none⟩ = some z) ∧ (∃ z, w4.cell? ⟨b, 9, none⟩ = some z) ∧ (∃ z, w4.cell? ⟨b, 10, none⟩ = some z) :=
    ⟨⟨_, hM4.blk.cellv 4 _ rfl⟩, ⟨_, hM4.blk.cellv 5 _ rfl⟩, ⟨_, hM4.blk.cellv 6 _ rfl⟩, ⟨_, hM4.blk.cellv 7 _ rfl⟩, ⟨_, hM4.blk.cellv 8 _ rfl⟩, ⟨_, hM4.blk.cellv 9 _ rfl⟩, ⟨_, hM4.blk.cellv 10 _ rfl⟩⟩
  have k4 := hM4.blk.frozen 4
  have k5 := hM4.blk.frozen 5
  have k6 := hM4.blk.frozen 6
  have k7 := hM4.blk.frozen 7
  have k8 := hM4.blk.frozen 8
  have k9 := hM4.blk.frozen 9
  have k10 := hM4.blk.frozen 10
  have hb4 := HB.out
  have hlt := HM3.out.blk.lt
  have hB4 := ho4.blk hb4 (by simp)
  have hsz4 := (HOd.out.trans ho4).size
  have hm : b ∈ [b] := List.mem_singleton.2 rfl
  have ho5 : Only [b] w4 (((((w4.setCell ⟨b, 4, none⟩ (.int .i64 1)).setCell ⟨b, 5, none⟩ (.int .i64 3)).setCell ⟨b, 6, none⟩ (.int .i64 d)).setCell ⟨b, 7, none⟩ (.int .i64 sg)).setCell ⟨b, 8, none⟩ (.int .i64 0)) := (((((Only.refl [b] w4).setCell (p := ⟨b, 4, none⟩) hm _).setCell (p := ⟨b, 5, none⟩) hm _).setCell (p := ⟨b, 6, none⟩) hm _).setCell (p := ⟨b, 7, none⟩) hm _).setCell (p := ⟨b, 8, none⟩) hm _
  have ho6 := ho5.setCell (p := ⟨b, 9, none⟩) hm (.bool true)
  have ho7 := ho6.setCell (p := ⟨b, 10, none⟩) hm (.pointer (some ⟨q, 0, none⟩))
  have hne : w2.heap.size ∉ [b] := by simp; omega
  have h5 := HS5.out _ (ho5.blk hB4 hne)
  have h6 := HS5.out _ (ho6.blk hB4 hne)
  have h7 := HS5.out _ (ho7.blk hB4 hne)
  obtain ⟨G', g1, g2, g3, g4⟩ := hp4.small
  have hz : ((w2.alloc (.cells #[.int .i64 1, .int .i64 3, .int .i64 d, .int .i64 sg, .int .i64 0] 29)).drew).heap.size = w2.heap.size + 1 := by simp
  rw [hz] at hq4
  have hall : ∀ k ∈ q :: G', w2.heap.size + 1 ≤ k ∧ k < w4.heap.size := fun k hk => by
    rcases List.mem_cons.1 hk with rfl | hk
    · exact ⟨hq4, g3⟩
    · exact ⟨by have := hg4 k (g2 k hk); rw [hz] at this; exact this, g4 k hk⟩
  have hM7 : SesM (((((((w4.setCell ⟨b, 4, none⟩ (.int .i64 1)).setCell ⟨b, 5, none⟩ (.int .i64 3)).setCell ⟨b, 6, none⟩ (.int .i64 d)).setCell ⟨b, 7, none⟩ (.int .i64 sg)).setCell ⟨b, 8, none⟩ (.int .i64 0)).setCell ⟨b, 9, none⟩ (.bool true)).setCell ⟨b, 10, none⟩ (.pointer (some ⟨q, 0, none⟩))) b d sg { x with inb := l, header := hp d sg, told := true, p := some (Pip.new sg) } rp Fr vq (.pointer (some ⟨q, 0, none⟩)) (q :: G') :=
    hM4.setnew (x' := { x with inb := l, header := hp d sg, told := true, p := some (Pip.new sg) }) (((((((hM4.blk.set_ 4 (.int .i64 1)).set_ 5 (.int .i64 3)).set_ 6 (.int .i64 d)).set_ 7 (.int .i64 sg)).set_ 8 (.int .i64 0)).set_ 9 (.bool true)).set_ 10 (.pointer (some ⟨q, 0, none⟩))) ho7 rfl rfl ⟨q, G', rfl, g1, rfl⟩ (fun k hk => by
      have h9 := hall k hk
      refine ⟨h9.2, by omega, fun hm => ?_, fun hm => ?_⟩
      · have := HM3.out.ltr k hm; omega
      · have := (HM3.out.sl.lt k hm).2; omega)
  have HA := hide (ses_queue_add (hM7.new ((Only.refl [] _).drew)) [75] (by simp) (by have := HSZ.out; show x.outL.flatten.length + 1 ≤ _; omega))
  have HO4 := hide (((HO3.out.trans ((HOd.out.trans ho4).mono (T := b :: F) (by simp))).trans (ho7.mono (T := b :: F) (by simp))).drew)
  have hbig := HO3.out.size
  have HALL := hide (show ∀ k ∈ q :: G', w.heap.size ≤ k from fun k hk => by have := (hall k hk).1; omega)
  have H4 := hide (HS5.out _ hB4)
  have H5 := hide h5
  have H6 := hide h6
  have H7 := hide h7
  clear hM4 ho4 hp4 hq4 hg4 HPN HOd hb4 hlt hB4 hsz4 ho5 ho6 ho7 h5 h6 h7 hne hm G g1 g2 g3 g4 hall hM7 hz hbig
  go_wp2_with fail
  refine ⟨.inr H4.out, ?_⟩
  refine wpTree_take (H4.out) ?_
  simp only [opsAt, List.getElem?_cons_zero, List.getElem?_cons_succ]
  iterate 2 (first | (refine wpPureH_step (v := ?_) rfl (fun W hS => ?_) ?_; rotate_left; · (obtain ⟨s0, s1, s2, s3, s4⟩ := hS; (try simp only [Act.put, List.setIfInBounds_toArray, List.set_cons_zero, List.set_cons_succ]); go_simp; with_reducible rfl)) | (refine wpPureH_want (v := ?_) (by rfl) (fun W hS => ?_) ?_; rotate_left; · (obtain ⟨s0, s1, s2, s3, s4⟩ := hS; (try simp only [Act.put, List.setIfInBounds_toArray, List.set_cons_zero, List.set_cons_succ]); go_simp; with_reducible rfl)))
  refine wpPureH_nil ?_
  simp only [Act.put, List.setIfInBounds_toArray, List.set_cons_zero, List.set_cons_succ]
  refine wpTree_step ?_
  simp only [opsAt, List.getElem?_cons_zero, List.getElem?_cons_succ]
  go_wp2_with fail
  refine ⟨.inr H5.out, ?_⟩
  refine wpTree_take (H5.out) ?_
  simp only [opsAt, List.getElem?_cons_zero, List.getElem?_cons_succ]
  iterate 2 (first | (refine wpPureH_step (v := ?_) rfl (fun W hS => ?_) ?_; rotate_left; · (obtain ⟨s0, s1, s2, s3, s4⟩ := hS; (try simp only [Act.put, List.setIfInBounds_toArray, List.set_cons_zero, List.set_cons_succ]); go_simp; with_reducible rfl)) | (refine wpPureH_want (v := ?_) (by rfl) (fun W hS => ?_) ?_; rotate_left; · (obtain ⟨s0, s1, s2, s3, s4⟩ := hS; (try simp only [Act.put, List.setIfInBounds_toArray, List.set_cons_zero, List.set_cons_succ]); go_simp; with_reducible rfl)))
  refine wpPureH_nil ?_
  simp only [Act.put, List.setIfInBounds_toArray, List.set_cons_zero, List.set_cons_succ]
  refine wpTree_step ?_
  simp only [opsAt, List.getElem?_cons_zero, List.getElem?_cons_succ]
  go_wp2_with fail
  refine ⟨.inr H6.out, ?_⟩
  refine wpTree_take (H6.out) ?_
  simp only [opsAt, List.getElem?_cons_zero, List.getElem?_cons_succ]
  iterate 2 (first | (refine wpPureH_step (v := ?_) rfl (fun W hS => ?_) ?_; rotate_left; · (obtain ⟨s0, s1, s2, s3, s4⟩ := hS; (try simp only [Act.put, List.setIfInBounds_toArray, List.set_cons_zero, List.set_cons_succ]); go_simp; with_reducible rfl)) | (refine wpPureH_want (v := ?_) (by rfl) (fun W hS => ?_) ?_; rotate_left; · (obtain ⟨s0, s1, s2, s3, s4⟩ := hS; (try simp only [Act.put, List.setIfInBounds_toArray, List.set_cons_zero, List.set_cons_succ]); go_simp; with_reducible rfl)))
  refine wpPureH_nil ?_
  simp only [Act.put, List.setIfInBounds_toArray, List.set_cons_zero, List.set_cons_succ]
  refine wpTree_step ?_
  simp only [opsAt, List.getElem?_cons_zero, List.getElem?_cons_succ]
  go_wp2_with fail
  refine ⟨.inr H7.out, wpTree_fin ?_⟩
  clear v4 v5 v6 v7 v8 v9 v10 k4 k5 k6 k7 k8 k9 k10
  go_upto_region 8 with (fail)
  refine wp_region_tree (fun _ => True) 5 (.take [0, 1, 2] (.step 3 (.step 4 (.fin)))) (by kernel_rfl) (by kernel_rfl) (by intro _ _ _ _ _ h; exact h) ?_
  refine wpTree_take (trivial) ?_
  simp only [opsAt, List.getElem?_cons_zero, List.getElem?_cons_succ]
  iterate 3 (first | (refine wpPureH_step (v := ?_) rfl (fun W hS => ?_) ?_; rotate_left; · (obtain _ := hS; (try simp only [Act.put, List.setIfInBounds_toArray, List.set_cons_zero, List.set_cons_succ]); go_simp; with_reducible rfl)) | (refine wpPureH_want (v := ?_) (by rfl) (fun W hS => ?_) ?_; rotate_left; · (obtain _ := hS; (try simp only [Act.put, List.setIfInBounds_toArray, List.set_cons_zero, List.set_cons_succ]); go_simp; with_reducible rfl)))
  refine wpPureH_nil ?_
  simp only [Act.put, List.setIfInBounds_toArray, List.set_cons_zero, List.set_cons_succ]
  refine wpTree_step ?_
  simp only [opsAt, List.getElem?_cons_zero, List.getElem?_cons_succ]
  go_wp2_with fail
  (with_reducible refine (yes_any _).mono ?_)
  rintro e w8 ⟨rfl, hw8⟩
  subst hw8
  go_wp2_with fail
  refine ⟨.inr trivial, ?_⟩
  refine wpTree_step ?_
  simp only [opsAt, List.getElem?_cons_zero, List.getElem?_cons_succ]
  go_wp2_with fail
  (with_reducible refine (unhide HA).mono ?_)
  rintro e w8 ⟨rfl, vq', hM8, ho8, hf8⟩
  have HM8 := hide hM8
  have HO8 := hide ho8
  have HF8 := hide hf8
  clear HA hM8 ho8 hf8
  go_wp2_with fail
  refine ⟨.inr trivial, wpTree_fin ?_⟩
  go_wp2_with fail
  go_end0
  have hs4 := HO4.out.size
  refine HM8.out.toIs (A := b :: F) (fun k hk => ?_) (HO4.out.own HO8.out fun k hk => ?_) (fun k hk => hk) rfl
  · rcases hk with h | h | h
    · exact .inl (HF.out k (.inl h))
    · exact (HF8.out k h).imp (fun h9 => HF.out k (.inr (.inl h9))) (fun h9 => Nat.le_trans hs4 h9)
    · exact .inr (HALL.out k h)
  · rcases List.mem_cons.1 hk with rfl | hk
    · exact .inl (List.mem_cons_self ..)
    · exact .inl (List.mem_cons_of_mem _ (HF.out k (.inr (.inl hk))))
end Go.Proofs.YtkccjfgkbkodiaaGreat
