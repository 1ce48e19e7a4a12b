/-
  SesF: parts of the walk of TopTight, under no condition.
-/
import Derived.Test.YtkccjfgkbkodiaaGreatZ26
namespace Go.Proofs.YtkccjfgkbkodiaaGreat
open Go.RowKit
set_option maxRecDepth 100000 in
set_option maxHeartbeats 4000000 in
theorem once_end {w : World} {b d sg N : Nat} {F : List Nat} {x : Ses} {m : Pip} (h : SesIs w b F d sg x) (ht : x.told = true) (hi : x.inb = []) (hp : x.p = some m) (hk : m.Ok d N) (hd : d ≤ 100) (hN : N ≤ 3900) (hout : (m.endd d).2.1.length ≤ 50000) (hsz : x.outL.flatten.length ≤ 800000) :
    Calls Tryz.prog 67 #[.pointer (some ⟨b, 0, none⟩)] w (OncePost w b F d sg fun x' => x' = ({ x with p := some (m.endd d).1, outL := addL x.outL (m.endd d).2.1 } : Ses).fin (m.endd d).2.2 true) := by
  obtain ⟨rp, Fr, vq, pv, Fp, hM, hF⟩ := h
  have hP := hM.pip
  rw [hp] at hP
  obtain ⟨q, G, rfl, hPI, rfl⟩ := hP
  obtain ⟨r, hr⟩ : ∃ r, r = m.endd d := ⟨_, rfl⟩
  have HE := fun (W : World) (hW : PipIs W q G d m) => hide (pip_end hW hk hd hN)
  rw [← hr] at hout ⊢
  have c0 := hM.cells.1
  have HT := hide (ring_take_kt Fr rp 64 x.inb 1 w hM.ring 0 (by rw [hi]; rfl))
  have HM := hide hM
  have HF := hide hF
  have HPI := hide hPI
  have HTD := hide ht
  have HSZ := hide hsz
  have HOUT := hide hout
  have HR := hide hr
  clear hM hF hi ht hsz hp hPI hk hd hN hout hr
  go_enter Tryz.func67, Tryz.ntmps67
  go_wp2_with fail
  (with_reducible refine (unhide HT).mono ?_)
  rintro e w1 ⟨rfl, hr1, ho1⟩
  have hM1 := HM.out.ringed hr1 ho1
  rw [show ({ x with inb := x.inb.drop 0 } : Ses) = x by simp] at hM1
  have d9 := hM1.cells.2.2.1
  have d10 := hM1.cells.2.2.2.1
  rw [HTD.out] at d9
  have HE1 := HE w1 (HPI.out.keep ho1 (fun hm => HM.out.rp' _ hm (List.mem_cons_self ..)) (fun k hk hm => HM.out.rp' k hm (List.mem_cons_of_mem _ hk)))
  have HM1 := hide hM1
  have HO1 := hide (ho1.mono (T := b :: F) fun k hk => List.mem_cons_of_mem _ (HF.out k (.inl hk)))
  rw [show x.inb.take 0 = [] from rfl]
  clear HT HE hr1 ho1 hM1
  go_wp2_with fail
  (with_reducible refine (unhide HE1).mono ?_)
  rintro e w2 ⟨r', F', hq, rfl, hp2, ho2, hf2⟩
  rw [← HR.out] at hq
  subst hq
  obtain ⟨G', hM2, hg⟩ := HM1.out.piped hp2 ho2 hf2
  have HA := hide (ses_add hM2 r'.2.1 (by have := HSZ.out; have := HOUT.out; show x.outL.flatten.length + _ ≤ _; omega))
  have HO2 := hide (HO1.out.own ho2 fun k hk => .inl (List.mem_cons_of_mem _ (HF.out k (.inr (.inr hk)))))
  clear HE1 hp2 ho2 hf2 hM2 hg HO1
  go_wp2_with fail
  (with_reducible refine (unhide HA).mono ?_)
  rintro e w3 ⟨rfl, vq', hM3, ho3, hf3⟩
  have HE3 := hide (ses_end hM3 r'.2.2 true (by have := HSZ.out; have := HOUT.out; show (addL x.outL r'.2.1).flatten.length ≤ _; rw [addL_flat, List.length_append]; omega))
  have HO3 := hide (HO2.out.own ho3 fun k hk => .inl (by
    rcases List.mem_cons.1 hk with rfl | hk
    · exact List.mem_cons_self ..
    · exact List.mem_cons_of_mem _ (HF.out k (.inr (.inl hk)))))
  have HS2 := HO2.out.size
  have HV := hide (show ∀ k ∈ slB vq', k ∈ F ∨ w.heap.size ≤ k from fun k hk => (hf3 k hk).imp (fun h9 => HF.out k (.inr (.inl h9))) (fun h9 => Nat.le_trans HS2 h9))
  have HS3 := hide HO3.out.size
  clear HA ho3 hf3 hM3 HO2 HS2
  go_wp2_with fail
  (with_reducible refine (unhide HE3).mono ?_)
  rintro e w4 ⟨rfl, vq2, hM4, ho4, hf4⟩
  have HM4 := hide hM4
  have HO4 := hide ho4
  have HF4 := hide hf4
  clear HE3 hM4 ho4 hf4
  go_wp2_with fail
  go_end0
  refine HM4.out.toIs (A := b :: F) (fun k hk => ?_) (HO3.out.own HO4.out fun k hk => ?_) (fun k hk => hk) rfl
  · rcases hk with h | h | h
    · exact .inl (HF.out k (.inl h))
    · exact (HF4.out k h).elim (HV.out k) (fun h9 => .inr (Nat.le_trans HS3.out h9))
    · cases h
  · rcases List.mem_cons.1 hk with rfl | hk
    · exact .inl (List.mem_cons_self ..)
    · rcases List.mem_append.1 hk with hk | hk
      · exact .inl (List.mem_cons_of_mem _ (HF.out k (.inl hk)))
      · exact (HV.out k hk).imp_left (List.mem_cons_of_mem _)
set_option maxRecDepth 100000 in
set_option maxHeartbeats 4000000 in
theorem once_step {w : World} {b d sg N : Nat} {F : List Nat} {x : Ses} {m : Pip} {u : UInt8} {l : List UInt8} (h : SesIs w b F d sg x) (ht : x.told = true) (hi : x.inb = u :: l) (hp : x.p = some m) (hk : m.Ok d N) (hd : d ≤ 100) (hN : N ≤ 3900) (hout : ∀ r, m.did d u r → r.2.1.length ≤ 50000) (hsz : x.outL.flatten.length ≤ 800000) :
    Calls Tryz.prog 67 #[.pointer (some ⟨b, 0, none⟩)] w (OncePost w b F d sg fun x' => ∃ r, m.did d u r ∧ x' = if r.2.2 = 0 then { x with inb := l, p := some r.1, outL := addL x.outL r.2.1 } else ({ x with inb := l, p := some r.1, outL := addL x.outL r.2.1 } : Ses).fin r.2.2 true) := by
  obtain ⟨rp, Fr, vq, pv, Fp, hM, hF⟩ := h
  have hP := hM.pip
  rw [hp] at hP
  obtain ⟨q, G, rfl, hPI, rfl⟩ := hP
  have HE := fun (W : World) (hW : PipIs W q G d m) => hide (pip_step hW hk hd hN u)
  have c0 := hM.cells.1
  have HT := hide (ring_take_kt Fr rp 64 x.inb 1 w hM.ring 1 (by rw [hi]; simp; omega))
  rw [hi] at HT
  have HM := hide hM
  have HF := hide hF
  have HPI := hide hPI
  have HTD := hide ht
  have HSZ := hide hsz
  have HOUT := hide hout
  clear hM hF hi ht hsz hp hPI hk hd hN hout
  go_enter Tryz.func67, Tryz.ntmps67
  go_wp2_with fail
  (with_reducible refine (unhide HT).mono ?_)
  rintro e w1 ⟨rfl, hr1, ho1⟩
  have hM1 := HM.out.ringed hr1 ho1
  rw [show ({ x with inb := (u :: l).drop 1 } : Ses) = { x with inb := l } from rfl] at hM1
  have d9 : w1.cell? ⟨b, 9, none⟩ = some (.bool x.told) := hM1.cells.2.2.1
  have d10 := hM1.cells.2.2.2.1
  rw [HTD.out] at d9
  have HE1 := HE w1.drew (((HPI.out.keep ho1 (fun hm => HM.out.rp' _ hm (List.mem_cons_self ..)) (fun k hk hm => HM.out.rp' k hm (List.mem_cons_of_mem _ hk)))).keep ((Only.refl [] w1).drew) (by simp) (by simp))
  have HM1 := hide (hM1.new ((Only.refl [] w1).drew))
  have HO1 := hide ((ho1.mono (T := b :: F) fun k hk => List.mem_cons_of_mem _ (HF.out k (.inl hk))).drew)
  rw [show (u :: l).take 1 = [u] from rfl]
  clear HT HE hr1 ho1 hM1
  go_upto_region 16 with (fail)
  refine wp_region_tree (fun W => W.cell? ⟨b, 10, none⟩ = some (.pointer (some ⟨q, 0, none⟩))) 12 (.take [0, 1, 2, 3, 4, 5] (.step 6 (.take [7, 8, 9] (.step 10 (.step 11 (.fin)))))) (by kernel_rfl) (by kernel_rfl) (by intro _ _ _ _ _ h; exact h) ?_
  refine wpTree_take (d10) ?_
  simp only [opsAt, List.getElem?_cons_zero, List.getElem?_cons_succ]
  iterate 6 (first | (refine wpPureH_step (v := ?_) rfl (fun W hS => ?_) ?_; rotate_left; · (obtain s1 := hS; (try simp only [Act.put, List.setIfInBounds_toArray, List.set_cons_zero, List.set_cons_succ]); go_simp; with_reducible rfl)) | (refine wpPureH_want (v := ?_) (by rfl) (fun W hS => ?_) ?_; rotate_left; · (obtain s1 := hS; (try simp only [Act.put, List.setIfInBounds_toArray, List.set_cons_zero, List.set_cons_succ]); go_simp; with_reducible rfl)))
  refine wpPureH_nil ?_
  simp only [Act.put, List.setIfInBounds_toArray, List.set_cons_zero, List.set_cons_succ]
  refine wpTree_step ?_
  simp only [opsAt, List.getElem?_cons_zero, List.getElem?_cons_succ]
  go_wp2_with fail
  refine Calls.mono (show Calls Tryz.prog 85 #[.pointer (some ⟨q, 0, none⟩), .int .u8 ((([u] : List UInt8)[0]'(Nat.zero_lt_one)).toNat : Int)] w1.drew _ from unhide HE1) ?_
  rintro e w2 ⟨r, F', hdid, rfl, hp2, ho2, hf2⟩
  obtain ⟨G', hM2, hg⟩ := HM1.out.piped hp2 ho2 hf2
  have e10 : w2.cell? ⟨b, 10, none⟩ = some (.pointer (some ⟨q, 0, none⟩)) := hM2.cells.2.2.2.1
  have hol := HOUT.out r hdid
  have HA := hide (ses_add hM2 r.2.1 (by have := HSZ.out; show x.outL.flatten.length + _ ≤ _; omega))
  have HO2 := hide (HO1.out.own ho2 fun k hk => .inl (List.mem_cons_of_mem _ (HF.out k (.inr (.inr hk)))))
  have HS1 := HO1.out.size
  have HG := hide (show ∀ k ∈ q :: G', k ∈ F ∨ w.heap.size ≤ k from fun k hk => (hg k hk).imp (fun h9 => HF.out k (.inr (.inr h9))) (fun h9 => Nat.le_trans HS1 h9))
  have HD := hide hdid
  have HOL := hide hol
  clear HE1 hp2 ho2 hf2 hM2 hg HO1 HS1 hdid hol HOUT
  go_wp2_with fail
  refine ⟨.inr e10, ?_⟩
  refine wpTree_take (e10) ?_
  simp only [opsAt, List.getElem?_cons_zero, List.getElem?_cons_succ]
  iterate 3 (first | (refine wpPureH_step (v := ?_) rfl (fun W hS => ?_) ?_; rotate_left; · (obtain s1 := hS; (try simp only [Act.put, List.setIfInBounds_toArray, List.set_cons_zero, List.set_cons_succ]); go_simp; with_reducible rfl)) | (refine wpPureH_want (v := ?_) (by rfl) (fun W hS => ?_) ?_; rotate_left; · (obtain s1 := hS; (try simp only [Act.put, List.setIfInBounds_toArray, List.set_cons_zero, List.set_cons_succ]); go_simp; with_reducible rfl)))
  refine wpPureH_nil ?_
  simp only [Act.put, List.setIfInBounds_toArray, List.set_cons_zero, List.set_cons_succ]
  refine wpTree_step ?_
  simp only [opsAt, List.getElem?_cons_zero, List.getElem?_cons_succ]
  go_wp2_with fail
  refine ⟨.inr e10, ?_⟩
  refine wpTree_step ?_
  simp only [opsAt, List.getElem?_cons_zero, List.getElem?_cons_succ]
  go_wp2_with fail
  refine ⟨.inr e10, wpTree_fin ?_⟩
  go_wp2_with fail
  (with_reducible refine (unhide HA).mono ?_)
  rintro e w3 ⟨rfl, vq', hM3, ho3, hf3⟩
  have HE3 := hide (ses_end hM3 r.2.2 true (by have := HSZ.out; have := HOL.out; show (addL x.outL r.2.1).flatten.length ≤ _; rw [addL_flat, List.length_append]; omega))
  have HO3 := hide (HO2.out.own ho3 fun k hk => .inl (by
    rcases List.mem_cons.1 hk with rfl | hk
    · exact List.mem_cons_self ..
    · exact List.mem_cons_of_mem _ (HF.out k (.inr (.inl hk)))))
  have HS2 := HO2.out.size
  have HV := hide (show ∀ k ∈ slB vq', k ∈ F ∨ w.heap.size ≤ k from fun k hk => (hf3 k hk).imp (fun h9 => HF.out k (.inr (.inl h9))) (fun h9 => Nat.le_trans HS2 h9))
  have HM3 := hide hM3
  have HS3 := hide HO3.out.size
  clear HA ho3 hf3 hM3 HO2 HS2
  by_cases h0 : r.2.2 = 0
  · rw [h0]
    go_wp2_with fail
    go_end0
    refine HM3.out.toIs (A := b :: F) (fun k hk => ?_) HO3.out (fun k hk => hk) ⟨r, HD.out, by rw [if_pos h0]⟩
    rcases hk with h | h | h
    · exact .inl (HF.out k (.inl h))
    · exact HV.out k h
    · exact HG.out k h
  · have h0' : (r.2.2 != 0) = true := by simpa using h0
    have H0 := hide h0
    clear h0
    go_wp2_with fail
    (with_reducible refine (unhide HE3).mono ?_)
    rintro e w4 ⟨rfl, vq2, hM4, ho4, hf4⟩
    have HM4 := hide hM4
    have HO4 := hide ho4
    have HF4 := hide hf4
    clear HE3 hM4 ho4 hf4
    go_wp2_with fail
    go_end0
    refine HM4.out.toIs (A := b :: F) (fun k hk => ?_) (HO3.out.own HO4.out fun k hk => ?_) (fun k hk => hk) ⟨r, HD.out, by rw [if_neg H0.out]⟩
    · rcases hk with h | h | h
      · exact .inl (HF.out k (.inl h))
      · exact (HF4.out k h).elim (HV.out k) (fun h9 => .inr (Nat.le_trans HS3.out h9))
      · cases h
    · rcases List.mem_cons.1 hk with rfl | hk
      · exact .inl (List.mem_cons_self ..)
      · rcases List.mem_append.1 hk with hk | hk
        · exact .inl (List.mem_cons_of_mem _ (HF.out k (.inl hk)))
        · exact (HV.out k hk).imp_left (List.mem_cons_of_mem _)
end Go.Proofs.YtkccjfgkbkodiaaGreat
