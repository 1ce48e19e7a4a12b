/-
  SesC · SesD · SesE: parts of the walk of TopTight, under no condition.
-/
import Derived.Test.YtkccjfgkbkodiaaGreatZ25
namespace Go.Proofs.YtkccjfgkbkodiaaGreat
open Go.RowKit
def Ses.heldBy (x : Ses) (h : Nat) : Prop := match x.p with
  | none => h = 0
  | some m => m.heldBy h
def Ses.chargeBy (x : Ses) (n : Nat) : Prop := if x.ended then n = x.inb.length + x.outL.flatten.length else ∃ h, x.heldBy h ∧ n = x.inb.length + x.outL.flatten.length + h + 2
theorem pip_heldBy_le {m : Pip} {d N : Nat} (hk : m.Ok d N) (hd : d ≤ 100) {h : Nat} (hh : m.heldBy h) : h ≤ 2300 := by
  unfold Pip.heldBy at hh
  split at hh
  · omega
  · obtain ⟨a, h1, rfl⟩ := hh
    have h2 := hk.stg.ok.le
    have h3 := hk.stg.ok.lim
    have h4 := hk.par.deep
    unfold Par.heldBy at h1
    split at h1
    · omega
    · obtain ⟨k, h5, _, rfl⟩ := h1
      omega
set_option maxRecDepth 100000 in
set_option maxHeartbeats 4000000 in
set_option linter.unusedSimpArgs false in
theorem ses_charge {w : World} {b d sg N : Nat} {F : List Nat} {x : Ses} (h : SesIs w b F d sg x) (hok : ∀ m, x.p = some m → m.Ok d N) (hd : d ≤ 100) (hsz : x.outL.flatten.length ≤ 900000) :
    Calls Tryz.prog 59 #[.pointer (some ⟨b, 0, none⟩)] w fun e w' => (∃ n : Nat, e = .returned (.int .i64 n) ∧ x.chargeBy n) ∧ Only [] w w' := by
  obtain ⟨rp, Fr, vq, pv, Fp, hM, hF⟩ := h
  obtain ⟨c0, c3, c9, c10, c11, c12, c13⟩ := hM.cells
  obtain ⟨n, hn⟩ : ∃ n, n = x.outL.flatten.length := ⟨_, rfl⟩
  obtain ⟨m, hm⟩ : ∃ m, m = x.inb.length := ⟨_, rfl⟩
  have hm64 : (m : Int) ≤ 64 := by have := ring_len hM.ring; omega
  have hn9 : (n : Int) ≤ 900000 := by omega
  have hMd := hM.new ((Only.refl [] w).drew)
  have HR := hide (ring_len_any Fr rp 64 x.inb _ hMd.ring)
  have HQ := hide (qs_len hMd.que (n : Int) (by rw [hn]))
  rw [← hm] at HR
  have HN := hide (And.intro hn hm)
  have HM := hide hMd
  clear hM hMd hn hm hsz c3 c9 c11 c13 hF
  cases he : x.ended with
  | true =>
    rw [he] at c12
    go_enter Tryz.func59, Tryz.ntmps59
    go_upto_region 3 with (fail)
    refine wp_region_tree (fun W => W.cell? ⟨b, 0, none⟩ = some (.pointer (some ⟨rp, 0, none⟩))) 11 (.take [0, 1, 2, 3, 5, 6, 7] (.step 4 (.step 8 (.step 9 (.step 10 (.fin)))))) (by kernel_rfl) (by kernel_rfl) (by intro _ _ _ _ _ h; exact h) ?_
    refine wpTree_take (c0) ?_
    simp only [opsAt, List.getElem?_cons_zero, List.getElem?_cons_succ]
    iterate 7 (first | (refine wpPureH_step (v := ?_) rfl (fun W hS => ?_) ?_; rotate_left; · (obtain s1 := hS; (try simp only [Act.put, List.setIfInBounds_toArray, List.set_cons_zero, List.set_cons_succ]); go_simp; with_reducible rfl)) | (refine wpPureH_want (v := ?_) (by rfl) (fun W hS => ?_) ?_; rotate_left; · (obtain s1 := hS; (try simp only [Act.put, List.setIfInBounds_toArray, List.set_cons_zero, List.set_cons_succ]); go_simp; with_reducible rfl)))
    refine wpPureH_nil ?_
    simp only [Act.put, List.setIfInBounds_toArray, List.set_cons_zero, List.set_cons_succ]
    refine wpTree_step ?_
    simp only [opsAt, List.getElem?_cons_zero, List.getElem?_cons_succ]
    go_wp2_with fail
    (with_reducible refine (unhide HR).mono ?_)
    rintro e w1 ⟨rfl, hw1⟩
    subst hw1
    go_wp2_with fail
    refine ⟨.inr c0, ?_⟩
    refine wpTree_step ?_
    simp only [opsAt, List.getElem?_cons_zero, List.getElem?_cons_succ]
    go_wp2_with fail
    (with_reducible refine (unhide HQ).mono ?_)
    rintro e w1 ⟨rfl, hw1⟩
    subst hw1
    go_wp2_with fail
    refine ⟨.inr c0, ?_⟩
    refine wpTree_step ?_
    simp only [opsAt, List.getElem?_cons_zero, List.getElem?_cons_succ]
    go_wp2_with fail
    refine ⟨.inr c0, ?_⟩
    refine wpTree_step ?_
    simp only [opsAt, List.getElem?_cons_zero, List.getElem?_cons_succ]
    go_wp2_with fail
    refine ⟨.inr c0, wpTree_fin ?_⟩
    go_wp2_with fail
    go_ret
    refine ⟨⟨m + n, by simp, ?_⟩, (Only.refl _ _).drew⟩
    unfold Ses.chargeBy
    rw [if_pos he, HN.out.1, HN.out.2]
  | false =>
    rw [he] at c12
    have hp := HM.out.pip
    cases hxp : x.p with
    | none =>
      rw [hxp] at hp
      obtain ⟨rfl, _⟩ := hp
      have HXP := hide hxp
      clear hxp hok
      go_enter Tryz.func59, Tryz.ntmps59
      go_upto_region 3 with (fail)
      refine wp_region_tree (fun W => W.cell? ⟨b, 0, none⟩ = some (.pointer (some ⟨rp, 0, none⟩))) 11 (.take [0, 1, 2, 3, 5, 6, 7] (.step 4 (.step 8 (.step 9 (.step 10 (.fin)))))) (by kernel_rfl) (by kernel_rfl) (by intro _ _ _ _ _ h; exact h) ?_
      refine wpTree_take (c0) ?_
      simp only [opsAt, List.getElem?_cons_zero, List.getElem?_cons_succ]
      iterate 7 (first | (refine wpPureH_step (v := ?_) rfl (fun W hS => ?_) ?_; rotate_left; · (obtain s1 := hS; (try simp only [Act.put, List.setIfInBounds_toArray, List.set_cons_zero, List.set_cons_succ]); go_simp; with_reducible rfl)) | (refine wpPureH_want (v := ?_) (by rfl) (fun W hS => ?_) ?_; rotate_left; · (obtain s1 := hS; (try simp only [Act.put, List.setIfInBounds_toArray, List.set_cons_zero, List.set_cons_succ]); go_simp; with_reducible rfl)))
      refine wpPureH_nil ?_
      simp only [Act.put, List.setIfInBounds_toArray, List.set_cons_zero, List.set_cons_succ]
      refine wpTree_step ?_
      simp only [opsAt, List.getElem?_cons_zero, List.getElem?_cons_succ]
      go_wp2_with fail
      (with_reducible refine (unhide HR).mono ?_)
      rintro e w1 ⟨rfl, hw1⟩
      subst hw1
      go_wp2_with fail
      refine ⟨.inr c0, ?_⟩
      refine wpTree_step ?_
      simp only [opsAt, List.getElem?_cons_zero, List.getElem?_cons_succ]
      go_wp2_with fail
      (with_reducible refine (unhide HQ).mono ?_)
      rintro e w1 ⟨rfl, hw1⟩
      subst hw1
      go_wp2_with fail
      refine ⟨.inr c0, ?_⟩
      refine wpTree_step ?_
      simp only [opsAt, List.getElem?_cons_zero, List.getElem?_cons_succ]
      go_wp2_with fail
      refine ⟨.inr c0, ?_⟩
      refine wpTree_step ?_
      simp only [opsAt, List.getElem?_cons_zero, List.getElem?_cons_succ]
      go_wp2_with fail
      refine ⟨.inr c0, wpTree_fin ?_⟩
      go_wp2_with fail
      go_ret
      refine ⟨⟨m + n + 0 + 2, by simp, ?_⟩, (Only.refl _ _).drew⟩
      unfold Ses.chargeBy
      rw [if_neg (by simp [he])]
      refine ⟨0, ?_, by rw [HN.out.1, HN.out.2]⟩
      unfold Ses.heldBy
      rw [HXP.out]
    | some mm =>
      rw [hxp] at hp
      obtain ⟨q, G, rfl, hpi, hG⟩ := hp
      have hk := hok mm hxp
      have HP := hide (pip_held hpi hk hd)
      have HLE := hide (fun (h : Nat) (hh : mm.heldBy h) => pip_heldBy_le hk hd hh)
      have HXP := hide hxp
      clear hxp hok hpi hG hk
      go_enter Tryz.func59, Tryz.ntmps59
      go_upto_region 3 with (fail)
      refine wp_region_tree (fun W => W.cell? ⟨b, 0, none⟩ = some (.pointer (some ⟨rp, 0, none⟩))) 11 (.take [0, 1, 2, 3, 5, 6, 7] (.step 4 (.step 8 (.step 9 (.step 10 (.fin)))))) (by kernel_rfl) (by kernel_rfl) (by intro _ _ _ _ _ h; exact h) ?_
      refine wpTree_take (c0) ?_
      simp only [opsAt, List.getElem?_cons_zero, List.getElem?_cons_succ]
      iterate 7 (first | (refine wpPureH_step (v := ?_) rfl (fun W hS => ?_) ?_; rotate_left; · (obtain s1 := hS; (try simp only [Act.put, List.setIfInBounds_toArray, List.set_cons_zero, List.set_cons_succ]); go_simp; with_reducible rfl)) | (refine wpPureH_want (v := ?_) (by rfl) (fun W hS => ?_) ?_; rotate_left; · (obtain s1 := hS; (try simp only [Act.put, List.setIfInBounds_toArray, List.set_cons_zero, List.set_cons_succ]); go_simp; with_reducible rfl)))
      refine wpPureH_nil ?_
      simp only [Act.put, List.setIfInBounds_toArray, List.set_cons_zero, List.set_cons_succ]
      refine wpTree_step ?_
      simp only [opsAt, List.getElem?_cons_zero, List.getElem?_cons_succ]
      go_wp2_with fail
      (with_reducible refine (unhide HR).mono ?_)
      rintro e w1 ⟨rfl, hw1⟩
      subst hw1
      go_wp2_with fail
      refine ⟨.inr c0, ?_⟩
      refine wpTree_step ?_
      simp only [opsAt, List.getElem?_cons_zero, List.getElem?_cons_succ]
      go_wp2_with fail
      (with_reducible refine (unhide HQ).mono ?_)
      rintro e w1 ⟨rfl, hw1⟩
      subst hw1
      go_wp2_with fail
      refine ⟨.inr c0, ?_⟩
      refine wpTree_step ?_
      simp only [opsAt, List.getElem?_cons_zero, List.getElem?_cons_succ]
      go_wp2_with fail
      refine ⟨.inr c0, ?_⟩
      refine wpTree_step ?_
      simp only [opsAt, List.getElem?_cons_zero, List.getElem?_cons_succ]
      go_wp2_with fail
      refine ⟨.inr c0, wpTree_fin ?_⟩
      go_wp2_with fail
      (with_reducible refine (unhide HP).mono ?_)
      rintro e w2 ⟨⟨h, rfl, hh⟩, ho2⟩
      have h23 : (h : Int) ≤ 2300 := by have := HLE.out h hh; omega
      have HH := hide hh
      have HO := hide ho2
      clear HP hh ho2
      go_wp2_with fail
      go_ret
      refine ⟨⟨m + n + h + 2, by simp, ?_⟩, ((Only.refl [] w).drew).trans HO.out⟩
      unfold Ses.chargeBy
      rw [if_neg (by simp [he])]
      refine ⟨h, ?_, by rw [HN.out.1, HN.out.2]⟩
      unfold Ses.heldBy
      rw [HXP.out]
      exact HH.out
set_option maxRecDepth 100000 in
set_option maxHeartbeats 2000000 in
theorem ses_closed {w : World} {b d sg : Nat} {F : List Nat} {x : Ses} (h : SesIs w b F d sg x) :
    Calls Tryz.prog 46 #[.pointer (some ⟨b, 0, none⟩)] w fun e w' => e = .returned (.bool (x.ended && decide (x.outL.flatten.length = 0))) ∧ w' = w := by
  obtain ⟨rp, Fr, vq, pv, Fp, hM, hF⟩ := h
  obtain ⟨c0, c3, c9, c10, c11, c12, c13⟩ := hM.cells
  obtain ⟨n, hn⟩ : ∃ n, n = x.outL.flatten.length := ⟨_, rfl⟩
  have HQ := hide (qs_len hM.que (n : Int) (by rw [hn]))
  rw [← hn]
  have e0 : decide (n = 0) = ((n : Int) == 0) := by rw [Bool.eq_iff_iff]; simp
  rw [e0]
  clear hM hF hn e0
  cases he : x.ended with
  | true =>
    rw [he] at c12
    go_enter Tryz.func46, Tryz.ntmps46
    go_wp2_with fail
    (with_reducible refine (unhide HQ).mono ?_)
    rintro e w ⟨rfl, hw⟩
    subst hw
    go_wp2_with fail
    go_ret
    exact ⟨by simp, rfl⟩
  | false =>
    rw [he] at c12
    go_enter Tryz.func46, Tryz.ntmps46
    go_wp2_with fail
    go_ret
    exact ⟨rfl, rfl⟩
set_option maxRecDepth 100000 in
set_option maxHeartbeats 2000000 in
theorem ses_half {w : World} {b d sg : Nat} {F : List Nat} {x : Ses} (h : SesIs w b F d sg x) (h1 : x.half = false) (h2 : x.ended = false) :
    Calls Tryz.prog 51 #[.pointer (some ⟨b, 0, none⟩)] w fun e w' => e = .returned (.bool true) ∧ SesIs w' b F d sg { x with half := true } ∧ Only [b] w w' := by
  obtain ⟨rp, Fr, vq, pv, Fp, hM, hF⟩ := h
  obtain ⟨c0, c3, c9, c10, c11, c12, c13⟩ := hM.cells
  have k11 := hM.blk.frozen 11
  rw [h1] at c11
  rw [h2] at c12
  have HM := hide hM
  have HF := hide hF
  clear hM hF h1 h2
  go_enter Tryz.func51, Tryz.ntmps51
  go_wp2_with fail
  go_ret
  exact ⟨rfl, ⟨rp, Fr, vq, pv, Fp, HM.out.setflat (x' := { x with half := true }) (i := 11) rfl rfl rfl rfl, HF.out⟩, (Only.refl _ _).setCell (p := ⟨b, 11, none⟩) (by simp) _⟩
set_option maxRecDepth 100000 in
set_option maxHeartbeats 2000000 in
theorem ses_write {w : World} {b d sg : Nat} {F : List Nat} {x : Ses} (h : SesIs w b F d sg x) (ni : Int) (k : Nat) (hk : (k : Int) = max (min ni x.outL.flatten.length) 0) (hsz : x.outL.flatten.length ≤ 900000) :
    Calls Tryz.prog 45 #[.pointer (some ⟨b, 0, none⟩), .int .i64 ni] w fun e w' => e = .returned (.string (S (x.outL.flatten.take k))) ∧ SesIs w' b F d sg { x with outL := dropQ k x.outL } ∧ Only (b :: F) w w' := by
  obtain ⟨rp, Fr, vq, pv, Fp, hM, hF⟩ := h
  have HT := hide (qs_take hM.que ni k hk (by omega))
  have HM := hide hM
  have HF := hide hF
  clear hM hF hk hsz
  go_enter Tryz.func45, Tryz.ntmps45
  go_wp2_with fail
  (with_reducible refine (unhide HT).mono ?_)
  rintro e w2 ⟨rfl, vq', hq, ho, hf⟩
  have hM2 := HM.out.queued hq ho (fun k hk => .inl (hf k hk))
  have HM2 := hide hM2
  have HO := hide ho
  have HFF := hide hf
  clear HT hq ho hf hM2
  go_wp2_with fail
  go_ret
  refine ⟨rfl, ⟨rp, Fr, vq', pv, Fp, HM2.out, fun k hk => ?_⟩, HO.out.mono fun k hk => ?_⟩
  · rcases hk with h | h | h
    · exact HF.out k (.inl h)
    · exact HF.out k (.inr (.inl (HFF.out k h)))
    · exact HF.out k (.inr (.inr h))
  · rcases List.mem_cons.1 hk with rfl | hk
    · exact List.mem_cons_self ..
    · exact List.mem_cons_of_mem _ (HF.out k (.inr (.inl hk)))
set_option maxRecDepth 100000 in
set_option maxHeartbeats 2000000 in
theorem ses_stop {w : World} {b d sg : Nat} {F : List Nat} {x : Ses} (h : SesIs w b F d sg x) (er : Int) (h2 : x.ended = false) (hsz : x.outL.flatten.length ≤ 900000) :
    Calls Tryz.prog 50 #[.pointer (some ⟨b, 0, none⟩), .int .i64 er] w fun e w' => e = .returned (.bool true) ∧ ∃ F', SesIs w' b F' d sg (x.fin er x.told) ∧ Only (b :: F) w w' ∧ ∀ k ∈ F', k ∈ F ∨ w.heap.size ≤ k := by
  obtain ⟨rp, Fr, vq, pv, Fp, hM, hF⟩ := h
  obtain ⟨c0, c3, c9, c10, c11, c12, c13⟩ := hM.cells
  rw [h2] at c12
  have HE := hide (ses_end hM er x.told hsz)
  have HF := hide hF
  clear hM hF h2 hsz
  go_enter Tryz.func50, Tryz.ntmps50
  go_wp2_with fail
  (with_reducible refine (unhide HE).mono ?_)
  rintro e w2 ⟨rfl, vq', hM2, ho2, hf2⟩
  have HM2 := hide hM2
  have HO := hide ho2
  have HFF := hide hf2
  clear HE hM2 ho2 hf2
  go_wp2_with fail
  go_ret
  refine ⟨rfl, Fr ++ slB vq', ⟨rp, Fr, vq', _, [], HM2.out, fun k hk => ?_⟩, HO.out.mono fun k hk => ?_, fun k hk => ?_⟩
  · rcases hk with h | h | h
    · exact List.mem_append_left _ h
    · exact List.mem_append_right _ h
    · cases h
  · rcases List.mem_cons.1 hk with rfl | hk
    · exact List.mem_cons_self ..
    · rcases List.mem_append.1 hk with hk | hk
      · exact List.mem_cons_of_mem _ (HF.out k (.inl hk))
      · exact List.mem_cons_of_mem _ (HF.out k (.inr (.inl hk)))
  · rcases List.mem_append.1 hk with hk | hk
    · exact .inl (HF.out k (.inl hk))
    · exact (HFF.out k hk).imp_left (fun h9 => HF.out k (.inr (.inl h9)))
end Go.Proofs.YtkccjfgkbkodiaaGreat
namespace Go.Proofs.YtkccjfgkbkodiaaGreat
open Go.RowKit
def Ses.new : Ses := ⟨[], [], [], false, none, false, false, 0⟩
set_option maxRecDepth 100000 in
set_option maxHeartbeats 2000000 in
theorem ses_new (w : World) (d sg : Nat) :
    Calls Tryz.prog 26 #[] w fun e w' => ∃ b F, e = .returned (.pointer (some ⟨b, 0, none⟩)) ∧ SesIs w' b F d sg Ses.new ∧ Only [] w w' ∧ w.heap.size ≤ b ∧ (∀ k ∈ F, w.heap.size ≤ k) ∧ b ∉ F := by
  have HR := hide (ring_new_any 64 w)
  rw [show (min (max (64 : Int) 0) 10000).toNat = 64 from rfl] at HR
  go_enter Tryz.func26, Tryz.ntmps26
  go_wp2_with fail
  (with_reducible refine (unhide HR).mono ?_)
  rintro e w1 ⟨rfl, hr, ho⟩
  have hs := ho.size
  obtain ⟨G, hg, hgs, hgt⟩ := ring_small hr
  have hlt : ∀ k ∈ G, k < w1.heap.size := fun k hk => by
    obtain ⟨t, cs, _, hb⟩ := hgt k hk
    exact hb.lt
  have HRR := hide hg
  have HGS := hide hgs
  have HLT := hide hlt
  have HO := hide ho
  clear HR hr ho hg hgs hgt hlt
  go_wp2_with fail
  go_ret
  refine ⟨w1.heap.size, G, rfl, ⟨w.heap.size + 1, G, .slice none 0 0, .pointer none, [], ⟨Blk.new _ _ _, ring_keep HRR.out ((Only.refl [] w1).alloc _) (by simp), Sl.nil _ _ _, by simp [Ses.new], ⟨rfl, rfl⟩, fun k hk => Nat.lt_of_lt_of_le (HLT.out k hk) (by simp), by simp, fun hm => Nat.lt_irrefl _ (HLT.out _ hm), by simp, by simp [slB], by simp, by simp [slB]⟩, fun k hk => ?_⟩, HO.out.alloc _, HO.out.size, fun k hk => ?_, fun hm => Nat.lt_irrefl _ (HLT.out _ hm)⟩
  · rcases hk with h | h | h
    · exact h
    · simp [slB] at h
    · cases h
  · have := HGS.out k hk
    simp at this
    omega
set_option maxRecDepth 100000 in
set_option maxHeartbeats 4000000 in
set_option linter.unusedSimpArgs false in
theorem ses_feed {w : World} {b d sg : Nat} {F : List Nat} {x : Ses} (h : SesIs w b F d sg x) (l : List UInt8) (room : Int) (hl : l.length ≤ 1000000) (k : Nat) (hk : k = if x.half = true ∨ x.ended = true then 0 else min (min l.length (max room 0).toNat) (64 - x.inb.length)) :
    Calls Tryz.prog 33 #[.pointer (some ⟨b, 0, none⟩), .string (S l), .int .i64 room] w fun e w' => e = .returned (.int .i64 k) ∧ SesIs w' b F d sg { x with inb := x.inb ++ l.take k } ∧ Only F w w' := by
  obtain ⟨rp, Fr, vq, pv, Fp, hM, hF⟩ := h
  obtain ⟨c0, c3, c9, c10, c11, c12, c13⟩ := hM.cells
  have HM := hide hM
  have HF := hide hF
  obtain ⟨y, hy⟩ : ∃ y : Ses, y = { x with inb := x.inb ++ l.take k } := ⟨_, rfl⟩
  rw [← hy]
  have HY := hide hy
  clear hy
  have still : ∀ j, j = 0 → ({ x with inb := x.inb ++ l.take j } : Ses) = x := fun j hj => by subst hj; simp
  cases hh : x.half with
  | true =>
    rw [if_pos (.inl hh)] at hk
    rw [hh] at c11
    have HK := hide hk
    clear hM hF hk c9 c10 c13 c3
    go_enter Tryz.func33, Tryz.ntmps33
    go_wp2_with fail
    go_ret
    refine ⟨by rw [HK.out]; rfl, ?_, Only.refl _ _⟩
    rw [HY.out, still k HK.out]
    exact ⟨rp, Fr, vq, pv, Fp, HM.out, HF.out⟩
  | false =>
    rw [hh] at c11
    cases he : x.ended with
    | true =>
      rw [if_pos (.inr he)] at hk
      rw [he] at c12
      have HK := hide hk
      clear hM hF hk c9 c10 c13 c3
      go_enter Tryz.func33, Tryz.ntmps33
      go_wp2_with fail
      go_ret
      refine ⟨by rw [HK.out]; rfl, ?_, Only.refl _ _⟩
      rw [HY.out, still k HK.out]
      exact ⟨rp, Fr, vq, pv, Fp, HM.out, HF.out⟩
    | false =>
      rw [if_neg (by simp [hh, he])] at hk
      rw [he] at c12
      obtain ⟨rm, hrm⟩ : ∃ rm : Int, rm = max room 0 := ⟨_, rfl⟩
      obtain ⟨t, ht⟩ : ∃ t : Nat, t = min l.length (max room 0).toNat := ⟨_, rfl⟩
      obtain ⟨lt, hlt⟩ : ∃ lt, lt = l.take t := ⟨_, rfl⟩
      have htl : lt.length = t := by rw [hlt, List.length_take]; omega
      have HMAX := fun (ts : Array TypeId) (ty : TypeId) W => max_i64 (P := Tryz.prog) ts ty room 0 rm hrm W
      have HMIN := fun (ts : Array TypeId) (ty : TypeId) W => min_i64 (P := Tryz.prog) ts ty (l.length : Int) rm (t : Int) (by omega) W
      have HSL := fun W => slice_to_at (P := Tryz.prog) Tryz.underlying9 l t (by omega) (t : Int) rfl lt hlt W
      have h64 := ring_len hM.ring
      have hMd := hM.new ((Only.refl [] w).drew)
      have HP := hide (ring_put_kt Fr rp 64 x.inb (S lt) _ hMd.ring (by rw [S_size, htl]; omega) k (64 - x.inb.length) (by omega) (by rw [S_size, htl, hk, ht]))
      have HMD := hide hMd
      have HT := hide (show (S lt).data.toList.take k = l.take k by rw [S_data, hlt, List.take_take]; congr 1; omega)
      clear hM hMd hF hk c9 c10 c13 c3 hrm ht hlt htl h64 hl still
      go_enter Tryz.func33, Tryz.ntmps33
      go_upto_region 3 with (fail)
      refine wp_region_tree (fun W => W.cell? ⟨b, 0, none⟩ = some (.pointer (some ⟨rp, 0, none⟩))) 13 (.take [0, 1, 2, 3, 4, 5, 6, 7, 8, 9, 10] (.step 11 (.step 12 (.fin)))) (by kernel_rfl) (by kernel_rfl) (by intro _ _ _ _ _ h; exact h) ?_
      refine wpTree_take (c0) ?_
      simp only [opsAt, List.getElem?_cons_zero, List.getElem?_cons_succ]
      iterate 11 (first | (refine wpPureH_step (v := ?_) rfl (fun W hS => ?_) ?_; rotate_left; · (obtain s1 := hS; (try simp only [Act.put, List.setIfInBounds_toArray, List.set_cons_zero, List.set_cons_succ]); go_simp; with_reducible rfl)) | (refine wpPureH_want (v := ?_) (by rfl) (fun W hS => ?_) ?_; rotate_left; · (obtain s1 := hS; (try simp only [Act.put, List.setIfInBounds_toArray, List.set_cons_zero, List.set_cons_succ]); go_simp; with_reducible rfl)))
      refine wpPureH_nil ?_
      simp only [Act.put, List.setIfInBounds_toArray, List.set_cons_zero, List.set_cons_succ]
      refine wpTree_step ?_
      simp only [opsAt, List.getElem?_cons_zero, List.getElem?_cons_succ]
      go_wp2_with fail
      (with_reducible refine (unhide HP).mono ?_)
      rintro e w2 ⟨rfl, hr, ho⟩
      rw [HT.out] at hr
      have hM2 := HMD.out.ringed hr ho
      have d0 := hM2.cells.1
      have HM2 := hide hM2
      have HO := hide ho
      clear HP hr ho hM2
      go_wp2_with fail
      refine ⟨.inr d0, ?_⟩
      refine wpTree_step ?_
      simp only [opsAt, List.getElem?_cons_zero, List.getElem?_cons_succ]
      go_wp2_with fail
      refine ⟨.inr d0, wpTree_fin ?_⟩
      go_wp2_with fail
      go_ret
      rw [HY.out]
      exact ⟨rfl, ⟨rp, Fr, vq, pv, Fp, HM2.out, HF.out⟩, ((Only.refl F w).drew).trans (HO.out.mono fun k hk => HF.out k (.inl hk))⟩
end Go.Proofs.YtkccjfgkbkodiaaGreat
namespace Go.Proofs.YtkccjfgkbkodiaaGreat
open Go.RowKit
def addL (L : List (List UInt8)) (b : List UInt8) : List (List UInt8) := if b = [] then L else L ++ [b]
theorem addL_flat (L : List (List UInt8)) (b : List UInt8) : (addL L b).flatten = L.flatten ++ b := by
  unfold addL
  split
  · rename_i h; simp [h]
  · simp
theorem PipIs.small {w : World} {q d : Nat} {F : List Nat} {m : Pip} (h : PipIs w q F d m) : ∃ G, PipIs w q G d m ∧ (∀ k ∈ G, k ∈ F) ∧ q < w.heap.size ∧ ∀ k ∈ G, k < w.heap.size := by
  obtain ⟨b, o, s, Fj, Fs, vo, hM, hF⟩ := h
  obtain ⟨⟨c1, b1⟩, ⟨c2, b2⟩, ⟨c3, b3⟩, ⟨c4, b4⟩, h5⟩ := hM.types
  refine ⟨b :: o :: s :: (slB vo ++ (Fj ++ Fs)), ⟨b, o, s, Fj, Fs, vo, hM, fun k hk => ?_⟩, fun k hk => hF k ?_, b1.lt, fun k hk => ?_⟩
  · simp only [List.mem_cons, List.mem_append]
    exact hk
  · simpa only [List.mem_cons, List.mem_append] using hk
  · simp only [List.mem_cons, List.mem_append] at hk
    rcases hk with rfl | rfl | rfl | h | h | h
    · exact b2.lt
    · exact b3.lt
    · exact b4.lt
    · obtain ⟨cs, hb⟩ := h5 k h
      exact hb.lt
    · exact hM.smj.lt k h
    · exact hM.sms.lt k h
/-- The pipe went on. -/
theorem SesM.piped {w w' : World} {b d sg rp q : Nat} {x : Ses} {Fr G F' : List Nat} {vq : Value} {m : Pip} (h : SesM w b d sg x rp Fr vq (.pointer (some ⟨q, 0, none⟩)) (q :: G)) (hp : PipIs w' q F' d m) (ho : Only (q :: G) w w') (hf : ∀ k ∈ F', k ∈ G ∨ w.heap.size ≤ k) :
    ∃ G', SesM w' b d sg { x with p := some m } rp Fr vq (.pointer (some ⟨q, 0, none⟩)) (q :: G') ∧ ∀ k ∈ q :: G', k ∈ q :: G ∨ w.heap.size ≤ k := by
  obtain ⟨G', g1, g2, g3, g4⟩ := hp.small
  have hfr : ∀ k ∈ q :: G', k ∈ q :: G ∨ w.heap.size ≤ k := fun k hk => by
    rcases List.mem_cons.1 hk with rfl | hk
    · exact .inl (List.mem_cons_self ..)
    · exact (hf k (g2 k hk)).imp_left (List.mem_cons_of_mem _)
  have hb := h.blk.lt
  refine ⟨G', ⟨ho.blk h.blk h.bp, ring_keep h.ring ho h.rp', h.sl.keep ho h.qp, h.ne, ⟨q, G', rfl, g1, rfl⟩, fun k hk => Nat.lt_of_lt_of_le (h.ltr k hk) ho.size, fun k hk => ?_, h.br, fun hm => ?_, h.rq, fun k hk hm => ?_, fun k hk hm => ?_⟩, hfr⟩
  · rcases List.mem_cons.1 hk with rfl | hk
    · exact g3
    · exact g4 k hk
  · rcases hfr b hm with h9 | h9
    · exact h.bp h9
    · omega
  · rcases hfr k hm with h9 | h9
    · exact h.rp' k hk h9
    · have := h.ltr k hk; omega
  · rcases hfr k hm with h9 | h9
    · exact h.qp k hk h9
    · have := (h.sl.lt k hk).2; omega
/-- Bytes are added, if there are any. -/
theorem ses_add {w : World} {b d sg rp : Nat} {x : Ses} {Fr Fp : List Nat} {vq pv : Value} (h : SesM w b d sg x rp Fr vq pv Fp) (l : List UInt8) (hsz : x.outL.flatten.length + l.length ≤ 1000000) :
    Calls Tryz.prog 84 #[.pointer (some ⟨b, 1, none⟩), .string (S l)] w fun r w' => r = .returned (.tuple #[]) ∧ ∃ vq', SesM w' b d sg { x with outL := addL x.outL l } rp Fr vq' pv Fp ∧ Only (b :: slB vq) w w' ∧ ∀ k ∈ slB vq', k ∈ slB vq ∨ w.heap.size ≤ k := by
  by_cases hl : l = []
  · subst hl
    refine (qs_add_empty (p := b)).mono ?_
    rintro e w' ⟨rfl, rfl⟩
    exact ⟨rfl, vq, by rw [show addL x.outL [] = x.outL from rfl]; exact h, Only.refl _ _, fun k hk => .inl hk⟩
  · rw [show addL x.outL l = x.outL ++ [l] by unfold addL; rw [if_neg hl]]
    exact ses_queue_add h l hl hsz
/-- The session went on: its blocks. -/
def OncePost (w : World) (b : Nat) (F : List Nat) (d sg : Nat) (Q : Ses → Prop) (e : Ending) (w' : World) : Prop :=
  e = .returned (.tuple #[]) ∧ ∃ x' F', Q x' ∧ SesIs w' b F' d sg x' ∧ Only (b :: F) w w' ∧ ∀ k ∈ F', k ∈ F ∨ w.heap.size ≤ k
theorem SesM.toIs {w w' : World} {b d sg rp : Nat} {x : Ses} {Fr Fp : List Nat} {vq pv : Value} (h : SesM w' b d sg x rp Fr vq pv Fp) {F A : List Nat} (hF : ∀ k, k ∈ Fr ∨ k ∈ slB vq ∨ k ∈ Fp → k ∈ F ∨ w.heap.size ≤ k) (ho : Only A w w') (hA : ∀ k ∈ A, k ∈ b :: F) {Q : Ses → Prop} (hQ : Q x) : OncePost w b F d sg Q (.returned (.tuple #[])) w' :=
  ⟨rfl, x, Fr ++ (slB vq ++ Fp), hQ, ⟨rp, Fr, vq, pv, Fp, h, fun k hk => by simpa only [List.mem_append] using hk⟩, ho.mono hA, fun k hk => hF k (by simpa only [List.mem_append] using hk)⟩
set_option maxRecDepth 100000 in
set_option maxHeartbeats 4000000 in
theorem once_more {w : World} {b d sg : Nat} {F : List Nat} {x : Ses} (h : SesIs w b F d sg x) (ht : x.told = false) (hi : x.inb = []) (hsz : x.outL.flatten.length ≤ 900000) :
    Calls Tryz.prog 67 #[.pointer (some ⟨b, 0, none⟩)] w (OncePost w b F d sg fun x' => x' = x.fin 3 false) := by
  obtain ⟨rp, Fr, vq, pv, Fp, hM, hF⟩ := h
  have c0 := hM.cells.1
  have HT := hide (ring_take_kt Fr rp 64 x.inb 1 w hM.ring 0 (by rw [hi]; rfl))
  have HM := hide hM
  have HF := hide hF
  have HI := hide hi
  have HTD := hide ht
  have HSZ := hide hsz
  clear hM hF hi ht hsz
  go_enter Tryz.func67, Tryz.ntmps67
  go_wp2_with fail
  (with_reducible refine (unhide HT).mono ?_)
  rintro e w1 ⟨rfl, hr1, ho1⟩
  have hM1 := HM.out.ringed hr1 ho1
  rw [show ({ x with inb := x.inb.drop 0 } : Ses) = x by simp] at hM1
  have d9 := hM1.cells.2.2.1
  rw [HTD.out] at d9
  have HE := hide (ses_end hM1 3 false HSZ.out)
  have HO1 := hide ho1
  rw [show x.inb.take 0 = [] from rfl]
  clear HT hr1 ho1 hM1
  go_wp2_with fail
  (with_reducible refine (unhide HE).mono ?_)
  rintro e w2 ⟨rfl, vq', hM2, ho2, hf2⟩
  have HM2 := hide hM2
  have HO2 := hide ho2
  have HF2 := hide hf2
  clear HE hM2 ho2 hf2
  go_wp2_with fail
  go_end0
  refine HM2.out.toIs (A := b :: (Fr ++ slB vq)) (fun k hk => ?_) ((HO1.out.mono fun k hk => List.mem_cons_of_mem _ (List.mem_append_left _ hk)).trans HO2.out) (fun k hk => ?_) rfl
  · rcases hk with h | h | h
    · exact .inl (HF.out k (.inl h))
    · exact (HF2.out k h).elim (fun h9 => .inl (HF.out k (.inr (.inl h9)))) (fun h9 => .inr (Nat.le_trans HO1.out.size h9))
    · cases h
  · rcases List.mem_cons.1 hk with rfl | hk
    · exact List.mem_cons_self ..
    · rcases List.mem_append.1 hk with hk | hk
      · exact List.mem_cons_of_mem _ (HF.out k (.inl hk))
      · exact List.mem_cons_of_mem _ (HF.out k (.inr (.inl hk)))
end Go.Proofs.YtkccjfgkbkodiaaGreat
