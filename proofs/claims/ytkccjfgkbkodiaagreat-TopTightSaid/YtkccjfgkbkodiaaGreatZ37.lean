/-
  GatQ: parts of the walk of TopTight, under no condition.
-/
import Derived.Test.YtkccjfgkbkodiaaGreatZ29
import Derived.Test.YtkccjfgkbkodiaaGreatZ35
import Derived.Test.YtkccjfgkbkodiaaGreatZ36
namespace Go.Proofs.YtkccjfgkbkodiaaGreat
open Go.RowKit
set_option maxRecDepth 100000
theorem ready_nil (w : World) : Calls Tryz.prog 36 #[.pointer none] w fun e w' => e = .returned (.bool false) ∧ w' = w := by
  go_enter Tryz.func36, Tryz.ntmps36
  go_wp2_with fail
  go_ret
  exact ⟨rfl, rfl⟩
def readyO : Option Ses → Bool
  | none => false
  | some y => y.ready
def Gt.flags (x : Gt) : List Bool := x.slots.map readyO
theorem Pu.can_small {rest : Int} {H : List Int} {O : List Bool} {i c : Nat} (ho : Pu.opn O (i : Int) = true) (hf : Pu.overs H ≤ rest) (hc : c ≤ 700) : Pu.canSet rest H O i c = true := by
  unfold Pu.canSet
  simp only [Bool.and_eq_true, decide_eq_true_eq]
  refine ⟨⟨ho, by omega⟩, ?_⟩
  omega
theorem Only.cellk {S : List Nat} {w w' : World} (h : Only S w w') {p : Addr} {v : Value} (hc : w.cell? p = some v) (hp : p.block ∉ S) : w'.cell? p = some v := by
  have hlt : p.block < w.heap.size := by
    rcases Nat.lt_or_ge p.block w.heap.size with h9 | h9
    · exact h9
    · unfold World.cell? at hc
      rw [Array.getElem?_eq_none h9] at hc
      cases hc
  unfold World.cell? at hc ⊢
  rw [h.block _ hlt hp]
  exact hc
/-- The purse is asked for a session in its run. -/
theorem gate_may {W : World} {gp bx q i c pp qh qo : Nat} {rest : Int} {H : List Int} {O : List Bool} (hp : Pu.Purse W pp qh qo rest H O) (c1 : W.cell? ⟨bx, 0, none⟩ = some (.pointer (some ⟨gp, 0, none⟩))) (c2 : W.cell? ⟨q, 0, none⟩ = some (.int .i64 (i : Int))) (c3 : W.cell? ⟨gp, 3, none⟩ = some (.pointer (some ⟨pp, 0, none⟩))) (ho : Pu.opn O (i : Int) = true) (hc : c ≤ 1000000) (hne : bx ≠ qh ∧ q ≠ qh ∧ gp ≠ qh) :
    Calls Tryz.prog 40 #[.int .i64 (c : Int), .pointer (some ⟨bx, 0, none⟩), .pointer (some ⟨q, 0, none⟩)] W fun e W' => ∃ ok H', MayH i H c ok H' ∧ e = .returned (.bool ok) ∧ Pu.Purse W' pp qh qo rest H' O ∧ H'.length = H.length ∧ Only [pp, qh, qo] W W' := by
  have hpd := hp.drewN 1
  rw [show W.drewN 1 = W.drew from rfl] at hpd
  have hov := hp.fits
  have HNE := hide hne
  cases hcs : Pu.canSet rest H O i c with
  | true =>
    have HS := hide (Pu.set_yes hpd i c (by omega) hcs)
    rw [show ((i : Int)).toNat = i by simp] at HS
    clear hp hpd hov hcs ho
    go_enter Tryz.func40, Tryz.ntmps40
    go_upto_region 1 with (fail)
    refine wp_region_tree (fun W => W.cell? ⟨bx, 0, none⟩ = some (.pointer (some ⟨gp, 0, none⟩)) ∧ W.cell? ⟨q, 0, none⟩ = some (.int .i64 (i : Int)) ∧ W.cell? ⟨gp, 3, none⟩ = some (.pointer (some ⟨pp, 0, none⟩))) 8 (.take [0, 1, 2, 3, 4, 5] (.step 6 (.step 7 (.fin)))) (by kernel_rfl) (by kernel_rfl) (by intro _ _ _ _ _ h; exact h) ?_
    refine wpTree_take (⟨c1, c2, c3⟩) ?_
    simp only [opsAt, List.getElem?_cons_zero, List.getElem?_cons_succ]
    iterate 6 (first | (refine wpPureH_step (v := ?_) rfl (fun W hS => ?_) ?_; rotate_left; · (obtain ⟨s1, s2, s3⟩ := hS; (try simp only [Act.put, List.setIfInBounds_toArray, List.set_cons_zero, List.set_cons_succ]); go_simp; with_reducible rfl)) | (refine wpPureH_want (v := ?_) (by rfl) (fun W hS => ?_) ?_; rotate_left; · (obtain ⟨s1, s2, s3⟩ := hS; (try simp only [Act.put, List.setIfInBounds_toArray, List.set_cons_zero, List.set_cons_succ]); go_simp; with_reducible rfl)))
    refine wpPureH_nil ?_
    simp only [Act.put, List.setIfInBounds_toArray, List.set_cons_zero, List.set_cons_succ]
    refine wpTree_step ?_
    simp only [opsAt, List.getElem?_cons_zero, List.getElem?_cons_succ]
    go_wp2_with fail
    (with_reducible refine (unhide HS).mono ?_)
    rintro e w1 ⟨rfl, hp1, ho1⟩
    have ho1' : Only [qh] W w1 := ((Only.refl [qh] W).drew).trans ho1
    have d1 := ho1'.cellk c1 (by simpa using HNE.out.1)
    have d2 := ho1'.cellk c2 (by simpa using HNE.out.2.1)
    have d3 := ho1'.cellk c3 (by simpa using HNE.out.2.2)
    have HP1 := hide (And.intro hp1 ho1')
    clear HS hp1 ho1 ho1'
    go_wp2_with fail
    refine ⟨.inr ⟨d1, d2, d3⟩, ?_⟩
    refine wpTree_step ?_
    simp only [opsAt, List.getElem?_cons_zero, List.getElem?_cons_succ]
    go_wp2_with fail
    refine ⟨.inr ⟨d1, d2, d3⟩, wpTree_fin ?_⟩
    go_wp2_with fail
    go_ret
    exact ⟨true, H.set i (c : Int), ⟨fun _ => rfl, rfl⟩, rfl, HP1.out.1, by simp, HP1.out.2.mono (by simp)⟩
  | false =>
    have hbig : ¬ c ≤ 700 := fun h9 => by rw [Pu.can_small ho hov h9] at hcs; cases hcs
    have HS := hide (((Pu.set_no hpd i c (by omega) hcs).mono fun e w' (h : _ ∧ ∃ k, w' = W.drew.drewN k) => (show e = .returned (.bool false) ∧ Pu.Purse w' pp qh qo rest H O ∧ Only [qh] W.drew w' by
      obtain ⟨he, k, hk⟩ := h
      subst hk
      exact ⟨he, hpd.drewN k, (Only.refl _ _).drewN k⟩)))
    have HBIG := hide hbig
    clear hp hpd hov hcs ho hbig
    go_enter Tryz.func40, Tryz.ntmps40
    go_upto_region 1 with (fail)
    refine wp_region_tree (fun W => W.cell? ⟨bx, 0, none⟩ = some (.pointer (some ⟨gp, 0, none⟩)) ∧ W.cell? ⟨q, 0, none⟩ = some (.int .i64 (i : Int)) ∧ W.cell? ⟨gp, 3, none⟩ = some (.pointer (some ⟨pp, 0, none⟩))) 8 (.take [0, 1, 2, 3, 4, 5] (.step 6 (.step 7 (.fin)))) (by kernel_rfl) (by kernel_rfl) (by intro _ _ _ _ _ h; exact h) ?_
    refine wpTree_take (⟨c1, c2, c3⟩) ?_
    simp only [opsAt, List.getElem?_cons_zero, List.getElem?_cons_succ]
    iterate 6 (first | (refine wpPureH_step (v := ?_) rfl (fun W hS => ?_) ?_; rotate_left; · (obtain ⟨s1, s2, s3⟩ := hS; (try simp only [Act.put, List.setIfInBounds_toArray, List.set_cons_zero, List.set_cons_succ]); go_simp; with_reducible rfl)) | (refine wpPureH_want (v := ?_) (by rfl) (fun W hS => ?_) ?_; rotate_left; · (obtain ⟨s1, s2, s3⟩ := hS; (try simp only [Act.put, List.setIfInBounds_toArray, List.set_cons_zero, List.set_cons_succ]); go_simp; with_reducible rfl)))
    refine wpPureH_nil ?_
    simp only [Act.put, List.setIfInBounds_toArray, List.set_cons_zero, List.set_cons_succ]
    refine wpTree_step ?_
    simp only [opsAt, List.getElem?_cons_zero, List.getElem?_cons_succ]
    go_wp2_with fail
    (with_reducible refine (unhide HS).mono ?_)
    rintro e w1 ⟨rfl, hp1, ho1⟩
    have ho1' : Only [qh] W w1 := ((Only.refl [qh] W).drew).trans ho1
    have d1 := ho1'.cellk c1 (by simpa using HNE.out.1)
    have d2 := ho1'.cellk c2 (by simpa using HNE.out.2.1)
    have d3 := ho1'.cellk c3 (by simpa using HNE.out.2.2)
    have HP1 := hide (And.intro hp1 ho1')
    clear HS hp1 ho1 ho1'
    go_wp2_with fail
    refine ⟨.inr ⟨d1, d2, d3⟩, ?_⟩
    refine wpTree_step ?_
    simp only [opsAt, List.getElem?_cons_zero, List.getElem?_cons_succ]
    go_wp2_with fail
    refine ⟨.inr ⟨d1, d2, d3⟩, wpTree_fin ?_⟩
    go_wp2_with fail
    go_ret
    exact ⟨false, H, ⟨fun h9 => (HBIG.out h9).elim, rfl⟩, rfl, HP1.out.1, rfl, HP1.out.2.mono (by simp)⟩
end Go.Proofs.YtkccjfgkbkodiaaGreat
