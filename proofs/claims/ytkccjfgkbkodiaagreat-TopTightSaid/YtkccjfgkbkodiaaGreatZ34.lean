/-
  GatB · GatC · GatD · GatE · GatF · GatG · GatH · GatI: parts of the walk of TopTight, under no condition.
-/
import Derived.Test.YtkccjfgkbkodiaaGreatZ33
namespace Go.Proofs.YtkccjfgkbkodiaaGreat
open Go.RowKit
set_option maxRecDepth 100000
section
variable {w w' : World} {gp : Nat} {a : GB} {vw : Value} {Ft : List Nat} {SB : Nat → Nat × List Nat} {own : Nat → Nat} {n tn d sg : Nat} {x : Gt}
/-- The gate's own cells. -/
theorem GateM.cells (h : GateM w gp a vw Ft SB own n tn d sg x) : w.cell? ⟨gp, 0, none⟩ = some (.slice (some ⟨a.sb, 0, none⟩) n n) ∧ w.cell? ⟨gp, 1, none⟩ = some (.slice (some ⟨a.ib, 0, none⟩) n n) ∧ w.cell? ⟨gp, 2, none⟩ = some (.int .i64 x.many) ∧ w.cell? ⟨gp, 3, none⟩ = some (.pointer (some ⟨a.pp, 0, none⟩)) ∧ w.cell? ⟨gp, 4, none⟩ = some (.pointer (some ⟨a.wp, 0, none⟩)) := by
  obtain ⟨m, hb⟩ := h.tm.now_
  exact ⟨hb.cellv 0 _ rfl, hb.cellv 1 _ rfl, hb.cellv 2 _ rfl, hb.cellv 3 _ rfl, hb.cellv 4 _ rfl⟩
theorem GateM.slot (h : GateM w gp a vw Ft SB own n tn d sg x) {i : Nat} {o : Option Ses} (hi : x.slots[i]? = some o) : w.cell? ⟨a.sb, i, none⟩ = some (slotV SB i o) :=
  h.sl.cellv i _ (by rw [slotsV_get, hi]; rfl)
theorem GateM.id (h : GateM w gp a vw Ft SB own n tn d sg x) {i : Nat} {z : Int} (hi : x.ids[i]? = some z) : w.cell? ⟨a.ib, i, none⟩ = some (.int .i64 z) :=
  h.il.cellv i _ (by rw [intsV_get, hi]; rfl)
end
/-- A session that is live. -/
theorem of_yes {w : World} {gp : Nat} {a : GB} {vw : Value} {Ft : List Nat} {SB : Nat → Nat × List Nat} {own : Nat → Nat} {n tn d sg : Nat} {x : Gt} (h : GateM w gp a vw Ft SB own n tn d sg x) {id : Nat} {i : Nat} {y : Ses} (hi : id % n = i) (hb : id ≤ 1000000000) (hy : x.slots[i]? = some (some y)) (hid : x.ids[i]? = some (id : Int)) :
    Calls Tryz.prog 32 #[.pointer (some ⟨gp, 0, none⟩), .int .i64 (id : Int)] w fun e w' => e = .returned (.tuple #[.pointer (some ⟨(SB i).1, 0, none⟩), .int .i64 (i : Int)]) ∧ w' = w := by
  obtain ⟨c0, c1, c2, c3, c4⟩ := h.cells
  have s0 : w.cell? ⟨a.sb, i, none⟩ = some (.pointer (some ⟨(SB i).1, 0, none⟩)) := h.slot hy
  have i0 := h.id hid
  have hn1 := h.n1
  have hn8 := h.n8
  have hin : (i : Int) < n := by have := Nat.mod_lt id (show 0 < n by omega); omega
  have ht : Int.tmod (id : Int) (n : Int) = (i : Int) := by rw [Int.tmod_eq_emod_of_nonneg (by omega)]; omega
  have hw : IntKind.i64.wrap (i : Int) = (i : Int) := wrap_small _ (by omega) (by omega)
  clear h hy hid hi c2 c3 c4
  go_enter Tryz.func32, Tryz.ntmps32
  go_wp2_with fail
  go_ret2
  exact ⟨rfl, rfl⟩
theorem of_less (gp : Nat) {id : Int} (hi : id < 0) (w : World) :
    Calls Tryz.prog 32 #[.pointer (some ⟨gp, 0, none⟩), .int .i64 id] w fun e w' => e = .returned (.tuple #[.pointer none, .int .i64 0]) ∧ w' = w := by
  go_enter Tryz.func32, Tryz.ntmps32
  go_wp2_with fail
  go_ret2
  exact ⟨rfl, rfl⟩
/-- None that is live. -/
theorem of_no {w : World} {gp : Nat} {a : GB} {vw : Value} {Ft : List Nat} {SB : Nat → Nat × List Nat} {own : Nat → Nat} {n tn d sg : Nat} {x : Gt} (h : GateM w gp a vw Ft SB own n tn d sg x) {id : Nat} {i : Nat} (hi : id % n = i) (hb : id ≤ 1000000000) (hno : x.slots[i]? = some none ∨ x.ids[i]? ≠ some (id : Int)) :
    Calls Tryz.prog 32 #[.pointer (some ⟨gp, 0, none⟩), .int .i64 (id : Int)] w fun e w' => e = .returned (.tuple #[.pointer none, .int .i64 0]) ∧ w' = w := by
  obtain ⟨c0, c1, c2, c3, c4⟩ := h.cells
  have hn1 := h.n1
  have hn8 := h.n8
  have hinn : i < n := by have := Nat.mod_lt id (show 0 < n by omega); omega
  have hin : (i : Int) < n := by omega
  have ht : Int.tmod (id : Int) (n : Int) = (i : Int) := by rw [Int.tmod_eq_emod_of_nonneg (by omega)]; omega
  have hw : IntKind.i64.wrap (i : Int) = (i : Int) := wrap_small _ (by omega) (by omega)
  obtain ⟨o, ho⟩ : ∃ o, x.slots[i]? = some o := ⟨_, List.getElem?_eq_getElem (by rw [h.ls]; exact hinn)⟩
  obtain ⟨z, hz⟩ : ∃ z, x.ids[i]? = some z := ⟨_, List.getElem?_eq_getElem (by rw [h.li]; exact hinn)⟩
  have s0 := h.slot ho
  have i0 := h.id hz
  cases o with
  | none =>
    simp only [slotV] at s0
    clear h ho hz hi hno hinn c2 c3 c4
    go_enter Tryz.func32, Tryz.ntmps32
    go_wp2_with fail
    go_ret2
    exact ⟨rfl, rfl⟩
  | some y =>
    simp only [slotV] at s0
    have hne : (z == (id : Int)) = false := by
      rcases hno with hno | hno
      · rw [ho] at hno; cases hno
      · rw [hz] at hno
        simp only [beq_eq_false_iff_ne, ne_eq]
        exact fun e => hno (by rw [e])
    clear h ho hz hi hno hinn c2 c3 c4
    go_enter Tryz.func32, Tryz.ntmps32
    go_wp2_with fail
    go_ret2
    exact ⟨rfl, rfl⟩
/-- The gate, its blocks left open. -/
def GateIs (w : World) (gp : Nat) (a : GB) (n d sg : Nat) (x : Gt) : Prop := ∃ vw Ft SB own tn, GateM w gp a vw Ft SB own n tn d sg x ∧ tn ≤ x.tb
/-- What a slot's session holds is told to the purse. -/
def Gt.charged (x : Gt) (i : Nat) (c : Nat) : Gt := if Pu.canSet x.rest x.H x.O i c then { x with H := x.H.set i c } else x
set_option maxHeartbeats 2000000 in
theorem gate_charge {w : World} {gp : Nat} {a : GB} {n d sg N : Nat} {x : Gt} (h : GateIs w gp a n d sg x) {i : Nat} {y : Ses} (hy : x.slots[i]? = some (some y)) (hok : ∀ m, y.p = some m → m.Ok d N) (hd : d ≤ 100) (hsz : y.outL.flatten.length ≤ 900000) :
    Calls Tryz.prog 28 #[.pointer (some ⟨gp, 0, none⟩), .int .i64 (i : Int)] w fun e w' => e = .returned (.tuple #[]) ∧ ∃ c, y.chargeBy c ∧ GateIs w' gp a n d sg (x.charged i c) := by
  obtain ⟨vw, Ft, SB, own, tn, hM, htn⟩ := h
  have hMd := hM.new ((Only.refl [] w).drew)
  obtain ⟨c0, c1, c2, c3, c4⟩ := hMd.cells
  have s0 := hMd.slot hy
  simp only [slotV] at s0
  have hil : i < n := by rw [← hM.ls]; exact (List.getElem?_eq_some_iff.1 hy).1
  have hin : (i : Int) < n := by omega
  have hn8 := hM.n8
  have HC := hide (ses_charge (hMd.ses i y hy) hok hd hsz)
  have HM := hide hMd
  have HTN := hide htn
  have HY := hide hy
  have HLE := hide (fun c hc => Ses.charge_le (c := c) (hM.ses i y hy) hok hd hsz hc)
  clear hM hMd hy hok hd hsz htn hil c1 c2 c4
  go_enter Tryz.func28, Tryz.ntmps28
  go_upto_region 0 with (fail)
  refine wp_region_tree (fun W => W.cell? ⟨gp, 0, none⟩ = some (.slice (some ⟨a.sb, 0, none⟩) n n) ∧ W.cell? ⟨gp, 3, none⟩ = some (.pointer (some ⟨a.pp, 0, none⟩)) ∧ W.cell? ⟨a.sb, i, none⟩ = some (.pointer (some ⟨(SB i).1, 0, none⟩))) 14 (.take [0, 1, 2, 3, 4, 5, 6, 7, 8, 9, 10, 11] (.step 12 (.step 13 (.fin)))) (by kernel_rfl) (by kernel_rfl) (by intro _ _ _ _ _ h; exact h) ?_
  refine wpTree_take (⟨c0, c3, s0⟩) ?_
  simp only [opsAt, List.getElem?_cons_zero, List.getElem?_cons_succ]
  iterate 12 (first | (refine wpPureH_step (v := ?_) rfl (fun W hS => ?_) ?_; rotate_left; · (obtain ⟨s1, s2, s3⟩ := hS; (try simp only [Act.put, List.setIfInBounds_toArray, List.set_cons_zero, List.set_cons_succ]); go_simp; with_reducible rfl)) | (refine wpPureH_want (v := ?_) (by rfl) (fun W hS => ?_) ?_; rotate_left; · (obtain ⟨s1, s2, s3⟩ := hS; (try simp only [Act.put, List.setIfInBounds_toArray, List.set_cons_zero, List.set_cons_succ]); go_simp; with_reducible rfl)))
  refine wpPureH_nil ?_
  simp only [Act.put, List.setIfInBounds_toArray, List.set_cons_zero, List.set_cons_succ]
  refine wpTree_step ?_
  simp only [opsAt, List.getElem?_cons_zero, List.getElem?_cons_succ]
  go_wp2_with fail
  (with_reducible refine (unhide HC).mono ?_)
  rintro e w1 ⟨⟨c, rfl, hc⟩, ho1⟩
  have hM1 := HM.out.new ho1
  obtain ⟨d0, d1, d2, d3, d4⟩ := hM1.cells
  have t0 := hM1.slot HY.out
  simp only [slotV] at t0
  have HCH := hide hc
  have hle := HLE.out c hc
  have HM1 := hide hM1
  cases hcs : Pu.canSet x.rest x.H x.O i c with
  | true =>
    have HS := hide (Pu.set_yes hM1.pu i c (by omega) hcs)
    rw [show ((i : Int)).toNat = i by simp] at HS
    have HCS := hide hcs
    clear hcs hM1 ho1 hc hle HC HLE d1 d2 d4
    go_wp2_with fail
    refine ⟨.inr ⟨d0, d3, t0⟩, ?_⟩
    refine wpTree_step ?_
    simp only [opsAt, List.getElem?_cons_zero, List.getElem?_cons_succ]
    go_wp2_with fail
    (with_reducible refine (unhide HS).mono ?_)
    rintro e w2 ⟨rfl, hp2, ho2⟩
    have hM2 := HM1.out.purse hp2 (ho2.mono (by simp)) (by rw [List.length_set]; exact HM1.out.lh)
    obtain ⟨e0, e1, e2, e3, e4⟩ := hM2.cells
    have u0 : w2.cell? ⟨a.sb, i, none⟩ = some (slotV SB i (some y)) := hM2.slot HY.out
    simp only [slotV] at u0
    have HM2 := hide hM2
    clear hM2 hp2 ho2 HS e1 e2 e4
    go_wp2_with fail
    refine ⟨.inr ⟨e0, e3, u0⟩, wpTree_fin ?_⟩
    go_wp2_with fail
    go_end0
    exact ⟨rfl, c, HCH.out, by unfold Gt.charged; rw [if_pos HCS.out]; exact ⟨_, _, _, _, _, HM2.out, HTN.out⟩⟩
  | false =>
    have HS := hide (Pu.set_no hM1.pu i c (by omega) hcs)
    have HCS := hide hcs
    clear hcs hM1 ho1 hc hle HC HLE d1 d2 d4
    go_wp2_with fail
    refine ⟨.inr ⟨d0, d3, t0⟩, ?_⟩
    refine wpTree_step ?_
    simp only [opsAt, List.getElem?_cons_zero, List.getElem?_cons_succ]
    go_wp2_with fail
    (with_reducible refine (unhide HS).mono ?_)
    rintro e w2 ⟨rfl, k, hw2⟩
    subst hw2
    have hM2 := HM1.out.new ((Only.refl [] w1).drewN k)
    obtain ⟨e0, e1, e2, e3, e4⟩ := hM2.cells
    have u0 := hM2.slot HY.out
    simp only [slotV] at u0
    have HM2 := hide hM2
    clear hM2 HS e1 e2 e4
    go_wp2_with fail
    refine ⟨.inr ⟨d0, d3, t0⟩, wpTree_fin ?_⟩
    go_wp2_with fail
    go_end0
    exact ⟨rfl, c, HCH.out, by unfold Gt.charged; rw [if_neg (by rw [HCS.out]; simp)]; exact ⟨_, _, _, _, _, HM2.out, HTN.out⟩⟩
end Go.Proofs.YtkccjfgkbkodiaaGreat
namespace Go.Proofs.YtkccjfgkbkodiaaGreat
open Go.RowKit
set_option maxRecDepth 100000
theorem gate_total {w : World} {gp : Nat} {a : GB} {n d sg : Nat} {x : Gt} (h : GateIs w gp a n d sg x) :
    Calls Tryz.prog 13 #[.pointer (some ⟨gp, 0, none⟩)] w fun e w' => e = .returned (.int .i64 (Pu.total x.H)) ∧ w' = w := by
  obtain ⟨vw, Ft, SB, own, tn, hM, htn⟩ := h
  obtain ⟨c0, c1, c2, c3, c4⟩ := hM.cells
  have HT := hide (Pu.total_any hM.pu _ rfl)
  clear hM htn c0 c1 c2 c4
  go_enter Tryz.func13, Tryz.ntmps13
  go_wp2_with fail
  (with_reducible refine (unhide HT).mono ?_)
  rintro e w ⟨rfl, hw⟩
  subst hw
  go_wp2_with fail
  go_ret
  exact ⟨rfl, rfl⟩
theorem ended_nil (w : World) : Calls Tryz.prog 44 #[.pointer none] w fun e w' => ∃ z : Int, e = .returned (.tuple #[.int .i64 z, .bool false]) ∧ w' = w := by
  go_enter Tryz.func44, Tryz.ntmps44
  go_wp2_with fail
  go_ret2
  exact ⟨_, rfl, rfl⟩
/-- A session is asked for its end. -/
theorem gate_ended_yes {w : World} {gp : Nat} {a : GB} {n d sg : Nat} {x : Gt} (h : GateIs w gp a n d sg x) {id i : Nat} {y : Ses} (hi : id % n = i) (hb : id ≤ 1000000000) (hy : x.slots[i]? = some (some y)) (hid : x.ids[i]? = some (id : Int)) :
    Calls Tryz.prog 14 #[.pointer (some ⟨gp, 0, none⟩), .int .i64 (id : Int)] w fun e w' => e = .returned (.tuple #[.int .i64 y.e, .bool y.ended]) ∧ GateIs w' gp a n d sg x := by
  obtain ⟨vw, Ft, SB, own, tn, hM, htn⟩ := h
  have HO := hide (of_yes hM hi hb hy hid)
  have HE := hide (ses_ended (hM.ses i y hy))
  have HM := hide (And.intro hM htn)
  clear hM htn hi hb hy hid
  go_enter Tryz.func14, Tryz.ntmps14
  go_wp2_with fail
  (with_reducible refine (unhide HO).mono ?_)
  rintro e w ⟨rfl, hw⟩
  subst hw
  go_wp2_with fail
  (with_reducible refine (unhide HE).mono ?_)
  rintro e w1 ⟨rfl, ho⟩
  have HW := hide (HM.out.1.new ho)
  clear ho HE HO
  go_wp2_with fail
  go_ret2
  exact ⟨rfl, _, _, _, _, _, HW.out, HM.out.2⟩
theorem gate_ended_no {w : World} {gp : Nat} {a : GB} {n d sg : Nat} {x : Gt} (h : GateIs w gp a n d sg x) {id i : Nat} (hi : id % n = i) (hb : id ≤ 1000000000) (hno : x.slots[i]? = some none ∨ x.ids[i]? ≠ some (id : Int)) :
    Calls Tryz.prog 14 #[.pointer (some ⟨gp, 0, none⟩), .int .i64 (id : Int)] w fun e w' => ∃ z : Int, e = .returned (.tuple #[.int .i64 z, .bool false]) ∧ w' = w := by
  obtain ⟨vw, Ft, SB, own, tn, hM, htn⟩ := h
  have HO := hide (of_no hM hi hb hno)
  have HE := hide (ended_nil w)
  clear hM htn hi hb hno
  go_enter Tryz.func14, Tryz.ntmps14
  go_wp2_with fail
  (with_reducible refine (unhide HO).mono ?_)
  rintro e w ⟨rfl, hw⟩
  subst hw
  go_wp2_with fail
  (with_reducible refine (unhide HE).mono ?_)
  rintro e w ⟨z, rfl, hw⟩
  subst hw
  go_wp2_with fail
  go_ret2
  exact ⟨z, rfl, rfl⟩
end Go.Proofs.YtkccjfgkbkodiaaGreat
namespace Go.Proofs.YtkccjfgkbkodiaaGreat
open Go.RowKit
set_option maxRecDepth 100000
/-- A slot's session became another one. -/
def Gt.now (x : Gt) (i : Nat) (y : Ses) : Gt := { x with slots := x.slots.set i (some y) }
theorem Gt.now_slot {x : Gt} {i : Nat} {o : Option Ses} {y : Ses} (hy : x.slots[i]? = some o) : (x.now i y).slots[i]? = some (some y) := List.getElem?_set_self (List.getElem?_eq_some_iff.1 hy).1
theorem GateM.turned {w w' : World} {gp : Nat} {a : GB} {vw : Value} {Ft : List Nat} {SB : Nat → Nat × List Nat} {own : Nat → Nat} {n tn d sg : Nat} {x : Gt} (h : GateM w gp a vw Ft SB own n tn d sg x) (htn : tn ≤ x.tb) {i : Nat} {y y' : Ses} {F' : List Nat} (hy : x.slots[i]? = some (some y)) (hp : SesIs w' (SB i).1 F' d sg y') (ho : Only ((SB i).1 :: (SB i).2) w w') (hf : ∀ k ∈ F', k ∈ (SB i).2 ∨ w.heap.size ≤ k) : GateIs w' gp a n d sg (x.now i y') := by
  obtain ⟨G, hG⟩ := h.session hy hp ho hf
  exact ⟨_, _, _, _, _, hG, htn⟩
theorem gate_half {w : World} {gp : Nat} {a : GB} {n d sg N : Nat} {x : Gt} (h : GateIs w gp a n d sg x) {id i : Nat} {y : Ses} (hi : id % n = i) (hb : id ≤ 1000000000) (hy : x.slots[i]? = some (some y)) (hid : x.ids[i]? = some (id : Int)) (h1 : y.half = false) (h2 : y.ended = false) (hok : ∀ m, y.p = some m → m.Ok d N) (hd : d ≤ 100) (hsz : y.outL.flatten.length ≤ 800000) :
    Calls Tryz.prog 18 #[.pointer (some ⟨gp, 0, none⟩), .int .i64 (id : Int)] w fun e w' => e = .returned (.bool true) ∧ ∃ c, ({ y with half := true }).chargeBy c ∧ GateIs w' gp a n d sg ((x.now i ({ y with half := true })).charged i c) := by
  obtain ⟨vw, Ft, SB, own, tn, hM, htn⟩ := h
  have HO := hide (of_yes hM hi hb hy hid)
  have HS := hide (ses_half (hM.ses i y hy) h1 h2)
  have HOK := hide (And.intro hok (And.intro hd hsz))
  have HY := hide hy
  have HM := hide (And.intro hM htn)
  clear hM htn hi hb hy hid hok hd hsz h1 h2
  go_enter Tryz.func18, Tryz.ntmps18
  go_wp2_with fail
  (with_reducible refine (unhide HO).mono ?_)
  rintro e w ⟨rfl, hw⟩
  subst hw
  go_wp2_with fail
  (with_reducible refine (unhide HS).mono ?_)
  rintro e w1 ⟨rfl, hs, ho⟩
  have HG := HM.out.1.turned HM.out.2 HY.out hs (ho.mono (fun k hk => by rw [List.mem_singleton.1 hk]; exact List.mem_cons_self ..)) (fun k hk => .inl hk)
  have HC := hide (gate_charge (N := N) HG (Gt.now_slot HY.out) HOK.out.1 HOK.out.2.1 (Nat.le_trans HOK.out.2.2 (by omega)))
  clear HS HO HG hs ho
  go_wp2_with fail
  (with_reducible refine (unhide HC).mono ?_)
  rintro e w2 ⟨rfl, c, hc, hg⟩
  have HCC := hide (And.intro hc hg)
  clear HC hc hg
  go_wp2_with fail
  go_ret
  exact ⟨rfl, c, HCC.out⟩
theorem gate_cancel {w : World} {gp : Nat} {a : GB} {n d sg N : Nat} {x : Gt} (h : GateIs w gp a n d sg x) {id i : Nat} {y : Ses} (hi : id % n = i) (hb : id ≤ 1000000000) (hy : x.slots[i]? = some (some y)) (hid : x.ids[i]? = some (id : Int)) (h2 : y.ended = false) (hok : ∀ m, y.p = some m → m.Ok d N) (hd : d ≤ 100) (hsz : y.outL.flatten.length ≤ 800000) :
    Calls Tryz.prog 16 #[.pointer (some ⟨gp, 0, none⟩), .int .i64 (id : Int)] w fun e w' => e = .returned (.bool true) ∧ ∃ c, (y.fin 13 y.told).chargeBy c ∧ GateIs w' gp a n d sg ((x.now i (y.fin 13 y.told)).charged i c) := by
  obtain ⟨vw, Ft, SB, own, tn, hM, htn⟩ := h
  have HO := hide (of_yes hM hi hb hy hid)
  have HS := hide (ses_stop (hM.ses i y hy) 13 h2 (by omega))
  have HOK := hide (And.intro hok (And.intro hd hsz))
  have HY := hide hy
  have HM := hide (And.intro hM htn)
  clear hM htn hi hb hy hid hok hd hsz h2
  go_enter Tryz.func16, Tryz.ntmps16
  go_wp2_with fail
  (with_reducible refine (unhide HO).mono ?_)
  rintro e w ⟨rfl, hw⟩
  subst hw
  go_wp2_with fail
  (with_reducible refine (unhide HS).mono ?_)
  rintro e w1 ⟨rfl, F', hs, ho, hf⟩
  have HG := HM.out.1.turned HM.out.2 HY.out hs ho hf
  have HC := hide (gate_charge (N := N) HG (Gt.now_slot HY.out) (fun m hm => by cases hm) HOK.out.2.1 (by rw [Ses.fin_out]; have := HOK.out.2.2; omega))
  clear HS HO HG hs ho hf
  go_wp2_with fail
  (with_reducible refine (unhide HC).mono ?_)
  rintro e w2 ⟨rfl, c, hc, hg⟩
  have HCC := hide (And.intro hc hg)
  clear HC hc hg
  go_wp2_with fail
  go_ret
  exact ⟨rfl, c, HCC.out⟩
end Go.Proofs.YtkccjfgkbkodiaaGreat
namespace Go.Proofs.YtkccjfgkbkodiaaGreat
open Go.RowKit
set_option maxRecDepth 100000
theorem Gt.charged_f {x : Gt} {i c : Nat} : (x.charged i c).f = x.f := by unfold Gt.charged; split <;> rfl
/-- The same, but for what is timed: who is timed stays. -/
def SameBut (x x' : Gt) : Prop := ∃ f', (∀ j, (f' j).isSome = (x.f j).isSome) ∧ x' = { x with f := f' }
theorem gate_chunk {w : World} {gp : Nat} {a : GB} {n d sg N : Nat} {x : Gt} (h : GateIs w gp a n d sg x) {id i : Nat} {y : Ses} {o : Ti.One} (hi : id % n = i) (hb : id ≤ 1000000000) (hy : x.slots[i]? = some (some y)) (hid : x.ids[i]? = some (id : Int)) (hf : x.f i = some o) (hok : ∀ m, y.p = some m → m.Ok d N) (hd : d ≤ 100) (hsz : y.outL.flatten.length ≤ 900000)
    (l : List UInt8) (hl : l.length ≤ 1000000) (k : Nat) (hk : k = if y.half = true ∨ y.ended = true then 0 else min (min l.length (max (Pu.leftOf x.rest x.H x.O i) 0).toNat) (64 - y.inb.length)) :
    Calls Tryz.prog 11 #[.pointer (some ⟨gp, 0, none⟩), .int .i64 (id : Int), .string (S l)] w fun e w' => e = .returned (.int .i64 (k : Int)) ∧ ∃ c x', ({ y with inb := y.inb ++ l.take k } : Ses).chargeBy c ∧ SameBut ((x.now i { y with inb := y.inb ++ l.take k }).charged i c) x' ∧ GateIs w' gp a n d sg x' := by
  obtain ⟨vw, Ft, SB, own, tn, hM, htn⟩ := h
  have HO := hide (of_yes hM hi hb hy hid)
  obtain ⟨room, hroom⟩ : ∃ room, room = Pu.leftOf x.rest x.H x.O i := ⟨_, rfl⟩
  rw [← hroom] at hk
  have HL := hide (Pu.left_any hM.pu i room hroom)
  have HFD := fun (W : World) (hW : SesIs W (SB i).1 (SB i).2 d sg y) => hide (ses_feed hW l room hl k hk)
  obtain ⟨c0, c1, c2, c3, c4⟩ := hM.cells
  have HOK := hide (And.intro hok (And.intro hd hsz))
  have HY := hide hy
  have HFO := hide hf
  have HM := hide (And.intro hM htn)
  clear hM htn hi hb hy hid hok hd hsz hf hk hl hroom c0 c1 c2 c4
  go_enter Tryz.func11, Tryz.ntmps11
  go_wp2_with fail
  (with_reducible refine (unhide HO).mono ?_)
  rintro e w ⟨rfl, hw⟩
  subst hw
  go_wp2_with fail
  (with_reducible refine (unhide HL).mono ?_)
  rintro e w1 ⟨rfl, m, hw1⟩
  subst hw1
  have hM1 := HM.out.1.new ((Only.refl [] w).drewN m)
  have HF1 := HFD _ (hM1.ses i y HY.out)
  have HM1 := hide hM1
  clear hM1 HFD HL HO
  go_wp2_with fail
  (with_reducible refine (unhide HF1).mono ?_)
  rintro e w2 ⟨rfl, hs, ho⟩
  have HG := HM1.out.turned HM.out.2 HY.out hs (ho.mono (fun k hk => List.mem_cons_of_mem _ hk)) (fun k hk => .inl hk)
  have HC := hide (gate_charge (N := N) HG (Gt.now_slot HY.out) HOK.out.1 HOK.out.2.1 HOK.out.2.2)
  clear HF1 HG hs ho HM1 c3
  go_wp2_with fail
  (with_reducible refine (unhide HC).mono ?_)
  rintro e w3 ⟨rfl, c, hc, hg⟩
  have HCC := hide hc
  by_cases h0 : 0 < k
  · have e0 : decide ((0 : Int) < (k : Int)) = true := by simp; exact h0
    obtain ⟨vw3, Ft3, SB3, own3, tn3, hM3, htn3⟩ := hg
    have HT := hide (Ti.touch_some hM3.tm (id := (i : Int)) (o := o) (by rw [Gt.charged_f]; exact HFO.out))
    have HM3 := hide (And.intro hM3 htn3)
    clear HC hc hM3 htn3
    go_wp2_with fail
    (with_reducible refine (unhide HT).mono ?_)
    rintro e w4 ⟨rfl, ht, ho⟩
    have HM4 := hide (HM3.out.1.timer ht ho (fun k hk => .inl hk))
    clear HT ht ho
    go_wp2_with fail
    go_ret
    refine ⟨rfl, c, _, HCC.out, ⟨_, fun j => ?_, rfl⟩, _, _, _, _, _, HM4.out, HM3.out.2⟩
    by_cases hj : j = (i : Int)
    · rw [hj, Ti.upd_same, Gt.charged_f]
      exact (congrArg Option.isSome HFO.out).symm
    · rw [Ti.upd_other _ _ hj]
  · have e0 : decide ((0 : Int) < (k : Int)) = false := by simp; omega
    have HG := hide hg
    clear HC hc hg
    go_wp2_with fail
    go_ret
    exact ⟨rfl, c, _, HCC.out, ⟨_, fun _ => rfl, rfl⟩, HG.out⟩
end Go.Proofs.YtkccjfgkbkodiaaGreat
namespace Go.Proofs.YtkccjfgkbkodiaaGreat
open Go.RowKit
set_option maxRecDepth 100000
/-- A slot is free again. -/
def Gt.freed (x : Gt) (i : Nat) : Gt := { x with slots := x.slots.set i none }
theorem GateM.freed {w : World} {gp : Nat} {a : GB} {vw : Value} {Ft : List Nat} {SB : Nat → Nat × List Nat} {own : Nat → Nat} {n tn d sg : Nat} {x : Gt} (h : GateM w gp a vw Ft SB own n tn d sg x) (i : Nat) :
    GateM (w.setCell ⟨a.sb, i, none⟩ (.pointer none)) gp a vw Ft SB (own2 own w.heap.size 0) n tn d sg (x.freed i) := by
  have ho : Only [a.sb] w (w.setCell ⟨a.sb, i, none⟩ (.pointer none)) := (Only.refl _ w).setCell (p := ⟨a.sb, i, none⟩) (List.mem_singleton.2 rfl) _
  have hb := h.sl.set_ i (.pointer none)
  have he : (slotsV SB x.slots).setIfInBounds i (.pointer none) = slotsV SB (x.slots.set i none) := by
    apply Array.ext'
    apply List.ext_getElem?
    intro k
    simp only [slotsV, List.setIfInBounds_toArray, List.getElem?_mapIdx, List.getElem?_set, List.length_mapIdx]
    by_cases hk : i = k
    · subst hk
      by_cases hl : i < x.slots.length
      · simp [hl, slotV]
      · simp [hl]
    · simp [hk]
  rw [he] at hb
  have hs : ∀ j y, (x.slots.set i none)[j]? = some (some y) → x.slots[j]? = some (some y) := fun j y hy => by
    by_cases hj : i = j
    · subst hj
      by_cases hl : i < x.slots.length
      · rw [List.getElem?_set_self hl] at hy; cases hy
      · rw [List.getElem?_eq_none (by rw [List.length_set]; omega)] at hy; cases hy
    · rwa [List.getElem?_set_ne hj] at hy
  refine ⟨h.tm.keep ho (h.o4.apart h.o0 (by decide)), hb, ho.blk h.il (h.o1.apart h.o0 (by decide) _ (List.mem_cons_self ..)), h.pu.keep ho (h.o2.apart h.o0 (by decide) _ (by simp)) (h.o2.apart h.o0 (by decide) _ (by simp)) (h.o2.apart h.o0 (by decide) _ (by simp)), Wl.Wheel.keep h.wh ho (h.o3.apart h.o0 (by decide)), by show (x.slots.set i none).length = n; rw [List.length_set]; exact h.ls, h.li, h.lh, h.n1, h.n8,
    fun j y hy => (h.ses j y (hs j y hy)).keep ho ((h.o5 j y (hs j y hy)).apart h.o0 (by omega) _ (List.mem_cons_self ..)) (fun k hk => (h.o5 j y (hs j y hy)).apart h.o0 (by omega) k (List.mem_cons_of_mem _ hk)),
    h.o0.step ho.size 0, h.o1.step ho.size 0, h.o2.step ho.size 0, h.o3.step ho.size 0, h.o4.step ho.size 0, fun j y hy => (h.o5 j y (hs j y hy)).step ho.size 0, fun j y hy => h.ob j y (hs j y hy), h.ot.step ho h.o0 (by decide) 0⟩
end Go.Proofs.YtkccjfgkbkodiaaGreat
namespace Go.Proofs.YtkccjfgkbkodiaaGreat
open Go.RowKit
set_option maxRecDepth 100000
theorem SameBut.slots {x x' : Gt} (h : SameBut x x') : x'.slots = x.slots := by obtain ⟨f', _, rfl⟩ := h; rfl
theorem Gt.charged_slots {x : Gt} {i c : Nat} : (x.charged i c).slots = x.slots := by unfold Gt.charged; split <;> rfl
/-- Bytes go out; the session isn't over. -/
theorem gate_write_on {w : World} {gp : Nat} {a : GB} {n d sg N : Nat} {x : Gt} (h : GateIs w gp a n d sg x) {id i : Nat} {y : Ses} {o : Ti.One} (hi : id % n = i) (hb : id ≤ 1000000000) (hy : x.slots[i]? = some (some y)) (hid : x.ids[i]? = some (id : Int)) (hf : x.f i = some o) (hok : ∀ m, y.p = some m → m.Ok d N) (hd : d ≤ 100) (hsz : y.outL.flatten.length ≤ 900000)
    (ni : Int) (k : Nat) (hk : (k : Int) = max (min ni y.outL.flatten.length) 0) (hsz2 : (dropQ k y.outL).flatten.length ≤ 900000) (hcl : (y.ended && decide ((dropQ k y.outL).flatten.length = 0)) = false) :
    Calls Tryz.prog 15 #[.pointer (some ⟨gp, 0, none⟩), .int .i64 (id : Int), .int .i64 ni] w fun e w' => e = .returned (.string (S (y.outL.flatten.take k))) ∧ ∃ c x', ({ y with outL := dropQ k y.outL } : Ses).chargeBy c ∧ SameBut ((x.now i { y with outL := dropQ k y.outL }).charged i c) x' ∧ GateIs w' gp a n d sg x' := by
  obtain ⟨vw, Ft, SB, own, tn, hM, htn⟩ := h
  have HO := hide (of_yes hM hi hb hy hid)
  have HWR := hide (ses_write (hM.ses i y hy) ni k hk hsz)
  have HOK := hide (And.intro hok (And.intro hd hsz2))
  have HY := hide hy
  have HFO := hide hf
  have HCL := hide hcl
  have HM := hide (And.intro hM htn)
  obtain ⟨out, hout⟩ : ∃ out, out = y.outL.flatten.take k := ⟨_, rfl⟩
  rw [← hout] at HWR ⊢
  clear hM htn hi hb hy hid hok hd hsz hsz2 hf hk hcl hout
  go_enter Tryz.func15, Tryz.ntmps15
  go_wp2_with fail
  (with_reducible refine (unhide HO).mono ?_)
  rintro e w ⟨rfl, hw⟩
  subst hw
  go_wp2_with fail
  (with_reducible refine (unhide HWR).mono ?_)
  rintro e w2 ⟨rfl, hs, ho⟩
  have HG := HM.out.1.turned HM.out.2 HY.out hs ho (fun k hk => .inl hk)
  have HC := hide (gate_charge (N := N) HG (Gt.now_slot HY.out) HOK.out.1 HOK.out.2.1 HOK.out.2.2)
  clear HWR HG hs ho
  go_wp2_with fail
  (with_reducible refine (unhide HC).mono ?_)
  rintro e w3 ⟨rfl, c, hc, hg⟩
  have HCC := hide hc
  have hs3 : ((x.now i { y with outL := dropQ k y.outL }).charged i c).slots[i]? = some (some { y with outL := dropQ k y.outL }) := by rw [Gt.charged_slots]; exact Gt.now_slot HY.out
  obtain ⟨vw3, Ft3, SB3, own3, tn3, hM3, htn3⟩ := hg
  have hob : (SB3 i).1 = (SB i).1 := (hM3.ob i _ hs3).trans (HM.out.1.ob i y HY.out).symm
  cases out with
  | nil =>
    have HCZ := ses_closed (hM3.ses i _ hs3)
    rw [hob, show ({ y with outL := dropQ k y.outL } : Ses).ended = y.ended from rfl, HCL.out] at HCZ
    have HCZ := hide HCZ
    have HM3 := hide (And.intro hM3 htn3)
    clear HC hc hM3 htn3 hs3 hob
    go_wp2_with fail
    (with_reducible refine (unhide HCZ).mono ?_)
    rintro e w ⟨rfl, hw⟩
    subst hw
    go_wp2_with fail
    go_ret
    exact ⟨rfl, c, _, HCC.out, ⟨_, fun _ => rfl, rfl⟩, _, _, _, _, _, HM3.out.1, HM3.out.2⟩
  | cons u l =>
    have HT := hide (Ti.touch_some hM3.tm (id := (i : Int)) (o := o) (by rw [Gt.charged_f]; exact HFO.out))
    have HM3 := hide (And.intro hM3 htn3)
    have HS3 := hide (And.intro hs3 hob)
    have hne : (S (u :: l) != ⟨#[]⟩) = true := by rfl
    clear HC hc hM3 htn3 hs3 hob
    go_wp2_with fail
    (with_reducible refine (unhide HT).mono ?_)
    rintro e w4 ⟨rfl, ht, ho⟩
    have hM4 := HM3.out.1.timer ht ho (fun k hk => .inl hk)
    have HCZ := ses_closed (hM4.ses i _ HS3.out.1)
    rw [HS3.out.2, show ({ y with outL := dropQ k y.outL } : Ses).ended = y.ended from rfl, HCL.out] at HCZ
    have HCZ := hide HCZ
    have HM4 := hide hM4
    clear HT ht ho hM4
    go_wp2_with fail
    (with_reducible refine (unhide HCZ).mono ?_)
    rintro e w ⟨rfl, hw⟩
    subst hw
    go_wp2_with fail
    go_ret
    refine ⟨rfl, c, _, HCC.out, ⟨_, fun j => ?_, rfl⟩, _, _, _, _, _, HM4.out, HM3.out.2⟩
    by_cases hj : j = (i : Int)
    · rw [hj, Ti.upd_same, Gt.charged_f]
      exact (congrArg Option.isSome HFO.out).symm
    · rw [Ti.upd_other _ _ hj]
end Go.Proofs.YtkccjfgkbkodiaaGreat
namespace Go.Proofs.YtkccjfgkbkodiaaGreat
open Go.RowKit
set_option maxRecDepth 100000
theorem Gt.charged_O {x : Gt} {i c : Nat} : (x.charged i c).O = x.O := by unfold Gt.charged; split <;> rfl
theorem Gt.charged_L {x : Gt} {i c : Nat} : (x.charged i c).L = x.L := by unfold Gt.charged; split <;> rfl
theorem Gt.charged_ids {x : Gt} {i c : Nat} : (x.charged i c).ids = x.ids := by unfold Gt.charged; split <;> rfl
theorem Gt.charged_many {x : Gt} {i c : Nat} : (x.charged i c).many = x.many := by unfold Gt.charged; split <;> rfl
theorem Gt.charged_rest {x : Gt} {i c : Nat} : (x.charged i c).rest = x.rest := by unfold Gt.charged; split <;> rfl
theorem Gt.charged_fr {x : Gt} {i c : Nat} : (x.charged i c).fr = x.fr := by unfold Gt.charged; split <;> rfl
theorem Gt.charged_H0 {x : Gt} {i c : Nat} : (x.charged i c).H.set i 0 = x.H.set i 0 := by unfold Gt.charged; split <;> simp
/-- A slot's session is over and gone. -/
def Over (x : Gt) (i : Nat) (x' : Gt) : Prop := x'.slots = x.slots.set i none ∧ x'.ids = x.ids ∧ x'.many = x.many ∧ x'.rest = x.rest ∧ x'.H = x.H.set i 0 ∧ x'.O = x.O.set i false ∧ x'.L = x.L.erase (i : Int) ∧ (∀ j, (x'.f j).isSome = if j = (i : Int) then false else (x.f j).isSome) ∧ x'.fr = x.fr
set_option maxHeartbeats 2000000 in
/-- The last bytes go out. -/
theorem gate_write_over {w : World} {gp : Nat} {a : GB} {n d sg N : Nat} {x : Gt} (h : GateIs w gp a n d sg x) {id i : Nat} {y : Ses} {o : Ti.One} (hi : id % n = i) (hb : id ≤ 1000000000) (hy : x.slots[i]? = some (some y)) (hid : x.ids[i]? = some (id : Int)) (hf : x.f i = some o) (hok : ∀ m, y.p = some m → m.Ok d N) (hd : d ≤ 100) (hsz : y.outL.flatten.length ≤ 900000)
    (ni : Int) (k : Nat) (hk : (k : Int) = max (min ni y.outL.flatten.length) 0) (hsz2 : (dropQ k y.outL).flatten.length ≤ 900000) (hcl : (y.ended && decide ((dropQ k y.outL).flatten.length = 0)) = true) (hop : Pu.opn x.O (i : Int) = true) (hL : (i : Int) ∈ x.L) :
    Calls Tryz.prog 15 #[.pointer (some ⟨gp, 0, none⟩), .int .i64 (id : Int), .int .i64 ni] w fun e w' => e = .returned (.string (S (y.outL.flatten.take k))) ∧ ∃ x', GateIs w' gp a n d sg x' ∧ Over x i x' := by
  obtain ⟨vw, Ft, SB, own, tn, hM, htn⟩ := h
  have HO := hide (of_yes hM hi hb hy hid)
  have HWR := hide (ses_write (hM.ses i y hy) ni k hk hsz)
  have HOK := hide (And.intro hok (And.intro hd hsz2))
  have HY := hide hy
  have HFO := hide hf
  have HCL := hide hcl
  have HOP := hide (And.intro hop hL)
  have HM := hide (And.intro hM htn)
  obtain ⟨out, hout⟩ : ∃ out, out = y.outL.flatten.take k := ⟨_, rfl⟩
  rw [← hout] at HWR ⊢
  clear hM htn hi hb hy hid hok hd hsz hsz2 hf hk hcl hout hop hL
  go_enter Tryz.func15, Tryz.ntmps15
  go_wp2_with fail
  (with_reducible refine (unhide HO).mono ?_)
  rintro e w ⟨rfl, hw⟩
  subst hw
  go_wp2_with fail
  (with_reducible refine (unhide HWR).mono ?_)
  rintro e w2 ⟨rfl, hs, ho⟩
  have HG := HM.out.1.turned HM.out.2 HY.out hs ho (fun k hk => .inl hk)
  have HC := hide (gate_charge (N := N) HG (Gt.now_slot HY.out) HOK.out.1 HOK.out.2.1 HOK.out.2.2)
  clear HWR HG hs ho
  go_wp2_with fail
  (with_reducible refine (unhide HC).mono ?_)
  rintro e w3 ⟨rfl, c, hc, hg⟩
  have HCC := hide hc
  have hs3 : ((x.now i { y with outL := dropQ k y.outL }).charged i c).slots[i]? = some (some { y with outL := dropQ k y.outL }) := by rw [Gt.charged_slots]; exact Gt.now_slot HY.out
  obtain ⟨vw3, Ft3, SB3, own3, tn3, hM3, htn3⟩ := hg
  have hob : (SB3 i).1 = (SB i).1 := (hM3.ob i _ hs3).trans (HM.out.1.ob i y HY.out).symm
  cases out with
  | nil =>
    have HCZ := ses_closed (hM3.ses i _ hs3)
    rw [hob, show ({ y with outL := dropQ k y.outL } : Ses).ended = y.ended from rfl, HCL.out] at HCZ
    have HCZ := hide HCZ
    have HM3 := hide (And.intro hM3 htn3)
    clear HC hc hM3 htn3 hs3 hob
    go_wp2_with fail
    (with_reducible refine (unhide HCZ).mono ?_)
    rintro e w ⟨rfl, hw⟩
    subst hw
    have hM4 := HM3.out.1
    have hil : (i : Int) < n := by have := HM.out.1.ls; have := (List.getElem?_eq_some_iff.1 HY.out).1; omega
    have hn8 := hM4.n8
    have HCS := hide (Pu.close_yes hM4.pu (i : Int) (by show Pu.opn (Gt.O _) _ = true; simp only [Gt.charged_O]; exact HOP.out.1) _ rfl)
    rw [show ((i : Int)).toNat = i by simp] at HCS
    obtain ⟨k0, k1, k2, k3, k4⟩ := hM4.cells
    have HM4 := hide hM4
    clear hM4 k0 k1 k2 k4
    go_wp2_with fail
    (with_reducible refine (unhide HCS).mono ?_)
    rintro e w5 ⟨rfl, hp5, ho5⟩
    have hM5 := HM4.out.purse hp5 (ho5.mono (by simp)) (by rw [List.length_set]; exact HM4.out.lh)
    obtain ⟨k0, k1, k2, k3, k4⟩ := hM5.cells
    have HRM := hide (Wl.remove_yes hM5.wh (i : Int) (by show (i : Int) ∈ Gt.L _; simp only [Gt.charged_L]; exact HOP.out.2))
    have HM5 := hide hM5
    clear hM5 hp5 ho5 HCS k0 k1 k2 k3
    go_wp2_with fail
    (with_reducible refine (unhide HRM).mono ?_)
    rintro e w6 ⟨rfl, v6, hw6, ho6, hv6⟩
    have hM6 := HM5.out.wheel hw6 ho6 (fun k hk => .inl (by rw [hv6] at hk; exact hk))
    have HST := hide (Ti.stop_some hM6.tm (id := (i : Int)) (o := o) (by show Gt.f _ _ = _; simp only [Gt.charged_f]; exact HFO.out))
    have HM6 := hide hM6
    clear hM6 hw6 ho6 hv6 HRM k4
    go_wp2_with fail
    (with_reducible refine (unhide HST).mono ?_)
    rintro e w7 ⟨rfl, ht7, ho7⟩
    have hM7 := HM6.out.timer ht7 ho7 (fun k hk => .inl hk)
    obtain ⟨k0, k1, k2, k3, k4⟩ := hM7.cells
    have HM8 := hide (hM7.freed i)
    have s0 := hM7.slot (i := i) (o := some { y with outL := dropQ k y.outL }) (by show (Gt.slots _)[i]? = _; simp only [Gt.charged_slots]; exact Gt.now_slot HY.out)
    simp only [slotV] at s0
    have f0 := hM7.sl.frozen i
    clear hM7 ht7 ho7 HST k1 k2 k3 k4
    go_wp2_with fail
    go_ret
    exact ⟨rfl, _, ⟨_, _, _, _, _, HM8.out, HM3.out.2⟩, by simp [Gt.freed, Gt.charged_slots, Gt.now], Gt.charged_ids, Gt.charged_many, Gt.charged_rest, Gt.charged_H0, congrArg (fun z => z.set i false) Gt.charged_O, congrArg (fun z => z.erase (i : Int)) Gt.charged_L, fun j => by
      show (Ti.upd _ (i : Int) none j).isSome = _
      unfold Ti.upd
      split
      · rfl
      · rw [Gt.charged_f]; rfl, Gt.charged_fr⟩
  | cons u l =>
    have HT := hide (Ti.touch_some hM3.tm (id := (i : Int)) (o := o) (by rw [Gt.charged_f]; exact HFO.out))
    have HM3 := hide (And.intro hM3 htn3)
    have HS3 := hide (And.intro hs3 hob)
    have hne : (S (u :: l) != ⟨#[]⟩) = true := by rfl
    clear HC hc hM3 htn3 hs3 hob
    go_wp2_with fail
    (with_reducible refine (unhide HT).mono ?_)
    rintro e w4 ⟨rfl, ht, ho⟩
    have hM4 := HM3.out.1.timer ht ho (fun k hk => .inl hk)
    have HCZ := ses_closed (hM4.ses i _ HS3.out.1)
    rw [HS3.out.2, show ({ y with outL := dropQ k y.outL } : Ses).ended = y.ended from rfl, HCL.out] at HCZ
    have HCZ := hide HCZ
    clear HT ht ho
    go_wp2_with fail
    (with_reducible refine (unhide HCZ).mono ?_)
    rintro e w ⟨rfl, hw⟩
    subst hw
    have hil : (i : Int) < n := by have := HM.out.1.ls; have := (List.getElem?_eq_some_iff.1 HY.out).1; omega
    have hn8 := hM4.n8
    have HCS := hide (Pu.close_yes hM4.pu (i : Int) (by show Pu.opn (Gt.O _) _ = true; simp only [Gt.charged_O]; exact HOP.out.1) _ rfl)
    rw [show ((i : Int)).toNat = i by simp] at HCS
    obtain ⟨k0, k1, k2, k3, k4⟩ := hM4.cells
    have HM4 := hide hM4
    clear hM4 k0 k1 k2 k4
    go_wp2_with fail
    (with_reducible refine (unhide HCS).mono ?_)
    rintro e w5 ⟨rfl, hp5, ho5⟩
    have hM5 := HM4.out.purse hp5 (ho5.mono (by simp)) (by rw [List.length_set]; exact HM4.out.lh)
    obtain ⟨k0, k1, k2, k3, k4⟩ := hM5.cells
    have HRM := hide (Wl.remove_yes hM5.wh (i : Int) (by show (i : Int) ∈ Gt.L _; simp only [Gt.charged_L]; exact HOP.out.2))
    have HM5 := hide hM5
    clear hM5 hp5 ho5 HCS k0 k1 k2 k3
    go_wp2_with fail
    (with_reducible refine (unhide HRM).mono ?_)
    rintro e w6 ⟨rfl, v6, hw6, ho6, hv6⟩
    have hM6 := HM5.out.wheel hw6 ho6 (fun k hk => .inl (by rw [hv6] at hk; exact hk))
    have HST := hide (Ti.stop_some hM6.tm (id := (i : Int)) (o := ⟨o.limit, o.begun, 0⟩) (Ti.upd_same _ _ _))
    have HM6 := hide hM6
    clear hM6 hw6 ho6 hv6 HRM k4
    go_wp2_with fail
    (with_reducible refine (unhide HST).mono ?_)
    rintro e w7 ⟨rfl, ht7, ho7⟩
    have hM7 := HM6.out.timer ht7 ho7 (fun k hk => .inl hk)
    obtain ⟨k0, k1, k2, k3, k4⟩ := hM7.cells
    have HM8 := hide (hM7.freed i)
    have s0 := hM7.slot (i := i) (o := some { y with outL := dropQ k y.outL }) (by show (Gt.slots _)[i]? = _; simp only [Gt.charged_slots]; exact Gt.now_slot HY.out)
    simp only [slotV] at s0
    have f0 := hM7.sl.frozen i
    clear hM7 ht7 ho7 HST k1 k2 k3 k4
    go_wp2_with fail
    go_ret
    exact ⟨rfl, _, ⟨_, _, _, _, _, HM8.out, HM3.out.2⟩, by simp [Gt.freed, Gt.charged_slots, Gt.now], Gt.charged_ids, Gt.charged_many, Gt.charged_rest, Gt.charged_H0, congrArg (fun z => z.set i false) Gt.charged_O, congrArg (fun z => z.erase (i : Int)) Gt.charged_L, fun j => by
      show (Ti.upd _ (i : Int) none j).isSome = _
      unfold Ti.upd
      split
      · rfl
      · rw [Gt.charged_f]; rfl, Gt.charged_fr⟩
end Go.Proofs.YtkccjfgkbkodiaaGreat
namespace Go.Proofs.YtkccjfgkbkodiaaGreat
open Go.RowKit
set_option maxRecDepth 100000
theorem gate_chunk_no {w : World} {gp : Nat} {a : GB} {n d sg : Nat} {x : Gt} (h : GateIs w gp a n d sg x) {id i : Nat} (hi : id % n = i) (hb : id ≤ 1000000000) (hno : x.slots[i]? = some none ∨ x.ids[i]? ≠ some (id : Int)) (u : Value) :
    Calls Tryz.prog 11 #[.pointer (some ⟨gp, 0, none⟩), .int .i64 (id : Int), u] w fun e w' => e = .returned (.int .i64 0) ∧ w' = w := by
  obtain ⟨vw, Ft, SB, own, tn, hM, htn⟩ := h
  have HO := hide (of_no hM hi hb hno)
  clear hM htn hi hb hno
  go_enter Tryz.func11, Tryz.ntmps11
  go_wp2_with fail
  (with_reducible refine (unhide HO).mono ?_)
  rintro e w ⟨rfl, hw⟩
  subst hw
  go_wp2_with fail
  go_ret
  exact ⟨rfl, rfl⟩
theorem gate_write_no {w : World} {gp : Nat} {a : GB} {n d sg : Nat} {x : Gt} (h : GateIs w gp a n d sg x) {id i : Nat} (hi : id % n = i) (hb : id ≤ 1000000000) (hno : x.slots[i]? = some none ∨ x.ids[i]? ≠ some (id : Int)) (u : Value) :
    Calls Tryz.prog 15 #[.pointer (some ⟨gp, 0, none⟩), .int .i64 (id : Int), u] w fun e w' => e = .returned (.string ⟨#[]⟩) ∧ w' = w := by
  obtain ⟨vw, Ft, SB, own, tn, hM, htn⟩ := h
  have HO := hide (of_no hM hi hb hno)
  clear hM htn hi hb hno
  go_enter Tryz.func15, Tryz.ntmps15
  go_wp2_with fail
  (with_reducible refine (unhide HO).mono ?_)
  rintro e w ⟨rfl, hw⟩
  subst hw
  go_wp2_with fail
  go_ret
  exact ⟨rfl, rfl⟩
end Go.Proofs.YtkccjfgkbkodiaaGreat
