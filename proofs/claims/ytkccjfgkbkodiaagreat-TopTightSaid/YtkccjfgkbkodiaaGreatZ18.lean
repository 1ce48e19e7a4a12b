/-
  StgC: parts of the walk of TopTight, under no condition.
-/
import Derived.Test.YtkccjfgkbkodiaaGreatZ17
namespace Go.Proofs.YtkccjfgkbkodiaaGreat
open Go.RowKit
def Stg.bump (s : Stg) : List (Nat × Nat) := match s.opn with
  | [] => []
  | c :: M => (c.1, c.2 + 1) :: M
def Stg.step (s : Stg) (p : Part) : Stg × List Part × Int :=
  if s.e ≠ 0 then (s, [], s.e)
  else if s.opn = [] ∧ p.isBegin = false then (s, [p], 0)
  else if p.isClose then s.close
  else ((Stg.hold { s with opn := if p.isBegin then (s.held.length, 0) :: s.bump else s.bump } p).1, [], (Stg.hold { s with opn := if p.isBegin then (s.held.length, 0) :: s.bump else s.bump } p).2)
/-- What a stage always is. -/
structure Stg.Ok (s : Stg) : Prop where
  lim : s.limit ≤ 2000
  len : s.held.length ≤ s.size
  le : s.size ≤ s.limit
  at_ : ∀ c ∈ s.opn, ∃ m, s.held[c.1]? = some (.begin_ m (-1))
  parts : ∀ c ∈ s.opn, c.2 ≤ s.held.length
  few : s.opn.length ≤ s.held.length
theorem Part.js_begin {p : Part} (h : p.js = true) : ∃ (m : Bool) (n : Int), p.asBegin = .agg #[.bool m, .int .i64 n] ∧ (p.isBegin = true → n = -1) ∧ (p.isBegin = true → p.isClose = false) := by
  cases p <;> simp [Part.js] at h <;> simp [Part.asBegin, Part.isBegin, Part.isClose]
  exact h
theorem slB_len (a : Option Addr) (n m c d : Nat) : slB (.slice a n c) = slB (.slice a m d) := by cases a <;> rfl
theorem info_cn : (Tryz.prog.info? 249).map (fun i => (i.zero, i.size, i.bytes)) = some (some (.agg #[.int .i64 0, .int .i64 0]), 2, 16) := by kernel_rfl
theorem Part.js_ev {p : Part} (h : p.js = true) : ∃ k y m c l, p.ev = evV k y m l c := by
  cases p <;> simp [Part.js] at h
  case null => exact ⟨_, _, _, _, _, rfl⟩
  case bool b => exact ⟨_, _, _, _, _, rfl⟩
  case whole g m => exact ⟨_, _, _, _, _, rfl⟩
  case word l => exact ⟨_, _, _, _, _, rfl⟩
  case begin_ m n => subst h; exact ⟨_, _, _, _, _, by simp only [Part.ev]; rw [if_neg (by omega)]⟩
  case close => exact ⟨_, _, _, _, _, rfl⟩
theorem StgM.setbump {w : World} {s : Nat} {st : Stg} {hv : Value} {go oo n oc : Nat} (h : StgM w s st hv (.slice (some ⟨go, oo, none⟩) n oc)) {c : Nat × Nat} {M : List (Nat × Nat)} (hop : st.opn = c :: M) (hn : n = st.opn.length) :
    StgM (w.setCell ⟨go, oo + (M.length * 2 + 1), none⟩ (.int .i64 ((c.2 : Int) + 1))) s { st with opn := st.bump } hv (.slice (some ⟨go, oo, none⟩) n oc) := by
  subst hn
  refine ⟨h.blk.far (fun e => h.outo (by simp [slB, e])) _, h.held.far (fun hk => ?_) _, ?_⟩
  · obtain ⟨cs, hb⟩ := h.held.blkOf _ hk
    exact h.opn.notBlk hb (by decide) (by simp [slB])
  · have h9 := h.opn.set (M.length * 2 + 1) (by rw [hop, opnV_length]; simp; omega) (.int .i64 ((c.2 : Int) + 1))
    have e1 : st.bump.length = st.opn.length := by unfold Stg.bump; rw [hop]; rfl
    have e2 : opnV st.bump = (opnV st.opn).set (M.length * 2 + 1) (.int .i64 ((c.2 : Int) + 1)) := by
      unfold Stg.bump
      rw [hop]
      simp only [opnV_cons]
      rw [List.set_append_right _ _ (by rw [opnV_length]; omega), opnV_length]
      simp
    simp only [e1, e2]
    exact h9
set_option maxRecDepth 100000 in
set_option maxHeartbeats 4000000 in
theorem stg_step {w : World} {s : Nat} {F : List Nat} {st : Stg} (h : StgIs w s F st) (hk : st.Ok) (p : Part) (hp : p.js = true) :
    Calls Tryz.prog 121 #[.pointer (some ⟨s, 0, none⟩), p.val] w (StgPost w s F (st.step p)) := by
  obtain ⟨R, hR⟩ : ∃ r, st.step p = r := ⟨_, rfl⟩
  rw [hR]
  unfold Stg.step at hR
  obtain ⟨hv, ov, hM, hF1, hF2⟩ := h
  obtain ⟨oa, oc, rfl⟩ := hM.opn.form
  obtain ⟨ha, hc, rfl⟩ := hM.held.form
  have c3 : w.cell? ⟨s, 3, none⟩ = some (.slice oa st.opn.length oc) := hM.blk.cellv 3 _ rfl
  have c4 : w.cell? ⟨s, 4, none⟩ = some (.int .i64 st.e) := hM.blk.cellv 4 _ rfl
  have c1 : w.cell? ⟨s, 1, none⟩ = some (.slice ha st.held.length hc) := hM.blk.cellv 1 _ rfl
  have ls := hM.blk.lt
  have f3 := hM.blk.frozen 3
  have H := hide hM
  have HK := hide hk
  have HF1 := hide hF1
  have HF2 := hide hF2
  have HJ := hide hp
  clear hM hk hF1 hF2
  by_cases he : st.e = 0
  · have e0 : (st.e != 0) = false := by simp [he]
    rw [if_neg (by simp [he])] at hR
    have hpl := plain_any p w
    obtain ⟨k5, y5, m5, q5, l5, hev⟩ := Part.js_ev hp
    rw [Part.js_may hp, hev] at hpl
    simp only [evV] at hpl
    clear hev
    have HPL := hide hpl
    obtain ⟨bm, bn, hab, hbn, hbc⟩ := Part.js_begin hp
    have HTG := fun W => ta_begin p W
    rw [hab] at HTG
    have HTC := fun W => ta_close p W
    have HHD := fun (W : World) (st' : Stg) (hv' ov' : Value) (h' : StgM W s st' hv' ov') (a1 : st'.held.length ≤ 3000) (a2 : st'.size ≤ 3000) (a3 : st'.limit ≤ 3000) => hide (stg_hold h' p hp a1 a2 a3)
    have hfm := p.form
    obtain ⟨pv, hpv⟩ : ∃ pv, pv = p.val := ⟨_, rfl⟩
    rw [← hpv] at hfm HPL HTG HTC HHD ⊢
    have HPV := hide hpv
    clear hpl he hp hab hpv
    by_cases hop : st.opn = []
    · rw [hop, List.length_nil] at c3
      cases hib : p.isBegin with
      | false =>
        rw [if_pos ⟨hop, hib⟩] at hR
        rw [hib] at HTG
        have HR := hide hR
        have HOP := hide hop
        clear hR hbn hbc HHD hib hop
        rcases hfm with rfl | ⟨t0, v0, rfl⟩
        · go_enter Tryz.func121, Tryz.ntmps121
          go_wp2_with fail
          (with_reducible refine (unhide HPL).mono ?_)
          rintro e w1 ⟨rfl, hb1⟩
          have hm1 := H.out.new (Only.of_below hb1 [])
          have d1 : w1.cell? ⟨s, 1, none⟩ = some (.slice ha st.held.length hc) := hm1.blk.cellv 1 _ rfl
          have d3 : w1.cell? ⟨s, 3, none⟩ = some (.slice oa 0 oc) := by have h9 : w1.cell? ⟨s, 3, none⟩ = some (.slice oa st.opn.length oc) := hm1.blk.cellv 3 _ rfl; rw [HOP.out, List.length_nil] at h9; exact h9
          have ls1 := hm1.blk.lt
          have HM1 := hide hm1
          have HB1 : Hid (Only (s :: F) w w1) := hide (Only.of_below hb1 _)
          clear HPL hm1 hb1 c1 c3 c4 f3
          go_wp2_with fail
          go_ret2
          rw [← HR.out]
          refine ⟨_, F, rfl, ?_, ⟨_, _, HM1.out.new ((((Only.refl [] _).alloc _).alloc _).alloc _), HF1.out, HF2.out⟩, ((HB1.out.alloc _).alloc _).alloc _, fun k hk => .inr ?_, fun k hk => .inl hk⟩
          · rw [show partsV [p] = [.nilIface] by have h8 := HPV.out; simp [partsV, ← h8]]
            exact SlN.one (Nat.zero_le _) (by simpa using Blk.new ((w1.alloc (.cells #[.int .i64 k5, .bool y5, .int .u64 m5, .string (S l5), .int .i64 q5] 139)).alloc (.cells #[.bool bm, .int .i64 bn] 243)) 20 #[.nilIface])
          · have h9 := HB1.out.size
            simp [slB] at hk
            omega
        · go_enter Tryz.func121, Tryz.ntmps121
          go_wp2_with fail
          (with_reducible refine (unhide HPL).mono ?_)
          rintro e w1 ⟨rfl, hb1⟩
          have hm1 := H.out.new (Only.of_below hb1 [])
          have d1 : w1.cell? ⟨s, 1, none⟩ = some (.slice ha st.held.length hc) := hm1.blk.cellv 1 _ rfl
          have d3 : w1.cell? ⟨s, 3, none⟩ = some (.slice oa 0 oc) := by have h9 : w1.cell? ⟨s, 3, none⟩ = some (.slice oa st.opn.length oc) := hm1.blk.cellv 3 _ rfl; rw [HOP.out, List.length_nil] at h9; exact h9
          have ls1 := hm1.blk.lt
          have HM1 := hide hm1
          have HB1 : Hid (Only (s :: F) w w1) := hide (Only.of_below hb1 _)
          clear HPL hm1 hb1 c1 c3 c4 f3
          go_wp2_with fail
          go_ret2
          rw [← HR.out]
          refine ⟨_, F, rfl, ?_, ⟨_, _, HM1.out.new ((((Only.refl [] _).alloc _).alloc _).alloc _), HF1.out, HF2.out⟩, ((HB1.out.alloc _).alloc _).alloc _, fun k hk => .inr ?_, fun k hk => .inl hk⟩
          · rw [show partsV [p] = [.iface t0 v0] by have h8 := HPV.out; simp [partsV, ← h8]]
            exact SlN.one (Nat.zero_le _) (by simpa using Blk.new ((w1.alloc (.cells #[.int .i64 k5, .bool y5, .int .u64 m5, .string (S l5), .int .i64 q5] 139)).alloc (.cells #[.bool bm, .int .i64 bn] 243)) 20 #[.iface t0 v0])
          · have h9 := HB1.out.size
            simp [slB] at hk
            omega
      | true =>
        rw [if_neg (by simp [hib]), if_neg (by simp [hbc hib])] at hR
        have hbn := hbn hib
        subst hbn
        rw [hib] at HTG hR
        rw [hbc hib] at HTC
        have HR := hide hR
        have HOP := hide hop
        clear hR hbc hib hop hfm
        go_enter Tryz.func121, Tryz.ntmps121
        go_wp2_with fail
        (with_reducible refine (unhide HPL).mono ?_)
        rintro e w1 ⟨rfl, hb1⟩
        have hm1 := H.out.new (Only.of_below hb1 [])
        have d1 : w1.cell? ⟨s, 1, none⟩ = some (.slice ha st.held.length hc) := hm1.blk.cellv 1 _ rfl
        have d3 : w1.cell? ⟨s, 3, none⟩ = some (.slice oa 0 oc) := by have h9 : w1.cell? ⟨s, 3, none⟩ = some (.slice oa st.opn.length oc) := hm1.blk.cellv 3 _ rfl; rw [HOP.out, List.length_nil] at h9; exact h9
        have ls1 := hm1.blk.lt
        have HM1 := hide hm1
        have HB1 : Hid (Only (s :: F) w w1) := hide (Only.of_below hb1 _)
        clear HPL hm1 hb1 c1 c3 c4 f3
        have hbu : ({ st with opn := st.bump } : Stg) = st := by
          have h9 : st.bump = st.opn := by unfold Stg.bump; rw [HOP.out]
          rw [h9]
        have H9 : Hid (StgM (((w1.alloc (.cells #[.int .i64 k5, .bool y5, .int .u64 m5, .string (S l5), .int .i64 q5] 139)).alloc (.cells #[.bool bm, .int .i64 (-1)] 243)).alloc (.cells #[] 246)) s { st with opn := st.bump } (.slice ha st.held.length hc) (.slice oa 0 oc)) := hide (by
          rw [hbu]
          have h9 := ((HM1.out.new ((Only.refl [] _).alloc (.cells #[.int .i64 k5, .bool y5, .int .u64 m5, .string (S l5), .int .i64 q5] 139))).new ((Only.refl [] _).alloc (.cells #[.bool bm, .int .i64 (-1)] 243))).new ((Only.refl [] _).alloc (.cells #[] 246))
          rw [HOP.out, List.length_nil] at h9
          exact h9)
        have HNX : Hid (0 = st.bump.length) := hide (by unfold Stg.bump; rw [HOP.out]; rfl)
        have HO9 := hide (((HB1.out.alloc (.cells #[.int .i64 k5, .bool y5, .int .u64 m5, .string (S l5), .int .i64 q5] 139)).alloc (.cells #[.bool bm, .int .i64 (-1)] 243)).alloc (.cells #[] 246))
        clear hbu
        have HBL : Hid (st.bump.length ≤ st.opn.length) := hide (by unfold Stg.bump; split <;> simp_all)
        have y1 : ((((w1.alloc (.cells #[.int .i64 k5, .bool y5, .int .u64 m5, .string (S l5), .int .i64 q5] 139)).alloc (.cells #[.bool bm, .int .i64 (-1)] 243)).alloc (.cells #[] 246))).cell? ⟨s, 1, none⟩ = some (.slice ha st.held.length hc) := H9.out.blk.cellv 1 _ rfl
        have y3 : ((((w1.alloc (.cells #[.int .i64 k5, .bool y5, .int .u64 m5, .string (S l5), .int .i64 q5] 139)).alloc (.cells #[.bool bm, .int .i64 (-1)] 243)).alloc (.cells #[] 246))).cell? ⟨s, 3, none⟩ = some (.slice oa 0 oc) := H9.out.blk.cellv 3 _ rfl
        go_upto_region 18 with (fail)
        generalize (((w1.alloc (.cells #[.int .i64 k5, .bool y5, .int .u64 m5, .string (S l5), .int .i64 q5] 139)).alloc (.cells #[.bool bm, .int .i64 (-1)] 243)).alloc (.cells #[] 246)) = WX at H9 HO9 y1 y3 ⊢
        have hop9 := H9.out.opn
        simp only at hop9
        rw [← HNX.out] at hop9
        refine wp_region_tree (fun W => W.cell? ⟨s, 1, none⟩ = some (.slice ha st.held.length hc) ∧ W.cell? ⟨s, 3, none⟩ = some (.slice oa 0 oc)) 15 (.take [0, 1, 2, 3, 4, 5, 6, 7, 8, 9, 10] (.step 11 (.step 12 (.step 13 (.step 14 (.step 15 (.fin))))))) (by kernel_rfl) (by kernel_rfl) (by intro _ _ _ _ _ h; exact h) ?_
        refine wpTree_take (⟨y1, y3⟩) ?_
        simp only [opsAt, List.getElem?_cons_zero, List.getElem?_cons_succ]
        iterate 11 (first | (refine wpPureH_step (v := ?_) rfl (fun W hS => ?_) ?_; rotate_left; · (obtain ⟨s1, s2⟩ := hS; (try simp only [Act.put, List.setIfInBounds_toArray, List.set_cons_zero, List.set_cons_succ]); go_simp; with_reducible rfl)) | (refine wpPureH_want (v := ?_) (by rfl) (fun W hS => ?_) ?_; rotate_left; · (obtain ⟨s1, s2⟩ := hS; (try simp only [Act.put, List.setIfInBounds_toArray, List.set_cons_zero, List.set_cons_succ]); go_simp; with_reducible rfl)))
        refine wpPureH_nil ?_
        simp only [Act.put, List.setIfInBounds_toArray, List.set_cons_zero, List.set_cons_succ]
        refine wpTree_step ?_
        simp only [opsAt, List.getElem?_cons_zero, List.getElem?_cons_succ]
        have h10 := H9.out.new ((Only.refl [] _).alloc (.cells #[.int .i64 st.held.length, .int .i64 0] 249))
        have bb0 : Blk (WX.alloc (.cells #[.int .i64 st.held.length, .int .i64 0] 249)) WX.heap.size 249 #[.int .i64 st.held.length, .int .i64 0] := Blk.new _ _ _
        have y11 : (WX.alloc (.cells #[.int .i64 st.held.length, .int .i64 0] 249)).cell? ⟨s, 1, none⟩ = some (.slice ha st.held.length hc) := h10.blk.cellv 1 _ rfl
        have y13 : (WX.alloc (.cells #[.int .i64 st.held.length, .int .i64 0] 249)).cell? ⟨s, 3, none⟩ = some (.slice oa 0 oc) := h10.blk.cellv 3 _ rfl
        go_wp2_with fail
        refine ⟨.inr ⟨y11, y13⟩, ?_⟩
        refine wpTree_step ?_
        simp only [opsAt, List.getElem?_cons_zero, List.getElem?_cons_succ]
        refine wpList_append_slN rfl (.tmp 87) (.tmp 94) 189 rfl _ 16 Tryz.underlying189 info_cn rfl (by decide) ((hop9.alloc (.cells #[.int .i64 st.held.length, .int .i64 0] 249)).drew) (SlN.oneN (base := 0) (Nat.zero_le _) bb0.drew rfl).src rfl rfl rfl (by intro y hy; simp at hy; rcases hy with rfl | rfl <;> rfl) (by have := HK.out.few; have := HK.out.len; have := HK.out.le; have := HK.out.lim; have := HBL.out; have := HNX.out; unfold maxLen; omega) (by have := HK.out.few; have := HK.out.len; have := HK.out.le; have := HK.out.lim; have := HBL.out; have := HNX.out; omega) (Nat.zero_le _) ?_
        intro v' w' hv' ho' hf'
        obtain ⟨a', c', rfl⟩ := hv'.form
        have hb1 := ho'.blk (h10.blk.drew) h10.outo
        have hh1 : SlN w' 0 20 1 (.slice ha st.held.length hc) st.held.length (partsV st.held) := (h10.held.drew).keep ho' (fun k hk hm => by
          obtain ⟨cs, hb⟩ := h10.held.blkOf k hk
          exact h10.opn.notBlk hb (by decide) hm)
        have hM9 : StgM (w'.setCell ⟨s, 3, none⟩ (.slice a' (0 + 1) c')) s { st with opn := (st.held.length, 0) :: st.bump } (.slice ha st.held.length hc) (.slice a' (0 + 1) c') := by
          refine ⟨hb1.set_ 3 _, hh1.far (hh1.notBlk hb1 (by decide)) _, ?_⟩
          have h9 := hv'.far (p := ⟨s, 3, none⟩) (hv'.notBlk hb1 (by decide)) (.slice a' (0 + 1) c')
          rw [List.length_cons, ← HNX.out, opnV_cons]
          exact h9
        have hO10 : Only (s :: F) w (w'.setCell ⟨s, 3, none⟩ (.slice a' (0 + 1) c')) := (((HO9.out.alloc (.cells #[.int .i64 st.held.length, .int .i64 0] 249)).drew).trans (ho'.mono fun k hk => List.mem_cons_of_mem _ (HF2.out k (slB_len _ _ _ _ _ ▸ hk)))).setCell (p := ⟨s, 3, none⟩) (List.mem_cons_self ..) _
        have HF9 : Hid (∀ k ∈ slB (.slice a' (0 + 1) c'), k ∈ F ∨ w.heap.size ≤ k) := hide (fun k hk => (hf' k hk).elim (fun h8 => .inl (HF2.out k (slB_len _ _ _ _ _ ▸ h8))) (fun h8 => .inr (by have := HO9.out.size; first | omega | (simp at h8; omega))))
        have e11 : w'.cell? ⟨s, 1, none⟩ = some (.slice ha st.held.length hc) := hb1.cellv 1 _ rfl
        have e13 : w'.cell? ⟨s, 3, none⟩ = some (.slice oa 0 oc) := hb1.cellv 3 _ rfl
        have kf3 := hb1.frozen 3
        have HM9 := hide hM9
        have HO10 := hide hO10
        clear hop9 y1 y3 h10 bb0 y11 y13 hv' ho' hf' hb1 hh1 hM9 hO10 H9 HO9 d1 d3
        go_wp2_with fail
        refine ⟨.inr ⟨e11, e13⟩, ?_⟩
        refine wpTree_step ?_
        simp only [opsAt, List.getElem?_cons_zero, List.getElem?_cons_succ]
        go_wp2_with fail
        refine ⟨.inr (⟨e11, e13⟩), ?_⟩
        refine wpTree_step ?_
        simp only [opsAt, List.getElem?_cons_zero, List.getElem?_cons_succ]
        go_wp2_with fail
        refine ⟨.inr (⟨e11, e13⟩), ?_⟩
        refine wpTree_step ?_
        simp only [opsAt, List.getElem?_cons_zero, List.getElem?_cons_succ]
        go_wp2_with fail
        refine ⟨.inl trivial, wpTree_fin ?_⟩
        have HH := HHD _ _ _ _ HM9.out (by have := HK.out.len; have := HK.out.le; have := HK.out.lim; simp only; omega) (by have := HK.out.le; have := HK.out.lim; simp only; omega) (by have := HK.out.lim; simp only; omega)
        clear HHD
        go_wp2_with fail
        (with_reducible refine (unhide HH).mono ?_)
        rintro e w2 ⟨rfl, hv2, ov2, hm2, ho2, hf2, hf3⟩
        have HM2 := hide hm2
        have HO2 := hide ho2
        have HF3 := hide (And.intro hf2 hf3)
        clear HH hm2 ho2 hf2 hf3
        go_wp2_with fail
        go_ret2
        rw [← HR.out]
        have fr : ∀ k, k ∈ slB hv2 ∨ k ∈ slB ov2 → k ∈ F ∨ w.heap.size ≤ k := fun k hk => hk.elim (fun h9 => (HF3.out.1 k h9).elim (fun h8 => .inl (HF1.out k h8)) (fun h8 => .inr (Nat.le_trans HO10.out.size h8))) (fun h9 => HF9.out k (HF3.out.2 k h9))
        refine ⟨_, slB hv2 ++ slB ov2, rfl, SlN.nil _ _ _ _, ⟨hv2, ov2, HM2.out, fun k hk => List.mem_append_left _ hk, fun k hk => List.mem_append_right _ hk⟩, HO10.out.trans (HO2.out.mono fun k hk => ?_), by simp [slB], fun k hk => fr k (List.mem_append.1 hk)⟩
        rcases List.mem_cons.1 hk with rfl | hk
        · exact List.mem_cons_self ..
        · exact List.mem_cons_of_mem _ (HF1.out k hk)
    · obtain ⟨c, M, hcM⟩ := List.exists_cons_of_ne_nil hop
      rw [if_neg (fun h9 => hop h9.1)] at hR
      obtain ⟨n, hn⟩ : ∃ n, n = st.opn.length := ⟨_, rfl⟩
      obtain ⟨j, hj⟩ : ∃ j, j = M.length := ⟨_, rfl⟩
      have hnj : n = j + 1 := by rw [hn, hcM, hj]; rfl
      have hn0 : ((n : Int) == 0) = false := by simp; omega
      have hi : (n : Int) - 1 = (j : Int) := by omega
      rw [← hn] at c3
      have HN := hide hn
      have HJ2 := hide hj
      have HNJ := hide hnj
      have HCM := hide hcM
      clear hop hfm hn hj hnj hcM
      cases hic : p.isClose with
      | true =>
        rw [if_pos hic] at hR
        have hib : p.isBegin = false := by cases hb : p.isBegin with
          | false => rfl
          | true => rw [hbc hb] at hic; cases hic
        rw [hib] at HTG
        rw [hic] at HTC
        have HR := hide hR
        clear hR hbc hbn hib hic HHD
        go_enter Tryz.func121, Tryz.ntmps121
        go_wp2_with fail
        (with_reducible refine (unhide HPL).mono ?_)
        rintro e w1 ⟨rfl, hb1⟩
        have hm1 := H.out.new (Only.of_below hb1 [])
        have d1 : w1.cell? ⟨s, 1, none⟩ = some (.slice ha st.held.length hc) := hm1.blk.cellv 1 _ rfl
        have d3 : w1.cell? ⟨s, 3, none⟩ = some (.slice oa n oc) := by have h9 : w1.cell? ⟨s, 3, none⟩ = some (.slice oa st.opn.length oc) := hm1.blk.cellv 3 _ rfl; rw [← HN.out] at h9; exact h9
        have ls1 := hm1.blk.lt
        have HM1 := hide hm1
        have HB1 : Hid (Only (s :: F) w w1) := hide (Only.of_below hb1 _)
        clear HPL hm1 hb1 c1 c3 c4 f3
        obtain ⟨m, hat⟩ := HK.out.at_ c (by rw [HCM.out]; exact List.mem_cons_self ..)
        have hcl := stg_close (F := F) ⟨_, _, HM1.out.new ((((Only.refl [] _).alloc (.cells #[.int .i64 k5, .bool y5, .int .u64 m5, .string (S l5), .int .i64 q5] 139)).alloc (.cells #[.bool bm, .int .i64 bn] 243)).alloc (.cells #[] 246)), HF1.out, HF2.out⟩ HCM.out hat (by have := HK.out.parts c (by rw [HCM.out]; exact List.mem_cons_self ..); have := HK.out.len; have := HK.out.le; have := HK.out.lim; omega) (by have := HK.out.few; have := HK.out.len; have := HK.out.le; have := HK.out.lim; have h7 : st.opn.length = M.length + 1 := (by rw [HCM.out]; rfl); omega) (by have := HK.out.len; have := HK.out.le; have := HK.out.lim; omega) (by have := HK.out.le; have := HK.out.lim; omega) (by have := HK.out.lim; omega)
        have HCL := hide hcl
        clear hat hcl
        go_wp2_with fail
        (with_reducible refine (unhide HCL).mono ?_)
        rintro e w2 ⟨ov, F', rfl, h1, h2, h3, h4, h5⟩
        obtain ⟨o1, o2, rfl⟩ := h1.form
        have H1 := hide h1
        have H2 := hide h2
        have H3 := hide h3
        have H4 := hide (And.intro h4 h5)
        clear HCL h1 h2 h3 h4 h5
        go_wp2_with fail
        go_ret2
        rw [← HR.out]
        exact ⟨_, F', rfl, H1.out, H2.out, (((HB1.out.alloc _).alloc _).alloc _).trans H3.out, fun k hk => (H4.out.1 k hk).imp_right (fun h9 => by have := HB1.out.size; simp at h9; omega), fun k hk => (H4.out.2 k hk).imp_right (fun h9 => by have := HB1.out.size; simp at h9; omega)⟩
      | false =>
        rw [if_neg (by simp [hic])] at hR
        rw [hic] at HTC
        have hmo := H.out.opn
        rw [HCM.out, opnV_cons, List.length_cons, ← HJ2.out, ← HNJ.out] at hmo
        obtain ⟨go, oo, oc', hov, z1, z2⟩ := hmo.cell (j * 2 + 1) (by rw [List.length_append, opnV_length, ← HJ2.out]; simp)
        injection hov with e1 e2 e3
        subst e1
        clear e2 e3 z1 z2 hmo
        have lgo : go < w.heap.size := (H.out.opn.lt go (by simp [slB])).2
        have HNX : Hid (n = st.bump.length) := hide (by unfold Stg.bump; rw [HCM.out, HNJ.out, HJ2.out]; rfl)
        have HBL : Hid (st.bump.length ≤ st.opn.length) := hide (by unfold Stg.bump; split <;> simp_all)
        have hjn : j < n := by have := HNJ.out; omega
        have h100 : (n : Int) ≤ 3000 := by have := HK.out.few; have := HK.out.len; have := HK.out.le; have := HK.out.lim; have := HN.out; omega
        have hj100 : (j : Int) ≤ 3000 := by omega
        have hcp : (c.2 : Int) ≤ 3000 := by have := HK.out.parts c (by rw [HCM.out]; exact List.mem_cons_self ..); have := HK.out.len; have := HK.out.le; have := HK.out.lim; omega
        cases hib : p.isBegin with
        | false =>
          rw [hib] at HTG hR
          have HR := hide hR
          clear hR hbc hbn hib hic
          go_enter Tryz.func121, Tryz.ntmps121
          go_wp2_with fail
          (with_reducible refine (unhide HPL).mono ?_)
          rintro e w1 ⟨rfl, hb1⟩
          have hm1 := H.out.new (Only.of_below hb1 [])
          have d1 : w1.cell? ⟨s, 1, none⟩ = some (.slice ha st.held.length hc) := hm1.blk.cellv 1 _ rfl
          have d3 : w1.cell? ⟨s, 3, none⟩ = some (.slice (some ⟨go, oo, none⟩) n oc) := by have h9 : w1.cell? ⟨s, 3, none⟩ = some (.slice (some ⟨go, oo, none⟩) st.opn.length oc) := hm1.blk.cellv 3 _ rfl; rw [← HN.out] at h9; exact h9
          have ls1 := hm1.blk.lt
          have HM1 := hide hm1
          have HB1 : Hid (Only (s :: F) w w1) := hide (Only.of_below hb1 _)
          clear HPL hm1 hb1 c1 c3 c4 f3
          have h3 := ((HM1.out.new ((Only.refl [] _).alloc (.cells #[.int .i64 k5, .bool y5, .int .u64 m5, .string (S l5), .int .i64 q5] 139))).new ((Only.refl [] _).alloc (.cells #[.bool bm, .int .i64 bn] 243))).new ((Only.refl [] _).alloc (.cells #[] 246))
          have hgs : go ≠ s := fun e => h3.outo (by simp [slB, e])
          rw [← HN.out] at h3
          have y1 : ((((w1.alloc (.cells #[.int .i64 k5, .bool y5, .int .u64 m5, .string (S l5), .int .i64 q5] 139)).alloc (.cells #[.bool bm, .int .i64 bn] 243)).alloc (.cells #[] 246))).cell? ⟨s, 1, none⟩ = some (.slice ha st.held.length hc) := h3.blk.cellv 1 _ rfl
          have y3 : ((((w1.alloc (.cells #[.int .i64 k5, .bool y5, .int .u64 m5, .string (S l5), .int .i64 q5] 139)).alloc (.cells #[.bool bm, .int .i64 bn] 243)).alloc (.cells #[] 246))).cell? ⟨s, 3, none⟩ = some (.slice (some ⟨go, oo, none⟩) n oc) := h3.blk.cellv 3 _ rfl
          have hmo := h3.opn
          rw [HCM.out, opnV_cons, List.length_cons, ← HJ2.out, ← HNJ.out] at hmo
          obtain ⟨q1, fq1, lq1⟩ := hmo.at (j * 2 + 1) (.int .i64 c.2) (by rw [List.getElem?_append_right (by rw [opnV_length, ← HJ2.out]; omega), opnV_length, ← HJ2.out]; simp)
          rw [← Nat.add_assoc] at q1 fq1
          have hb := h3.setbump HCM.out HN.out
          rw [← HJ2.out, ← Nat.add_assoc] at hb
          have HBP := hide hb
          have HO3 : Hid (Only (s :: F) w (((((w1.alloc (.cells #[.int .i64 k5, .bool y5, .int .u64 m5, .string (S l5), .int .i64 q5] 139)).alloc (.cells #[.bool bm, .int .i64 bn] 243)).alloc (.cells #[] 246))).setCell ⟨go, oo + j * 2 + 1, none⟩ (.int .i64 ((c.2 : Int) + 1)))) := hide ((((HB1.out.alloc (.cells #[.int .i64 k5, .bool y5, .int .u64 m5, .string (S l5), .int .i64 q5] 139)).alloc (.cells #[.bool bm, .int .i64 bn] 243)).alloc (.cells #[] 246)).setCell (p := ⟨go, oo + j * 2 + 1, none⟩) (List.mem_cons_of_mem _ (HF2.out go (by simp [slB]))) _)
          clear hmo hb h3
          have HO10 := HO3
          have HF9 : Hid (∀ k ∈ slB (.slice (some ⟨go, oo, none⟩) n oc), k ∈ F ∨ w.heap.size ≤ k) := hide (fun k hk => .inl (HF2.out k (slB_len _ _ _ _ _ ▸ hk)))
          have HH := HHD _ _ _ _ HBP.out (by have := HK.out.len; have := HK.out.le; have := HK.out.lim; simp only; omega) (by have := HK.out.le; have := HK.out.lim; simp only; omega) (by have := HK.out.lim; simp only; omega)
          clear HHD
          go_wp2_with fail
          (with_reducible refine (unhide HH).mono ?_)
          rintro e w2 ⟨rfl, hv2, ov2, hm2, ho2, hf2, hf3⟩
          have HM2 := hide hm2
          have HO2 := hide ho2
          have HF3 := hide (And.intro hf2 hf3)
          clear HH hm2 ho2 hf2 hf3
          go_wp2_with fail
          go_ret2
          rw [← HR.out]
          have fr : ∀ k, k ∈ slB hv2 ∨ k ∈ slB ov2 → k ∈ F ∨ w.heap.size ≤ k := fun k hk => hk.elim (fun h9 => (HF3.out.1 k h9).elim (fun h8 => .inl (HF1.out k h8)) (fun h8 => .inr (Nat.le_trans HO10.out.size h8))) (fun h9 => HF9.out k (HF3.out.2 k h9))
          refine ⟨_, slB hv2 ++ slB ov2, rfl, SlN.nil _ _ _ _, ⟨hv2, ov2, HM2.out, fun k hk => List.mem_append_left _ hk, fun k hk => List.mem_append_right _ hk⟩, HO10.out.trans (HO2.out.mono fun k hk => ?_), by simp [slB], fun k hk => fr k (List.mem_append.1 hk)⟩
          rcases List.mem_cons.1 hk with rfl | hk
          · exact List.mem_cons_self ..
          · exact List.mem_cons_of_mem _ (HF1.out k hk)
        | true =>
          have hbn := hbn hib
          subst hbn
          rw [hib] at HTG hR
          have HR := hide hR
          clear hR hbc hib hic
          go_enter Tryz.func121, Tryz.ntmps121
          go_wp2_with fail
          (with_reducible refine (unhide HPL).mono ?_)
          rintro e w1 ⟨rfl, hb1⟩
          have hm1 := H.out.new (Only.of_below hb1 [])
          have d1 : w1.cell? ⟨s, 1, none⟩ = some (.slice ha st.held.length hc) := hm1.blk.cellv 1 _ rfl
          have d3 : w1.cell? ⟨s, 3, none⟩ = some (.slice (some ⟨go, oo, none⟩) n oc) := by have h9 : w1.cell? ⟨s, 3, none⟩ = some (.slice (some ⟨go, oo, none⟩) st.opn.length oc) := hm1.blk.cellv 3 _ rfl; rw [← HN.out] at h9; exact h9
          have ls1 := hm1.blk.lt
          have HM1 := hide hm1
          have HB1 : Hid (Only (s :: F) w w1) := hide (Only.of_below hb1 _)
          clear HPL hm1 hb1 c1 c3 c4 f3
          have h3 := ((HM1.out.new ((Only.refl [] _).alloc (.cells #[.int .i64 k5, .bool y5, .int .u64 m5, .string (S l5), .int .i64 q5] 139))).new ((Only.refl [] _).alloc (.cells #[.bool bm, .int .i64 (-1)] 243))).new ((Only.refl [] _).alloc (.cells #[] 246))
          have hgs : go ≠ s := fun e => h3.outo (by simp [slB, e])
          rw [← HN.out] at h3
          have y1 : ((((w1.alloc (.cells #[.int .i64 k5, .bool y5, .int .u64 m5, .string (S l5), .int .i64 q5] 139)).alloc (.cells #[.bool bm, .int .i64 (-1)] 243)).alloc (.cells #[] 246))).cell? ⟨s, 1, none⟩ = some (.slice ha st.held.length hc) := h3.blk.cellv 1 _ rfl
          have y3 : ((((w1.alloc (.cells #[.int .i64 k5, .bool y5, .int .u64 m5, .string (S l5), .int .i64 q5] 139)).alloc (.cells #[.bool bm, .int .i64 (-1)] 243)).alloc (.cells #[] 246))).cell? ⟨s, 3, none⟩ = some (.slice (some ⟨go, oo, none⟩) n oc) := h3.blk.cellv 3 _ rfl
          have hmo := h3.opn
          rw [HCM.out, opnV_cons, List.length_cons, ← HJ2.out, ← HNJ.out] at hmo
          obtain ⟨q1, fq1, lq1⟩ := hmo.at (j * 2 + 1) (.int .i64 c.2) (by rw [List.getElem?_append_right (by rw [opnV_length, ← HJ2.out]; omega), opnV_length, ← HJ2.out]; simp)
          rw [← Nat.add_assoc] at q1 fq1
          have hb := h3.setbump HCM.out HN.out
          rw [← HJ2.out, ← Nat.add_assoc] at hb
          have HBP := hide hb
          have HO3 : Hid (Only (s :: F) w (((((w1.alloc (.cells #[.int .i64 k5, .bool y5, .int .u64 m5, .string (S l5), .int .i64 q5] 139)).alloc (.cells #[.bool bm, .int .i64 (-1)] 243)).alloc (.cells #[] 246))).setCell ⟨go, oo + j * 2 + 1, none⟩ (.int .i64 ((c.2 : Int) + 1)))) := hide ((((HB1.out.alloc (.cells #[.int .i64 k5, .bool y5, .int .u64 m5, .string (S l5), .int .i64 q5] 139)).alloc (.cells #[.bool bm, .int .i64 (-1)] 243)).alloc (.cells #[] 246)).setCell (p := ⟨go, oo + j * 2 + 1, none⟩) (List.mem_cons_of_mem _ (HF2.out go (by simp [slB]))) _)
          clear hmo hb h3
          have H9 := HBP
          have HO9 := HO3
          clear HBP HO3
          have y1 : ((((((w1.alloc (.cells #[.int .i64 k5, .bool y5, .int .u64 m5, .string (S l5), .int .i64 q5] 139)).alloc (.cells #[.bool bm, .int .i64 (-1)] 243)).alloc (.cells #[] 246))).setCell ⟨go, oo + j * 2 + 1, none⟩ (.int .i64 ((c.2 : Int) + 1)))).cell? ⟨s, 1, none⟩ = some (.slice ha st.held.length hc) := H9.out.blk.cellv 1 _ rfl
          have y3 : ((((((w1.alloc (.cells #[.int .i64 k5, .bool y5, .int .u64 m5, .string (S l5), .int .i64 q5] 139)).alloc (.cells #[.bool bm, .int .i64 (-1)] 243)).alloc (.cells #[] 246))).setCell ⟨go, oo + j * 2 + 1, none⟩ (.int .i64 ((c.2 : Int) + 1)))).cell? ⟨s, 3, none⟩ = some (.slice (some ⟨go, oo, none⟩) n oc) := H9.out.blk.cellv 3 _ rfl
          go_upto_region 18 with (fail)
          generalize (((((w1.alloc (.cells #[.int .i64 k5, .bool y5, .int .u64 m5, .string (S l5), .int .i64 q5] 139)).alloc (.cells #[.bool bm, .int .i64 (-1)] 243)).alloc (.cells #[] 246))).setCell ⟨go, oo + j * 2 + 1, none⟩ (.int .i64 ((c.2 : Int) + 1))) = WX at H9 HO9 y1 y3 ⊢
          have hop9 := H9.out.opn
          simp only at hop9
          rw [← HNX.out] at hop9
          refine wp_region_tree (fun W => W.cell? ⟨s, 1, none⟩ = some (.slice ha st.held.length hc) ∧ W.cell? ⟨s, 3, none⟩ = some (.slice (some ⟨go, oo, none⟩) n oc)) 15 (.take [0, 1, 2, 3, 4, 5, 6, 7, 8, 9, 10] (.step 11 (.step 12 (.step 13 (.step 14 (.step 15 (.fin))))))) (by kernel_rfl) (by kernel_rfl) (by intro _ _ _ _ _ h; exact h) ?_
          refine wpTree_take (⟨y1, y3⟩) ?_
          simp only [opsAt, List.getElem?_cons_zero, List.getElem?_cons_succ]
          iterate 11 (first | (refine wpPureH_step (v := ?_) rfl (fun W hS => ?_) ?_; rotate_left; · (obtain ⟨s1, s2⟩ := hS; (try simp only [Act.put, List.setIfInBounds_toArray, List.set_cons_zero, List.set_cons_succ]); go_simp; with_reducible rfl)) | (refine wpPureH_want (v := ?_) (by rfl) (fun W hS => ?_) ?_; rotate_left; · (obtain ⟨s1, s2⟩ := hS; (try simp only [Act.put, List.setIfInBounds_toArray, List.set_cons_zero, List.set_cons_succ]); go_simp; with_reducible rfl)))
          refine wpPureH_nil ?_
          simp only [Act.put, List.setIfInBounds_toArray, List.set_cons_zero, List.set_cons_succ]
          refine wpTree_step ?_
          simp only [opsAt, List.getElem?_cons_zero, List.getElem?_cons_succ]
          have h10 := H9.out.new ((Only.refl [] _).alloc (.cells #[.int .i64 st.held.length, .int .i64 0] 249))
          have bb0 : Blk (WX.alloc (.cells #[.int .i64 st.held.length, .int .i64 0] 249)) WX.heap.size 249 #[.int .i64 st.held.length, .int .i64 0] := Blk.new _ _ _
          have y11 : (WX.alloc (.cells #[.int .i64 st.held.length, .int .i64 0] 249)).cell? ⟨s, 1, none⟩ = some (.slice ha st.held.length hc) := h10.blk.cellv 1 _ rfl
          have y13 : (WX.alloc (.cells #[.int .i64 st.held.length, .int .i64 0] 249)).cell? ⟨s, 3, none⟩ = some (.slice (some ⟨go, oo, none⟩) n oc) := h10.blk.cellv 3 _ rfl
          go_wp2_with fail
          refine ⟨.inr ⟨y11, y13⟩, ?_⟩
          refine wpTree_step ?_
          simp only [opsAt, List.getElem?_cons_zero, List.getElem?_cons_succ]
          refine wpList_append_slN rfl (.tmp 87) (.tmp 94) 189 rfl _ 16 Tryz.underlying189 info_cn rfl (by decide) ((hop9.alloc (.cells #[.int .i64 st.held.length, .int .i64 0] 249)).drew) (SlN.oneN (base := 0) (Nat.zero_le _) bb0.drew rfl).src rfl rfl rfl (by intro y hy; simp at hy; rcases hy with rfl | rfl <;> rfl) (by have := HK.out.few; have := HK.out.len; have := HK.out.le; have := HK.out.lim; have := HBL.out; have := HNX.out; unfold maxLen; omega) (by have := HK.out.few; have := HK.out.len; have := HK.out.le; have := HK.out.lim; have := HBL.out; have := HNX.out; omega) (Nat.zero_le _) ?_
          intro v' w' hv' ho' hf'
          obtain ⟨a', c', rfl⟩ := hv'.form
          have hb1 := ho'.blk (h10.blk.drew) h10.outo
          have hh1 : SlN w' 0 20 1 (.slice ha st.held.length hc) st.held.length (partsV st.held) := (h10.held.drew).keep ho' (fun k hk hm => by
            obtain ⟨cs, hb⟩ := h10.held.blkOf k hk
            exact h10.opn.notBlk hb (by decide) hm)
          have hM9 : StgM (w'.setCell ⟨s, 3, none⟩ (.slice a' (n + 1) c')) s { st with opn := (st.held.length, 0) :: st.bump } (.slice ha st.held.length hc) (.slice a' (n + 1) c') := by
            refine ⟨hb1.set_ 3 _, hh1.far (hh1.notBlk hb1 (by decide)) _, ?_⟩
            have h9 := hv'.far (p := ⟨s, 3, none⟩) (hv'.notBlk hb1 (by decide)) (.slice a' (n + 1) c')
            rw [List.length_cons, ← HNX.out, opnV_cons]
            exact h9
          have hO10 : Only (s :: F) w (w'.setCell ⟨s, 3, none⟩ (.slice a' (n + 1) c')) := (((HO9.out.alloc (.cells #[.int .i64 st.held.length, .int .i64 0] 249)).drew).trans (ho'.mono fun k hk => List.mem_cons_of_mem _ (HF2.out k (slB_len _ _ _ _ _ ▸ hk)))).setCell (p := ⟨s, 3, none⟩) (List.mem_cons_self ..) _
          have HF9 : Hid (∀ k ∈ slB (.slice a' (n + 1) c'), k ∈ F ∨ w.heap.size ≤ k) := hide (fun k hk => (hf' k hk).elim (fun h8 => .inl (HF2.out k (slB_len _ _ _ _ _ ▸ h8))) (fun h8 => .inr (by have := HO9.out.size; first | omega | (simp at h8; omega))))
          have e11 : w'.cell? ⟨s, 1, none⟩ = some (.slice ha st.held.length hc) := hb1.cellv 1 _ rfl
          have e13 : w'.cell? ⟨s, 3, none⟩ = some (.slice (some ⟨go, oo, none⟩) n oc) := hb1.cellv 3 _ rfl
          have kf3 := hb1.frozen 3
          have HM9 := hide hM9
          have HO10 := hide hO10
          clear hop9 y1 y3 h10 bb0 y11 y13 hv' ho' hf' hb1 hh1 hM9 hO10 H9 HO9 d1 d3
          go_wp2_with fail
          refine ⟨.inr ⟨e11, e13⟩, ?_⟩
          refine wpTree_step ?_
          simp only [opsAt, List.getElem?_cons_zero, List.getElem?_cons_succ]
          go_wp2_with fail
          refine ⟨.inr (⟨e11, e13⟩), ?_⟩
          refine wpTree_step ?_
          simp only [opsAt, List.getElem?_cons_zero, List.getElem?_cons_succ]
          go_wp2_with fail
          refine ⟨.inr (⟨e11, e13⟩), ?_⟩
          refine wpTree_step ?_
          simp only [opsAt, List.getElem?_cons_zero, List.getElem?_cons_succ]
          go_wp2_with fail
          refine ⟨.inl trivial, wpTree_fin ?_⟩
          have HH := HHD _ _ _ _ HM9.out (by have := HK.out.len; have := HK.out.le; have := HK.out.lim; simp only; omega) (by have := HK.out.le; have := HK.out.lim; simp only; omega) (by have := HK.out.lim; simp only; omega)
          clear HHD
          go_wp2_with fail
          (with_reducible refine (unhide HH).mono ?_)
          rintro e w2 ⟨rfl, hv2, ov2, hm2, ho2, hf2, hf3⟩
          have HM2 := hide hm2
          have HO2 := hide ho2
          have HF3 := hide (And.intro hf2 hf3)
          clear HH hm2 ho2 hf2 hf3
          go_wp2_with fail
          go_ret2
          rw [← HR.out]
          have fr : ∀ k, k ∈ slB hv2 ∨ k ∈ slB ov2 → k ∈ F ∨ w.heap.size ≤ k := fun k hk => hk.elim (fun h9 => (HF3.out.1 k h9).elim (fun h8 => .inl (HF1.out k h8)) (fun h8 => .inr (Nat.le_trans HO10.out.size h8))) (fun h9 => HF9.out k (HF3.out.2 k h9))
          refine ⟨_, slB hv2 ++ slB ov2, rfl, SlN.nil _ _ _ _, ⟨hv2, ov2, HM2.out, fun k hk => List.mem_append_left _ hk, fun k hk => List.mem_append_right _ hk⟩, HO10.out.trans (HO2.out.mono fun k hk => ?_), by simp [slB], fun k hk => fr k (List.mem_append.1 hk)⟩
          rcases List.mem_cons.1 hk with rfl | hk
          · exact List.mem_cons_self ..
          · exact List.mem_cons_of_mem _ (HF1.out k hk)
  · have e0 : (st.e != 0) = true := by simpa using he
    rw [if_pos he] at hR
    have HR := hide hR
    clear he hR
    go_enter Tryz.func121, Tryz.ntmps121
    go_wp2_with fail
    go_quiet (fail)
    go_wp2_with fail
    go_ret2
    rw [← HR.out]
    exact ⟨_, F, rfl, SlN.nil _ _ _ _, ⟨_, _, H.out.new ((Only.refl [] _).drewN _), HF1.out, HF2.out⟩, (Only.refl _ _).drewN _, by simp [slB], fun k hk => .inl hk⟩
end Go.Proofs.YtkccjfgkbkodiaaGreat
