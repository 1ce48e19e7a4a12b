/-
  Stg: parts of the walk of TopTight, under no condition.
-/
import Derived.Test.YtkccjfgkbkodiaaGreatZ15
namespace Go.Proofs.YtkccjfgkbkodiaaGreat
open Go.RowKit
def Part.len : Part → Nat
  | .word l => l.length
  | .blob l => l.length
  | _ => 0
/-- A part as jsonin gives them. -/
def Part.js : Part → Bool
  | .word l => decide (l.length ≤ 200)
  | .whole _ m => decide (0 ≤ m ∧ m < 18446744073709551616)
  | .begin_ _ n => decide (n = -1)
  | .blob _ => false
  | .odd => false
  | _ => true
theorem Part.js_may {p : Part} (h : p.js = true) : p.may = true := by cases p <;> simp [Part.js] at h <;> simp [Part.may, h]
theorem Part.js_len {p : Part} (h : p.js = true) : p.len ≤ 200 := by cases p <;> simp [Part.js] at h <;> simp [Part.len, h]
structure Stg where
  limit : Nat
  held : List Part
  size : Nat
  opn : List (Nat × Nat)
  e : Int
def opnV (R : List (Nat × Nat)) : List Value := R.reverse.flatMap fun c => [.int .i64 c.1, .int .i64 c.2]
theorem opnV_cons (c : Nat × Nat) (R : List (Nat × Nat)) : opnV (c :: R) = opnV R ++ [.int .i64 c.1, .int .i64 c.2] := by simp [opnV]
theorem opnV_length (R : List (Nat × Nat)) : (opnV R).length = R.length * 2 := by
  induction R with
  | nil => rfl
  | cons c R ih => rw [opnV_cons, List.length_append, ih]; simp; omega
def stgV (st : Stg) (hv ov : Value) : Array Value := #[.int .i64 st.limit, hv, .int .i64 st.size, ov, .int .i64 st.e]
structure StgM (w : World) (s : Nat) (st : Stg) (hv ov : Value) : Prop where
  blk : Blk w s 191 (stgV st hv ov)
  held : SlN w 0 20 1 hv st.held.length (partsV st.held)
  opn : SlN w 0 249 2 ov st.opn.length (opnV st.opn)
def StgIs (w : World) (s : Nat) (F : List Nat) (st : Stg) : Prop := ∃ hv ov, StgM w s st hv ov ∧ (∀ k ∈ slB hv, k ∈ F) ∧ ∀ k ∈ slB ov, k ∈ F
section
variable {w w' : World} {s : Nat} {st : Stg} {hv ov : Value} {T F : List Nat}
theorem StgM.keep (h : StgM w s st hv ov) (ho : Only T w w') (h0 : s ∉ T) (h1 : ∀ k ∈ slB hv, k ∉ T) (h2 : ∀ k ∈ slB ov, k ∉ T) : StgM w' s st hv ov :=
  ⟨ho.blk h.blk h0, h.held.keep ho h1, h.opn.keep ho h2⟩
theorem StgM.new (h : StgM w s st hv ov) (ho : Only [] w w') : StgM w' s st hv ov := h.keep ho (by simp) (by simp) (by simp)
theorem StgIs.keep (h : StgIs w s F st) (ho : Only T w w') (h0 : s ∉ T) (h1 : ∀ k ∈ F, k ∉ T) : StgIs w' s F st := by
  obtain ⟨hv, ov, h, h2, h3⟩ := h
  exact ⟨hv, ov, h.keep ho h0 (fun k hk => h1 k (h2 k hk)) (fun k hk => h1 k (h3 k hk)), h2, h3⟩
theorem StgM.outh (h : StgM w s st hv ov) : s ∉ slB hv := h.held.notBlk h.blk (by decide)
theorem StgM.outo (h : StgM w s st hv ov) : s ∉ slB ov := h.opn.notBlk h.blk (by decide)
/-- Cells of its own are set. -/
theorem StgM.setown (h : StgM w s st hv ov) {st' : Stg} {hv' ov' : Value} {i : Nat} {u : Value} (hc : (stgV st hv ov).setIfInBounds i u = stgV st' hv' ov')
    (hh : SlN w 0 20 1 hv' st'.held.length (partsV st'.held)) (ho : SlN w 0 249 2 ov' st'.opn.length (opnV st'.opn)) : StgM (w.setCell ⟨s, i, none⟩ u) s st' hv' ov' := by
  have h1 := h.blk.set_ i u
  rw [hc] at h1
  exact ⟨h1, hh.far (hh.notBlk h.blk (by decide)) u, ho.far (ho.notBlk h.blk (by decide)) u⟩
end
/-- A cell of a slice is set. -/
theorem SlN.set {w : World} {base s n : Nat} {t : TypeId} {g off cap : Nat} {xs : List Value} (h : SlN w base t s (.slice (some ⟨g, off, none⟩) n cap) n xs) (j : Nat) (hj : j < xs.length) (u : Value) :
    SlN (w.setCell ⟨g, off + j, none⟩ u) base t s (.slice (some ⟨g, off, none⟩) n cap) n (xs.set j u) := by
  rcases h with ⟨hv, _⟩ | ⟨g', off', cap', cs, hv, hb, hg, h1, h2, h3, h4, h5⟩
  · cases hv
  · injection hv with e1 e2 e3
    injection e1 with e1
    injection e1 with e4 e5
    subst e3 e4 e5
    refine .inr ⟨g, off, cap, _, rfl, hb, hg.set_ (off + j) u, by simpa using h1, h2, h3, by simpa using h4, fun i hi => ?_⟩
    have hle : n * s ≤ cap * s := Nat.mul_le_mul_right _ h2
    rw [List.length_set] at hi
    rw [Array.getElem?_setIfInBounds, List.getElem?_set]
    by_cases hij : j = i
    · subst hij
      rw [if_pos rfl, if_pos rfl, if_pos (by omega), if_pos hj]
    · rw [if_neg (by omega), if_neg hij]
      exact h5 i hi
set_option maxRecDepth 100000 in
set_option maxHeartbeats 1000000 in
theorem size_any (p : Part) (hp : p.js = true) (w : World) : Calls Tryz.prog 157 #[p.val] w fun e w' => e = .returned (.int .i64 ((1 + p.len : Nat) : Int)) ∧ Only [] w w' := by
  have HL := hide (Part.js_len hp)
  have h0 := plain_any p w
  rw [Part.js_may hp] at h0
  obtain ⟨k, y, m, c, l, hev, hlen⟩ : ∃ k y m c l, p.ev = evV k y m l c ∧ l.length = p.len := by
    cases p <;> simp [Part.js] at hp
    case null => exact ⟨_, _, _, _, _, rfl, rfl⟩
    case bool b => exact ⟨_, _, _, _, _, rfl, rfl⟩
    case whole g m => exact ⟨_, _, _, _, _, rfl, rfl⟩
    case word l => exact ⟨_, _, _, _, _, rfl, rfl⟩
    case begin_ m n => subst hp; exact ⟨_, _, _, _, _, by simp only [Part.ev]; rw [if_neg (by omega)], rfl⟩
    case close => exact ⟨_, _, _, _, _, rfl, rfl⟩
  rw [hev] at h0
  have h200 : (p.len : Int) ≤ 200 := by have := HL.out; omega
  rw [← hlen] at h200 ⊢
  have HP := hide h0
  simp only [evV] at HP
  clear h0 hev hlen HL hp
  go_enter Tryz.func157, Tryz.ntmps157
  go_wp2_with fail
  (with_reducible refine (unhide HP).mono ?_)
  rintro e w1 ⟨rfl, hb⟩
  have HB := hide (Only.of_below hb [])
  clear HP hb
  go_wp2_with fail
  go_ret
  exact ⟨by simp, HB.out.alloc _⟩
/-- A part is held. -/
def Stg.hold (s : Stg) (p : Part) : Stg × Int :=
  if s.limit < s.size + (1 + p.len) then (⟨0, [], 0, [], 10⟩, 10) else ({ s with held := s.held ++ [p], size := s.size + (1 + p.len) }, s.e)
set_option maxRecDepth 100000 in
set_option maxHeartbeats 4000000 in
theorem stg_hold {w : World} {s : Nat} {st : Stg} {hv ov : Value} (h : StgM w s st hv ov) (p : Part) (hp : p.js = true) (hl : st.held.length ≤ 3000) (hz : st.size ≤ 3000) (hm : st.limit ≤ 3000) :
    Calls Tryz.prog 139 #[.pointer (some ⟨s, 0, none⟩), p.val] w fun e w' => e = .returned (.int .i64 (st.hold p).2) ∧ ∃ hv' ov', StgM w' s (st.hold p).1 hv' ov' ∧ Only (s :: slB hv) w w' ∧ (∀ k ∈ slB hv', k ∈ slB hv ∨ w.heap.size ≤ k) ∧ ∀ k ∈ slB ov', k ∈ slB ov := by
  obtain ⟨ha, hc, rfl⟩ := h.held.form
  have c0 : w.cell? ⟨s, 0, none⟩ = some (.int .i64 st.limit) := h.blk.cellv 0 _ rfl
  have c1 : w.cell? ⟨s, 1, none⟩ = some (.slice ha st.held.length hc) := h.blk.cellv 1 _ rfl
  have f1 := h.blk.frozen 1
  have ls := h.blk.lt
  have HS := fun W => hide (size_any p hp W)
  have HL200 := hide (Part.js_len hp)
  have H := hide h
  have HL := hide hl
  have HZ := hide hz
  have HM := hide hm
  have hfm := p.form
  obtain ⟨pv, hpv⟩ : ∃ pv, pv = p.val := ⟨_, rfl⟩
  rw [← hpv] at hfm HS ⊢
  have HPV := hide hpv
  clear h hp hl hz hm hpv
  rcases hfm with rfl | ⟨t0, v0, rfl⟩
  · go_enter Tryz.func139, Tryz.ntmps139
    go_wp2_with (at_builtin; go_loud (refine wpList_append_slN rfl (.tmp 9) (.tmp 11) 152 rfl _ 16 Tryz.underlying152 info_any rfl (by decide) (H.out.held.alloc (.cells #[.nilIface] 20)) (SlN.one (base := 0) (Nat.zero_le _) (Blk.new w 20 #[.nilIface])).src rfl rfl rfl (by intro y hy; simp at hy; subst hy; rfl) ?g4 ?g5 (Nat.zero_le _) ?_))
    case g4 => have := HL.out; unfold maxLen; omega
    case g5 => have := HL.out; omega
    intro v' w1 hv' ho' hf'
    obtain ⟨a', c', rfl⟩ := hv'.form
    have hb1 : Blk w1 s 191 (stgV st (.slice ha st.held.length hc) ov) := ho'.blk (H.out.blk.alloc _) H.out.outh
    have hop : SlN w1 0 249 2 ov st.opn.length (opnV st.opn) := (H.out.opn.alloc (.cells #[.nilIface] 20)).keep ho' (fun k hk hm => by
      obtain ⟨cs, hb⟩ := H.out.opn.blkOf k hk
      exact H.out.held.notBlk hb (by decide) hm)
    have hM1 : StgM (w1.setCell ⟨s, 1, none⟩ (.slice a' (st.held.length + 1) c')) s { st with held := st.held ++ [p] } (.slice a' (st.held.length + 1) c') ov := by
      refine ⟨hb1.set_ 1 _, ?_, hop.far (hop.notBlk hb1 (by decide)) _⟩
      have h9 := hv'.far (p := ⟨s, 1, none⟩) (hv'.notBlk hb1 (by decide)) (.slice a' (st.held.length + 1) c')
      rw [List.length_append, show partsV (st.held ++ [p]) = partsV st.held ++ [.nilIface] by have h8 := HPV.out; simp [partsV, ← h8]]
      exact h9
    have ho1 : Only (s :: slB (.slice ha st.held.length hc)) w (w1.setCell ⟨s, 1, none⟩ (.slice a' (st.held.length + 1) c')) := (((Only.refl _ w).alloc (.cells #[.nilIface] 20)).trans (ho'.mono (fun k hk => List.mem_cons_of_mem _ hk))).setCell (p := ⟨s, 1, none⟩) (List.mem_cons_self ..) _
    have HF : Hid (∀ k ∈ slB (.slice a' (st.held.length + 1) c'), k ∈ slB (.slice ha st.held.length hc) ∨ w.heap.size ≤ k) := hide (fun k hk => (hf' k hk).imp_right (fun h9 => by omega))
    have x1 : w1.cell? ⟨s, 1, none⟩ = some (.slice ha st.held.length hc) := hb1.cellv 1 _ rfl
    have g1 := hb1.frozen 1
    have y2 : (w1.setCell ⟨s, 1, none⟩ (.slice a' (st.held.length + 1) c')).cell? ⟨s, 2, none⟩ = some (.int .i64 st.size) := hM1.blk.cellv 2 _ rfl
    have HM1 := hide hM1
    have HO1 := hide ho1
    clear hv' ho' hf' hb1 hop hM1 ho1 c0 c1 f1
    go_upto_region 2 with (fail)
    refine wp_region_tree (fun W => W.cell? ⟨s, 2, none⟩ = some (.int .i64 st.size)) 9 (.take [0, 1, 2, 3, 4] (.step 5 (.step 6 (.step 7 (.step 8 (.step 9 (.fin))))))) (by kernel_rfl) (by kernel_rfl) (by intro _ _ _ _ _ h; exact h) ?_
    refine wpTree_take (y2) ?_
    simp only [opsAt, List.getElem?_cons_zero, List.getElem?_cons_succ]
    iterate 5 (first | (refine wpPureH_step (v := ?_) rfl (fun W hS => ?_) ?_; rotate_left; · (obtain s1 := hS; (try simp only [Act.put, List.setIfInBounds_toArray, List.set_cons_zero, List.set_cons_succ]); go_simp; with_reducible rfl)) | (refine wpPureH_want (v := ?_) (by rfl) (fun W hS => ?_) ?_; rotate_left; · (obtain s1 := hS; (try simp only [Act.put, List.setIfInBounds_toArray, List.set_cons_zero, List.set_cons_succ]); go_simp; with_reducible rfl)))
    refine wpPureH_nil ?_
    simp only [Act.put, List.setIfInBounds_toArray, List.set_cons_zero, List.set_cons_succ]
    refine wpTree_step ?_
    simp only [opsAt, List.getElem?_cons_zero, List.getElem?_cons_succ]
    go_wp2_with fail
    (with_reducible refine (unhide (HS _)).mono ?_)
    rintro e w2 ⟨rfl, ho2⟩
    have hM2 := HM1.out.new (((Only.refl [] _).drew).trans ho2)
    have z0 : w2.cell? ⟨s, 0, none⟩ = some (.int .i64 st.limit) := hM2.blk.cellv 0 _ rfl
    have z2 : w2.cell? ⟨s, 2, none⟩ = some (.int .i64 st.size) := hM2.blk.cellv 2 _ rfl
    have z4 : w2.cell? ⟨s, 4, none⟩ = some (.int .i64 st.e) := hM2.blk.cellv 4 _ rfl
    have z1 : w2.cell? ⟨s, 1, none⟩ = some (.slice a' (st.held.length + 1) c') := hM2.blk.cellv 1 _ rfl
    have z3 : w2.cell? ⟨s, 3, none⟩ = some ov := hM2.blk.cellv 3 _ rfl
    have k0 := hM2.blk.frozen 0
    have k1 := hM2.blk.frozen 1
    have k2 := hM2.blk.frozen 2
    have k3 := hM2.blk.frozen 3
    have k4 := hM2.blk.frozen 4
    have HM2 := hide hM2
    have HO2 := hide ((HO1.out.drew).trans (ho2.mono (T := s :: slB (.slice ha st.held.length hc)) (by simp)))
    clear hM2 ho2 HM1 HO1 HS x1 g1 y2
    have hz3 : (st.size : Int) ≤ 3000 := by have := HZ.out; omega
    have h200 : (p.len : Int) ≤ 200 := by have := HL200.out; omega
    go_wp2_with fail
    refine ⟨.inr z2, ?_⟩
    refine wpTree_step ?_
    simp only [opsAt, List.getElem?_cons_zero, List.getElem?_cons_succ]
    go_wp2_with fail
    refine ⟨.inr (z2), ?_⟩
    refine wpTree_step ?_
    simp only [opsAt, List.getElem?_cons_zero, List.getElem?_cons_succ]
    go_wp2_with fail
    refine ⟨.inr (z2), ?_⟩
    refine wpTree_step ?_
    simp only [opsAt, List.getElem?_cons_zero, List.getElem?_cons_succ]
    go_wp2_with fail
    refine ⟨.inr (z2), ?_⟩
    refine wpTree_step ?_
    simp only [opsAt, List.getElem?_cons_zero, List.getElem?_cons_succ]
    go_wp2_with fail
    refine ⟨.inl trivial, wpTree_fin ?_⟩
    by_cases hex : st.limit < st.size + (1 + p.len)
    · have eT : decide ((st.limit : Int) < (st.size : Int) + (1 + (p.len : Int))) = true := by simp; omega
      have HX := hide hex
      clear hex
      go_wp2_with fail
      go_quiet (fail)
      go_wp2_with fail
      go_ret
      have hH : st.hold p = (⟨0, [], 0, [], 10⟩, 10) := by unfold Stg.hold; rw [if_pos HX.out]
      rw [hH]
      refine ⟨rfl, .slice none 0 0, .slice none 0 0, ⟨((((((HM2.out.blk.set_ 2 _).drewN _).set_ 0 (.int .i64 0)).set_ 1 (.slice none 0 0)).set_ 2 (.int .i64 0)).set_ 3 (.slice none 0 0)).set_ 4 (.int .i64 10), SlN.nil _ _ _ _, SlN.nil _ _ _ _⟩, ?_, by simp [slB], by simp [slB]⟩
      exact ((((((HO2.out.setCell (p := ⟨s, 2, none⟩) (List.mem_cons_self ..) _).drewN _).setCell (p := ⟨s, 0, none⟩) (List.mem_cons_self ..) _).setCell (p := ⟨s, 1, none⟩) (List.mem_cons_self ..) _).setCell (p := ⟨s, 2, none⟩) (List.mem_cons_self ..) _).setCell (p := ⟨s, 3, none⟩) (List.mem_cons_self ..) _).setCell (p := ⟨s, 4, none⟩) (List.mem_cons_self ..) _
    · have eT : decide ((st.limit : Int) < (st.size : Int) + (1 + (p.len : Int))) = false := by simp; omega
      have HX := hide hex
      clear hex
      go_wp2_with fail
      go_quiet (fail)
      go_wp2_with fail
      go_ret
      have hH : st.hold p = ({ st with held := st.held ++ [p], size := st.size + (1 + p.len) }, st.e) := by unfold Stg.hold; rw [if_neg HX.out]
      rw [hH]
      refine ⟨rfl, _, ov, StgM.new (StgM.setown HM2.out (st' := { st with held := st.held ++ [p], size := st.size + (1 + p.len) }) (i := 2) ?_ HM2.out.held HM2.out.opn) ((Only.refl [] _).drewN _), (HO2.out.setCell (p := ⟨s, 2, none⟩) (List.mem_cons_self ..) _).drewN _, HF.out, fun k hk => hk⟩
      simp [stgV]
  · go_enter Tryz.func139, Tryz.ntmps139
    go_wp2_with (at_builtin; go_loud (refine wpList_append_slN rfl (.tmp 9) (.tmp 11) 152 rfl _ 16 Tryz.underlying152 info_any rfl (by decide) (H.out.held.alloc (.cells #[.iface t0 v0] 20)) (SlN.one (base := 0) (Nat.zero_le _) (Blk.new w 20 #[.iface t0 v0])).src rfl rfl rfl (by intro y hy; simp at hy; subst hy; rfl) ?g4 ?g5 (Nat.zero_le _) ?_))
    case g4 => have := HL.out; unfold maxLen; omega
    case g5 => have := HL.out; omega
    intro v' w1 hv' ho' hf'
    obtain ⟨a', c', rfl⟩ := hv'.form
    have hb1 : Blk w1 s 191 (stgV st (.slice ha st.held.length hc) ov) := ho'.blk (H.out.blk.alloc _) H.out.outh
    have hop : SlN w1 0 249 2 ov st.opn.length (opnV st.opn) := (H.out.opn.alloc (.cells #[.iface t0 v0] 20)).keep ho' (fun k hk hm => by
      obtain ⟨cs, hb⟩ := H.out.opn.blkOf k hk
      exact H.out.held.notBlk hb (by decide) hm)
    have hM1 : StgM (w1.setCell ⟨s, 1, none⟩ (.slice a' (st.held.length + 1) c')) s { st with held := st.held ++ [p] } (.slice a' (st.held.length + 1) c') ov := by
      refine ⟨hb1.set_ 1 _, ?_, hop.far (hop.notBlk hb1 (by decide)) _⟩
      have h9 := hv'.far (p := ⟨s, 1, none⟩) (hv'.notBlk hb1 (by decide)) (.slice a' (st.held.length + 1) c')
      rw [List.length_append, show partsV (st.held ++ [p]) = partsV st.held ++ [.iface t0 v0] by have h8 := HPV.out; simp [partsV, ← h8]]
      exact h9
    have ho1 : Only (s :: slB (.slice ha st.held.length hc)) w (w1.setCell ⟨s, 1, none⟩ (.slice a' (st.held.length + 1) c')) := (((Only.refl _ w).alloc (.cells #[.iface t0 v0] 20)).trans (ho'.mono (fun k hk => List.mem_cons_of_mem _ hk))).setCell (p := ⟨s, 1, none⟩) (List.mem_cons_self ..) _
    have HF : Hid (∀ k ∈ slB (.slice a' (st.held.length + 1) c'), k ∈ slB (.slice ha st.held.length hc) ∨ w.heap.size ≤ k) := hide (fun k hk => (hf' k hk).imp_right (fun h9 => by omega))
    have x1 : w1.cell? ⟨s, 1, none⟩ = some (.slice ha st.held.length hc) := hb1.cellv 1 _ rfl
    have g1 := hb1.frozen 1
    have y2 : (w1.setCell ⟨s, 1, none⟩ (.slice a' (st.held.length + 1) c')).cell? ⟨s, 2, none⟩ = some (.int .i64 st.size) := hM1.blk.cellv 2 _ rfl
    have HM1 := hide hM1
    have HO1 := hide ho1
    clear hv' ho' hf' hb1 hop hM1 ho1 c0 c1 f1
    go_upto_region 2 with (fail)
    refine wp_region_tree (fun W => W.cell? ⟨s, 2, none⟩ = some (.int .i64 st.size)) 9 (.take [0, 1, 2, 3, 4] (.step 5 (.step 6 (.step 7 (.step 8 (.step 9 (.fin))))))) (by kernel_rfl) (by kernel_rfl) (by intro _ _ _ _ _ h; exact h) ?_
    refine wpTree_take (y2) ?_
    simp only [opsAt, List.getElem?_cons_zero, List.getElem?_cons_succ]
    iterate 5 (first | (refine wpPureH_step (v := ?_) rfl (fun W hS => ?_) ?_; rotate_left; · (obtain s1 := hS; (try simp only [Act.put, List.setIfInBounds_toArray, List.set_cons_zero, List.set_cons_succ]); go_simp; with_reducible rfl)) | (refine wpPureH_want (v := ?_) (by rfl) (fun W hS => ?_) ?_; rotate_left; · (obtain s1 := hS; (try simp only [Act.put, List.setIfInBounds_toArray, List.set_cons_zero, List.set_cons_succ]); go_simp; with_reducible rfl)))
    refine wpPureH_nil ?_
    simp only [Act.put, List.setIfInBounds_toArray, List.set_cons_zero, List.set_cons_succ]
    refine wpTree_step ?_
    simp only [opsAt, List.getElem?_cons_zero, List.getElem?_cons_succ]
    go_wp2_with fail
    (with_reducible refine (unhide (HS _)).mono ?_)
    rintro e w2 ⟨rfl, ho2⟩
    have hM2 := HM1.out.new (((Only.refl [] _).drew).trans ho2)
    have z0 : w2.cell? ⟨s, 0, none⟩ = some (.int .i64 st.limit) := hM2.blk.cellv 0 _ rfl
    have z2 : w2.cell? ⟨s, 2, none⟩ = some (.int .i64 st.size) := hM2.blk.cellv 2 _ rfl
    have z4 : w2.cell? ⟨s, 4, none⟩ = some (.int .i64 st.e) := hM2.blk.cellv 4 _ rfl
    have z1 : w2.cell? ⟨s, 1, none⟩ = some (.slice a' (st.held.length + 1) c') := hM2.blk.cellv 1 _ rfl
    have z3 : w2.cell? ⟨s, 3, none⟩ = some ov := hM2.blk.cellv 3 _ rfl
    have k0 := hM2.blk.frozen 0
    have k1 := hM2.blk.frozen 1
    have k2 := hM2.blk.frozen 2
    have k3 := hM2.blk.frozen 3
    have k4 := hM2.blk.frozen 4
    have HM2 := hide hM2
    have HO2 := hide ((HO1.out.drew).trans (ho2.mono (T := s :: slB (.slice ha st.held.length hc)) (by simp)))
    clear hM2 ho2 HM1 HO1 HS x1 g1 y2
    have hz3 : (st.size : Int) ≤ 3000 := by have := HZ.out; omega
    have h200 : (p.len : Int) ≤ 200 := by have := HL200.out; omega
    go_wp2_with fail
    refine ⟨.inr z2, ?_⟩
    refine wpTree_step ?_
    simp only [opsAt, List.getElem?_cons_zero, List.getElem?_cons_succ]
    go_wp2_with fail
    refine ⟨.inr (z2), ?_⟩
    refine wpTree_step ?_
    simp only [opsAt, List.getElem?_cons_zero, List.getElem?_cons_succ]
    go_wp2_with fail
    refine ⟨.inr (z2), ?_⟩
    refine wpTree_step ?_
    simp only [opsAt, List.getElem?_cons_zero, List.getElem?_cons_succ]
    go_wp2_with fail
    refine ⟨.inr (z2), ?_⟩
    refine wpTree_step ?_
    simp only [opsAt, List.getElem?_cons_zero, List.getElem?_cons_succ]
    go_wp2_with fail
    refine ⟨.inl trivial, wpTree_fin ?_⟩
    by_cases hex : st.limit < st.size + (1 + p.len)
    · have eT : decide ((st.limit : Int) < (st.size : Int) + (1 + (p.len : Int))) = true := by simp; omega
      have HX := hide hex
      clear hex
      go_wp2_with fail
      go_quiet (fail)
      go_wp2_with fail
      go_ret
      have hH : st.hold p = (⟨0, [], 0, [], 10⟩, 10) := by unfold Stg.hold; rw [if_pos HX.out]
      rw [hH]
      refine ⟨rfl, .slice none 0 0, .slice none 0 0, ⟨((((((HM2.out.blk.set_ 2 _).drewN _).set_ 0 (.int .i64 0)).set_ 1 (.slice none 0 0)).set_ 2 (.int .i64 0)).set_ 3 (.slice none 0 0)).set_ 4 (.int .i64 10), SlN.nil _ _ _ _, SlN.nil _ _ _ _⟩, ?_, by simp [slB], by simp [slB]⟩
      exact ((((((HO2.out.setCell (p := ⟨s, 2, none⟩) (List.mem_cons_self ..) _).drewN _).setCell (p := ⟨s, 0, none⟩) (List.mem_cons_self ..) _).setCell (p := ⟨s, 1, none⟩) (List.mem_cons_self ..) _).setCell (p := ⟨s, 2, none⟩) (List.mem_cons_self ..) _).setCell (p := ⟨s, 3, none⟩) (List.mem_cons_self ..) _).setCell (p := ⟨s, 4, none⟩) (List.mem_cons_self ..) _
    · have eT : decide ((st.limit : Int) < (st.size : Int) + (1 + (p.len : Int))) = false := by simp; omega
      have HX := hide hex
      clear hex
      go_wp2_with fail
      go_quiet (fail)
      go_wp2_with fail
      go_ret
      have hH : st.hold p = ({ st with held := st.held ++ [p], size := st.size + (1 + p.len) }, st.e) := by unfold Stg.hold; rw [if_neg HX.out]
      rw [hH]
      refine ⟨rfl, _, ov, StgM.new (StgM.setown HM2.out (st' := { st with held := st.held ++ [p], size := st.size + (1 + p.len) }) (i := 2) ?_ HM2.out.held HM2.out.opn) ((Only.refl [] _).drewN _), (HO2.out.setCell (p := ⟨s, 2, none⟩) (List.mem_cons_self ..) _).drewN _, HF.out, fun k hk => hk⟩
      simp [stgV]
end Go.Proofs.YtkccjfgkbkodiaaGreat
