/-
  GatR: parts of the walk of TopTight, under no condition.
-/
import Derived.Test.YtkccjfgkbkodiaaGreatZ35
import Derived.Test.YtkccjfgkbkodiaaGreatZ37
namespace Go.Proofs.YtkccjfgkbkodiaaGreat
open Go.RowKit
set_option maxRecDepth 100000
theorem info_b : (Tryz.prog.info? 4).map (fun i => (i.zero, i.size, i.bytes)) = some (some (.bool false), 1, 1) := by kernel_rfl
def boolL (z : List Bool) : List Value := z.map Value.bool
theorem boolL_length (z : List Bool) : (boolL z).length = z.length := by simp [boolL]
theorem Sl.rdy {w : World} {base : Nat} {v : Value} {z : List Bool} (h : Sl w base 4 v (boolL z)) : ∃ a c, v = .slice a z.length c ∧ Wl.IsRdy w a z := by
  obtain ⟨a, c, rfl⟩ := Wl.Sl.form h
  rw [boolL_length]
  refine ⟨a, c, rfl, fun j hj => ?_⟩
  obtain ⟨g, off, cap, hv, hc⟩ := h.cell j (by rw [boolL_length]; exact hj)
  injection hv with hv
  exact ⟨g, off, hv, by rw [hc]; simp [boolL]⟩
/-- The mark is set back. -/
theorem GateIs.back {w : World} {gp : Nat} {a : GB} {n d sg : Nat} {x : Gt} (h : GateIs w gp a n d sg x) {fr : Frame} {own0 : Nat → Nat} (h0 : Outside x.fr.w0 own0 fr) (hf : ∀ k, fr.out k = true → x.fr.out k = true) : GateIs w gp a n d sg { x with fr := fr } := by
  obtain ⟨vw, Ft, SB, own, tn, h, htn⟩ := h
  refine ⟨vw, Ft, SB, own, tn, ⟨h.tm, h.sl, h.il, h.pu, h.wh, h.ls, h.li, h.lh, h.n1, h.n8, h.ses, h.o0, h.o1, h.o2, h.o3, h.o4, h.o5, h.ob, ?_⟩, htn⟩
  have ho := h.ot
  refine ⟨ho.os.trans h0.os, ho.tape.trans h0.tape, ho.output.trans h0.output, Nat.le_trans h0.size ho.size, fun k hk => ?_⟩
  obtain ⟨a1, a2, a3⟩ := h0.blk k hk
  obtain ⟨b1, b2, b3⟩ := ho.blk k (hf k hk)
  exact ⟨a1, b2, b3.trans a3⟩
theorem GateIs.out {w : World} {gp : Nat} {a : GB} {n d sg : Nat} {x : Gt} (h : GateIs w gp a n d sg x) : ∃ own, Outside w own x.fr := by
  obtain ⟨vw, Ft, SB, own, tn, h, htn⟩ := h
  exact ⟨own, h.ot⟩
theorem Outside.cell {w : World} {own : Nat → Nat} {fr : Frame} (h : Outside w own fr) {p : Addr} (hp : fr.out p.block = true) : w.cell? p = fr.w0.cell? p := by
  unfold World.cell?
  rw [(h.blk _ hp).2.2]
/-- What a run does. -/
def RunPost (gp : Nat) (a : GB) (n d sg : Nat) (x : Gt) (R : Nat → List UInt8) (Bd : Nat → Nat) (e : Ending) (w' : World) : Prop :=
  (e = .returned (.tuple #[.int .i64 (-1), .int .i64 0]) ∧ Wl.turn x.flags x.L = none ∧ GateIs w' gp a n d sg x) ∨
  ∃ (i : Nat) (y y' : Ses) (H' : List Int) (k c : Nat) (x' : Gt) (z : Int), Wl.turn x.flags x.L = some (i : Int) ∧ x.slots[i]? = some (some y) ∧ x.ids[i]? = some z ∧ e = .returned (.tuple #[.int .i64 z, .int .i64 (k : Nat)]) ∧ y.Nok ∧ y.inb.length ≤ 64 ∧
    RunR (MayH i) d sg 16 y x.H 0 y' H' k ∧ y'.Fit2 d sg (Bd i) (R i) ∧ y'.Few ∧ y'.chargeBy c ∧ Kept x x' i y' ∧ x'.L = x.L.erase (i : Int) ++ [(i : Int)] ∧ (x'.H = if Pu.canSet x.rest H' x.O i c then H'.set i (c : Int) else H') ∧ GateIs w' gp a n d sg x'
theorem run_kept {x x7 : Gt} {i c : Nat} {y' : Ses} {H' : List Int} (h1 : x7.slots = x.slots.set i (some y')) (h2 : x7.ids = x.ids) (h3 : x7.many = x.many) (h4 : x7.rest = x.rest) (h5 : x7.O = x.O) (h6 : x7.H = H') (hr : ∀ z, H'.set i z = x.H.set i z) (hf : ∀ j, (x7.f j).isSome = (x.f j).isSome) (hL : x7.L = x.L.erase (i : Int) ++ [(i : Int)]) (hi : (i : Int) ∈ x.L) :
    Kept x { x7.charged i c with fr := x.fr } i y' ∧ (x7.charged i c).L = x.L.erase (i : Int) ++ [(i : Int)] ∧ (x7.charged i c).H = if Pu.canSet x.rest H' x.O i c then H'.set i (c : Int) else H' := by
  refine ⟨⟨Gt.charged_slots.trans h1, Gt.charged_ids.trans h2, Gt.charged_many.trans h3, Gt.charged_rest.trans h4, Gt.charged_O.trans h5, fun z => ?_, fun j => by show ((x7.charged i c).f j).isSome = _; rw [Gt.charged_f]; exact hf j, fun j => ?_, rfl⟩, Gt.charged_L.trans hL, ?_⟩
  · show (x7.charged i c).H.set i z = _
    rw [Gt.charged_H, h6, hr]
  · show j ∈ (x7.charged i c).L ↔ _
    rw [Gt.charged_L, hL, List.mem_append, List.mem_singleton]
    by_cases e : j = (i : Int)
    · subst e
      exact ⟨fun _ => hi, fun _ => .inr rfl⟩
    · rw [List.mem_erase_of_ne e]
      exact ⟨fun h => h.elim id (fun h9 => (e h9).elim), .inl⟩
  · have := Gt.charged_Hif (x := x7) (i := i) (c := c)
    rw [h4, h5, h6] at this
    exact this
set_option maxHeartbeats 8000000 in
set_option linter.unusedSimpArgs false in
theorem gate_run {w : World} {gp : Nat} {a : GB} {n d sg : Nat} {x : Gt} (h : GateIs w gp a n d sg x) (hd1 : 1 ≤ d) (hd2 : d ≤ 16) (hs : sg ≤ 2000) (R : Nat → List UInt8) (Bd : Nat → Nat) (hall : ∀ i y, x.slots[i]? = some (some y) → y.Fit2 d sg (Bd i) (R i) ∧ Bd i ≤ 3900 ∧ y.Few ∧ (x.f (i : Int)).isSome = true ∧ Pu.opn x.O (i : Int) = true) :
    Calls Tryz.prog 12 #[.pointer (some ⟨gp, 0, none⟩)] w (RunPost gp a n d sg x R Bd) := by
  obtain ⟨vw, Ft, SB, own, tn, hM, htn⟩ := h
  obtain ⟨ow0, how0⟩ : ∃ ow0, Outside w ow0 x.fr := ⟨_, hM.ot⟩
  have hn8 := hM.n8
  obtain ⟨w1, hw1⟩ : ∃ w1, w1 = w.alloc (.cells #[.pointer (some ⟨gp, 0, none⟩)] 24) := ⟨_, rfl⟩
  have hb1 : Blk w1 w.heap.size 24 #[.pointer (some ⟨gp, 0, none⟩)] := by rw [hw1]; exact Blk.new _ _ _
  have hM1 := hM.outside (w' := w1) (T := []) (by rw [hw1]; exact (Only.refl [] w).alloc _) (by simp)
  obtain ⟨c0, c1, c2, c3, c4⟩ := hM1.cells
  have b1 : w1.cell? ⟨w.heap.size, 0, none⟩ = some (.pointer (some ⟨gp, 0, none⟩)) := hb1.cellv 0 _ rfl
  obtain ⟨x1, hx1⟩ : ∃ x1 : Gt, x1 = { x with fr := ⟨w1, fun k => x.fr.out k || decide (w.heap.size ≤ k ∧ k < w1.heap.size)⟩ } := ⟨_, rfl⟩
  have hls := hM.ls
  have how1 : ∃ ow1, Outside w1 ow1 x.fr := ⟨_, how0.step (show Only [] w w1 by rw [hw1]; exact (Only.refl [] w).alloc _) (i := 0) (fun k hk => by cases hk) (by decide) 0⟩
  have hbl := hb1.lt
  have hx : ∃ gx : Gt, gx = x := ⟨_, rfl⟩
  rw [← hx1] at hM1
  have HX1 := hide (And.intro hx1 how1)
  have HM := hide (And.intro hM1 htn)
  have HB1 := hide (And.intro hb1 how0)
  have HALL := hide hall
  have HD := hide (And.intro hd1 (And.intro hd2 hs))
  clear hM htn hall hd1 hd2 hs hM1 hb1 how0 hx1 how1 hx c1 c2
  go_enter Tryz.func12, Tryz.ntmps12
  go_upto_region 1 with (fail)
  rw [← hw1]
  clear hw1
  go_wp2_with fail
  go_loopg [4, 22] n (fun gk s4 s22 wr => ∃ j : Nat, s22 = .int .i64 j ∧ j + gk = n ∧ Hid (Sl wr w1.heap.size 4 s4 (boolL (x.flags.take j))) ∧ Hid (Only [] w1 wr))
  case atStart => exact ⟨0, rfl, by omega, hide (Sl.nil _ _ _), hide (Only.refl _ _)⟩
  case round =>
    obtain ⟨j, rfl, hj, hsl, ho⟩ := hrel
    by_cases hlt : j < n
    · obtain ⟨o, hoj⟩ : ∃ o, x.slots[j]? = some o := ⟨_, List.getElem?_eq_getElem (by rw [hls]; exact hlt)⟩
      have hMr := HM.out.1.new ho.out
      have hoj1 : x1.slots[j]? = some o := by rw [HX1.out.1]; exact hoj
      have s0 : wr.cell? ⟨a.sb, j, none⟩ = some (slotV SB j o) := hMr.slot hoj1
      have HRD := hide (show Calls Tryz.prog 36 #[slotV SB j o] wr fun e w' => e = .returned (.bool (readyO o)) ∧ w' = wr by
        cases o with
        | none => exact ready_nil wr
        | some y => exact ses_ready (hMr.ses j y hoj1))
      have HFL := hide (show boolL (x.flags.take (j + 1)) = boolL (x.flags.take j) ++ [.bool (readyO o)] by
        unfold Gt.flags
        rw [List.take_add_one, List.getElem?_map, hoj]
        simp [boolL])
      generalize slotV SB j o = sv at s0 HRD
      generalize readyO o = rj at HRD HFL
      have hlt2 : (j : Int) < n := by omega
      have hlen : (boolL (x.flags.take j)).length ≤ 8 := by rw [boolL_length, List.length_take]; omega
      have HSZ := hide (And.intro hlen ho.out.size)
      clear hMr hoj hoj1 hlen
      go_wp2_with fail
      (with_reducible refine (unhide HRD).mono ?_)
      rintro e wr ⟨rfl, hw⟩
      subst hw
      clear HRD s0
      go_wp2_with (at_builtin; refine wpList_append_sl rfl (.tmp 26) (.tmp 29) 75 rfl w1.heap.size 4 (.bool false) 1 Tryz.underlying75 info_b rfl u4 (boolL (x.flags.take j)) rfl (hsl.out.alloc _) _ (.bool rj) rfl (Blk.cell (Blk.new _ _ _) 0) rfl (by have := HSZ.out.1; unfold maxLen; omega) (by have := HSZ.out.1; omega) (by have := HSZ.out.2; simp; omega) ?_; intro v' w3 hsl3 ho3 hf3)
      have HS3 := hide (show Sl w3 w1.heap.size 4 v' (boolL (x.flags.take (j + 1))) by rw [HFL.out]; exact hsl3)
      have HO3 := hide ((ho.out.alloc _).own ho3 fun k hk => .inr (hsl.out.lt k hk).1)
      clear hsl3 ho3 hf3
      go_roundg (gk - 1)
      case measure => omega
      case rel => exact ⟨j + 1, by go_num, by omega, HS3, HO3⟩
    · have hjn : j = n := by omega
      subst hjn
      have hfl : x.flags.take j = x.flags := List.take_of_length_le (by unfold Gt.flags; rw [List.length_map, hls]; exact Nat.le_refl _)
      obtain ⟨za, zc, rfl, hz⟩ := hsl.out.rdy
      rw [hfl] at hz
      have hzl : (x.flags.take j).length = x.flags.length := by rw [hfl]
      rw [hzl]
      have hMr := HM.out.1.new ho.out
      obtain ⟨k0, k1, k2, k3, k4⟩ := hMr.cells
      have bb := ho.out.cellk b1 (by simp)
      have hL1 : x1.L = x.L := by rw [HX1.out.1]
      cases hturn : Wl.turn x.flags x.L with
      | none =>
        have HNX := hide (Wl.next_none hMr.wh za zc x.flags hz (by rw [hL1]; exact Wl.turn_none hturn))
        have HMR := hide (And.intro hMr hturn)
        clear hMr hturn hz hfl hzl hL1 hsl ho k0 k1 k2 k3
        go_wp2_with fail
        (with_reducible refine (unhide HNX).mono ?_)
        rintro e wr ⟨rfl, hw⟩
        subst hw
        go_wp2_with fail
        go_ret2
        refine .inl ⟨rfl, HMR.out.2, ?_⟩
        obtain ⟨ow1, h0⟩ := HX1.out.2
        have hg : GateIs (wr.alloc (.cells #[.int .i64 0] 3)) gp a j d sg x1 := ⟨_, _, _, _, _, HMR.out.1.new ((Only.refl [] wr).alloc _), by rw [HX1.out.1]; exact HM.out.2⟩
        have hg2 := hg.back (fr := x.fr) (own0 := ow1) (by rw [HX1.out.1]; exact h0) (fun k hk => by rw [HX1.out.1]; simp [hk])
        rw [HX1.out.1] at hg2
        exact hg2
      | some zi =>
        obtain ⟨A, B, hL, hA, hzr⟩ := Wl.turn_some hturn
        have hin := hMr.wh.inside zi (by rw [hL1, hL]; simp)
        obtain ⟨i, rfl⟩ : ∃ i : Nat, zi = (i : Int) := ⟨zi.toNat, by omega⟩
        obtain ⟨y, hy, hyr⟩ : ∃ y, x.slots[i]? = some (some y) ∧ y.ready = true := by
          have h9 := hzr
          unfold Wl.rdy Gt.flags at h9
          rw [show ((i : Int)).toNat = i by simp, List.getD, List.getElem?_map] at h9
          cases ho : x.slots[i]? with
          | none => rw [ho] at h9; cases h9
          | some o =>
            cases o with
            | none => rw [ho] at h9; cases h9
            | some y => rw [ho] at h9; exact ⟨y, rfl, h9⟩
        have hlei : x.L.erase (i : Int) = A ++ B := by
          rw [hL, List.erase_append_right _ (fun hm => by rw [hA _ hm] at hzr; cases hzr), List.erase_cons_head]
        have HNX := hide (Wl.next_some hMr.wh za zc x.flags hz (Nat.zero_le _) (hL1.trans hL) hlei hA hzr)
        have hin2 : i < j := by rw [← hls]; exact (List.getElem?_eq_some_iff.1 hy).1
        obtain ⟨z, hidz⟩ : ∃ z, x.ids[i]? = some z := ⟨_, List.getElem?_eq_getElem (by have := hMr.li; rw [HX1.out.1] at this; simp only at this; omega)⟩
        have HY := hide (And.intro hy (And.intro hidz hturn))
        have HIL := hide (show (i : Int) ∈ x.L by rw [hL]; simp)
        have HMR := hide hMr
        clear hMr hturn hz hfl hzl hL1 hsl ho k0 k1 k2 k3 hL hA hzr hin hy hyr hlei hidz
        go_wp2_with fail
        (with_reducible refine (unhide HNX).mono ?_)
        rintro e w2 ⟨rfl, v2, hw2, ho2, hf2⟩
        have hM2 := HMR.out.wheel hw2 ho2 hf2
        have bb2 := ho2.cellk bb (fun hm => by
          have h3 := (HMR.out.o3 _ hm).1
          unfold own2 at h3
          rw [if_neg (by show ¬ w1.heap.size ≤ w.heap.size; omega), if_pos (Nat.le_refl _)] at h3
          omega)
        obtain ⟨x2, hx2⟩ : ∃ x2 : Gt, x2 = { x1 with L := x.L.erase (i : Int) ++ [(i : Int)] } := ⟨_, rfl⟩
        rw [← hx2] at hM2
        have HM2 := hide hM2
        have HX2 := hide hx2
        clear hM2 hx2 hw2 ho2 hf2 HNX bb k4
        go_upto_region 12 with (fail)
        obtain ⟨w3, hw3⟩ : ∃ w3, w3 = w2.alloc (.cells #[.int .i64 (i : Int)] 3) := ⟨_, rfl⟩
        have ho3 : Only [] w2 w3 := by rw [hw3]; exact (Only.refl [] w2).alloc _
        have hb3 : Blk w3 w2.heap.size 3 #[.int .i64 (i : Int)] := by rw [hw3]; exact Blk.new _ _ _
        rw [← hw3]
        clear hw3
        obtain ⟨q, hq⟩ : ∃ q, q = w2.heap.size := ⟨_, rfl⟩
        have hqlt := hb3.lt
        rw [← hq] at hb3 hqlt ⊢
        obtain ⟨x3, hx3⟩ : ∃ x3 : Gt, x3 = { x2 with fr := ⟨w3, fun k => x2.fr.out k || decide (w2.heap.size ≤ k ∧ k < w3.heap.size)⟩ } := ⟨_, rfl⟩
        have hM3 := HM2.out.outside ho3 (by simp)
        rw [← hx3] at hM3
        have how3 : ∃ ow3, Outside w3 ow3 x2.fr := ⟨_, HM2.out.ot.step ho3 (i := 0) (fun k hk => by cases hk) (by decide) 0⟩
        have hy3 : x3.slots[i]? = some (some y) := by rw [hx3, HX2.out, HX1.out.1]; exact HY.out.1
        have b3 := ho3.cellk bb2 (by simp)
        have q3 : w3.cell? ⟨q, 0, none⟩ = some (.int .i64 (i : Int)) := hb3.cellv 0 _ rfl
        have obx : x3.fr.out w.heap.size = true := by
          rw [hx3, HX2.out, HX1.out.1]
          simp
          exact .inl (.inr hbl)
        have oq : x3.fr.out q = true := by
          rw [hx3, hq]
          simp
          exact .inr (by rw [← hq]; exact hqlt)
        obtain ⟨bx, hbx⟩ : ∃ bx, bx = w.heap.size := ⟨_, rfl⟩
        rw [← hbx] at b3 obx ⊢
        obtain ⟨k0, k1, k2, k3, k4⟩ := hM3.cells
        have s0 := hM3.slot hy3
        simp only [slotV] at s0
        have hin3 : (i : Int) < j := by omega
        have HQB := hide (And.intro hq (And.intro hbx hbl))
        have HX3 := hide (And.intro hx3 (And.intro how3 (And.intro obx oq)))
        have HM3 := hide hM3
        clear hM3 hx3 how3 obx oq hb3 ho3 bb2 c0 c3 c4 b1 hqlt hbl hbx k1 k2 k4 hq
        refine wp_region_tree (fun W => W.cell? ⟨bx, 0, none⟩ = some (.pointer (some ⟨gp, 0, none⟩)) ∧ W.cell? ⟨gp, 0, none⟩ = some (.slice (some ⟨a.sb, 0, none⟩) j j) ∧ W.cell? ⟨q, 0, none⟩ = some (.int .i64 (i : Int)) ∧ W.cell? ⟨a.sb, i, none⟩ = some (.pointer (some ⟨(SB i).1, 0, none⟩))) 8 (.take [0, 1, 2, 3, 4, 5, 6] (.step 7 (.fin))) (by kernel_rfl) (by kernel_rfl) (by intro _ _ _ _ _ h; exact h) ?_
        refine wpTree_take (⟨b3, k0, q3, s0⟩) ?_
        simp only [opsAt, List.getElem?_cons_zero, List.getElem?_cons_succ]
        iterate 7 (first | (refine wpPureH_step (v := ?_) rfl (fun W hS => ?_) ?_; rotate_left; · (obtain ⟨s1, s2, s3, s4⟩ := hS; (try simp only [Act.put, List.setIfInBounds_toArray, List.set_cons_zero, List.set_cons_succ]); go_simp; with_reducible rfl)) | (refine wpPureH_want (v := ?_) (by rfl) (fun W hS => ?_) ?_; rotate_left; · (obtain ⟨s1, s2, s3, s4⟩ := hS; (try simp only [Act.put, List.setIfInBounds_toArray, List.set_cons_zero, List.set_cons_succ]); go_simp; with_reducible rfl)))
        refine wpPureH_nil ?_
        simp only [Act.put, List.setIfInBounds_toArray, List.set_cons_zero, List.set_cons_succ]
        refine wpTree_step ?_
        simp only [opsAt, List.getElem?_cons_zero, List.getElem?_cons_succ]
        go_wp2_with fail
        refine ⟨.inr ⟨b3, k0, q3, s0⟩, wpTree_fin ?_⟩
        obtain ⟨wd, hwd⟩ : ∃ wd, wd = w3.drew := ⟨_, rfl⟩
        have hod : Only [] w3 wd := by rw [hwd]; exact (Only.refl [] w3).drew
        rw [← hwd]
        have hMd := HM3.out.new hod
        have HS1 := hide (ses_setup (hMd.ses i y hy3))
        have HMd := hide hMd
        have b4 := hod.cellk b3 (by simp)
        have q4 := hod.cellk q3 (by simp)
        have p4 := hod.cellk k3 (by simp)
        clear hwd hod hMd b3 q3 k3 k0 s0
        go_wp2_with fail
        (with_reducible refine (unhide HS1).mono ?_)
        rintro e w4 ⟨rfl, ho4⟩
        have hM4 := HMd.out.new ho4
        have b5 := ho4.cellk b4 (by simp)
        have q5 := ho4.cellk q4 (by simp)
        have p5 := ho4.cellk p4 (by simp)
        have HM4 := hide hM4
        clear HS1 HMd ho4 hM4 b4 q4 p4
        unfold Ses.set setV
        obtain ⟨u1, hu1⟩ : ∃ u1 : Int, u1 = (if y.told then 1 else 0) := ⟨_, rfl⟩
        obtain ⟨u2, hu2⟩ : ∃ u2 : Int, u2 = (if y.told then 3 else 0) := ⟨_, rfl⟩
        obtain ⟨u3, hu3⟩ : ∃ u3 : Int, u3 = (if y.told then (d : Int) else 0) := ⟨_, rfl⟩
        obtain ⟨u4, hu4⟩ : ∃ u4 : Int, u4 = (if y.told then (sg : Int) else 0) := ⟨_, rfl⟩
        rw [← hu1, ← hu2, ← hu3, ← hu4]
        clear hu1 hu2 hu3 hu4
        go_upto_region 14 with (fail)
        obtain ⟨w5, hw5⟩ : ∃ w5, w5 = w4.alloc (.cells #[.int .i64 u1, .int .i64 u2, .int .i64 u3, .int .i64 u4, .int .i64 0] 29) := ⟨_, rfl⟩
        have ho5 : Only [] w4 w5 := by rw [hw5]; exact (Only.refl [] w4).alloc _
        rw [← hw5]
        clear hw5
        obtain ⟨ow5, hM5⟩ : ∃ ow5, GateM w5 gp a v2 Ft SB ow5 j tn d sg x3 := ⟨_, HM4.out.new ho5⟩
        have b6 := ho5.cellk b5 (by simp)
        have q6 := ho5.cellk q5 (by simp)
        have p6 := ho5.cellk p5 (by simp)
        have hO := hM5.o5 i y hy3
        have own : ∀ k o, ow5 k = o → o ≠ 5 + i → k ≠ (SB i).1 ∧ k ∉ (SB i).2 := fun k o h1 h2 => ⟨fun e => h2 (h1.symm.trans (by rw [e]; exact (hO _ (List.mem_cons_self ..)).1)), fun hm => h2 (h1.symm.trans (hO _ (List.mem_cons_of_mem _ hm)).1)⟩
        have hbx := hM5.ot.blk bx HX3.out.2.2.1
        have hqx := hM5.ot.blk q HX3.out.2.2.2
        have hgx := hM5.o4 gp hM5.tm.pF
        have hpp := hM5.o2 a.pp (by simp)
        have hqh := hM5.o2 a.qh (by simp)
        have hqo := hM5.o2 a.qo (by simp)
        have hT : ∀ k ∈ [a.pp, a.qh, a.qo], k < w5.heap.size ∧ k ≠ (SB i).1 ∧ k ∉ (SB i).2 := fun k hk => ⟨(hM5.o2 k hk).2, own k 2 (hM5.o2 k hk).1 (by omega)⟩
        have hkeepb : ∀ k o, ow5 k = o → o ≠ 5 + i → k < w5.heap.size → ∀ A : List Nat, (∀ k ∈ A, k = (SB i).1 ∨ k ∈ (SB i).2 ∨ w5.heap.size ≤ k) → k ∉ A := fun k o h1 h2 h3 A hA hm => by
          rcases hA k hm with h9 | h9 | h9
          · exact (own k o h1 h2).1 h9
          · exact (own k o h1 h2).2 h9
          · omega
        have hbs := hM5.ot.size
        have nb : bx ≠ a.qh := fun e => by have h1 := hbx.2.1; rw [e, hqh.1] at h1; omega
        have nq : q ≠ a.qh := fun e => by have h1 := hqx.2.1; rw [e, hqh.1] at h1; omega
        have ng : gp ≠ a.qh := fun e => by have h1 := hgx.1; rw [e, hqh.1] at h1; omega
        obtain ⟨f1, f2, f3, f4, f5⟩ := HALL.out i y HY.out.1
        have hopn : Pu.opn x3.O (i : Int) = true := by rw [HX3.out.1, HX2.out, HX1.out.1]; exact f5
        have HRUN := hide (ses_run (M := MayH i) (PI := fun W H => Pu.Purse W a.pp a.qh a.qo x3.rest H x3.O ∧ H.length = j ∧ W.cell? ⟨bx, 0, none⟩ = some (.pointer (some ⟨gp, 0, none⟩)) ∧ W.cell? ⟨q, 0, none⟩ = some (.int .i64 (i : Int)) ∧ W.cell? ⟨gp, 3, none⟩ = some (.pointer (some ⟨a.pp, 0, none⟩)))
          (T := [a.pp, a.qh, a.qo]) (s := x3.H) (c1 := .pointer (some ⟨bx, 0, none⟩)) (c2 := .pointer (some ⟨q, 0, none⟩)) (hM5.ses i y hy3) f1 HD.out.1 HD.out.2.1 HD.out.2.2 f2 f3 ⟨hM5.pu, hM5.lh, b6, q6, p6⟩
          (fun W W' A s ⟨h1, h2, h3, h4, h5⟩ ho hA => ⟨h1.keep ho (hkeepb _ _ hpp.1 (by omega) hpp.2 A hA) (hkeepb _ _ hqh.1 (by omega) hqh.2 A hA) (hkeepb _ _ hqo.1 (by omega) hqo.2 A hA), h2, ho.cellk h3 (hkeepb _ _ hbx.2.1 (by omega) (by omega) A hA), ho.cellk h4 (hkeepb _ _ hqx.2.1 (by omega) (by omega) A hA), ho.cellk h5 (hkeepb _ _ hgx.1 (by omega) hgx.2 A hA)⟩)
          (fun W s c hc ⟨h1, h2, h3, h4, h5⟩ => (gate_may h1 h3 h4 h5 hopn hc ⟨nb, nq, ng⟩).mono fun e W' ⟨ok, H', hm, he, hp, hl, ho⟩ => ⟨ok, H', hm, he, ⟨hp, hl.trans h2, ho.cellk h3 (by
            simp only [List.mem_cons, List.not_mem_nil, or_false, not_or]
            exact ⟨fun e => by have h1 := hbx.2.1; rw [e, hpp.1] at h1; omega, nb, fun e => by have h1 := hbx.2.1; rw [e, hqo.1] at h1; omega⟩), ho.cellk h4 (by
            simp only [List.mem_cons, List.not_mem_nil, or_false, not_or]
            exact ⟨fun e => by have h1 := hqx.2.1; rw [e, hpp.1] at h1; omega, nq, fun e => by have h1 := hqx.2.1; rw [e, hqo.1] at h1; omega⟩), ho.cellk h5 (by
            simp only [List.mem_cons, List.not_mem_nil, or_false, not_or]
            exact ⟨fun e => by have h1 := hgx.1; rw [e, hpp.1] at h1; omega, ng, fun e => by have h1 := hgx.1; rw [e, hqo.1] at h1; omega⟩)⟩, ho⟩)
          hT)
        have HM5 := hide hM5
        have hmf : ∀ fn first cap W, Sem.run Tryz.prog (Instr.makeFunc fn first cap) W = .ok (.func fn first cap) W := fun _ _ _ _ => rfl
        clear ho5 hM5 hO own hbx hqx hgx hpp hqh hqo hT hkeepb hbs nb nq ng f1 f2 f3 f4 f5 hopn HM4 b5 q5 p5 b6 q6 p6
        go_wp2_with fail
        (with_reducible refine (unhide HRUN).mono ?_)
        rintro e w6 ⟨y', H', m', rfl, hrun, F', hs6, hfit, hfew, ⟨hp6, hl6, b6, q6, p6⟩, ho6, hf6⟩
        obtain ⟨x6, hx6⟩ : ∃ x6 : Gt, x6 = { x3 with slots := x3.slots.set i (some y'), H := H' } := ⟨_, rfl⟩
        obtain ⟨SB6, ow6, hSB, hM6⟩ : ∃ (SB6 : Nat → Nat × List Nat) (ow6 : Nat → Nat), (SB6 i).1 = (SB i).1 ∧ GateM w6 gp a v2 Ft SB6 ow6 j tn d sg x6 := by
          obtain ⟨G, hG⟩ := HM5.out.ran hy3 hs6 hp6 hl6 ho6 hf6
          rw [hx6]
          exact ⟨_, _, by simp, hG⟩
        have hy6 : x6.slots[i]? = some (some y') := by rw [hx6]; exact List.getElem?_set_self (List.getElem?_eq_some_iff.1 hy3).1
        have hs2 := ses_setup (hM6.ses i y' hy6)
        rw [hSB] at hs2
        have HS2 := hide hs2
        have h64 : y.Nok ∧ y.inb.length ≤ 64 := by
          refine ⟨(HM5.out.ses i y hy3).nok, ?_⟩
          obtain ⟨rp, Fr, vq, pv, Fp, hMs, _⟩ := HM5.out.ses i y hy3
          exact ring_len hMs.ring
        have hfit9 := hfit
        obtain ⟨N, hN, _⟩ := hfit9
        have HRES := hide (And.intro hrun (And.intro hfit (And.intro hfew (And.intro h64.1 (And.intro h64.2 hN.ok)))))
        have HM6 := hide hM6
        have hx6' : x6 = { x with slots := x.slots.set i (some y'), H := H', L := x.L.erase (i : Int) ++ [(i : Int)], fr := x3.fr } := by rw [hx6, HX3.out.1, HX2.out, HX1.out.1]
        have HX6 := hide (And.intro hx6' hy6)
        clear HRUN hrun hs6 hfit hfew hp6 hl6 ho6 hf6 hx6 hSB hM6 hy6 hs2 h64 hN p6 hmf hx6' HM5
        go_wp2_with fail
        (with_reducible refine (unhide HS2).mono ?_)
        rintro e w7 ⟨rfl, ho7⟩
        have b7 := ho7.cellk b6 (by simp)
        have q7 := ho7.cellk q6 (by simp)
        have hM7 := HM6.out.new ho7
        have HM7 := hide hM7
        clear HS2 ho7 b6 q6 hM7 HM6
        unfold Ses.set setV
        obtain ⟨r1, hr1⟩ : ∃ u1 : Int, u1 = (if y'.told then 1 else 0) := ⟨_, rfl⟩
        obtain ⟨r2, hr2⟩ : ∃ u2 : Int, u2 = (if y'.told then 3 else 0) := ⟨_, rfl⟩
        obtain ⟨r3, hr3⟩ : ∃ u3 : Int, u3 = (if y'.told then (d : Int) else 0) := ⟨_, rfl⟩
        obtain ⟨r4, hr4⟩ : ∃ u4 : Int, u4 = (if y'.told then (sg : Int) else 0) := ⟨_, rfl⟩
        rw [← hr1, ← hr2, ← hr3, ← hr4]
        clear hr1 hr2 hr3 hr4
        go_upto_region 16 with (fail)
        obtain ⟨w8, hw8⟩ : ∃ w8, w8 = w7.alloc (.cells #[.int .i64 r1, .int .i64 r2, .int .i64 r3, .int .i64 r4, .int .i64 0] 29) := ⟨_, rfl⟩
        have ho8 : Only [] w7 w8 := by rw [hw8]; exact (Only.refl [] w7).alloc _
        have hb8 : Blk w8 w7.heap.size 29 #[.int .i64 r1, .int .i64 r2, .int .i64 r3, .int .i64 r4, .int .i64 0] := by rw [hw8]; exact Blk.new _ _ _
        rw [← hw8]
        clear hw8
        obtain ⟨v, hv⟩ : ∃ v, v = w7.heap.size := ⟨_, rfl⟩
        have hvF : v ∉ Ft := fun hm => by have := (HM7.out.o4 v hm).2; omega
        rw [← hv] at hb8 ⊢
        clear hv
        have l8 : w8.cell? ⟨v, 4, none⟩ = some (.int .i64 0) := hb8.cellv 4 _ rfl
        have b8 := ho8.cellk b7 (by simp)
        have q8 := ho8.cellk q7 (by simp)
        obtain ⟨ow8, hM8⟩ : ∃ ow8, GateM w8 gp a v2 Ft SB6 ow8 j tn d sg x6 := ⟨_, HM7.out.new ho8⟩
        have HM8 := hide hM8
        obtain ⟨t1, ht1⟩ : ∃ t, t = y.told := ⟨_, rfl⟩
        obtain ⟨t2, ht2⟩ : ∃ t, t = y'.told := ⟨_, rfl⟩
        rw [← ht1, ← ht2]
        clear ht1 ht2 hb8 ho8 hM8 HM7 b7 q7
        cases t2 with
        | false =>
          go_wp2_with fail
          have HCH := hide (gate_charge (N := N) (show GateIs w8 gp a j d sg x6 from ⟨_, _, _, _, _, HM8.out, by show tn ≤ x6.tb; rw [HX6.out.1]; exact HM.out.2⟩) (show (Gt.slots (x6))[i]? = some (some y') from HX6.out.2) HRES.out.2.2.2.2.2 (by have := HD.out.2.1; omega) (by have h9 : y'.outL.flatten.length ≤ 40000 := HRES.out.2.2.1; omega))
          go_wp2_with fail
          (with_reducible refine (unhide HCH).mono ?_)
          rintro e w10 ⟨rfl, c, hc, hg⟩
          have hfr6 : (Gt.charged (x6) i c).fr = x3.fr := by rw [Gt.charged_fr]; show x6.fr = _; rw [HX6.out.1]
          obtain ⟨vw10, Ft10, SB10, ow10, tn10, hM10, htn10⟩ := hg
          obtain ⟨owW, hW⟩ : ∃ owW, Outside w8 owW x3.fr := ⟨_, by have := HM8.out.ot; rw [show Gt.fr (x6) = x3.fr by show x6.fr = _; rw [HX6.out.1]] at this; exact this⟩
          obtain ⟨owV, hV⟩ : ∃ owV, Outside w10 owV x3.fr := ⟨_, by have := hM10.ot; rw [hfr6] at this; exact this⟩
          have b10 : w10.cell? ⟨bx, 0, none⟩ = some (.pointer (some ⟨gp, 0, none⟩)) := (hV.cell HX3.out.2.2.1).trans ((hW.cell HX3.out.2.2.1).symm.trans b8)
          have q10 : w10.cell? ⟨q, 0, none⟩ = some (.int .i64 (i : Int)) := (hV.cell HX3.out.2.2.2).trans ((hW.cell HX3.out.2.2.2).symm.trans q8)
          obtain ⟨k0, k1, k2, k3, k4⟩ := hM10.cells
          have i10 : w10.cell? ⟨a.ib, i, none⟩ = some (.int .i64 z) := hM10.id (by
            rw [Gt.charged_ids]
            show x6.ids[i]? = _
            rw [HX6.out.1]
            exact HY.out.2.1)
          have HM10 := hide (And.intro hM10 (And.intro htn10 (And.intro hc hfr6)))
          clear hM10 htn10 hc hfr6 hW hV HCH b8 q8 k0 k2 k3 k4
          go_upto_region 19 with (fail)
          refine wp_region_tree (fun W => W.cell? ⟨bx, 0, none⟩ = some (.pointer (some ⟨gp, 0, none⟩)) ∧ W.cell? ⟨gp, 1, none⟩ = some (.slice (some ⟨a.ib, 0, none⟩) j j) ∧ W.cell? ⟨q, 0, none⟩ = some (.int .i64 (i : Int)) ∧ W.cell? ⟨a.ib, i, none⟩ = some (.int .i64 z)) 10 (.take [0, 1, 2, 3, 4, 5, 6, 7] (.step 8 (.step 9 (.fin)))) (by kernel_rfl) (by kernel_rfl) (by intro _ _ _ _ _ h; exact h) ?_
          refine wpTree_take (⟨b10, k1, q10, i10⟩) ?_
          simp only [opsAt, List.getElem?_cons_zero, List.getElem?_cons_succ]
          iterate 8 (first | (refine wpPureH_step (v := ?_) rfl (fun W hS => ?_) ?_; rotate_left; · (obtain ⟨s1, s2, s3, s4⟩ := hS; (try simp only [Act.put, List.setIfInBounds_toArray, List.set_cons_zero, List.set_cons_succ]); go_simp; with_reducible rfl)) | (refine wpPureH_want (v := ?_) (by rfl) (fun W hS => ?_) ?_; rotate_left; · (obtain ⟨s1, s2, s3, s4⟩ := hS; (try simp only [Act.put, List.setIfInBounds_toArray, List.set_cons_zero, List.set_cons_succ]); go_simp; with_reducible rfl)))
          refine wpPureH_nil ?_
          simp only [Act.put, List.setIfInBounds_toArray, List.set_cons_zero, List.set_cons_succ]
          refine wpTree_step ?_
          simp only [opsAt, List.getElem?_cons_zero, List.getElem?_cons_succ]
          go_wp2_with fail
          refine ⟨.inr ⟨b10, k1, q10, i10⟩, ?_⟩
          refine wpTree_step ?_
          simp only [opsAt, List.getElem?_cons_zero, List.getElem?_cons_succ]
          go_wp2_with fail
          refine ⟨.inr ⟨b10, k1, q10, i10⟩, wpTree_fin ?_⟩
          go_wp2_with fail
          go_ret2
          have hrn : ∀ z, H'.set i z = x.H.set i z := fun z => by
            have := runR_H 16 HRES.out.1 z
            rw [this, HX3.out.1, HX2.out, HX1.out.1]
          obtain ⟨g1, g2, g3⟩ := run_kept (x := x) (x7 := x6) (i := i) (c := c) (y' := y') (H' := H') (by show x6.slots = _; rw [HX6.out.1]) (by show x6.ids = _; rw [HX6.out.1]) (by show x6.many = _; rw [HX6.out.1]) (by show x6.rest = _; rw [HX6.out.1]) (by show x6.O = _; rw [HX6.out.1]) (by show x6.H = _; rw [HX6.out.1]) hrn (fun _ => by show (x6.f _).isSome = _; rw [HX6.out.1]) (by show x6.L = _; rw [HX6.out.1]) HIL.out
          have hg : GateIs w10.drew gp a j d sg (Gt.charged (x6) i c) := ⟨_, _, _, _, _, HM10.out.1.new ((Only.refl [] w10).drew), HM10.out.2.1⟩
          obtain ⟨ow3, h3⟩ := HX3.out.2.1
          have hg2 := hg.back (fr := x2.fr) (own0 := ow3) (by rw [HM10.out.2.2.2, HX3.out.1]; exact h3) (fun k hk => by rw [HM10.out.2.2.2, HX3.out.1]; simp [hk])
          obtain ⟨ow1, h1⟩ := HX1.out.2
          have hg3 := hg2.back (fr := x.fr) (own0 := ow1) (by show Outside x2.fr.w0 _ _; rw [HX2.out, HX1.out.1]; exact h1) (fun k hk => by show x2.fr.out k = true; rw [HX2.out, HX1.out.1]; simp [hk])
          refine .inr ⟨i, y, y', H', m', c, _, z, HY.out.2.2, HY.out.1, HY.out.2.1, rfl, HRES.out.2.2.2.1, HRES.out.2.2.2.2.1, ?_, HRES.out.2.1, HRES.out.2.2.1, HM10.out.2.2.1, g1, g2, g3, hg3⟩
          have := HRES.out.1
          rw [HX3.out.1, HX2.out, HX1.out.1] at this
          exact this
        | true =>
          cases t1 with
          | true =>
            go_wp2_with fail
            have HCH := hide (gate_charge (N := N) (show GateIs w8 gp a j d sg x6 from ⟨_, _, _, _, _, HM8.out, by show tn ≤ x6.tb; rw [HX6.out.1]; exact HM.out.2⟩) (show (Gt.slots (x6))[i]? = some (some y') from HX6.out.2) HRES.out.2.2.2.2.2 (by have := HD.out.2.1; omega) (by have h9 : y'.outL.flatten.length ≤ 40000 := HRES.out.2.2.1; omega))
            go_wp2_with fail
            (with_reducible refine (unhide HCH).mono ?_)
            rintro e w10 ⟨rfl, c, hc, hg⟩
            have hfr6 : (Gt.charged (x6) i c).fr = x3.fr := by rw [Gt.charged_fr]; show x6.fr = _; rw [HX6.out.1]
            obtain ⟨vw10, Ft10, SB10, ow10, tn10, hM10, htn10⟩ := hg
            obtain ⟨owW, hW⟩ : ∃ owW, Outside w8 owW x3.fr := ⟨_, by have := HM8.out.ot; rw [show Gt.fr (x6) = x3.fr by show x6.fr = _; rw [HX6.out.1]] at this; exact this⟩
            obtain ⟨owV, hV⟩ : ∃ owV, Outside w10 owV x3.fr := ⟨_, by have := hM10.ot; rw [hfr6] at this; exact this⟩
            have b10 : w10.cell? ⟨bx, 0, none⟩ = some (.pointer (some ⟨gp, 0, none⟩)) := (hV.cell HX3.out.2.2.1).trans ((hW.cell HX3.out.2.2.1).symm.trans b8)
            have q10 : w10.cell? ⟨q, 0, none⟩ = some (.int .i64 (i : Int)) := (hV.cell HX3.out.2.2.2).trans ((hW.cell HX3.out.2.2.2).symm.trans q8)
            obtain ⟨k0, k1, k2, k3, k4⟩ := hM10.cells
            have i10 : w10.cell? ⟨a.ib, i, none⟩ = some (.int .i64 z) := hM10.id (by
              rw [Gt.charged_ids]
              show x6.ids[i]? = _
              rw [HX6.out.1]
              exact HY.out.2.1)
            have HM10 := hide (And.intro hM10 (And.intro htn10 (And.intro hc hfr6)))
            clear hM10 htn10 hc hfr6 hW hV HCH b8 q8 k0 k2 k3 k4
            go_upto_region 19 with (fail)
            refine wp_region_tree (fun W => W.cell? ⟨bx, 0, none⟩ = some (.pointer (some ⟨gp, 0, none⟩)) ∧ W.cell? ⟨gp, 1, none⟩ = some (.slice (some ⟨a.ib, 0, none⟩) j j) ∧ W.cell? ⟨q, 0, none⟩ = some (.int .i64 (i : Int)) ∧ W.cell? ⟨a.ib, i, none⟩ = some (.int .i64 z)) 10 (.take [0, 1, 2, 3, 4, 5, 6, 7] (.step 8 (.step 9 (.fin)))) (by kernel_rfl) (by kernel_rfl) (by intro _ _ _ _ _ h; exact h) ?_
            refine wpTree_take (⟨b10, k1, q10, i10⟩) ?_
            simp only [opsAt, List.getElem?_cons_zero, List.getElem?_cons_succ]
            iterate 8 (first | (refine wpPureH_step (v := ?_) rfl (fun W hS => ?_) ?_; rotate_left; · (obtain ⟨s1, s2, s3, s4⟩ := hS; (try simp only [Act.put, List.setIfInBounds_toArray, List.set_cons_zero, List.set_cons_succ]); go_simp; with_reducible rfl)) | (refine wpPureH_want (v := ?_) (by rfl) (fun W hS => ?_) ?_; rotate_left; · (obtain ⟨s1, s2, s3, s4⟩ := hS; (try simp only [Act.put, List.setIfInBounds_toArray, List.set_cons_zero, List.set_cons_succ]); go_simp; with_reducible rfl)))
            refine wpPureH_nil ?_
            simp only [Act.put, List.setIfInBounds_toArray, List.set_cons_zero, List.set_cons_succ]
            refine wpTree_step ?_
            simp only [opsAt, List.getElem?_cons_zero, List.getElem?_cons_succ]
            go_wp2_with fail
            refine ⟨.inr ⟨b10, k1, q10, i10⟩, ?_⟩
            refine wpTree_step ?_
            simp only [opsAt, List.getElem?_cons_zero, List.getElem?_cons_succ]
            go_wp2_with fail
            refine ⟨.inr ⟨b10, k1, q10, i10⟩, wpTree_fin ?_⟩
            go_wp2_with fail
            go_ret2
            have hrn : ∀ z, H'.set i z = x.H.set i z := fun z => by
              have := runR_H 16 HRES.out.1 z
              rw [this, HX3.out.1, HX2.out, HX1.out.1]
            obtain ⟨g1, g2, g3⟩ := run_kept (x := x) (x7 := x6) (i := i) (c := c) (y' := y') (H' := H') (by show x6.slots = _; rw [HX6.out.1]) (by show x6.ids = _; rw [HX6.out.1]) (by show x6.many = _; rw [HX6.out.1]) (by show x6.rest = _; rw [HX6.out.1]) (by show x6.O = _; rw [HX6.out.1]) (by show x6.H = _; rw [HX6.out.1]) hrn (fun _ => by show (x6.f _).isSome = _; rw [HX6.out.1]) (by show x6.L = _; rw [HX6.out.1]) HIL.out
            have hg : GateIs w10.drew gp a j d sg (Gt.charged (x6) i c) := ⟨_, _, _, _, _, HM10.out.1.new ((Only.refl [] w10).drew), HM10.out.2.1⟩
            obtain ⟨ow3, h3⟩ := HX3.out.2.1
            have hg2 := hg.back (fr := x2.fr) (own0 := ow3) (by rw [HM10.out.2.2.2, HX3.out.1]; exact h3) (fun k hk => by rw [HM10.out.2.2.2, HX3.out.1]; simp [hk])
            obtain ⟨ow1, h1⟩ := HX1.out.2
            have hg3 := hg2.back (fr := x.fr) (own0 := ow1) (by show Outside x2.fr.w0 _ _; rw [HX2.out, HX1.out.1]; exact h1) (fun k hk => by show x2.fr.out k = true; rw [HX2.out, HX1.out.1]; simp [hk])
            refine .inr ⟨i, y, y', H', m', c, _, z, HY.out.2.2, HY.out.1, HY.out.2.1, rfl, HRES.out.2.2.2.1, HRES.out.2.2.2.2.1, ?_, HRES.out.2.1, HRES.out.2.2.1, HM10.out.2.2.1, g1, g2, g3, hg3⟩
            have := HRES.out.1
            rw [HX3.out.1, HX2.out, HX1.out.1] at this
            exact this
          | false =>
            obtain ⟨o, hfo⟩ := Option.isSome_iff_exists.1 (HALL.out i y HY.out.1).2.2.2.1
            have hMd := HM8.out.new ((Only.refl [] w8).drew)
            have HL := hide (Ti.limit_some hMd.tm (id := (i : Int)) (o := o) (lim := 0) (by show x6.f _ = _; rw [HX6.out.1]; exact hfo) (by omega) (by omega))
            have hfr : x6.fr = x3.fr := by rw [HX6.out.1]
            have hbF : bx ∉ Ft := fun hm => by
              have h1 := (HM8.out.o4 _ hm).1
              have h2 := (HM8.out.ot.blk bx (by rw [hfr]; exact HX3.out.2.2.1)).2.1
              omega
            have hqF : q ∉ Ft := fun hm => by
              have h1 := (HM8.out.o4 _ hm).1
              have h2 := (HM8.out.ot.blk q (by rw [hfr]; exact HX3.out.2.2.2)).2.1
              omega
            have HMd := hide (And.intro hMd (And.intro hbF (And.intro hqF (And.intro hvF hfo))))
            clear hMd hfr hbF hqF hvF hfo
            go_upto_region 17 with (fail)
            refine wp_region_tree (fun W => W.cell? ⟨bx, 0, none⟩ = some (.pointer (some ⟨gp, 0, none⟩)) ∧ W.cell? ⟨q, 0, none⟩ = some (.int .i64 (i : Int)) ∧ W.cell? ⟨v, 4, none⟩ = some (.int .i64 0)) 7 (.take [0, 1, 2, 3, 4, 5] (.step 6 (.fin))) (by kernel_rfl) (by kernel_rfl) (by intro _ _ _ _ _ h; exact h) ?_
            refine wpTree_take (⟨b8, q8, l8⟩) ?_
            simp only [opsAt, List.getElem?_cons_zero, List.getElem?_cons_succ]
            iterate 6 (first | (refine wpPureH_step (v := ?_) rfl (fun W hS => ?_) ?_; rotate_left; · (obtain ⟨s1, s2, s3⟩ := hS; (try simp only [Act.put, List.setIfInBounds_toArray, List.set_cons_zero, List.set_cons_succ]); go_simp; with_reducible rfl)) | (refine wpPureH_want (v := ?_) (by rfl) (fun W hS => ?_) ?_; rotate_left; · (obtain ⟨s1, s2, s3⟩ := hS; (try simp only [Act.put, List.setIfInBounds_toArray, List.set_cons_zero, List.set_cons_succ]); go_simp; with_reducible rfl)))
            refine wpPureH_nil ?_
            simp only [Act.put, List.setIfInBounds_toArray, List.set_cons_zero, List.set_cons_succ]
            refine wpTree_step ?_
            simp only [opsAt, List.getElem?_cons_zero, List.getElem?_cons_succ]
            go_wp2_with fail
            (with_reducible refine (unhide HL).mono ?_)
            rintro e w9 ⟨rfl, ht9, ho9⟩
            have b9 := (((Only.refl Ft w8).drew).trans ho9).cellk b8 HMd.out.2.1
            have q9 := (((Only.refl Ft w8).drew).trans ho9).cellk q8 HMd.out.2.2.1
            have l9 := (((Only.refl Ft w8).drew).trans ho9).cellk l8 HMd.out.2.2.2.1
            have hM9 := HMd.out.1.timer ht9 ho9 (fun k hk => .inl hk)
            have HM9 := hide hM9
            clear HL ht9 ho9 hM9 b8 q8 l8
            go_wp2_with fail
            refine ⟨.inr ⟨b9, q9, l9⟩, wpTree_fin ?_⟩
            have HFF := hide (show ∀ z, (Gt.f { x6 with f := Ti.upd x6.f (i : Int) (some ⟨0, o.begun, o.active⟩) } z).isSome = (x.f z).isSome from fun z => by
              show (Ti.upd x6.f (i : Int) _ z).isSome = _
              unfold Ti.upd
              split
              · rename_i e
                rw [e, HMd.out.2.2.2.2]
                rfl
              · rw [HX6.out.1])
            have HCH := hide (gate_charge (N := N) (show GateIs w9 gp a j d sg { x6 with f := Ti.upd x6.f (i : Int) (some ⟨0, o.begun, o.active⟩) } from ⟨_, _, _, _, _, HM9.out, by show tn ≤ x6.tb; rw [HX6.out.1]; exact HM.out.2⟩) (show (Gt.slots ({ x6 with f := Ti.upd x6.f (i : Int) (some ⟨0, o.begun, o.active⟩) }))[i]? = some (some y') from HX6.out.2) HRES.out.2.2.2.2.2 (by have := HD.out.2.1; omega) (by have h9 : y'.outL.flatten.length ≤ 40000 := HRES.out.2.2.1; omega))
            go_wp2_with fail
            (with_reducible refine (unhide HCH).mono ?_)
            rintro e w10 ⟨rfl, c, hc, hg⟩
            have hfr6 : (Gt.charged ({ x6 with f := Ti.upd x6.f (i : Int) (some ⟨0, o.begun, o.active⟩) }) i c).fr = x3.fr := by rw [Gt.charged_fr]; show x6.fr = _; rw [HX6.out.1]
            obtain ⟨vw10, Ft10, SB10, ow10, tn10, hM10, htn10⟩ := hg
            obtain ⟨owW, hW⟩ : ∃ owW, Outside w9 owW x3.fr := ⟨_, by have := HM9.out.ot; rw [show Gt.fr ({ x6 with f := Ti.upd x6.f (i : Int) (some ⟨0, o.begun, o.active⟩) }) = x3.fr by show x6.fr = _; rw [HX6.out.1]] at this; exact this⟩
            obtain ⟨owV, hV⟩ : ∃ owV, Outside w10 owV x3.fr := ⟨_, by have := hM10.ot; rw [hfr6] at this; exact this⟩
            have b10 : w10.cell? ⟨bx, 0, none⟩ = some (.pointer (some ⟨gp, 0, none⟩)) := (hV.cell HX3.out.2.2.1).trans ((hW.cell HX3.out.2.2.1).symm.trans b9)
            have q10 : w10.cell? ⟨q, 0, none⟩ = some (.int .i64 (i : Int)) := (hV.cell HX3.out.2.2.2).trans ((hW.cell HX3.out.2.2.2).symm.trans q9)
            obtain ⟨k0, k1, k2, k3, k4⟩ := hM10.cells
            have i10 : w10.cell? ⟨a.ib, i, none⟩ = some (.int .i64 z) := hM10.id (by
              rw [Gt.charged_ids]
              show x6.ids[i]? = _
              rw [HX6.out.1]
              exact HY.out.2.1)
            have HM10 := hide (And.intro hM10 (And.intro htn10 (And.intro hc hfr6)))
            clear hM10 htn10 hc hfr6 hW hV HCH b9 q9 k0 k2 k3 k4
            go_upto_region 19 with (fail)
            refine wp_region_tree (fun W => W.cell? ⟨bx, 0, none⟩ = some (.pointer (some ⟨gp, 0, none⟩)) ∧ W.cell? ⟨gp, 1, none⟩ = some (.slice (some ⟨a.ib, 0, none⟩) j j) ∧ W.cell? ⟨q, 0, none⟩ = some (.int .i64 (i : Int)) ∧ W.cell? ⟨a.ib, i, none⟩ = some (.int .i64 z)) 10 (.take [0, 1, 2, 3, 4, 5, 6, 7] (.step 8 (.step 9 (.fin)))) (by kernel_rfl) (by kernel_rfl) (by intro _ _ _ _ _ h; exact h) ?_
            refine wpTree_take (⟨b10, k1, q10, i10⟩) ?_
            simp only [opsAt, List.getElem?_cons_zero, List.getElem?_cons_succ]
            iterate 8 (first | (refine wpPureH_step (v := ?_) rfl (fun W hS => ?_) ?_; rotate_left; · (obtain ⟨s1, s2, s3, s4⟩ := hS; (try simp only [Act.put, List.setIfInBounds_toArray, List.set_cons_zero, List.set_cons_succ]); go_simp; with_reducible rfl)) | (refine wpPureH_want (v := ?_) (by rfl) (fun W hS => ?_) ?_; rotate_left; · (obtain ⟨s1, s2, s3, s4⟩ := hS; (try simp only [Act.put, List.setIfInBounds_toArray, List.set_cons_zero, List.set_cons_succ]); go_simp; with_reducible rfl)))
            refine wpPureH_nil ?_
            simp only [Act.put, List.setIfInBounds_toArray, List.set_cons_zero, List.set_cons_succ]
            refine wpTree_step ?_
            simp only [opsAt, List.getElem?_cons_zero, List.getElem?_cons_succ]
            go_wp2_with fail
            refine ⟨.inr ⟨b10, k1, q10, i10⟩, ?_⟩
            refine wpTree_step ?_
            simp only [opsAt, List.getElem?_cons_zero, List.getElem?_cons_succ]
            go_wp2_with fail
            refine ⟨.inr ⟨b10, k1, q10, i10⟩, wpTree_fin ?_⟩
            go_wp2_with fail
            go_ret2
            have hrn : ∀ z, H'.set i z = x.H.set i z := fun z => by
              have := runR_H 16 HRES.out.1 z
              rw [this, HX3.out.1, HX2.out, HX1.out.1]
            obtain ⟨g1, g2, g3⟩ := run_kept (x := x) (x7 := { x6 with f := Ti.upd x6.f (i : Int) (some ⟨0, o.begun, o.active⟩) }) (i := i) (c := c) (y' := y') (H' := H') (by show x6.slots = _; rw [HX6.out.1]) (by show x6.ids = _; rw [HX6.out.1]) (by show x6.many = _; rw [HX6.out.1]) (by show x6.rest = _; rw [HX6.out.1]) (by show x6.O = _; rw [HX6.out.1]) (by show x6.H = _; rw [HX6.out.1]) hrn HFF.out (by show x6.L = _; rw [HX6.out.1]) HIL.out
            have hg : GateIs w10.drew gp a j d sg (Gt.charged ({ x6 with f := Ti.upd x6.f (i : Int) (some ⟨0, o.begun, o.active⟩) }) i c) := ⟨_, _, _, _, _, HM10.out.1.new ((Only.refl [] w10).drew), HM10.out.2.1⟩
            obtain ⟨ow3, h3⟩ := HX3.out.2.1
            have hg2 := hg.back (fr := x2.fr) (own0 := ow3) (by rw [HM10.out.2.2.2, HX3.out.1]; exact h3) (fun k hk => by rw [HM10.out.2.2.2, HX3.out.1]; simp [hk])
            obtain ⟨ow1, h1⟩ := HX1.out.2
            have hg3 := hg2.back (fr := x.fr) (own0 := ow1) (by show Outside x2.fr.w0 _ _; rw [HX2.out, HX1.out.1]; exact h1) (fun k hk => by show x2.fr.out k = true; rw [HX2.out, HX1.out.1]; simp [hk])
            refine .inr ⟨i, y, y', H', m', c, _, z, HY.out.2.2, HY.out.1, HY.out.2.1, rfl, HRES.out.2.2.2.1, HRES.out.2.2.2.2.1, ?_, HRES.out.2.1, HRES.out.2.2.1, HM10.out.2.2.1, g1, g2, g3, hg3⟩
            have := HRES.out.1
            rw [HX3.out.1, HX2.out, HX1.out.1] at this
            exact this
end Go.Proofs.YtkccjfgkbkodiaaGreat
