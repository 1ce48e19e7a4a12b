/-
  The timer's Tick.
-/
import Derived.Test.YtbgpihengcjgeaaTmB
import Derived.Test.YtbgpihengcjgeaaTmS
namespace Go.Proofs.Ytbgpihengcjgeaa
open Go.RowKit

/-- Who took too long. -/
def late (now : Int) (o : One) : Bool := decide (30 < now - o.active) || (decide (0 < o.limit) && decide (o.limit < now - o.begun))
/-- Those picked so far. -/
structure Picked (zs : List Int) (lf : Int → Bool) (f : Int → Option One) (now : Int) : Prop where
  nodup : zs.Nodup
  mem : ∀ x, x ∈ zs ↔ ∃ o, f x = some o ∧ late now o = true ∧ lf x = false
theorem Picked.start (f : Int → Option One) (lf : Int → Bool) (hl : ∀ x, (f x).isSome = true → lf x = true) (now : Int) : Picked [] lf f now :=
  ⟨List.Pairwise.nil, fun x => ⟨fun h => (by cases h), fun ⟨o, h1, _, h3⟩ => by rw [hl x (by rw [h1]; rfl)] at h3; cases h3⟩⟩
theorem Picked.skip {zs : List Int} {lf : Int → Bool} {f : Int → Option One} {now x : Int} {o : One} (h : Picked zs lf f now) (hf : f x = some o) (hl : late now o = false) : Picked zs (fun y => lf y && !decide (y = x)) f now := by
  refine ⟨h.nodup, fun y => (h.mem y).trans ⟨fun ⟨o2, h1, h2, h3⟩ => ⟨o2, h1, h2, by rw [h3]; rfl⟩, fun ⟨o2, h1, h2, h3⟩ => ⟨o2, h1, h2, ?_⟩⟩⟩
  by_cases hyx : y = x
  · rw [hyx, hf] at h1
    cases h1
    rw [hl] at h2
    cases h2
  · simpa [hyx] using h3
theorem Picked.take {zs : List Int} {lf : Int → Bool} {f : Int → Option One} {now x : Int} {o : One} (h : Picked zs lf f now) (hf : f x = some o) (hlx : lf x = true) (hl : late now o = true) : Picked (zs ++ [x]) (fun y => lf y && !decide (y = x)) f now := by
  have hx : x ∉ zs := fun hm => by
    obtain ⟨_, _, _, h3⟩ := (h.mem x).1 hm
    rw [hlx] at h3
    cases h3
  refine ⟨?_, fun y => ?_⟩
  · rw [List.nodup_append]
    exact ⟨h.nodup, by simp, fun a ha b hb e => hx (by rw [List.mem_singleton] at hb; rw [← hb, ← e]; exact ha)⟩
  · rw [List.mem_append, List.mem_singleton, h.mem y]
    by_cases hyx : y = x
    · subst hyx
      simp [hf, hl]
    · simp [hyx]
theorem Picked.done {zs : List Int} {lf : Int → Bool} {f : Int → Option One} {now : Int} (h : Picked zs lf f now) (hw : ∀ x o, f x = some o → lf x = false) : ∀ x, x ∈ zs ↔ ∃ o, f x = some o ∧ late now o = true := fun x =>
  (h.mem x).trans ⟨fun ⟨o, h1, h2, _⟩ => ⟨o, h1, h2⟩, fun ⟨o, h1, h2⟩ => ⟨o, h1, h2, hw x o h1⟩⟩
theorem sorted_strict {zs : List Int} (h : zs.Nodup) : (zs.mergeSort fun x y => decide (x ≤ y)).Pairwise (· < ·) := by
  have h1 : (zs.mergeSort fun x y => decide (x ≤ y)).Pairwise (fun a b => decide (a ≤ b) = true) := List.pairwise_mergeSort (fun a b c h1 h2 => by simp at h1 h2 ⊢; omega) (fun a b => by simp; omega) zs
  have h2 : (zs.mergeSort fun x y => decide (x ≤ y)).Nodup := (List.mergeSort_perm zs _).nodup_iff.2 h
  exact (h1.and h2).imp fun {a b} ⟨h3, h4⟩ => by simp at h3; omega
/-- The time goes on. -/
theorem Tm.tick {w w' : World} {B p n mb : Nat} {now : Int} {f : Int → Option One} {F : List Nat} {P : Int → Option Nat} (h : Tm w B p now n f F) (h1 : TmM w p now n f F mb P) (hn : now + 1 ≤ 1000000) (ho : Only [p] w w') (hp : Blk w' p 27 #[.int .i64 (now + 1), .map (some mb)]) :
    Tm w' B p (now + 1) n f F ∧ TmM w' p (now + 1) n f F mb P := by
  have hM : TmM w' p (now + 1) n f F mb P := ⟨hp, h1.map.keep ho (by simpa using fun e => h1.map.notBlk h1.blk e.symm), h1.mF, h1.dom, h1.oF, fun x b o e1 e2 => by
    have hb := h1.one x b o e1 e2
    exact ho.blk hb (by simpa using hb.ne_ h1.blk (by decide)), h1.inj⟩
  exact ⟨⟨by have := h.n0; omega, hn, h.pF, fun k hk => ⟨(h.lt k hk).1, Nat.lt_of_lt_of_le (h.lt k hk).2 ho.size⟩, fun x o hx => (h.fits x o hx).later, .inr ⟨mb, P, hM⟩⟩, hM⟩
/-- 'delete' of one. -/
theorem Tm.del {w : World} {B p n : Nat} {now : Int} {f : Int → Option One} {F : List Nat} (h : Tm w B p now n f F) {x : Int} (hx : Wf x) (ty : TypeId) :
    ∃ mv w', w.cell? ⟨p, 1, none⟩ = some mv ∧ (Builtin.delete_ #[25, 3] ty #[mv, .int .i64 x]).run Try.prog w = .ok (.tuple #[]) w' ∧ Tm w' B p now n (upd f x none) F ∧ Only F w w' := by
  rcases h.all with ⟨h1, h2⟩ | ⟨mb, P, h1⟩
  · refine ⟨_, w, h1.cellv 1 _ rfl, drop_none (t := 25) Try.underlying25 hx ty, ?_, Only.refl _ _⟩
    have : upd f x none = f := funext fun y => by unfold upd; split; exact (h2 y).symm; rfl
    rw [this]
    exact h
  · obtain ⟨w2, hd, hm2, ht⟩ := h1.map.drop (t := 25) Try.underlying25 hx ty
    exact ⟨_, w2, h1.blk.cellv 1 _ rfl, hd, h.cut h1 hm2 (turned_only ht), (turned_only ht).mono (by intro k hk; rw [List.mem_singleton.1 hk]; exact h1.mF)⟩
def minus (f : Int → Option One) (zs : List Int) : Int → Option One := fun x => if x ∈ zs then none else f x
theorem minus_nil (f : Int → Option One) : minus f [] = f := funext fun x => by simp [minus]
theorem minus_snoc (f : Int → Option One) (zs : List Int) (x : Int) : upd (minus f zs) x none = minus f (zs ++ [x]) := funext fun y => by
  unfold upd minus
  by_cases hyx : y = x
  · simp [hyx]
  · simp [hyx]

theorem tick_nil (w : World) : Calls Try.prog 10 #[.pointer none] w fun e w' => e = .returned (.slice none 0 0) ∧ w' = w := by
  go_enter Try.func10, Try.ntmps10
  go_wp2_with fail
  go_ret
  exact ⟨rfl, rfl⟩
set_option maxRecDepth 100000 in
set_option maxHeartbeats 4000000 in
theorem tick_map {w : World} {B p n mb : Nat} {now : Int} {f : Int → Option One} {F : List Nat} {P : Int → Option Nat} (h : Tm w B p now n f F) (h1 : TmM w p now n f F mb P) (hn : now + 1 ≤ 1000000) (hnn : n ≤ 100000) :
    Calls Try.prog 10 #[.pointer (some ⟨p, 0, none⟩)] w fun e w' => ∃ v zs, e = .returned v ∧ LIs w' w.heap.size v zs ∧ zs.Pairwise (· < ·) ∧ (∀ x, x ∈ zs ↔ ∃ o, f x = some o ∧ late (now + 1) o = true) ∧ zs.length ≤ n ∧
      Tm w' B p (now + 1) n (minus f zs) F ∧ Only F w w' := by
  have hn0 := h.n0
  have c0 := h1.blk.cellv 0 _ rfl
  have c1 := h1.blk.cellv 1 _ rfl
  have cf := h1.blk.frozen 0
  obtain ⟨W1, hW1⟩ : ∃ W1, W1 = w.setCell ⟨p, 0, none⟩ (.int .i64 (now + 1)) := ⟨_, rfl⟩
  have hs1 : W1.heap.size = w.heap.size := by rw [hW1]; simp [World.setCell]
  have ho1 : Only [p] w W1 := by rw [hW1]; exact (Only.refl _ _).setCell (by simp) _
  have hb1 : Blk W1 p 27 #[.int .i64 (now + 1), .map (some mb)] := by rw [hW1]; exact h1.blk.set_ 0 _
  obtain ⟨hT1, hM1⟩ := h.tick h1 hn ho1 hb1
  obtain ⟨w2, hrg, ⟨cnt, hcn, hR⟩, hb2, hs2⟩ := hM1.map.range (t := 25) Try.underlying25
  obtain ⟨r, hr⟩ : ∃ r, r = W1.heap.size := ⟨_, rfl⟩
  rw [← hr] at hrg hR
  have hT2 := hT1.below hb2
  have hM2 : TmM w2 p (now + 1) n f F mb P := hM1.keep h.pF (Only.of_below hb2 []) (fun k _ => by simp)
  have hO2 : Only F w w2 := (ho1.mono (by intro k hk; rw [List.mem_singleton.1 hk]; exact h.pF)).trans (Only.of_below hb2 F)
  have hrl : r < w2.heap.size := hR.lt
  have hst : Picked [] (fun x => (P x).isSome) f (now + 1) := Picked.start f _ (fun x hx => by rw [hM1.dom x]; exact hx) _
  have HT := hide hT2
  have HM := hide hM2
  have HO := hide hO2
  have HR := hide hR
  have HP := hide hst
  have HRW := hide (hr.trans hs1)
  have HPF := hide h.pF
  have HLT := hide h.lt
  have c1' := hb1.cellv 1 _ rfl
  clear h h1 ho1 hb1 hT1 hM1 hR hb2 hs2 hT2 hM2 hO2 hst hs1
  go_enter Try.func10, Try.ntmps10
  go_upto_region 5 with (fail)
  rw [← hW1]
  clear c0 c1 cf hW1 hr
  go_wp2_with fail
  clear hrg c1'
  go_loopg [3, 4, 5] cnt (fun g s3 s4 s5 wr => ∃ (zs : List Int) (lf : Int → Bool) (v : Value), v = s3 ∧ Hid (LIs wr (w.heap.size + 1) v zs) ∧ Hid (RangeE ptrE wr mb r n P lf g) ∧ Hid (Tm wr B p (now + 1) n f F) ∧ Hid (TmM wr p (now + 1) n f F mb P) ∧ Hid (Picked zs lf f (now + 1)) ∧ Hid (zs.length + g ≤ n) ∧ Hid (Only F w wr))
  case atStart => exact ⟨[], _, _, rfl, hide (SlN.nil _ _ _ _), HR, HT, HM, HP, hide (by simpa using hcn), HO⟩
  case round =>
    obtain ⟨zs, lf, v, rfl, hv, hR, hT, hM, hP, hl, hO⟩ := hrel
    have hwl := hO.out.size
    have hFl : ∀ k ∈ F, k < w.heap.size := fun k hk => (HLT.out k hk).2
    obtain ⟨q, hq⟩ : ∃ q, q = zs.length := ⟨_, rfl⟩
    have hql : q + gk ≤ n := by rw [hq]; exact hl.out
    obtain ⟨av, cv, hfv⟩ := hv.out.form
    rw [← hq] at hfv
    rcases hR.out.next 0 with ⟨h0, hnx⟩ | ⟨x, a, w3, cnt', hlx, hPx, hnx, hR3, hlt, ho3, hs3, hen⟩
    · have HD := hide (hP.out.done (fun x o hx => h0 x (hT.out.wf hx)))
      have HND := hide hP.out.nodup
      have hms : (zs.mergeSort fun x y => decide (x ≤ y)).length = q := by rw [hq]; exact List.length_mergeSort _
      obtain ⟨ts, hts⟩ : ∃ ts, ts = zs.mergeSort fun x y => decide (x ≤ y) := ⟨_, rfl⟩
      have HS := hide (sort_any hv.out (by omega))
      rw [← hts] at HS hms
      have hvF : ∀ k ∈ F, k ∉ slB v := fun k hk hk2 => by have := (hv.out.lt k hk2).1; have := hFl k hk; omega
      have HVF := hide hvF
      have hst : ts.Pairwise (· < ·) := by rw [hts]; exact sorted_strict HND.out
      have hmem : ∀ x, x ∈ ts ↔ x ∈ zs := fun x => by rw [hts]; exact List.mem_mergeSort
      have HST := hide hst
      have HMEM := hide hmem
      have HMS := hide hms
      have HV1 := hide (fun k (hk : k ∈ slB v) => (hv.out.lt k hk).1)
      subst hfv
      clear h0 hms hts hvF hst hmem hP hl hv hq hM hR
      go_wp2_with fail
      (with_reducible refine (unhide HS).mono ?_)
      rintro e w4 ⟨rfl, hv4, ho4⟩
      have HT4 := hide (hT.out.keep ho4 HVF.out)
      have HO4 := hide (show Only F w w4 from ⟨ho4.os.trans hO.out.os, ho4.tape.trans hO.out.tape, ho4.output.trans hO.out.output, Nat.le_trans hO.out.size ho4.size, fun k hk hn => (ho4.block k (by omega) (fun hk2 => by have := HV1.out k hk2; omega)).trans (hO.out.block k hk hn)⟩)
      have HV4 := hide hv4
      clear HS hv4 ho4 hnx hT hO hwl
      go_wp2_with fail
      go_loopg [7, 68] q (fun g s7 s68 wx => ∃ (j : Nat), s68 = .int .i64 j ∧ j + g = q ∧ Hid (Tm wx B p (now + 1) n (minus f (ts.take j)) F) ∧ Hid (LIs wx (w.heap.size + 1) (.slice av q cv) ts) ∧ Hid (Only F w wx))
      case atStart => exact ⟨0, rfl, by omega, hide (by rw [List.take_zero, minus_nil]; exact HT4.out), HV4, HO4⟩
      case round =>
        clear HT4 HO4 HV4
        obtain ⟨j, rfl, hj, hT, hv, hO⟩ := hrel
        by_cases hlt : j < q
        · have hjt : j < ts.length := by rw [HMS.out]; exact hlt
          obtain ⟨y, hy⟩ : ∃ y, y = ts[j] := ⟨_, rfl⟩
          have hyw : Wf y := by
            have : y ∈ ts := by rw [hy]; exact List.getElem_mem hjt
            obtain ⟨o, ho, _⟩ := (HD.out y).1 ((HMEM.out y).1 this)
            by_cases hyt : y ∈ ts.take j
            · obtain ⟨i, hi, he⟩ := List.getElem_of_mem hyt
              rw [List.length_take] at hi
              rw [List.getElem_take] at he
              have := List.pairwise_iff_getElem.1 HST.out i j (by omega) hjt (by omega)
              rw [he, ← hy] at this
              omega
            · exact hT.out.wf (x := y) (o := o) (by unfold minus; rw [if_neg hyt]; exact ho)
          obtain ⟨mv, w5, c5, hdel, hT5, hO5⟩ := hT.out.del hyw 0
          obtain ⟨gb, off, cap, hvv, hc, _⟩ := hv.out.cell j (by rw [intsL_length]; exact hjt)
          injection hvv with e1 e2 e3
          have hc2 : wr.cell? ⟨gb, off + j, none⟩ = some (.int .i64 y) := by rw [hc]; simp [intsL, hy]
          have hsn : minus f (ts.take (j + 1)) = upd (minus f (ts.take j)) y none := by rw [take_snoc ts j hjt, minus_snoc, hy]
          have HT5 := hide hT5
          rw [← hsn] at HT5
          have HV5 := hide (SlN.keep hv.out hO5 (fun k hk hk2 => by have := (hv.out.lt k hk).1; have := hFl k hk2; omega))
          have HO5 := hide (hO.out.trans hO5)
          subst e1
          clear hy hyw hT hv hO hT5 hO5 e2 e3 hc hsn hjt HD HMEM HND
          go_wp2_with fail
          go_roundg (gk - 1)
          case measure => omega
          case rel => exact ⟨j + 1, by go_num, by omega, HT5, HV5, HO5⟩
        · obtain rfl : j = q := by omega
          have hfin : Tm wr B p (now + 1) n (minus f ts) F := by
            have h9 := hT.out
            rw [List.take_of_length_le (by rw [HMS.out]; omega)] at h9
            exact h9
          have HFIN := hide hfin
          clear hfin
          go_wp2_with fail
          go_ret
          exact ⟨_, ts, rfl, SlN.mono hv.out (by omega), HST.out, fun x => (HMEM.out x).trans (HD.out x), by rw [HMS.out]; omega, HFIN.out, hO.out⟩
    · obtain ⟨o, hfo⟩ : ∃ o, f x = some o := by
        have h9 := hM.out.dom x
        rw [hPx] at h9
        exact Option.isSome_iff_exists.1 h9.symm
      simp only [ptrE] at hnx hen
      have hrF : ∀ k ∈ F, k ∉ [r] := fun k hk hk2 => by rw [List.mem_singleton] at hk2; have := hFl k hk; rw [hk2, HRW.out] at this; omega
      have hT3 := hT.out.keep ho3 hrF
      have hM3 := hM.out.keep HPF.out ho3 hrF
      have hv3 := SlN.keep hv.out ho3 (fun k hk hk2 => by rw [List.mem_singleton, HRW.out] at hk2; have := (hv.out.lt k hk).1; omega)
      have hO3 : Only F w w3 := ⟨ho3.os.trans hO.out.os, ho3.tape.trans hO.out.tape, ho3.output.trans hO.out.output, Nat.le_trans hO.out.size ho3.size, fun k hk hn => (ho3.block k (by omega) (by rw [List.mem_singleton, HRW.out]; omega)).trans (hO.out.block k hk hn)⟩
      have hob := hM3.one x a o hPx hfo
      have k0 := hM3.blk.cellv 0 _ rfl
      have z0 : w3.cell? ⟨a, 0, none⟩ = some (.int .i64 o.limit) := hob.cellv 0 _ rfl
      have z1 : w3.cell? ⟨a, 1, none⟩ = some (.int .i64 o.begun) := hob.cellv 1 _ rfl
      have z2 : w3.cell? ⟨a, 2, none⟩ = some (.int .i64 o.active) := hob.cellv 2 _ rfl
      have HSK := hide (fun hl => hP.out.skip (x := x) (o := o) hfo hl)
      have HTK := hide (fun hl => hP.out.take (x := x) (o := o) hfo hlx hl)
      obtain ⟨l0, l1, b0, b1, a0, a1⟩ := hT3.fits x o hfo
      have HLA : Hid (late (now + 1) o = (decide (30 < now + 1 - o.active) || (decide (0 < o.limit) && decide (o.limit < now + 1 - o.begun)))) := hide rfl
      obtain ⟨la, hla⟩ : ∃ la, la = late (now + 1) o := ⟨_, rfl⟩
      rw [← hla] at HLA HSK HTK
      have hn1 := hT3.n1
      obtain ⟨ol, ob, oa⟩ := o
      simp only at l0 l1 b0 b1 a0 a1 z0 z1 z2 HLA
      have e1 : IntKind.i64.wrap (now + 1 - ob) = now + 1 - ob := by rw [IntKind.wrap_i64]; omega
      have e2 : IntKind.i64.wrap (now + 1 - oa) = now + 1 - oa := by rw [IntKind.wrap_i64]; omega
      have HT3 := hide hT3
      have HM3 := hide hM3
      have HV3 := hide hv3
      have HO3 := hide hO3
      have HR3 := hide hR3
      have HQ := hide hq
      have hw3 := hO3.size
      subst hfv
      clear hrF hT3 hM3 hv3 hO3 hob hT hM hv hO hP hl hla hq ho3 hs3 hR hR3 hlx hPx hfo
      by_cases d1 : 30 < now + 1 - oa
      · have d1' : decide (30 < now + 1 - oa) = true := decide_eq_true d1
        have HLT2 : Hid (la = true) := hide (by rw [HLA.out]; rw [d1']; rfl)
        clear HLA HSK
        go_wp2_with fail
        go_quiet (fail)
        clear k0 z0 z1 z2 e1 e2
        have hsv : SlN w3 (w.heap.size + 1) 3 1 (.slice av q cv) q (intsL zs) := by have h9 := HV3.out; unfold LIs at h9; rw [← HQ.out] at h9; exact h9
        have HSV := hide hsv
        clear hsv
        go_wp2_with (at_builtin; refine wpList_append_slN rfl (.tmp 60) (.tmp 62) 22 rfl _ 8 Try.underlying22 info_int_ rfl (by decide) ((SlN.drewN HSV.out _).alloc (.cells #[.int .i64 x] 3)) (SlN.one (base := 0) (Nat.zero_le _) (Blk.new _ 3 #[.int .i64 x])).src rfl rfl rfl (by intro y hy; simp at hy; subst hy; rfl) (by unfold maxLen; omega) (by omega) (by simp; omega) ?_; intro v2 w5 hs2 ho2 hf2)
        have hoa : Only (slB (.slice av q cv)) w3 w5 := Only.trans (((Only.refl _ w3).drewN _).alloc _) ho2
        have hvl : ∀ k ∈ slB (.slice av q cv), w.heap.size + 1 ≤ k := fun k hk => (HV3.out.lt k hk).1
        have hvF : ∀ k ∈ F, k ∉ slB (.slice av q cv) := fun k hk hk2 => by have := hvl k hk2; have := hFl k hk; omega
        have HT5 := hide (HT3.out.keep hoa hvF)
        have HM5 := hide (HM3.out.keep HPF.out hoa hvF)
        have HR5 := hide (HR3.out.keep hoa (hvF mb HM3.out.mF) (fun hk => by have := hvl r hk; have := HRW.out; omega))
        have HO5 : Hid (Only F w w5) := hide ⟨hoa.os.trans HO3.out.os, hoa.tape.trans HO3.out.tape, hoa.output.trans HO3.out.output, Nat.le_trans HO3.out.size hoa.size, fun k hk hn => (hoa.block k (by omega) (fun hk2 => by have := hvl k hk2; omega)).trans (HO3.out.block k hk hn)⟩
        have HV5 : Hid (LIs w5 (w.heap.size + 1) v2 (zs ++ [x])) := hide (by unfold LIs; rw [List.length_append, intsL_append, ← HQ.out]; exact hs2)
        clear hoa hvl hvF hs2 ho2 hf2
        go_roundg cnt'
        case measure => omega
        case rel => exact ⟨zs ++ [x], _, v2, rfl, HV5, HR5, HT5, HM5, hide (HTK.out HLT2.out), hide (by rw [List.length_append, ← HQ.out]; simp only [List.length_cons, List.length_nil]; omega), HO5⟩
      · have d1' : decide (30 < now + 1 - oa) = false := decide_eq_false d1
        by_cases d2 : 0 < ol
        · have d2' : decide (0 < ol) = true := decide_eq_true d2
          by_cases d3 : ol < now + 1 - ob
          · have d3' : decide (ol < now + 1 - ob) = true := decide_eq_true d3
            have HLT2 : Hid (la = true) := hide (by rw [HLA.out]; rw [d1', d2', d3']; rfl)
            clear HLA HSK
            go_wp2_with fail
            go_quiet (fail)
            clear k0 z0 z1 z2 e1 e2
            have hsv : SlN w3 (w.heap.size + 1) 3 1 (.slice av q cv) q (intsL zs) := by have h9 := HV3.out; unfold LIs at h9; rw [← HQ.out] at h9; exact h9
            have HSV := hide hsv
            clear hsv
            go_wp2_with (at_builtin; refine wpList_append_slN rfl (.tmp 60) (.tmp 62) 22 rfl _ 8 Try.underlying22 info_int_ rfl (by decide) ((SlN.drewN HSV.out _).alloc (.cells #[.int .i64 x] 3)) (SlN.one (base := 0) (Nat.zero_le _) (Blk.new _ 3 #[.int .i64 x])).src rfl rfl rfl (by intro y hy; simp at hy; subst hy; rfl) (by unfold maxLen; omega) (by omega) (by simp; omega) ?_; intro v2 w5 hs2 ho2 hf2)
            have hoa : Only (slB (.slice av q cv)) w3 w5 := Only.trans (((Only.refl _ w3).drewN _).alloc _) ho2
            have hvl : ∀ k ∈ slB (.slice av q cv), w.heap.size + 1 ≤ k := fun k hk => (HV3.out.lt k hk).1
            have hvF : ∀ k ∈ F, k ∉ slB (.slice av q cv) := fun k hk hk2 => by have := hvl k hk2; have := hFl k hk; omega
            have HT5 := hide (HT3.out.keep hoa hvF)
            have HM5 := hide (HM3.out.keep HPF.out hoa hvF)
            have HR5 := hide (HR3.out.keep hoa (hvF mb HM3.out.mF) (fun hk => by have := hvl r hk; have := HRW.out; omega))
            have HO5 : Hid (Only F w w5) := hide ⟨hoa.os.trans HO3.out.os, hoa.tape.trans HO3.out.tape, hoa.output.trans HO3.out.output, Nat.le_trans HO3.out.size hoa.size, fun k hk hn => (hoa.block k (by omega) (fun hk2 => by have := hvl k hk2; omega)).trans (HO3.out.block k hk hn)⟩
            have HV5 : Hid (LIs w5 (w.heap.size + 1) v2 (zs ++ [x])) := hide (by unfold LIs; rw [List.length_append, intsL_append, ← HQ.out]; exact hs2)
            clear hoa hvl hvF hs2 ho2 hf2
            go_roundg cnt'
            case measure => omega
            case rel => exact ⟨zs ++ [x], _, v2, rfl, HV5, HR5, HT5, HM5, hide (HTK.out HLT2.out), hide (by rw [List.length_append, ← HQ.out]; simp only [List.length_cons, List.length_nil]; omega), HO5⟩
          · have d3' : decide (ol < now + 1 - ob) = false := decide_eq_false d3
            have HLF : Hid (la = false) := hide (by rw [HLA.out]; rw [d1', d2', d3']; rfl)
            clear HLA HTK
            go_wp2_with fail
            go_quiet (fail)
            go_wp2_with fail
            go_roundg cnt'
            case measure => omega
            case rel => exact ⟨zs, _, _, rfl, hide (SlN.drewN HV3.out _), hide (HR3.out.drewN _), hide (HT3.out.drewN _), hide (HM3.out.keep HPF.out (Only.of_below (below_drewN (Below.refl _ _) _) []) (fun k _ => by simp)), hide (HSK.out HLF.out), hide (by rw [← HQ.out]; omega), hide (HO3.out.drewN _)⟩
        · have d2' : decide (0 < ol) = false := decide_eq_false d2
          have HLF : Hid (la = false) := hide (by rw [HLA.out]; rw [d1', d2']; rfl)
          clear HLA HTK
          go_wp2_with fail
          go_quiet (fail)
          go_wp2_with fail
          go_roundg cnt'
          case measure => omega
          case rel => exact ⟨zs, _, _, rfl, hide (SlN.drewN HV3.out _), hide (HR3.out.drewN _), hide (HT3.out.drewN _), hide (HM3.out.keep HPF.out (Only.of_below (below_drewN (Below.refl _ _) _) []) (fun k _ => by simp)), hide (HSK.out HLF.out), hide (by rw [← HQ.out]; omega), hide (HO3.out.drewN _)⟩
/-- Tick, whatever is timed. -/
theorem tick_none {w : World} {B p n : Nat} {now : Int} {f : Int → Option One} {F : List Nat} (h : Tm w B p now n f F) (hb : Blk w p 27 #[.int .i64 now, .map none]) (hf : ∀ x, f x = none) (hn : now + 1 ≤ 1000000) :
    Calls Try.prog 10 #[.pointer (some ⟨p, 0, none⟩)] w fun e w' => e = .returned (.slice none 0 0) ∧ Tm w' B p (now + 1) n f F ∧ Only F w w' := by
  have hn0 := h.n0
  have c0 := hb.cellv 0 _ rfl
  have c1 := hb.cellv 1 _ rfl
  have cf := hb.frozen 0
  obtain ⟨W1, hW1⟩ : ∃ W1, W1 = w.setCell ⟨p, 0, none⟩ (.int .i64 (now + 1)) := ⟨_, rfl⟩
  have hs1 : W1.heap.size = w.heap.size := by rw [hW1]; simp [World.setCell]
  have ho1 : Only F w W1 := by rw [hW1]; exact (Only.refl _ _).setCell h.pF _
  have hb1 : Blk W1 p 27 #[.int .i64 (now + 1), .map none] := by rw [hW1]; exact hb.set_ 0 _
  have hT1 : Tm W1 B p (now + 1) n f F := ⟨by omega, hn, h.pF, fun k hk => ⟨(h.lt k hk).1, Nat.lt_of_lt_of_le (h.lt k hk).2 ho1.size⟩, fun x o hx => (h.fits x o hx).later, .inl ⟨hb1, hf⟩⟩
  have hrg := run_range_nilMap (P := Try.prog) W1 25 3 53 Try.underlying25
  have hnx := fun a b s => run_next_nilMap (P := Try.prog) W1 0 a b s
  have HSN := fun W => hide (sort_nil none 0 W)
  have HT := hide (hT1.below ((Below.refl _ _).alloc (Nat.le_refl _) (.mapIter none 0 #[] 0)))
  have HO := hide (ho1.alloc (.mapIter none 0 #[] 0))
  have c1' := hb1.cellv 1 _ rfl
  obtain ⟨r, hr⟩ : ∃ r, r = W1.heap.size := ⟨_, rfl⟩
  obtain ⟨w2, hw2⟩ : ∃ w2, w2 = W1.alloc (.mapIter none 0 #[] 0) := ⟨_, rfl⟩
  have hnx2 := hnx 0 0 #[]
  rw [← hr, ← hw2] at hrg hnx2
  rw [← hw2] at HT HO
  clear h hb hf ho1 hb1 hT1 hs1 hnx hr hw2
  go_enter Try.func10, Try.ntmps10
  go_upto_region 5 with (fail)
  rw [← hW1]
  clear c0 c1 cf hW1
  go_wp2_with fail
  clear hrg c1'
  refine wp_loop_rounds 1 ?_
  rw [rounds_succ]
  go_wp2_with fail
  (with_reducible refine (unhide (HSN _)).mono ?_)
  rintro e w4 ⟨rfl, hw4⟩
  subst hw4
  go_wp2_with fail
  refine wp_loop_rounds 1 ?_
  rw [rounds_succ]
  go_wp2_with fail
  go_ret
  exact ⟨rfl, HT.out, HO.out⟩
theorem minus_none {f : Int → Option One} (hf : ∀ x, f x = none) (zs : List Int) : minus f zs = f := funext fun x => by unfold minus; split; exact (hf x).symm; rfl
theorem tick_any {w : World} {B p n : Nat} {now : Int} {f : Int → Option One} {F : List Nat} (h : Tm w B p now n f F) (hn : now + 1 ≤ 1000000) (hnn : n ≤ 100000) :
    Calls Try.prog 10 #[.pointer (some ⟨p, 0, none⟩)] w fun e w' => ∃ v zs, e = .returned v ∧ LIs w' w.heap.size v zs ∧ zs.Pairwise (· < ·) ∧ (∀ x, x ∈ zs ↔ ∃ o, f x = some o ∧ late (now + 1) o = true) ∧ zs.length ≤ n ∧
      Tm w' B p (now + 1) n (minus f zs) F ∧ Only F w w' := by
  rcases h.all with ⟨h1, h2⟩ | ⟨mb, P, h1⟩
  · refine (tick_none h h1 h2 hn).mono fun e w' ⟨he, ht, ho⟩ => ⟨_, [], he, SlN.nil _ _ _ _, List.Pairwise.nil, fun x => ⟨fun hx => (by cases hx), fun ⟨o, hx, _⟩ => by rw [h2] at hx; cases hx⟩, Nat.zero_le _, by rw [minus_none h2]; exact ht, ho⟩
  · exact tick_map h h1 hn hnn
end Go.Proofs.Ytbgpihengcjgeaa
