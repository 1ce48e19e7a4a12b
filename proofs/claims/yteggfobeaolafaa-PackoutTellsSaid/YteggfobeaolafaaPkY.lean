/-
  The walk of PackoutTells: the first loop.
-/
import Derived.Test.YteggfobeaolafaaPkW
import Derived.Test.YteggfobeaolafaaPkX
import Derived.Deep.CutBlock
namespace Go.Proofs.Yteggfobeaolafaa
open Go.RowKit

theorem SlN.apart {w : World} {B B' : Nat} {t t' : TypeId} {s s' n n' : Nat} {v v' : Value} {xs ys : List Value} (h : SlN w B t s v n xs) (h' : SlN w B' t' s' v' n' ys) (hne : t ≠ t') : ∀ k ∈ slB v', k ∉ slB v := by
  intro k hk
  rcases h' with ⟨rfl, _⟩ | ⟨g, off, cap, cs, rfl, _, hg, _⟩
  · simp [slB] at hk
  · simp [slB] at hk
    subst hk
    exact h.notBlk hg hne
/-- Both writers, in the same state. -/
structure Both (w : World) (B : Nat) (j : Nat) (R : List Cont) (d : Bool) (v vr : Value) : Prop where
  own : Wr w B B v R.reverse d
  ref : RWr w B (B + 1) vr R.reverse d
  upto : Upto j R
  inv : InvC R
set_option maxRecDepth 100000 in
theorem step_none (w : World) : Calls Try.prog 12 #[.pointer none, .nilIface] w fun e w' => e = .returned (.tuple #[.string (S []), .int .i64 14]) ∧ Below w.heap.size w w' := by
  have HPL0 := plain_any .null w
  simp only [Part.val, Part.ev, Part.may, evV] at HPL0
  have HPL := hide HPL0
  clear HPL0
  go_enter Try.func12, Try.ntmps12
  go_wp2_with fail
  (with_reducible refine (unhide HPL).mono ?_)
  rintro e w1 ⟨rfl, hb1⟩
  go_wp2_with fail
  go_ret2
  exact ⟨rfl, by first | exact hb1 | exact Below.more hb1 (Nat.le_refl _) _⟩
theorem ref_keep {w w' : World} {B : Nat} {v vr : Value} {L L' : List Cont} {d d' : Bool} (own : Wr w B B v L d) (ref : RWr w B (B + 1) vr L' d') (ho : Only (B :: slB v) w w') : RWr w' B (B + 1) vr L' d' :=
  ref.keep ho (by
    intro h
    rcases List.mem_cons.1 h with h | h
    · omega
    · exact own.2.2.notBlk ref.2.1 (by decide) h) (fun k hk h => by
    rcases List.mem_cons.1 h with rfl | h
    · exact ref.2.2.notBlk own.2.1 (by decide) hk
    · exact (own.2.2.apart ref.2.2 (by decide)) k hk h)
theorem own_keep {w w' : World} {B : Nat} {v vr : Value} {L L' : List Cont} {d d' : Bool} (own : Wr w B B v L d) (ref : RWr w B (B + 1) vr L' d') (ho : Only [B + 1] w w') : Wr w' B B v L d :=
  own.keep ho (by simp) (fun k hk h => by
    rw [List.mem_singleton.1 h] at hk
    exact own.2.2.notBlk ref.2.1 (by decide) hk)
set_option maxRecDepth 100000 in
set_option maxHeartbeats 4000000 in
theorem tells_yes {w : World} {a0 : Value} {E : List EvM} (h : EvsAt w a0 E) (hlen : E.length ≤ 100) (hwf : ∀ e ∈ E, 0 ≤ e.m ∧ e.m < 18446744073709551616 ∧ e.c ≤ 9223372036854775807) :
    Calls Try.prog 3 #[a0] w fun e w' => e = .returned (.bool true) ∧ Below w.heap.size w w' := by
  have HEV := hide h
  obtain ⟨a, cap, hv, hC⟩ := h
  obtain ⟨n, hn⟩ : ∃ n, n = E.length := ⟨_, rfl⟩
  rw [← hn] at hv hlen
  subst hv
  have HC := hide hC
  have HWF := hide hwf
  have HN := hide hn
  have hn2 : (n : Int) ≤ 100 := by omega
  have HA := fun W => hide (alive_any W)
  clear hC hwf hn
  go_enter Try.func3, Try.ntmps3
  go_wp2_with fail
  (with_reducible refine (unhide (HA _)).mono ?_)
  rintro e w1 ⟨rfl, hb1⟩
  have hsz := hb1.size
  have hw0 : Wr ((w1.alloc (.cells #[.slice none 0 0, .bool false] 27)).alloc (.cells #[.int .i64 3, .slice none 0 0, .bool false] 31)) w1.heap.size w1.heap.size (.slice none 0 0) [] false := ⟨Nat.le_refl _, (Blk.new w1 27 _).alloc _, SlN.nil _ _ _ _⟩
  have hr0 : RWr ((w1.alloc (.cells #[.slice none 0 0, .bool false] 27)).alloc (.cells #[.int .i64 3, .slice none 0 0, .bool false] 31)) w1.heap.size (w1.heap.size + 1) (.slice none 0 0) [] false := ⟨by omega, by simpa using Blk.new (w1.alloc (.cells #[.slice none 0 0, .bool false] 27)) 31 #[.int .i64 3, .slice none 0 0, .bool false], SlN.nil _ _ _ _⟩
  have hbb : Below w.heap.size w ((w1.alloc (.cells #[.slice none 0 0, .bool false] 27)).alloc (.cells #[.int .i64 3, .slice none 0 0, .bool false] 31)) := (hb1.alloc hsz _).alloc (by simp; omega) _
  have H0 : Hid (Both _ w1.heap.size 0 [] false (.slice none 0 0) (.slice none 0 0)) := hide ⟨hw0, hr0, ⟨fun c hc => (by cases hc), Nat.le_refl 0⟩, InvC.nil⟩
  clear hw0 hr0 HA
  go_wp2_with fail
  go_loopg [5, 6, 7, 8, 9, 10, 11] n (fun g s5 s6 s7 s8 s9 s10 s11 wr => ∃ (j : Nat) (R : List Cont) (d : Bool) (v vr : Value), s5 = .int .i64 j ∧ j + g = n ∧ Hid (Both wr w1.heap.size j R d v vr) ∧ Hid (∀ (i : Nat) (hi : i < E.length), i < j → E[i].l.length ≤ 400) ∧ Below w.heap.size w wr)
  case atStart => exact ⟨0, [], false, _, _, rfl, by omega, H0, hide (fun i hi h => by omega), hbb⟩
  case round =>
    clear H0 hbb hb1
    obtain ⟨j, R, d, v, vr, rfl, hj, hbo, htx, hb⟩ := hrel
    by_cases hlt : j < n
    · have hE : E ≠ [] := fun he => by have := HN.out; rw [he] at this; simp at this; omega
      obtain ⟨g, off, ha, hg, hc⟩ := HC.out hE
      subst ha
      have hjE : j < E.length := by rw [← HN.out]; exact hlt
      obtain ⟨x, hx⟩ : ∃ x, x = E[j] := ⟨_, rfl⟩
      have hxw := HWF.out E[j] (List.getElem_mem hjE)
      rw [← hx] at hxw
      have HZ : Hid (∀ W, Below w.heap.size w W → ∀ (i : Nat) (u : Value), x.cells[i]? = some u → W.cell? ⟨g, off + j * 5 + i, none⟩ = some u) := hide fun W hb i u hu => (hb.cell (p := ⟨g, off + j * 5 + i, none⟩) hg).trans (hc j hjE i u (by rw [← hx]; exact hu))
      have HX := hide hx
      clear hc hx
      have z0 : wr.cell? ⟨g, off + j * 5, none⟩ = some (.int .i64 x.k) := HZ.out wr hb 0 _ rfl
      have z1 : wr.cell? ⟨g, off + j * 5 + 1, none⟩ = some (.bool x.y) := HZ.out wr hb 1 _ rfl
      have z2 : wr.cell? ⟨g, off + j * 5 + 2, none⟩ = some (.int .u64 x.m) := HZ.out wr hb 2 _ rfl
      have z3 : wr.cell? ⟨g, off + j * 5 + 3, none⟩ = some (.string (S x.l)) := HZ.out wr hb 3 _ rfl
      have z4 : wr.cell? ⟨g, off + j * 5 + 4, none⟩ = some (.int .i64 x.c) := HZ.out wr hb 4 _ rfl
      by_cases h400 : 400 < x.l.length
      · have h401 : (400 : Int) < x.l.length := by omega
        go_wp2_with fail
        go_ret
        exact ⟨rfl, hb⟩
      · have h401 : ¬ (400 : Int) < x.l.length := by omega
        have hxok : x.ok := ⟨hxw.1, by omega, hxw.2.2, hxw.2.1⟩
        have hbv := hbo.out
        obtain ⟨k2, s2, R2, d2, hst⟩ : ∃ k2 s2 R2 d2, (k2, s2, R2, d2) = stepE R d x.part := ⟨_, _, _, _, rfl⟩
        have HOF0 := fun W => of_any x.k x.y x.m x.l x.c W x.part rfl
        have HT0 := fun W => reftidy_any x W
        have HRS0 := fun W vW (hW : RWr W w1.heap.size (w1.heap.size + 1) vW R.reverse d) => (refstep_any hW (hbv.upto.small (by omega)) hbv.inv x.tidy (tidy_ok hxok) k2 s2 R2 d2 (by rw [tidy_part]; exact hst))
        have HST0 := fun W vW (hW : Wr W w1.heap.size w1.heap.size vW R.reverse d) => step_any hW (hbv.upto.small (by omega)) (x.part.getD .odd) (fits_or hxok) k2 s2 R2 d2 (by rw [← stepE_or]; exact hst)
        have hup2 := hbv.upto.step d (x.part.getD .odd)
        have hin2 := hbv.inv.step d (pt := x.part.getD .odd)
        rw [← stepE_or, ← hst] at hup2 hin2
        have HUI := hide (And.intro hup2 hin2)
        simp only [EvM.cells, evV] at HOF0 HT0 HRS0
        have HRS := fun W vW hW => hide (HRS0 W vW hW)
        have HT := fun W => hide (HT0 W)
        have htx2 : Hid (∀ (i : Nat) (hi : i < E.length), i < j + 1 → E[i].l.length ≤ 400) := hide fun i hi hij => by
          by_cases hij2 : i = j
          · subst hij2; rw [← HX.out]; omega
          · exact htx.out i hi (by omega)
        have HOW := hide hbv
        clear HT0 HRS0 hst hup2 hin2 htx hbv hbo hxok hxw
        cases hp : x.part with
        | none =>
          rw [hp] at HOF0 HST0
          simp only [optVal, Option.isSome_none, Option.getD_none, Part.val] at HOF0 HST0
          have HOF1 := HOF0
          clear hp HOF0
          have HOF := fun W => hide (HOF1 W)
          have HST := fun W vW hW => hide (HST0 W vW hW)
          clear HOF1 HST0
          go_wp2_with fail
          (with_reducible refine (unhide (HOF _)).mono ?_)
          rintro e w2 ⟨rfl, hb2⟩
          have hB2 : Below w.heap.size w w2 := hb.trans (hb2.mono hb.size)
          have ho2 := HOW.out.own.below hb2
          have hr2 := HOW.out.ref.below hb2
          have H := HST w2 v ho2
          clear z0 z1 z2 z3 z4 HOF HST hb2 hb
          go_wp2_with fail
          (with_reducible refine (unhide H).mono ?_)
          rintro e w3 ⟨rfl, v', ho3, hO3, hF3⟩
          have hr3 := ref_keep ho2 hr2 hO3
          have hB3 : Below w.heap.size w w3 := hB2.trans (hO3.below hB2.size (fun k hk => by
            rcases List.mem_cons.1 hk with rfl | hk
            · exact hsz
            · exact Nat.le_trans hsz (ho2.2.2.lt k hk).1))
          clear ho2 hr2 hB2 hO3 hF3 H
          have z0 : w3.cell? ⟨g, off + j * 5, none⟩ = some (.int .i64 x.k) := HZ.out w3 hB3 0 _ rfl
          have z1 : w3.cell? ⟨g, off + j * 5 + 1, none⟩ = some (.bool x.y) := HZ.out w3 hB3 1 _ rfl
          have z2 : w3.cell? ⟨g, off + j * 5 + 2, none⟩ = some (.int .u64 x.m) := HZ.out w3 hB3 2 _ rfl
          have z3 : w3.cell? ⟨g, off + j * 5 + 3, none⟩ = some (.string (S x.l)) := HZ.out w3 hB3 3 _ rfl
          have z4 : w3.cell? ⟨g, off + j * 5 + 4, none⟩ = some (.int .i64 x.c) := HZ.out w3 hB3 4 _ rfl
          go_wp2_with fail
          (with_reducible refine (unhide (HT _)).mono ?_)
          rintro e w4 ⟨rfl, hb4⟩
          have hB4 : Below w.heap.size w w4 := hB3.trans (hb4.mono hB3.size)
          have ho4 := ho3.below hb4
          have hr4 := hr3.below hb4
          have H := HRS w4 vr hr4
          clear z0 z1 z2 z3 z4 HT HRS hb4 hB3 ho3 hr3
          go_wp2_with fail
          (with_reducible refine (unhide H).mono ?_)
          rintro e w5 ⟨rfl, vr', hr5, hO5, hF5⟩
          have ho5 := own_keep ho4 hr4 hO5
          have hB5 : Below w.heap.size w w5 := hB4.trans (hO5.below hB4.size (fun k hk => by
            rw [List.mem_singleton.1 hk]; omega))
          have rc2 := hr5.2.1.cellv 2 _ rfl
          have HBO : Hid (Both w5 w1.heap.size (j + 1) R2 d2 v' vr') := hide ⟨ho5, hr5, HUI.out.1, HUI.out.2⟩
          clear ho4 hr4 hB4 hO5 hF5 H HUI
          go_upto_region 14 with (fail)
          have HDN : ∀ nd, Hid (Calls Try.prog 15 #[.pointer (some ⟨w1.heap.size, 0, none⟩)] (w5.drewN nd) fun e w' => e = .returned (.bool d2) ∧ w' = w5.drewN nd) := fun nd => hide (done_any (show Wr (w5.drewN nd) w1.heap.size w1.heap.size v' R2.reverse d2 from HBO.out.own))
          go_quiet ((go_at_call 15; exact Calls.quiet_of_same (unhide (HDN _))))
          clear HDN
          go_wp2_with fail
          go_roundg (gk - 1)
          case measure => omega
          case rel => exact ⟨j + 1, R2, d2, v', vr', by go_num, by omega, hide (show Both (w5.drewN nq) w1.heap.size (j + 1) R2 d2 v' vr' from ⟨HBO.out.own, HBO.out.ref, HBO.out.upto, HBO.out.inv⟩), htx2, below_drewN hB5 _⟩
        | some pt =>
          rw [hp] at HOF0 HST0
          simp only [optVal, Option.isSome_some, Option.getD_some] at HOF0 HST0
          have HOF1 := HOF0
          clear hp HOF0
          have HOF := fun W => hide (HOF1 W)
          have HST := fun W vW hW => hide (HST0 W vW hW)
          clear HOF1 HST0
          go_wp2_with fail
          (with_reducible refine (unhide (HOF _)).mono ?_)
          rintro e w2 ⟨rfl, hb2⟩
          have hB2 : Below w.heap.size w w2 := hb.trans (hb2.mono hb.size)
          have ho2 := HOW.out.own.below hb2
          have hr2 := HOW.out.ref.below hb2
          have H := HST w2 v ho2
          clear z0 z1 z2 z3 z4 HOF HST hb2 hb
          go_wp2_with fail
          (with_reducible refine (unhide H).mono ?_)
          rintro e w3 ⟨rfl, v', ho3, hO3, hF3⟩
          have hr3 := ref_keep ho2 hr2 hO3
          have hB3 : Below w.heap.size w w3 := hB2.trans (hO3.below hB2.size (fun k hk => by
            rcases List.mem_cons.1 hk with rfl | hk
            · exact hsz
            · exact Nat.le_trans hsz (ho2.2.2.lt k hk).1))
          clear ho2 hr2 hB2 hO3 hF3 H
          have z0 : w3.cell? ⟨g, off + j * 5, none⟩ = some (.int .i64 x.k) := HZ.out w3 hB3 0 _ rfl
          have z1 : w3.cell? ⟨g, off + j * 5 + 1, none⟩ = some (.bool x.y) := HZ.out w3 hB3 1 _ rfl
          have z2 : w3.cell? ⟨g, off + j * 5 + 2, none⟩ = some (.int .u64 x.m) := HZ.out w3 hB3 2 _ rfl
          have z3 : w3.cell? ⟨g, off + j * 5 + 3, none⟩ = some (.string (S x.l)) := HZ.out w3 hB3 3 _ rfl
          have z4 : w3.cell? ⟨g, off + j * 5 + 4, none⟩ = some (.int .i64 x.c) := HZ.out w3 hB3 4 _ rfl
          go_wp2_with fail
          (with_reducible refine (unhide (HT _)).mono ?_)
          rintro e w4 ⟨rfl, hb4⟩
          have hB4 : Below w.heap.size w w4 := hB3.trans (hb4.mono hB3.size)
          have ho4 := ho3.below hb4
          have hr4 := hr3.below hb4
          have H := HRS w4 vr hr4
          clear z0 z1 z2 z3 z4 HT HRS hb4 hB3 ho3 hr3
          go_wp2_with fail
          (with_reducible refine (unhide H).mono ?_)
          rintro e w5 ⟨rfl, vr', hr5, hO5, hF5⟩
          have ho5 := own_keep ho4 hr4 hO5
          have hB5 : Below w.heap.size w w5 := hB4.trans (hO5.below hB4.size (fun k hk => by
            rw [List.mem_singleton.1 hk]; omega))
          have rc2 := hr5.2.1.cellv 2 _ rfl
          have HBO : Hid (Both w5 w1.heap.size (j + 1) R2 d2 v' vr') := hide ⟨ho5, hr5, HUI.out.1, HUI.out.2⟩
          clear ho4 hr4 hB4 hO5 hF5 H HUI
          go_upto_region 14 with (fail)
          have HDN : ∀ nd, Hid (Calls Try.prog 15 #[.pointer (some ⟨w1.heap.size, 0, none⟩)] (w5.drewN nd) fun e w' => e = .returned (.bool d2) ∧ w' = w5.drewN nd) := fun nd => hide (done_any (show Wr (w5.drewN nd) w1.heap.size w1.heap.size v' R2.reverse d2 from HBO.out.own))
          go_quiet ((go_at_call 15; exact Calls.quiet_of_same (unhide (HDN _))))
          clear HDN
          go_wp2_with fail
          go_roundg (gk - 1)
          case measure => omega
          case rel => exact ⟨j + 1, R2, d2, v', vr', by go_num, by omega, hide (show Both (w5.drewN nq) w1.heap.size (j + 1) R2 d2 v' vr' from ⟨HBO.out.own, HBO.out.ref, HBO.out.upto, HBO.out.inv⟩), htx2, below_drewN hB5 _⟩
    · have hjn : j = n := by omega
      subst hjn
      have HOK : Hid (∀ e ∈ E, e.ok) := hide fun e he => by
        obtain ⟨i, hi, rfl⟩ := List.getElem_of_mem he
        have h1 := HWF.out _ (List.getElem_mem hi)
        exact ⟨h1.1, by have := htx.out i hi (by rw [HN.out]; exact hi); omega, h1.2.2, h1.2.1⟩
      have HWM : Hid (∀ e ∈ E, e.m < 18446744073709551616) := hide fun e he => (HWF.out e he).2.1
      clear htx hbo
      obtain ⟨wz, hwz⟩ : ∃ wz, wz = wr := ⟨_, rfl⟩
      subst hwz
      obtain ⟨r, kk, hall⟩ : ∃ r kk, (r, kk) = allC E [] false [] := ⟨_, _, rfl⟩
      have HALL := hide hall
      have hszr := hb.size
      have hx0 : RWr (wz.alloc (.cells #[.int .i64 3, .slice none 0 0, .bool false] 31)) wz.heap.size wz.heap.size (.slice none 0 0) [] false := ⟨Nat.le_refl _, Blk.new wz 31 _, SlN.nil _ _ _ _⟩
      have hbx := hb.alloc hb.size (.cells #[.int .i64 3, .slice none 0 0, .bool false] 31)
      clear hall HWF hj hb
      go_upto_block 2 with fail
      go_cut [13, 14] (fun s13 s14 wx => ∃ (b : Int) (d9 : Bool), s13 = .string (S r) ∧ s14 = .int .i64 b ∧ Hid (kk = if b = 0 then (if d9 then 0 else 3) else b) ∧ wx.cell? ⟨wz.heap.size, 2, none⟩ = some (.bool d9) ∧ Below w.heap.size w wx)
      case first =>
        go_wp2_with fail
        go_loopg [13, 14, 15, 16, 17] j (fun g s13 s14 s15 s16 s17 wr => ∃ (i : Nat) (R : List Cont) (d : Bool) (out : List UInt8) (b : Int) (vr : Value), s15 = .int .i64 i ∧ i + g = j ∧ s13 = .string (S out) ∧ s14 = .int .i64 b ∧ Hid (out.length ≤ i * 1000010) ∧ Hid (Upto i R ∧ InvC R) ∧ Hid ((b = 0 ∧ (r, kk) = allC (E.drop i) R d out) ∨ (b ≠ 0 ∧ (r, kk) = (out, b))) ∧ Hid (RWr wr wz.heap.size wz.heap.size vr R.reverse d) ∧ Below w.heap.size w wr)
        case atStart => exact ⟨0, [], false, [], 0, _, rfl, by omega, rfl, rfl, hide (by simp), hide ⟨⟨fun c hc => (by cases hc), Nat.le_refl 0⟩, InvC.nil⟩, hide (.inl ⟨rfl, HALL.out⟩), hide hx0, hbx⟩
        case round =>
          clear hx0 hbx
          obtain ⟨i, R, d, out, b, vr, rfl, hj, rfl, rfl, hol, hui, hst, hw, hb⟩ := hrel
          by_cases hb0 : b = 0
          · subst hb0
            have hal : Hid ((r, kk) = allC (E.drop i) R d out) := hide (by
              rcases hst.out with h | h
              · exact h.2
              · exact absurd rfl h.1)
            clear hst
            by_cases hlt : i < j
            · have hE : E ≠ [] := fun he => by have := HN.out; rw [he] at this; simp at this; omega
              obtain ⟨g, off, ha, hg, hc⟩ := HC.out hE
              subst ha
              have hiE : i < E.length := by rw [← HN.out]; exact hlt
              obtain ⟨x, hx⟩ : ∃ x, x = E[i] := ⟨_, rfl⟩
              have hxok : x.ok := hx ▸ HOK.out _ (List.getElem_mem hiE)
              have hxm : Hid (x.m < 18446744073709551616) := hide (by rw [hx]; exact (HWM.out _ (List.getElem_mem hiE)))
              have HZ : Hid (∀ W, Below w.heap.size w W → ∀ (k : Nat) (u : Value), x.cells[k]? = some u → W.cell? ⟨g, off + i * 5 + k, none⟩ = some u) := hide fun W hb k u hu => (hb.cell (p := ⟨g, off + i * 5 + k, none⟩) hg).trans (hc i hiE k u (by rw [← hx]; exact hu))
              have hal2 := hal.out
              rw [List.drop_eq_getElem_cons hiE, ← hx] at hal2
              simp only [allC] at hal2
              clear hc hx hal
              have z0 : wr.cell? ⟨g, off + i * 5, none⟩ = some (.int .i64 x.k) := HZ.out wr hb 0 _ rfl
              have z1 : wr.cell? ⟨g, off + i * 5 + 1, none⟩ = some (.bool x.y) := HZ.out wr hb 1 _ rfl
              have z2 : wr.cell? ⟨g, off + i * 5 + 2, none⟩ = some (.int .u64 x.m) := HZ.out wr hb 2 _ rfl
              have z3 : wr.cell? ⟨g, off + i * 5 + 3, none⟩ = some (.string (S x.l)) := HZ.out wr hb 3 _ rfl
              have z4 : wr.cell? ⟨g, off + i * 5 + 4, none⟩ = some (.int .i64 x.c) := HZ.out wr hb 4 _ rfl
              have HM0 := fun W b hb => refmay_any x W b hb
              simp only [EvM.cells, evV] at HM0
              cases hp : x.part with
              | none =>
                rw [hp] at hal2 HM0
                simp only at hal2
                injection hal2 with e1 e2
                have HM := fun W => hide (HM0 W false rfl)
                have HKK := hide e2
                subst e1
                have rc2 := hw.out.2.1.cellv 2 _ rfl
                have hpl := hw.out.2.1.lt
                clear HM0 hp e2
                go_wp2_with fail
                (with_reducible refine (unhide (HM _)).mono ?_)
                rintro e w5 ⟨rfl, hb5⟩
                have rd2 := (hb5.cell (p := ⟨wz.heap.size, 2, none⟩) hpl).trans rc2
                clear rc2
                go_wp2_with fail
                go_meet
                exact ⟨1, d, rfl, rfl, hide (by rw [HKK.out]; rfl), rd2, hb.trans (hb5.mono hb.size)⟩
              | some pt =>
                have hfit := EvM.fits hxok hp
                obtain ⟨k2, s2, R2, d2, hst⟩ : ∃ k2 s2 R2 d2, (k2, s2, R2, d2) = stepC R d pt := ⟨_, _, _, _, rfl⟩
                have HRS0 := fun W (hW : RWr W wz.heap.size wz.heap.size vr R.reverse d) => refstep_any hW (hui.out.1.small (by omega)) hui.out.2 x hxok k2 s2 R2 d2 (by rw [hp]; exact hst)
                have hup2 := hui.out.1.step d pt
                have hin2 := hui.out.2.step d (pt := pt)
                have hsl := stepC_len R d hfit
                have herr := stepC_err R d pt
                rw [hp] at hal2 HM0
                simp only at hal2
                rw [← hst] at hup2 hin2 hsl hal2 herr
                simp only at hup2 hin2 hsl hal2 herr
                simp only [EvM.cells, evV] at HRS0
                have HM := fun W => hide (HM0 W true rfl)
                have HRS := fun W hW => hide (HRS0 W hW)
                have HUI := hide (And.intro hup2 hin2)
                have HSL := hide hsl
                have hadd := run_add_S (P := Try.prog) out s2 (by
                  have h1 := hol.out
                  have h3 : i * 1000010 ≤ 100 * 1000010 := Nat.mul_le_mul_right _ (by omega)
                  omega)
                have HOR : Hid ((k2 = 0 ∧ (r, kk) = allC (E.drop (i + 1)) R2 d2 (out ++ s2)) ∨ (k2 ≠ 0 ∧ (r, kk) = (out ++ s2, k2))) := hide (by
                  by_cases hk : k2 = 0
                  · left
                    rw [if_neg (by simp [hk])] at hal2
                    exact ⟨hk, hal2⟩
                  · right
                    rw [if_pos hk] at hal2
                    rw [herr hk, List.append_nil]
                    exact ⟨hk, hal2⟩)
                have HW9 := hide hw.out
                clear HM0 HRS0 hst hup2 hin2 hsl hal2 herr hp hfit hw hui hxok hxm
                go_wp2_with fail
                (with_reducible refine (unhide (HM _)).mono ?_)
                rintro e w5 ⟨rfl, hb5⟩
                have hB5 := hb.trans (hb5.mono hb.size)
                have hw5 := HW9.out.below hb5
                have H := HRS w5 hw5
                clear z0 z1 z2 z3 z4 HM HRS hb5 hb hw5 HW9
                have z0 : w5.cell? ⟨g, off + i * 5, none⟩ = some (.int .i64 x.k) := HZ.out w5 hB5 0 _ rfl
                have z1 : w5.cell? ⟨g, off + i * 5 + 1, none⟩ = some (.bool x.y) := HZ.out w5 hB5 1 _ rfl
                have z2 : w5.cell? ⟨g, off + i * 5 + 2, none⟩ = some (.int .u64 x.m) := HZ.out w5 hB5 2 _ rfl
                have z3 : w5.cell? ⟨g, off + i * 5 + 3, none⟩ = some (.string (S x.l)) := HZ.out w5 hB5 3 _ rfl
                have z4 : w5.cell? ⟨g, off + i * 5 + 4, none⟩ = some (.int .i64 x.c) := HZ.out w5 hB5 4 _ rfl
                go_wp2_with fail
                (with_reducible refine (unhide H).mono ?_)
                rintro e w6 ⟨rfl, vr', hw6, hO6, hF6⟩
                have hB6 : Below w.heap.size w w6 := hB5.trans (hO6.below hB5.size (fun k hk => by rw [List.mem_singleton.1 hk]; exact hszr))
                clear hO6 hF6 H hB5 z0 z1 z2 z3 z4
                go_wp2_with fail
                go_roundg (gk - 1)
                case measure => omega
                case rel => exact ⟨i + 1, R2, d2, out ++ s2, k2, vr', by go_num, by omega, rfl, rfl, hide (by have h1 := hol.out; have h2 := HSL.out; rw [List.length_append]; omega), HUI, HOR, hide hw6, hB6⟩
            · have hij : i = j := by omega
              subst hij
              have hal2 := hal.out
              rw [HN.out, List.drop_length] at hal2
              simp only [allC] at hal2
              injection hal2 with e1 e2
              have HKK := hide e2
              subst e1
              have rc2 := hw.out.2.1.cellv 2 _ rfl
              clear hal e2
              go_wp2_with fail
              go_meet
              exact ⟨0, d, rfl, rfl, hide (by rw [HKK.out]; simp), rc2, hb⟩
          · have hst2 : (r, kk) = (out, b) := by
              rcases hst.out with h | h
              · exact absurd h.1 hb0
              · exact h.2
            injection hst2 with e1 e2
            have HKK := hide e2
            subst e1
            have hbf : (b == 0) = false := by simpa using hb0
            have rc2 := hw.out.2.1.cellv 2 _ rfl
            have HB0 := hide hb0
            clear hst e2 hb0
            by_cases hlt : i < j
            · go_wp2_with fail
              go_meet
              exact ⟨b, d, rfl, rfl, hide (by rw [HKK.out, if_neg HB0.out]), rc2, hb⟩
            · go_wp2_with fail
              go_meet
              exact ⟨b, d, rfl, rfl, hide (by rw [HKK.out, if_neg HB0.out]), rc2, hb⟩
      case rest =>
        clear hx0 hbx
        obtain ⟨b, d9, rfl, rfl, hkk, rd, hb⟩ := hcut
        have HL := fun W (hW : Below w.heap.size w W) => hide (lent_evs (EvsAt.below HEV.out hW) (by rw [← HN.out]; omega))
        have HAL := fun W v (hW : EvsAt W v E) => hide (all_any hW HOK.out (by rw [← HN.out]; omega) r kk HALL.out)
        have HSN := fun W => hide (step_none W)
        have HDN := fun W => hide (done_none W)
        have HST := fun W u B (hu : Lent W u E B) (hv : Below w.heap.size w W) => hide (stays_evs hu (EvsAt.below HEV.out hv) (by rw [← HN.out]; omega))
        by_cases hb0 : b = 0
        · subst hb0
          cases d9 with
          | true =>
            obtain rfl : kk = 0 := by have := hkk.out; simpa using this
            go_wp2_with fail
            (with_reducible refine (unhide (HL _ hb)).mono ?_)
            rintro e w7 ⟨v7, rfl, hl7, ho7⟩
            have hB7 := hb.trans (ho7.nil_below.mono hb.size)
            have H := HAL w7 v7 hl7.evs
            clear HL HAL rd ho7 hb
            go_wp2_with fail
            (with_reducible refine (unhide H).mono ?_)
            rintro e w8 ⟨rfl, hb8⟩
            have hl8 := hl7.below hb8
            have hB8 := hB7.trans (hb8.mono hB7.size)
            clear H hl7 hB7 hb8
            go_wp2_with fail
            (with_reducible refine (unhide (HSN _)).mono ?_)
            rintro e w9 ⟨rfl, hb9⟩
            have hl9 := hl8.below hb9
            have hB9 := hB8.trans (hb9.mono hB8.size)
            have H := HST w9 v7 _ hl9 hB9
            clear HSN hl8 hB8 hb9 HST
            go_wp2_with fail
            (with_reducible refine (unhide H).mono ?_)
            rintro e w10 ⟨rfl, hb10⟩
            have hB10 := hB9.trans (hb10.mono hB9.size)
            clear H hl9 hB9 hb10
            go_wp2_with fail
            (with_reducible refine (unhide (HDN _)).mono ?_)
            rintro e w11 ⟨rfl, rfl⟩
            go_wp2_with fail
            go_ret
            exact ⟨rfl, hB10⟩
          | false =>
            obtain rfl : kk = 3 := by have := hkk.out; simpa using this
            go_wp2_with fail
            (with_reducible refine (unhide (HL _ hb)).mono ?_)
            rintro e w7 ⟨v7, rfl, hl7, ho7⟩
            have hB7 := hb.trans (ho7.nil_below.mono hb.size)
            have H := HAL w7 v7 hl7.evs
            clear HL HAL rd ho7 hb
            go_wp2_with fail
            (with_reducible refine (unhide H).mono ?_)
            rintro e w8 ⟨rfl, hb8⟩
            have hl8 := hl7.below hb8
            have hB8 := hB7.trans (hb8.mono hB7.size)
            clear H hl7 hB7 hb8
            go_wp2_with fail
            (with_reducible refine (unhide (HSN _)).mono ?_)
            rintro e w9 ⟨rfl, hb9⟩
            have hl9 := hl8.below hb9
            have hB9 := hB8.trans (hb9.mono hB8.size)
            have H := HST w9 v7 _ hl9 hB9
            clear HSN hl8 hB8 hb9 HST
            go_wp2_with fail
            (with_reducible refine (unhide H).mono ?_)
            rintro e w10 ⟨rfl, hb10⟩
            have hB10 := hB9.trans (hb10.mono hB9.size)
            clear H hl9 hB9 hb10
            go_wp2_with fail
            (with_reducible refine (unhide (HDN _)).mono ?_)
            rintro e w11 ⟨rfl, rfl⟩
            go_wp2_with fail
            go_ret
            exact ⟨rfl, hB10⟩
        · obtain rfl : kk = b := by have := hkk.out; simpa [hb0] using this
          have hbf : (kk == 0) = false := by simpa using hb0
          clear hb0
          go_wp2_with fail
          (with_reducible refine (unhide (HL _ hb)).mono ?_)
          rintro e w7 ⟨v7, rfl, hl7, ho7⟩
          have hB7 := hb.trans (ho7.nil_below.mono hb.size)
          have H := HAL w7 v7 hl7.evs
          clear HL HAL rd ho7 hb
          go_wp2_with fail
          (with_reducible refine (unhide H).mono ?_)
          rintro e w8 ⟨rfl, hb8⟩
          have hl8 := hl7.below hb8
          have hB8 := hB7.trans (hb8.mono hB7.size)
          clear H hl7 hB7 hb8
          go_wp2_with fail
          (with_reducible refine (unhide (HSN _)).mono ?_)
          rintro e w9 ⟨rfl, hb9⟩
          have hl9 := hl8.below hb9
          have hB9 := hB8.trans (hb9.mono hB8.size)
          have H := HST w9 v7 _ hl9 hB9
          clear HSN hl8 hB8 hb9 HST
          go_wp2_with fail
          (with_reducible refine (unhide H).mono ?_)
          rintro e w10 ⟨rfl, hb10⟩
          have hB10 := hB9.trans (hb10.mono hB9.size)
          clear H hl9 hB9 hb10
          go_wp2_with fail
          (with_reducible refine (unhide (HDN _)).mono ?_)
          rintro e w11 ⟨rfl, rfl⟩
          go_wp2_with fail
          go_ret
          exact ⟨rfl, hB10⟩
end Go.Proofs.Yteggfobeaolafaa
