/-
  The walk of WheelFair.
-/
import Derived.Test.YtlkedcdhboahbaaWheelE
import Derived.Test.YtlkedcdhboahbaaMapI
namespace Go.Proofs.Ytlkedcdhboahbaa
open Go.RowKit

theorem Wheel.keepM {w c : World} {base p : Nat} {n : Int} {v : Value} {L : List Int} (h : Wheel w base p n v L) (ho : Only (p :: slB v) w c) : KeepM w c := fun g es t hm => by
  refine (ho.block g ?_ ?_).trans hm
  · rcases Nat.lt_or_ge g w.heap.size with hlt | hge
    · exact hlt
    · rw [Array.getElem?_eq_none hge] at hm; cases hm
  · intro hk
    have no : ∀ (t : TypeId) (cs : Array Value), ¬ Blk w g t cs := fun t cs hb => by
      unfold Blk at hb
      rw [hb] at hm
      injection hm with hm
      cases hm
    rcases List.mem_cons.1 hk with rfl | hk
    · exact no _ _ h.blk
    · rcases h.sl with ⟨rfl, _⟩ | ⟨g', off, cap, cs, rfl, _, hg, _⟩
      · simp [slB] at hk
      · simp [slB] at hk
        subst hk
        exact no _ _ hg
theorem Wh.onlyM {w c : World} {B p : Nat} {n : Int} {L : List Int} {g m : Nat} {f : Int → Option Int} (h : Wh w B p n L) (hm : MapI w g m f) (ho : Only [g] w c) : Wh c B p n L := by
  obtain ⟨h1, v, h⟩ := h
  refine ⟨h1, v, ho.blk h.blk (by simp; exact hm.notBlk h.blk), h.sl.keep ho (fun k hk => ?_), h.n0, h.n100, h.inside, h.nodup⟩
  rcases h.sl with ⟨rfl, _⟩ | ⟨g', off, cap, cs, rfl, _, hg, _⟩
  · simp [slB] at hk
  · simp [slB] at hk
    subst hk
    simp
    exact hm.notBlk hg
theorem next_M {w : World} {B p : Nat} {n : Int} {L : List Int} (h : Wh w B p n L) (a : Option Addr) (c : Nat) (z : List Bool) (hz : IsRdy w a z) (x : Int) (r : Bool) (hx : (turn z L = none ∧ x = 0 ∧ r = false) ∨ (turn z L = some x ∧ r = true)) (L2 : List Int) (hL2 : L2 = after z L) (zl : Nat) (hzl2 : zl = z.length) :
    Calls Try.prog 14 #[.pointer (some ⟨p, 0, none⟩), .slice a zl c] w fun e w' => e = .returned (.tuple #[.int .i64 x, .bool r]) ∧ Wh w' B p n L2 ∧ Below B w w' ∧ KeepM w w' := by
  have hB := h.lt
  subst hzl2
  obtain ⟨h1, v, h⟩ := h
  rcases hx with ⟨ht, rfl, rfl⟩ | ⟨ht, rfl⟩
  · have : L2 = L := by rw [hL2, after, ht]
    subst this
    exact (next_none h a c z hz (turn_none ht)).mono fun e w' ⟨he, hw⟩ => ⟨he, by rw [hw]; exact ⟨h1, v, h⟩, by rw [hw]; exact Below.refl _ _, by rw [hw]; exact KeepM.refl _⟩
  · obtain ⟨A, C, hL, hA, hx⟩ := turn_some ht
    have hxA : x ∉ A := fun hm => by rw [hA x hm] at hx; cases hx
    have her : L.erase x = A ++ C := by rw [hL, List.erase_append_right _ hxA, List.erase_cons_head]
    have : L2 = (A ++ C) ++ [x] := by rw [hL2, after, ht, ← her]
    subst this
    exact (next_some h a c z hz hB hL rfl hA hx).mono fun e w' ⟨he, v', hq, ho, _⟩ => ⟨he, ⟨h1, v', hq⟩, h.only_below ho hB h1 (Nat.le_refl _), h.keepM ho⟩

/-- Those that are ready, the next one first; when each had its last turn. -/
def FairI (z : List Bool) (m : Nat) (f : Int → Option Int) (t : Nat) (L : List Int) : Prop :=
  (L.filter (rdy z)).length = m ∧ ∀ i (hi : i < (L.filter (rdy z)).length), f (L.filter (rdy z))[i] = if m - i ≤ t then some (((t - (m - i) : Nat)) : Int) else none
theorem fair_start (z : List Bool) (L : List Int) : FairI z (L.filter (rdy z)).length (fun _ => none) 0 L := ⟨rfl, fun i hi => by rw [if_neg (by omega)]⟩
theorem fair_none {z : List Bool} {m t : Nat} {f : Int → Option Int} {L : List Int} (h : FairI z m f t L) (ht : turn z L = none) : m = 0 := by
  rw [← h.1, List.length_eq_zero_iff, List.filter_eq_nil_iff]
  intro x hx
  simpa using turn_none ht x hx
theorem fair_some {z : List Bool} {m t : Nat} {f : Int → Option Int} {L : List Int} {x : Int} (h : FairI z m f t L) (hn : L.Nodup) (ht : turn z L = some x) :
    0 < m ∧ x ∈ L ∧ (f x = if m ≤ t then some ((t - m : Nat) : Int) else none) ∧ FairI z m (fun y => if y = x then some (t : Int) else f y) (t + 1) (after z L) := by
  obtain ⟨A, C, hL, hA, hx⟩ := turn_some ht
  have hxA : x ∉ A := fun hm => by rw [hA x hm] at hx; cases hx
  have haf : after z L = (A ++ C) ++ [x] := by
    rw [after, ht]
    simp only
    rw [hL, List.erase_append_right _ hxA, List.erase_cons_head]
  have hAf : A.filter (rdy z) = [] := List.filter_eq_nil_iff.2 fun y hy => by simp [hA y hy]
  have hq : L.filter (rdy z) = x :: C.filter (rdy z) := by rw [hL, List.filter_append, hAf, List.filter_cons, if_pos hx, List.nil_append]
  have hq2 : (after z L).filter (rdy z) = C.filter (rdy z) ++ [x] := by
    rw [haf, List.filter_append, List.filter_append, hAf, List.nil_append]
    simp [hx]
  have hxC : x ∉ C.filter (rdy z) := by
    have h2 := hn.filter (rdy z)
    rw [hq] at h2
    exact (List.nodup_cons.1 h2).1
  obtain ⟨h1, h2⟩ := h
  obtain ⟨Q, hQ⟩ : ∃ Q, Q = C.filter (rdy z) := ⟨_, rfl⟩
  rw [← hQ] at hq hq2 hxC
  simp only [hq] at h1 h2
  rw [List.length_cons] at h1
  refine ⟨by omega, by rw [hL]; simp, by simpa using h2 0 (by simp), ?_⟩
  unfold FairI
  simp only [hq2]
  refine ⟨by simp; omega, fun i hi => ?_⟩
  simp only [List.length_append, List.length_singleton] at hi
  by_cases hiQ : i < Q.length
  · have h3 := h2 (i + 1) (by simp; omega)
    simp only [List.getElem_cons_succ] at h3
    rw [List.getElem_append_left hiQ, if_neg (fun e => hxC (by rw [← e]; exact List.getElem_mem _)), h3]
    by_cases hc : m - (i + 1) ≤ t
    · rw [if_pos hc, if_pos (by omega), show t - (m - (i + 1)) = t + 1 - (m - i) by omega]
    · rw [if_neg hc, if_neg (by omega)]
  · have hi2 : i = Q.length := by omega
    subst hi2
    rw [List.getElem_append_right (Nat.le_refl _)]
    simp only [Nat.sub_self, List.getElem_cons_zero, if_pos]
    rw [if_pos (by omega), show t + 1 - (m - Q.length) = t by omega]

set_option maxRecDepth 100000 in
theorem wheelFair_no (n turns : Int) (a : Option Addr) (len cap : Nat) (w : World) (_hl : len ≤ 9223372036854775807) (h : n < 1 ∨ 30 < n ∨ turns < 0 ∨ 100 < turns ∨ (len : Int) ≠ n) :
    Calls Try.prog 4 #[.int .i64 n, .int .i64 turns, .slice a len cap] w fun e w' => e = .returned (.bool true) ∧ Below w.heap.size w w' := by
  have HA := hide (alive_any w)
  by_cases h1 : n < 1
  · clear h
    go_enter Try.func4, Try.ntmps4
    go_wp2_with fail
    (with_reducible refine (unhide HA).mono ?_)
    rintro e w1 ⟨rfl, hb⟩
    go_wp2_with fail
    go_ret
    exact ⟨rfl, hb⟩
  by_cases h2 : 30 < n
  · clear h
    go_enter Try.func4, Try.ntmps4
    go_wp2_with fail
    (with_reducible refine (unhide HA).mono ?_)
    rintro e w1 ⟨rfl, hb⟩
    go_wp2_with fail
    go_ret
    exact ⟨rfl, hb⟩
  by_cases h3 : turns < 0
  · clear h
    go_enter Try.func4, Try.ntmps4
    go_wp2_with fail
    (with_reducible refine (unhide HA).mono ?_)
    rintro e w1 ⟨rfl, hb⟩
    go_wp2_with fail
    go_ret
    exact ⟨rfl, hb⟩
  by_cases h4 : 100 < turns
  · clear h
    go_enter Try.func4, Try.ntmps4
    go_wp2_with fail
    (with_reducible refine (unhide HA).mono ?_)
    rintro e w1 ⟨rfl, hb⟩
    go_wp2_with fail
    go_ret
    exact ⟨rfl, hb⟩
  have h5 : ((len : Int) != n) = true := by
    simp
    rcases h with h | h | h | h | h
    · omega
    · omega
    · omega
    · omega
    · exact h
  clear h
  go_enter Try.func4, Try.ntmps4
  go_wp2_with fail
  (with_reducible refine (unhide HA).mono ?_)
  rintro e w1 ⟨rfl, hb⟩
  go_wp2_with fail
  go_ret
  exact ⟨rfl, hb⟩

set_option maxRecDepth 100000 in
set_option maxHeartbeats 1000000 in
theorem wheelFair_yes (n turns : Nat) (a : Option Addr) (cap : Nat) (z : List Bool) (w : World) (hn1 : 1 ≤ n) (hn30 : n ≤ 30) (ht : turns ≤ 100) (hzl : z.length = n) (hz : IsRdy w a z) :
    Calls Try.prog 4 #[.int .i64 n, .int .i64 turns, .slice a n cap] w fun e w' => e = .returned (.bool true) ∧ Below w.heap.size w w' := by
  have HA := hide (alive_any w)
  have HZ := hide hz
  have HZL := hide hzl
  have hnn : ((n : Int) != n) = false := by simp
  have hmm := @run_makeMap Try.prog
  clear hz hzl
  go_enter Try.func4, Try.ntmps4
  go_wp2_with fail
  (with_reducible refine (unhide HA).mono ?_)
  rintro e w1 ⟨rfl, hb⟩
  have H := hide (new_Wh (w := w1) (B := w.heap.size) n n (by omega) hb.size)
  clear HA
  go_wp2_with fail
  (with_reducible refine (unhide H).mono ?_)
  rintro e w2 ⟨p, rfl, hw, hb1⟩
  have hb := hb.trans (hb1.mono hb.size)
  clear hb1
  go_wp2_with fail
  go_loopg [8, 9] n (fun g s8 s9 wr => ∃ (j m : Nat), s8 = .int .i64 m ∧ s9 = .int .i64 j ∧ j + g = n ∧ m ≤ j ∧ Hid (m = ((upto j).filter (rdy z)).length) ∧ Wh wr w.heap.size p n (upto j) ∧ Below w.heap.size w wr)
  case atStart => exact ⟨0, 0, rfl, rfl, by omega, by omega, rfl, hw, hb⟩
  case round =>
    obtain ⟨j, m, rfl, rfl, hj, hmj, hm, hwr, hbb⟩ := hrel
    clear hw hb
    by_cases hlt : j < n
    · have hnin : (j : Int) ∉ upto j := fun hm => by have := (mem_upto.1 hm).2; omega
      have H := hide (add_K hwr j true (by
        have h1 : (0 : Int) ≤ j ∧ (j : Int) < n ∧ (j : Int) ∉ upto j := ⟨by omega, by omega, hnin⟩
        simpa using h1) (upto (j + 1)) (by rw [upto_succ]; rfl))
      have hjz : j < z.length := by have := HZL.out; omega
      have hrz : rdy z j = z[j] := by unfold rdy; rw [List.getD, Int.toNat_natCast, List.getElem?_eq_getElem hjz]; rfl
      obtain ⟨g2, off2, rfl, cr0⟩ := HZ.out j hjz
      have hg2 := block_lt_of_cell cr0
      clear hwr hnin
      go_wp2_with fail
      refine (unhide H).mono ?_
      rintro e w3 ⟨rfl, hw, hb1, hk⟩
      have hbb := hbb.trans hb1
      have cr := (hbb.cell (p := ⟨g2, off2 + j, none⟩) hg2).trans cr0
      clear hb1 hk cr0
      by_cases hr : z[j] = true
      · rw [hr] at cr
        have hm2 : Hid (m + 1 = ((upto (j + 1)).filter (rdy z)).length) := by
          have := hm.out
          show _ = _
          rw [upto_succ, List.filter_append]
          simp [hrz, hr]
          exact this
        clear hrz hr
        go_wp2_with fail
        go_roundg (gk - 1)
        case measure => omega
        case rel => exact ⟨j + 1, m + 1, by go_num, by go_num, by omega, by omega, hm2, hw, hbb⟩
      · have hr2 : z[j] = false := by simpa using hr
        rw [hr2] at cr
        have hm2 : Hid (m = ((upto (j + 1)).filter (rdy z)).length) := by
          have := hm.out
          show _ = _
          rw [upto_succ, List.filter_append]
          simp [hrz, hr2]
          exact this
        clear hrz hr hr2
        go_wp2_with fail
        go_roundg (gk - 1)
        case measure => omega
        case rel => exact ⟨j + 1, m, rfl, by go_num, by omega, by omega, hm2, hw, hbb⟩
    · have hjn : j = n := by omega
      subst hjn
      have hF := hide (fair_start z (upto j))
      rw [← hm.out] at hF
      have hM := MapI.new wr
      have hwr := hwr.alloc (.map #[] 0)
      have hmgB := hide hbb.size
      have hbb := hbb.alloc hbb.size (.map #[] 0)
      obtain ⟨L0, hL0⟩ : ∃ L0, L0 = upto j := ⟨_, rfl⟩
      rw [← hL0] at hwr hF
      clear hL0 hm
      go_wp2_with fail
      obtain ⟨wo, rfl⟩ : ∃ wo : World, wo = wr := ⟨_, rfl⟩
      go_loopg [11, 12, 13, 14, 15] turns (fun g s11 s12 s13 s14 s15 wr => ∃ (t : Nat) (L : List Int) (f : Int → Option Int), s11 = .int .i64 t ∧ t + g = turns ∧ Hid (FairI z m f t L) ∧ Wh wr w.heap.size p j L ∧ MapI wr wo.heap.size t f ∧ Below w.heap.size w wr)
      case atStart => exact ⟨0, L0, _, rfl, by omega, hF, hwr, hM, hbb⟩
      case round =>
        obtain ⟨t, L, f, rfl, hjt, hF2, hw3, hM3, hbb3⟩ := hrel
        clear hwr hF hM hbb
        by_cases hlt2 : t < turns
        · rcases hT : turn z L with _ | x
          · have hm0 := fair_none hF2.out hT
            subst hm0
            have H := hide (next_M hw3 a cap z (HZ.out.below hbb3) 0 false (.inl ⟨hT, rfl, rfl⟩) L (by rw [after, hT]) j HZL.out.symm)
            clear hT hw3
            go_wp2_with fail
            refine (unhide H).mono ?_
            rintro e w4 ⟨rfl, hw4, hb4, hk4⟩
            have hbb4 := hbb3.trans hb4
            clear hb4 hk4 hbb3 hF2
            go_wp2_with fail
            go_ret
            exact ⟨rfl, hbb4⟩
          · obtain ⟨hm0, hxL, hfx, hF4⟩ := fair_some hF2.out hw3.nodup hT
            have hxin := hw3.inside x hxL
            have wx : (Lit.int .i64 x).wf = true := wf64 (by omega)
            have wt : (Lit.int .i64 (t : Int)).wf = true := wf64 (by omega)
            have hm1 : (0 : Int) < m := by omega
            obtain ⟨L2, hL2⟩ : ∃ L2, L2 = after z L := ⟨_, rfl⟩
            rw [← hL2] at hF4
            have H := hide (next_M hw3 a cap z (HZ.out.below hbb3) x true (.inr ⟨hT, rfl⟩) L2 hL2 j HZL.out.symm)
            have HF4 := hide hF4
            clear hT hw3 hF4 hL2 hxL hxin
            by_cases hmt : m ≤ t
            · rw [if_pos hmt] at hfx
              obtain ⟨s, hs⟩ : ∃ s, s = t - m := ⟨_, rfl⟩
              rw [← hs] at hfx
              have hq : ((t : Int) - (s : Int) != (m : Int)) = false := by simp; omega
              have hsb : (s : Int) ≤ 100 := by omega
              have htb : (t : Int) ≤ 100 := by omega
              have HFX := hide hfx
              clear hfx hs
              go_wp2_with fail
              refine (unhide H).mono ?_
              rintro e w4 ⟨rfl, hw4, hb4, hk4⟩
              have hbb4 := hbb3.trans hb4
              have hM4 := hM3.keepM hk4
              have hlook := hM4.look x wx s true (.inr ⟨HFX.out, rfl⟩)
              clear hb4 hk4 hbb3 hM3
              obtain ⟨w5, hrun, hM5, ho5⟩ := hM4.store (by unfold maxLen; omega) x wx t wt
              have hw5 := hw4.onlyM hM4 ho5
              have hbb5 := hbb4.trans (ho5.below hbb4.size (by simpa using hmgB.out))
              clear hM4 ho5 hw4 hbb4
              go_wp2_with fail
              go_roundg (turns - t - 1)
              case measure => omega
              case rel => exact ⟨t + 1, L2, _, by go_num, by omega, HF4, hw5, hM5, hbb5⟩
            · rw [if_neg hmt] at hfx
              have hmt2 : (t : Int) < m := by omega
              have HFX := hide hfx
              clear hfx
              go_wp2_with fail
              refine (unhide H).mono ?_
              rintro e w4 ⟨rfl, hw4, hb4, hk4⟩
              have hbb4 := hbb3.trans hb4
              have hM4 := hM3.keepM hk4
              have hlook := hM4.look x wx 0 false (.inl ⟨HFX.out, rfl, rfl⟩)
              clear hb4 hk4 hbb3 hM3
              obtain ⟨w5, hrun, hM5, ho5⟩ := hM4.store (by unfold maxLen; omega) x wx t wt
              have hw5 := hw4.onlyM hM4 ho5
              have hbb5 := hbb4.trans (ho5.below hbb4.size (by simpa using hmgB.out))
              clear hM4 ho5 hw4 hbb4
              go_wp2_with fail
              go_roundg (turns - t - 1)
              case measure => omega
              case rel => exact ⟨t + 1, L2, _, by go_num, by omega, HF4, hw5, hM5, hbb5⟩
        · go_wp2_with fail
          go_ret
          exact ⟨rfl, hbb3⟩
end Go.Proofs.Ytlkedcdhboahbaa
