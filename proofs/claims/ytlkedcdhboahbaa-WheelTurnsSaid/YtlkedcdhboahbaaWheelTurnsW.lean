/-
  The walk of WheelTurns.
-/
import Derived.Test.YtlkedcdhboahbaaWheelE
namespace Go.Proofs.Ytlkedcdhboahbaa
open Go.RowKit

/-- All but one are ready. -/
def notL (late : Int) (n : Nat) : List Bool := (List.range n).map fun i : Nat => ((i : Int) != late)
theorem notL_length (late : Int) (n : Nat) : (notL late n).length = n := by simp [notL]
theorem notL_succ (late : Int) (n : Nat) : notL late (n + 1) = notL late n ++ [((n : Int) != late)] := by simp [notL, List.range_succ]
theorem rdy_notL {late : Int} {n : Nat} {x : Int} (h : 0 ≤ x ∧ x < n) : rdy (notL late n) x = (x != late) := by
  obtain ⟨k, rfl⟩ := Int.eq_ofNat_of_zero_le h.1
  unfold rdy notL
  rw [List.getD, Int.toNat_natCast, List.getElem?_map, List.getElem?_range (by omega)]
  rfl
theorem notL_set {late : Nat} {n : Nat} (_h : late < n) : (notL late n).set late true = List.replicate n true := by
  refine List.ext_getElem (by simp [notL]) fun i h1 h2 => ?_
  rw [List.getElem_set, List.getElem_replicate]
  by_cases e : late = i
  · rw [if_pos e]
  · rw [if_neg e]
    simp only [notL, List.getElem_map, List.getElem_range]
    simp
    omega
theorem turn_second {z : List Bool} {x y : Int} {L : List Int} (hx : rdy z x = false) (hy : rdy z y = true) : turn z (x :: y :: L) = some y := by simp [turn, hx, hy]
theorem after_second {z : List Bool} {x y : Int} {L : List Int} (hx : rdy z x = false) (hy : rdy z y = true) : after z (x :: y :: L) = x :: L ++ [y] := by
  have hne : (x == y) = false := by
    simp; rintro rfl; rw [hx] at hy; cases hy
  simp [after, turn_second hx hy, hne]

set_option maxRecDepth 100000 in
theorem wheelTurns_no (n turns late : Int) (w : World) (h : n < 2 ∨ 20 < n ∨ turns < 0 ∨ 60 < turns ∨ late < 0 ∨ n ≤ late) :
    Calls Try.prog 8 #[.int .i64 n, .int .i64 turns, .int .i64 late] w fun e w' => e = .returned (.bool true) ∧ Below w.heap.size w w' := by
  have HA := hide (alive_any w)
  by_cases h1 : n < 2
  · clear h
    go_enter Try.func8, Try.ntmps8
    go_wp2_with fail
    (with_reducible refine (unhide HA).mono ?_)
    rintro e w1 ⟨rfl, hb⟩
    go_wp2_with fail
    go_ret
    exact ⟨rfl, hb⟩
  by_cases h2 : 20 < n
  · clear h
    go_enter Try.func8, Try.ntmps8
    go_wp2_with fail
    (with_reducible refine (unhide HA).mono ?_)
    rintro e w1 ⟨rfl, hb⟩
    go_wp2_with fail
    go_ret
    exact ⟨rfl, hb⟩
  by_cases h3 : turns < 0
  · clear h
    go_enter Try.func8, Try.ntmps8
    go_wp2_with fail
    (with_reducible refine (unhide HA).mono ?_)
    rintro e w1 ⟨rfl, hb⟩
    go_wp2_with fail
    go_ret
    exact ⟨rfl, hb⟩
  by_cases h4 : 60 < turns
  · clear h
    go_enter Try.func8, Try.ntmps8
    go_wp2_with fail
    (with_reducible refine (unhide HA).mono ?_)
    rintro e w1 ⟨rfl, hb⟩
    go_wp2_with fail
    go_ret
    exact ⟨rfl, hb⟩
  by_cases h5 : late < 0
  · clear h
    go_enter Try.func8, Try.ntmps8
    go_wp2_with fail
    (with_reducible refine (unhide HA).mono ?_)
    rintro e w1 ⟨rfl, hb⟩
    go_wp2_with fail
    go_ret
    exact ⟨rfl, hb⟩
  have h6 : n ≤ late := by omega
  clear h
  go_enter Try.func8, Try.ntmps8
  go_wp2_with fail
  (with_reducible refine (unhide HA).mono ?_)
  rintro e w1 ⟨rfl, hb⟩
  go_wp2_with fail
  go_ret
  exact ⟨rfl, hb⟩

set_option maxRecDepth 100000 in
set_option maxHeartbeats 1000000 in
theorem wheelTurns_yes (n turns late : Nat) (w : World) (hn2 : 2 ≤ n) (hn20 : n ≤ 20) (hin : late < n) (ht : turns ≤ 60) :
    Calls Try.prog 8 #[.int .i64 n, .int .i64 turns, .int .i64 late] w fun e w' => e = .returned (.bool true) ∧ Below w.heap.size w w' := by
  have HA := hide (alive_any w)
  obtain ⟨ci, hci⟩ : ∃ ci, ci = (List.replicate n (Value.bool false)).toArray := ⟨_, rfl⟩
  have infoB : (Try.prog.info? 4).map (fun i => (i.zero, i.size, i.bytes)) = some (some (.bool false), 1, 1) := by kernel_rfl
  have hm1 := run_make_cells (P := Try.prog) Try.underlying34 (.bool false) 1 infoB rfl n n rfl (by omega) (by omega)
  rw [← hci] at hm1
  have Hci := hide hci
  clear hci
  go_enter Try.func8, Try.ntmps8
  go_wp2_with fail
  (with_reducible refine (unhide HA).mono ?_)
  rintro e w1 ⟨rfl, hb⟩
  have H := hide (new_Wh (w := w1) (B := w.heap.size) n n (by omega) hb.size)
  clear HA
  go_wp2_with fail
  (with_reducible refine (unhide H).mono ?_)
  rintro e w2 ⟨p, rfl, hw, hb1⟩
  have hb := hb.trans (hb1.mono hb.size)
  have hbz : Blk (w2.alloc (.cells ci 4)) w2.heap.size 4 (boolsV (notL late 0 ++ List.replicate n false)) := by
    have := Blk.new w2 4 ci
    rw [Hci.out] at this ⊢
    simpa [boolsV, notL] using this
  have hw0 := hw
  have hw := hw.alloc (.cells ci 4)
  have hb := hb.alloc hb.size (.cells ci 4)
  have HB2 := hide (show w.heap.size ≤ w2.heap.size from hw0.lt)
  clear hb1
  go_wp2_with fail
  go_loopg [9, 52] n (fun g s9 s52 wr => ∃ (j : Nat), s52 = .int .i64 j ∧ j + g = n ∧ Wh wr w.heap.size p n (upto j) ∧ Blk wr w2.heap.size 4 (boolsV (notL late j ++ List.replicate (n - j) false)) ∧ Below w.heap.size w wr)
  case atStart => exact ⟨0, rfl, by omega, hw, hbz, hb⟩
  case round =>
    obtain ⟨j, rfl, hj, hwr, hbr, hbb⟩ := hrel
    clear hw hbz hb
    by_cases hlt : j < n
    · have fz := hbr.frozen j
      have cz := hbr.cellv j (.bool false) (by
        rw [boolsV_get, List.getElem?_append_right (by simp [notL_length]), notL_length, Nat.sub_self, List.getElem?_replicate, if_pos (by omega)]
        rfl)
      obtain ⟨y, hy⟩ : ∃ y, y = ((j : Int) != late) := ⟨_, rfl⟩
      have hy2 : ((j : Int) != late) = y := hy.symm
      have hs := hbr.set_ j (.bool y)
      rw [boolsV_set, show (notL late j ++ List.replicate (n - j) false).set j y = notL late (j + 1) ++ List.replicate (n - (j + 1)) false by
        rw [List.set_append_right _ _ (by simp [notL_length]), notL_length, Nat.sub_self, show n - j = (n - (j + 1)) + 1 by omega, List.replicate_succ, List.set_cons_zero, notL_succ, List.append_assoc, hy]; rfl] at hs
      have hnin : (j : Int) ∉ upto j := fun hm => by have := (mem_upto.1 hm).2; omega
      have H := hide (add_K (hwr.setB hbr j (.bool y)) j true (by
        have h1 : (0 : Int) ≤ j ∧ (j : Int) < n ∧ (j : Int) ∉ upto j := ⟨by omega, by omega, hnin⟩
        simpa using h1) (upto (j + 1)) (by rw [upto_succ]; rfl))
      have hbb := hbb.setCell (p := ⟨w2.heap.size, j, none⟩) (by have := (Blk.lt hbr); have := hwr.lt; show w.heap.size ≤ w2.heap.size; exact HB2.out) (.bool y)
      clear hwr hbr hnin hy
      go_wp2_with fail
      refine (unhide H).mono ?_
      rintro e w3 ⟨rfl, hw, hb1, hk⟩
      have hbb := hbb.trans hb1
      have hbr := hk _ _ _ (by decide) (by decide) hs
      clear hs hb1 hk hy2
      go_wp2_with fail
      go_roundg (gk - 1)
      case measure => omega
      case rel => exact ⟨j + 1, by go_num, by omega, hw, hbr, hbb⟩
    · have hjn : j = n := by omega
      subst hjn
      rw [Nat.sub_self, List.replicate_zero, List.append_nil] at hbr
      have hlate : (late : Int) ∈ upto j := mem_upto.2 ⟨by omega, by omega⟩
      have hlate2 : late < j := hin
      obtain ⟨A, C, hAC, hAl⟩ : ∃ A C, upto j = A ++ (late : Int) :: C ∧ A.length = late := by
        refine ⟨(upto j).take late, (upto j).drop (late + 1), ?_, by rw [List.length_take, upto_length]; omega⟩
        have hd : (upto j).drop late = (late : Int) :: (upto j).drop (late + 1) := by
          rw [List.drop_eq_getElem_cons (by rw [upto_length]; omega)]
          congr 1
          simp [upto]
        rw [← hd, List.take_append_drop]
      rw [hAC] at hwr
      have hlC : A.length + C.length + 1 = j := by have := congrArg List.length hAC; rw [upto_length] at this; simp at this; omega
      clear hlate hAC
      go_wp2_with fail
      obtain ⟨wo, rfl⟩ : ∃ wo : World, wo = wr := ⟨_, rfl⟩
      go_loopg [10, 11, 12] turns (fun g s10 s11 s12 wr => ∃ (t : Nat) (A C : List Int), s10 = .int .i64 t ∧ t + g = turns ∧ Hid (A.length = late - t) ∧ Hid (A.length + C.length + 1 = j) ∧ Wh wr w.heap.size p j (A ++ (late : Int) :: C) ∧ Blk wr w2.heap.size 4 (boolsV (notL late j)) ∧ Below w.heap.size w wr)
      case atStart => exact ⟨0, A, C, rfl, by omega, by show _ = _; omega, hlC, hwr, hbr, hbb⟩
      case round =>
        obtain ⟨t, A, C, rfl, hjt, hA2, hC2, hw3, hb3, hbb3⟩ := hrel
        clear hwr hbr hbb hlC hAl
        have hnd := hw3.nodup
        by_cases hlt2 : t < turns
        · have hrl : rdy (notL late j) late = false := by rw [rdy_notL ⟨by omega, by omega⟩]; simp
          cases A with
          | cons x A =>
            have hxl : x ≠ (late : Int) := by
              rintro rfl
              simp at hnd
            have hrx : rdy (notL late j) x = true := by
              rw [rdy_notL (by have := hw3.inside x (by simp); omega)]; simpa using hxl
            have hq : (x == (late : Int)) = false := by simpa using hxl
            clear hxl hnd
            obtain ⟨L2, hL2⟩ : ∃ L2, L2 = A ++ (late : Int) :: (C ++ [x]) := ⟨_, rfl⟩
            have H := hide (next_K hw3 (some ⟨w2.heap.size, 0, none⟩) j (notL late j) (isRdy_blk hb3) x true (.inr ⟨turn_head hrx, rfl⟩) L2 (by rw [List.cons_append, after_head hrx, List.append_assoc, hL2]; rfl) j (notL_length _ _).symm)
            have HL2 := hide hL2
            clear hrl hrx hw3 hL2
            go_wp2_with fail
            refine (unhide H).mono ?_
            rintro e w4 ⟨rfl, hw4, hb4, hk4⟩
            have hbb4 := hbb3.trans hb4
            have hb5 := hk4 _ _ _ (by decide) (by decide) hb3
            rw [HL2.out] at hw4
            clear hb4 hk4 hb3 hbb3
            go_wp2_with fail
            go_roundg (turns - t - 1)
            case measure => omega
            case rel => exact ⟨t + 1, A, C ++ [x], by go_num, by omega, by have := hA2.out; show _ = _; simp at this; omega, by have := hC2.out; show _ = _; simp at this ⊢; omega, hw4, hb5, hbb4⟩
          | nil =>
            cases C with
            | nil => exfalso; have := hC2.out; simp at this; omega
            | cons x C =>
              have hxl : x ≠ (late : Int) := by
                rintro rfl
                simp at hnd
              have hrx : rdy (notL late j) x = true := by
                rw [rdy_notL (by have := hw3.inside x (by simp); omega)]; simpa using hxl
              have hq : (x == (late : Int)) = false := by simpa using hxl
              clear hxl hnd
              obtain ⟨L2, hL2⟩ : ∃ L2, L2 = [] ++ (late : Int) :: (C ++ [x]) := ⟨_, rfl⟩
              have H := hide (next_K hw3 (some ⟨w2.heap.size, 0, none⟩) j (notL late j) (isRdy_blk hb3) x true (.inr ⟨turn_second hrl hrx, rfl⟩) L2 (by rw [List.nil_append, after_second hrl hrx, hL2]; rfl) j (notL_length _ _).symm)
              have HL2 := hide hL2
              clear hrl hrx hw3 hL2
              go_wp2_with fail
              refine (unhide H).mono ?_
              rintro e w4 ⟨rfl, hw4, hb4, hk4⟩
              have hbb4 := hbb3.trans hb4
              have hb5 := hk4 _ _ _ (by decide) (by decide) hb3
              rw [HL2.out] at hw4
              clear hb4 hk4 hb3 hbb3
              go_wp2_with fail
              go_roundg (turns - t - 1)
              case measure => omega
              case rel => exact ⟨t + 1, [], C ++ [x], by go_num, by omega, by have := hA2.out; show _ = _; simp at this ⊢; omega, by have := hC2.out; show _ = _; simp at this ⊢; omega, hw4, hb5, hbb4⟩
        · have htt : t = turns := by omega
          subst htt
          have fz := hb3.frozen late
          have cz := hb3.cellv late (.bool ((late : Int) != late)) (by
            rw [boolsV_get, notL, List.getElem?_map, List.getElem?_range (by omega)]
            rfl)
          have hs := hb3.set_ late (.bool true)
          rw [boolsV_set, notL_set hin] at hs
          have hw4 := hw3.setB hb3 late (.bool true)
          have hbb4 := hbb3.setCell (p := ⟨w2.heap.size, late, none⟩) (by show w.heap.size ≤ w2.heap.size; exact HB2.out) (.bool true)
          clear hw3 hb3 hbb3
          go_wp2_with fail

          go_loopg [13, 14, 15] j (fun g s13 s14 s15 wr => ∃ (k : Nat) (A C : List Int), s13 = .int .i64 k ∧ k + g = j ∧ Hid (A.length + k = late - t) ∧ Wh wr w.heap.size p j (A ++ (late : Int) :: C) ∧ Blk wr w2.heap.size 4 (boolsV (List.replicate j true)) ∧ Below w.heap.size w wr)
          case atStart => exact ⟨0, A, C, rfl, by omega, hA2.out, hw4, hs, hbb4⟩
          case round =>
            obtain ⟨k, A, C, rfl, hjk, hA3, hw3, hb3, hbb3⟩ := hrel
            clear hw4 hs hbb4 hnd
            have hkj : k < j := by have := hA3.out; omega
            have hnd := hw3.nodup
            cases A with
            | cons x A =>
              have hxl : x ≠ (late : Int) := by
                rintro rfl
                simp at hnd
              have hrx : rdy (List.replicate j true) x = true := rdy_replicate (by have := hw3.inside x (by simp); omega)
              have hq : (x == (late : Int)) = false := by simpa using hxl
              clear hxl hnd
              obtain ⟨L2, hL2⟩ : ∃ L2, L2 = A ++ (late : Int) :: (C ++ [x]) := ⟨_, rfl⟩
              have H := hide (next_K hw3 (some ⟨w2.heap.size, 0, none⟩) j (List.replicate j true) (isRdy_blk hb3) x true (.inr ⟨turn_head hrx, rfl⟩) L2 (by rw [List.cons_append, after_head hrx, List.append_assoc, hL2]; rfl) j (by simp))
              have HL2 := hide hL2
              clear hrx hw3 hL2
              go_wp2_with fail
              refine (unhide H).mono ?_
              rintro e w4 ⟨rfl, hw4, hb4, hk4⟩
              have hbb4 := hbb3.trans hb4
              have hb5 := hk4 _ _ _ (by decide) (by decide) hb3
              rw [HL2.out] at hw4
              clear hb4 hk4 hb3 hbb3
              go_wp2_with fail
              go_roundg (j - k - 1)
              case measure => omega
              case rel => exact ⟨k + 1, A, C ++ [x], by go_num, by omega, by have := hA3.out; show _ = _; simp at this; omega, hw4, hb5, hbb4⟩
            | nil =>
              have hrx : rdy (List.replicate j true) late = true := rdy_replicate (by omega)
              have hk0 : (k : Int) = 0 ∨ (t : Int) < j := by have := hA3.out; simp at this; omega
              obtain ⟨L2, hL2⟩ : ∃ L2, L2 = C ++ [(late : Int)] := ⟨_, rfl⟩
              have H := hide (next_K hw3 (some ⟨w2.heap.size, 0, none⟩) j (List.replicate j true) (isRdy_blk hb3) late true (.inr ⟨turn_head hrx, rfl⟩) L2 (by rw [List.nil_append, after_head hrx, hL2]) j (by simp))
              have HL2 := hide hL2
              clear hrx hw3 hL2 hnd
              go_wp2_with fail
              refine (unhide H).mono ?_
              rintro e w4 ⟨rfl, hw4, hb4, hk4⟩
              have hbb4 := hbb3.trans hb4
              clear hb4 hk4 hb3 hbb3
              by_cases htj : (t : Int) < j
              · clear hk0
                go_wp2_with fail
                go_ret
                exact ⟨rfl, hbb4⟩
              · have hk00 : k = 0 := by omega
                subst hk00
                clear hk0
                go_wp2_with fail
                go_ret
                exact ⟨rfl, hbb4⟩
end Go.Proofs.Ytlkedcdhboahbaa
