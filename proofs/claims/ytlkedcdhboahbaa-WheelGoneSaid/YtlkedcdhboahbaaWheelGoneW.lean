/-
  The walk of WheelGone.
-/
import Derived.Test.YtlkedcdhboahbaaWheelE
namespace Go.Proofs.Ytlkedcdhboahbaa
open Go.RowKit

/-- The wheel's list when all had t turns. -/
def rotL (n t : Nat) : List Int := (List.range n).map fun i : Nat => (((i + t) % n : Nat) : Int)
theorem rotL_zero (n : Nat) : rotL n 0 = upto n := by
  unfold rotL upto
  refine List.map_congr_left fun i hi => ?_
  rw [Nat.add_zero, Nat.mod_eq_of_lt (by simpa using hi)]
theorem rotL_head (n t : Nat) (h : 0 < n) : rotL n t = ((t % n : Nat) : Int) :: (rotL n t).tail := by
  unfold rotL
  obtain ⟨m, rfl⟩ : ∃ m, n = m + 1 := ⟨n - 1, by omega⟩
  rw [List.range_succ_eq_map, List.map_cons, Nat.zero_add]
  rfl
theorem rotL_next (n t : Nat) (h : 0 < n) : (rotL n t).tail ++ [((t % n : Nat) : Int)] = rotL n (t + 1) := by
  unfold rotL
  obtain ⟨m, rfl⟩ : ∃ m, n = m + 1 := ⟨n - 1, by omega⟩
  rw [List.range_succ_eq_map, List.map_cons, List.tail_cons, List.map_map]
  rw [show (0 :: List.map Nat.succ (List.range m)) = List.range (m + 1) from List.range_succ_eq_map.symm, List.range_succ, List.map_append]
  congr 1
  · refine List.map_congr_left fun i _ => ?_
    simp only [Function.comp]
    rw [show Nat.succ i + t = i + (t + 1) by omega]
  · simp only [List.map_cons, List.map_nil]
    rw [show m + (t + 1) = t + (m + 1) by omega, Nat.add_mod_right]
theorem rotL_mem {n t : Nat} {x : Int} (h : x ∈ rotL n t) : 0 ≤ x ∧ x < n := by
  unfold rotL at h
  obtain ⟨i, hi, rfl⟩ := List.mem_map.1 h
  have : 0 < n := by have := List.mem_range.1 hi; omega
  have := Nat.mod_lt (i + t) this
  omega
theorem mem_rotL {n t : Nat} {x : Int} (h : 0 ≤ x ∧ x < n) : x ∈ rotL n t := by
  unfold rotL
  obtain ⟨k, rfl⟩ := Int.eq_ofNat_of_zero_le h.1
  have hk : k < n := by omega
  refine List.mem_map.2 ⟨(k + (n - t % n)) % n, List.mem_range.2 (Nat.mod_lt _ (by omega)), ?_⟩
  have ht := Nat.mod_lt t (show 0 < n by omega)
  rw [Nat.mod_add_mod, ← Nat.add_mod_mod (k + (n - t % n)) t n, show k + (n - t % n) + t % n = k + n by omega, Nat.add_mod_right, Nat.mod_eq_of_lt hk]
theorem rotL_length (n t : Nat) : (rotL n t).length = n := by simp [rotL]

set_option maxRecDepth 100000 in
theorem wheelGone_no (n id turns : Int) (w : World) (h : n < 2 ∨ 20 < n ∨ id < 0 ∨ n ≤ id ∨ turns < 0 ∨ 60 < turns) :
    Calls Try.prog 7 #[.int .i64 n, .int .i64 id, .int .i64 turns] w fun e w' => e = .returned (.bool true) ∧ Below w.heap.size w w' := by
  have HA := hide (alive_any w)
  by_cases h1 : n < 2
  · clear h
    go_enter Try.func7, Try.ntmps7
    go_wp2_with fail
    (with_reducible refine (unhide HA).mono ?_)
    rintro e w1 ⟨rfl, hb⟩
    go_wp2_with fail
    go_ret
    exact ⟨rfl, hb⟩
  by_cases h2 : 20 < n
  · clear h
    go_enter Try.func7, Try.ntmps7
    go_wp2_with fail
    (with_reducible refine (unhide HA).mono ?_)
    rintro e w1 ⟨rfl, hb⟩
    go_wp2_with fail
    go_ret
    exact ⟨rfl, hb⟩
  by_cases h3 : id < 0
  · clear h
    go_enter Try.func7, Try.ntmps7
    go_wp2_with fail
    (with_reducible refine (unhide HA).mono ?_)
    rintro e w1 ⟨rfl, hb⟩
    go_wp2_with fail
    go_ret
    exact ⟨rfl, hb⟩
  by_cases h4 : n ≤ id
  · clear h
    go_enter Try.func7, Try.ntmps7
    go_wp2_with fail
    (with_reducible refine (unhide HA).mono ?_)
    rintro e w1 ⟨rfl, hb⟩
    go_wp2_with fail
    go_ret
    exact ⟨rfl, hb⟩
  by_cases h5 : turns < 0
  · clear h
    go_enter Try.func7, Try.ntmps7
    go_wp2_with fail
    (with_reducible refine (unhide HA).mono ?_)
    rintro e w1 ⟨rfl, hb⟩
    go_wp2_with fail
    go_ret
    exact ⟨rfl, hb⟩
  have h6 : 60 < turns := by omega
  clear h
  go_enter Try.func7, Try.ntmps7
  go_wp2_with fail
  (with_reducible refine (unhide HA).mono ?_)
  rintro e w1 ⟨rfl, hb⟩
  go_wp2_with fail
  go_ret
  exact ⟨rfl, hb⟩

set_option maxRecDepth 100000 in
set_option maxHeartbeats 1000000 in
theorem wheelGone_yes (n : Nat) (id : Int) (turns : Nat) (w : World) (hn2 : 2 ≤ n) (hn20 : n ≤ 20) (hi0 : 0 ≤ id) (hin : id < n) (ht : turns ≤ 60) :
    Calls Try.prog 7 #[.int .i64 n, .int .i64 id, .int .i64 turns] w fun e w' => e = .returned (.bool true) ∧ Below w.heap.size w w' := by
  have HA := hide (alive_any w)
  obtain ⟨ci, hci⟩ : ∃ ci, ci = (List.replicate n (Value.bool false)).toArray := ⟨_, rfl⟩
  have infoB : (Try.prog.info? 4).map (fun i => (i.zero, i.size, i.bytes)) = some (some (.bool false), 1, 1) := by kernel_rfl
  have hm1 := run_make_cells (P := Try.prog) Try.underlying34 (.bool false) 1 infoB rfl n n rfl (by omega) (by omega)
  rw [← hci] at hm1
  have Hci := hide hci
  clear hci
  go_enter Try.func7, Try.ntmps7
  go_wp2_with fail
  (with_reducible refine (unhide HA).mono ?_)
  rintro e w1 ⟨rfl, hb⟩
  have H := hide (new_Wh (w := w1) (B := w.heap.size) n n (by omega) hb.size)
  clear HA
  go_wp2_with fail
  (with_reducible refine (unhide H).mono ?_)
  rintro e w2 ⟨p, rfl, hw, hb1⟩
  have hb := hb.trans (hb1.mono hb.size)
  have hbz : Blk (w2.alloc (.cells ci 4)) w2.heap.size 4 (boolsV (List.replicate 0 true ++ List.replicate n false)) := by
    have := Blk.new w2 4 ci
    rw [Hci.out] at this ⊢
    simpa [boolsV] using this
  have hw0 := hw
  have hw := hw.alloc (.cells ci 4)
  have hb := hb.alloc hb.size (.cells ci 4)
  have HB2 := hide (show w.heap.size ≤ w2.heap.size from hw0.lt)
  clear hb1
  go_wp2_with fail
  go_loopg [9, 54] n (fun g s9 s54 wr => ∃ (j : Nat), s54 = .int .i64 j ∧ j + g = n ∧ Wh wr w.heap.size p n (upto j) ∧ Blk wr w2.heap.size 4 (boolsV (List.replicate j true ++ List.replicate (n - j) false)) ∧ Below w.heap.size w wr)
  case atStart => exact ⟨0, rfl, by omega, hw, hbz, hb⟩
  case round =>
    obtain ⟨j, rfl, hj, hwr, hbr, hbb⟩ := hrel
    clear hw hbz hb
    by_cases hlt : j < n
    · have fz := hbr.frozen j
      have cz := hbr.cellv j (.bool false) (by
        rw [boolsV_get, List.getElem?_append_right (by simp), List.length_replicate, Nat.sub_self, List.getElem?_replicate, if_pos (by omega)]
        rfl)
      have hs := hbr.set_ j (.bool true)
      rw [boolsV_set, show (List.replicate j true ++ List.replicate (n - j) false).set j true = List.replicate (j + 1) true ++ List.replicate (n - (j + 1)) false by
        rw [List.set_append_right _ _ (by simp), List.length_replicate, Nat.sub_self, show n - j = (n - (j + 1)) + 1 by omega, List.replicate_succ, List.set_cons_zero, List.replicate_succ', List.append_assoc]; rfl] at hs
      have hnin : (j : Int) ∉ upto j := fun hm => by have := (mem_upto.1 hm).2; omega
      have H := hide (add_K (hwr.setB hbr j (.bool true)) j true (by
        have h1 : (0 : Int) ≤ j ∧ (j : Int) < n ∧ (j : Int) ∉ upto j := ⟨by omega, by omega, hnin⟩
        simpa using h1) (upto (j + 1)) (by rw [upto_succ]; rfl))
      have hbb := hbb.setCell (p := ⟨w2.heap.size, j, none⟩) (by have := (Blk.lt hbr); have := hwr.lt; show w.heap.size ≤ w2.heap.size; exact HB2.out) (.bool true)
      clear hwr hbr hnin
      go_wp2_with fail
      refine (unhide H).mono ?_
      rintro e w3 ⟨rfl, hw, hb1, hk⟩
      have hbb := hbb.trans hb1
      have hbr := hk _ _ _ (by decide) (by decide) hs
      clear hs hb1 hk
      go_wp2_with fail
      go_roundg (gk - 1)
      case measure => omega
      case rel => exact ⟨j + 1, by go_num, by omega, hw, hbr, hbb⟩
    · have hjn : j = n := by omega
      subst hjn
      rw [Nat.sub_self, List.replicate_zero, List.append_nil] at hbr
      go_wp2_with fail
      obtain ⟨wo, rfl⟩ : ∃ wo : World, wo = wr := ⟨_, rfl⟩
      rw [← rotL_zero] at hwr
      go_loopg [10, 11, 12] turns (fun g s10 s11 s12 wr => ∃ (t : Nat), s10 = .int .i64 t ∧ t + g = turns ∧ Wh wr w.heap.size p j (rotL j t) ∧ Blk wr w2.heap.size 4 (boolsV (List.replicate j true)) ∧ Below w.heap.size w wr)
      case atStart => exact ⟨0, rfl, by omega, hwr, hbr, hbb⟩
      case round =>
        obtain ⟨t, rfl, hjt, hw3, hb3, hbb3⟩ := hrel
        clear hwr hbr hbb
        by_cases hlt2 : t < turns
        · have hmod : ((t % j : Nat) : Int) = (t : Int) % j := by push_cast; rfl
          have hml : t % j < j := Nat.mod_lt _ (by omega)
          have hrd : rdy (List.replicate j true) ((t : Int) % j) = true := by rw [← hmod]; exact rdy_replicate (by omega)
          have hhead := rotL_head j t (by omega)
          have hnext := rotL_next j t (by omega)
          rw [hmod] at hhead hnext
          have H := hide (next_K hw3 (some ⟨w2.heap.size, 0, none⟩) j (List.replicate j true) (isRdy_blk hb3) ((t : Int) % j) true (.inr ⟨by rw [hhead]; exact turn_head hrd, rfl⟩) (rotL j (t + 1)) (by rw [hhead, after_head hrd, hnext]) j (by simp))
          clear hrd hhead hnext hmod hml hw3
          go_wp2_with fail
          refine (unhide H).mono ?_
          rintro e w4 ⟨rfl, hw4, hb4, hk4⟩
          have hbb4 := hbb3.trans hb4
          have hb5 := hk4 _ _ _ (by decide) (by decide) hb3
          clear hb4 hk4 hb3 hbb3
          go_wp2_with fail
          go_roundg (turns - t - 1)
          case measure => omega
          case rel => exact ⟨t + 1, by go_num, by omega, hw4, hb5, hbb4⟩
        · obtain ⟨L0, hL0⟩ : ∃ L0, L0 = rotL j t := ⟨_, rfl⟩
          have hmem : id ∈ L0 := by rw [hL0]; exact mem_rotL ⟨hi0, hin⟩
          have hlen0 : L0.length = j := by rw [hL0, rotL_length]
          rw [← hL0] at hw3
          obtain ⟨L1, hL1⟩ : ∃ L1, L1 = L0.erase id := ⟨_, rfl⟩
          have hlen1 : L1.length = j - 1 := by rw [hL1, List.length_erase_of_mem hmem, hlen0]
          have hno1 : id ∉ L1 := by rw [hL1]; exact fun hm => (hw3.nodup.mem_erase_iff.1 hm).1 rfl
          have HLEN1 := hide hlen1
          have HNO1 := hide hno1
          have H := hide (rem_K hw3 id true (by simpa using hmem) L1 hL1)
          clear hL0 hL1 hmem hlen0 hw3 hlen1 hno1
          go_wp2_with fail
          (with_reducible refine (unhide H).mono ?_)
          rintro e w4 ⟨rfl, hw4, hb4, hk4⟩
          have hbb4 := hbb3.trans hb4
          have hb5 := hk4 _ _ _ (by decide) (by decide) hb3
          have H := hide (rem_K hw4 id false (by simpa using HNO1.out) L1 (by rw [List.erase_of_not_mem HNO1.out]))
          clear hb4 hk4 hb3 hbb3 hw4
          go_wp2_with fail
          (with_reducible refine (unhide H).mono ?_)
          rintro e w5 ⟨rfl, hw4, hb4, hk4⟩
          have hbb4 := hbb4.trans hb4
          have hb5 := hk4 _ _ _ (by decide) (by decide) hb5
          have H := hide (all_Wh hw4)
          obtain ⟨l1, hl1⟩ : ∃ l1 : Nat, l1 = L1.length := ⟨_, rfl⟩
          have hl1' : ((l1 : Int) != (j : Int) - 1) = false := by have := HLEN1.out; simp; omega
          rw [← hl1] at H
          have HL1 := hide hl1
          clear hl1
          clear hb4 hk4
          go_wp2_with fail
          (with_reducible refine (unhide H).mono ?_)
          rintro e w6 ⟨a6, c6, rfl, hr6, hw6, hb6⟩
          have hbb6 := hbb4.trans (hb6.mono hbb4.size)
          have hb7 := hb5.below hb6 hb5.lt
          clear hb5 hbb4 hr6 hb6 hw4
          go_wp2_with fail
          clear hl1'
          obtain ⟨wo, rfl⟩ : ∃ wo : World, wo = w6 := ⟨_, rfl⟩
          go_loopg [13, 14, 15] (2 * j) (fun g s13 s14 s15 wr => ∃ (t : Nat) (L : List Int), s13 = .int .i64 t ∧ t + g = 2 * j ∧ L.length = j - 1 ∧ Hid (id ∉ L) ∧ Wh wr w.heap.size p j L ∧ Blk wr w2.heap.size 4 (boolsV (List.replicate j true)) ∧ Below w.heap.size w wr)
          case atStart => exact ⟨0, L1, rfl, by omega, HLEN1.out, HNO1.out, hw6, hb7, hbb6⟩
          case round =>
            obtain ⟨t, L, rfl, hjt, hLl, hno, hw3, hb3, hbb3⟩ := hrel
            clear hw6 hb7 hbb6
            by_cases hlt2 : t < 2 * j
            · cases L with
              | nil => exfalso; simp at hLl; omega
              | cons x L =>
                have hxj := hw3.inside x (List.mem_cons_self ..)
                have hxid : (x == id) = false := by
                  have := hno.out
                  simp only [List.mem_cons, not_or] at this
                  simpa using fun e : x = id => this.1 e.symm
                have hrd : rdy (List.replicate j true) x = true := rdy_replicate (by omega)
                have hno2 : Hid (id ∉ L ++ [x]) := by
                  have := hno.out
                  show _ ∉ _
                  simp only [List.mem_cons, List.mem_append, List.not_mem_nil, not_or, or_false] at this ⊢
                  exact ⟨this.2, this.1⟩
                have hL2 : (L ++ [x]).length = j - 1 := by simpa using hLl
                have H := hide (next_K hw3 (some ⟨w2.heap.size, 0, none⟩) j (List.replicate j true) (isRdy_blk hb3) x true (.inr ⟨turn_head hrd, rfl⟩) (L ++ [x]) (after_head hrd).symm j (by simp))
                clear hrd hw3 hxj
                go_wp2_with fail
                refine (unhide H).mono ?_
                rintro e w7 ⟨rfl, hw7, hb7, hk7⟩
                have hbb7 := hbb3.trans hb7
                have hb8 := hk7 _ _ _ (by decide) (by decide) hb3
                clear hb7 hk7 hb3 hbb3
                go_wp2_with fail
                go_roundg (2 * j - t - 1)
                case measure => omega
                case rel => exact ⟨t + 1, L ++ [x], by go_num, by omega, hL2, hno2, hw7, hb8, hbb7⟩
            · have HLl := hide hLl
              obtain ⟨l8, hl8⟩ : ∃ l8 : Nat, l8 = L.length := ⟨_, rfl⟩
              have hq1 : ((l8 : Int) == (j : Int) - 1) = true := by simp; omega
              have H := hide (all_Wh hw3)
              rw [← hl8] at H
              clear hl8 hLl
              go_wp2_with fail
              (with_reducible refine (unhide H).mono ?_)
              rintro e w8 ⟨a8, c8, rfl, hr8, hw8, hb8⟩
              have hbb8 := hbb3.trans (hb8.mono hbb3.size)
              have H := hide (add_K hw8 id true (by
                have h1 : 0 ≤ id ∧ id < (j : Int) ∧ id ∉ L := ⟨hi0, hin, hno.out⟩
                simpa using h1) (L ++ [id]) rfl)
              clear hr8 hb8 hb3 hbb3 hw3
              go_wp2_with fail
              (with_reducible refine (unhide H).mono ?_)
              rintro e w9 ⟨rfl, hw9, hb9, hk9⟩
              have hbb9 := hbb8.trans hb9
              have H := hide (add_K hw9 id false (by simp) (L ++ [id]) rfl)
              clear hw8 hb9 hk9 hbb8
              go_wp2_with fail
              (with_reducible refine (unhide H).mono ?_)
              rintro e w10 ⟨rfl, hw10, hb10, hk10⟩
              have hbb10 := hbb9.trans hb10
              have H := hide (all_Wh hw10)
              rw [show (L ++ [id]).length = j by rw [List.length_append, List.length_singleton, HLl.out]; omega] at H
              clear hw9 hb10 hk10 hbb9
              go_wp2_with fail
              (with_reducible refine (unhide H).mono ?_)
              rintro e w11 ⟨a11, c11, rfl, hr11, hw11, hb11⟩
              have hbb11 := hbb10.trans (hb11.mono hbb10.size)
              obtain ⟨g, off, cap, hv, hcz⟩ := (Sl.of_row hr11).cell (j - 1) (by rw [intL_length, List.length_append, List.length_singleton, HLl.out]; omega)
              injection hv with hv hve1 hve2
              clear hve1 hve2
              subst hv
              have hcz1 : w11.cell? ⟨g, off + (j - 1), none⟩ = some (.int .i64 id) := by
                rw [hcz]
                simp [intL, HLl.out]
              have hcz2 : w11.cell? ⟨g, off + ((j : Int) - 1).toNat, none⟩ = some (.int .i64 id) := by
                rw [show ((j : Int) - 1).toNat = j - 1 by omega, hcz1]
              clear hcz
              clear hr11 hw11 hb11 hbb10 hw10
              go_wp2_with fail
              go_ret
              exact ⟨rfl, hbb11⟩
end Go.Proofs.Ytlkedcdhboahbaa
