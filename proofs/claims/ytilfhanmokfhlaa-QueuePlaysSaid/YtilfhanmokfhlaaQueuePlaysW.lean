/-
  The walk of QueuePlays.
-/
import Derived.Test.YtilfhanmokfhlaaQueueG
import Derived.Test.YtilfhanmokfhlaaQueueOps
import Derived.Deep.DeepCutAuto
import Derived.Deep.CutBlock
import Derived.Deep.RegionHeld3
import Derived.BigQuiet
namespace Go.Proofs.Ytilfhanmokfhlaa
open Go.RowKit

set_option maxRecDepth 100000 in
theorem queuePlays_no (a0 : Option Addr) (len0 cap0 : Nat) (w : World) (hl : len0 ≤ 9223372036854775807) (h : 100 < len0) :
    Calls Try.prog 5 #[.slice a0 len0 cap0] w fun e w' => e = .returned (.bool true) ∧ Below w.heap.size w w' := by
  have HA := hide (alive_any w)
  have h1 : (100 : Int) < len0 := by omega
  go_enter Try.func5, Try.ntmps5
  go_wp2_with fail
  (with_reducible refine (unhide HA).mono ?_)
  rintro e w1 ⟨rfl, hb⟩
  go_wp2_with fail
  go_ret
  exact ⟨rfl, hb⟩

set_option maxRecDepth 100000 in
set_option maxHeartbeats 8000000 in
theorem queuePlays_yes (a0 : Option Addr) (len0 cap0 : Nat) (z : List Row41) (w : World) (h : len0 ≤ 100) (hrow : IsRows41 w a0 len0 cap0 z) :
    Calls Try.prog 5 #[.slice a0 len0 cap0] w fun e w' => e = .returned (.bool true) ∧ Below w.heap.size w w' := by
  have HA := hide (alive_any w)
  have HR := hide hrow
  clear hrow
  go_enter Try.func5, Try.ntmps5
  go_wp2_with fail
  (with_reducible refine (unhide HA).mono ?_)
  rintro e w1 ⟨rfl, hb⟩
  clear HA
  have hq0 : QH ((w1.alloc (.cells #[.slice none 0 0, .int .i64 0] 27)).alloc (.cells #[.slice none 0 0] 25)) w.heap.size w1.heap.size (w1.heap.size + 1) [] [] := by
    have h1 := Queue.new w1 w.heap.size
    have h2 : Below (w1.alloc (.cells #[.slice none 0 0, .int .i64 0] 27)).heap.size (w1.alloc (.cells #[.slice none 0 0, .int .i64 0] 27)) _ := (Below.refl _ _).alloc (Nat.le_refl _) (.cells #[.slice none 0 0] 25)
    refine ⟨.slice none 0 0, .slice none 0 0, ⟨h1.blk.below h2 h1.lt, Sl.nil _ _ _, h1.ne⟩, ⟨?_, SlN.nil _ _ _ _, fun _ h => by cases h⟩, fun k hk => by simp [slB] at hk, hb.size, Nat.le_succ_of_le hb.size⟩
    have := Blk.new (w1.alloc (.cells #[.slice none 0 0, .int .i64 0] 27)) 25 #[.slice none 0 0]
    simpa using this
  have hb := (hb.alloc hb.size (.cells #[.slice none 0 0, .int .i64 0] 27)).alloc (by have := hb.size; simp; omega) (.cells #[.slice none 0 0] 25)
  obtain ⟨w2, hw2⟩ : ∃ w2, w2 = (w1.alloc (.cells #[.slice none 0 0, .int .i64 0] 27)).alloc (.cells #[.slice none 0 0] 25) := ⟨_, rfl⟩
  rw [← hw2] at hq0 hb
  have HW2 := hide hw2
  clear hw2
  go_wp2_with fail
  go_loopg [8, 9, 10, 11, 12, 13, 15, 16, 34] len0 (fun g s8 s9 s10 s11 s12 s13 s15 s16 s34 wr => ∃ (j : Nat) (L : List (List UInt8)), s34 = .int .i64 j ∧ j + g = len0 ∧ Hid (L.flatten.length ≤ 200 * j) ∧ QH wr w.heap.size w1.heap.size (w1.heap.size + 1) L L ∧ Below w.heap.size w wr)
  case atStart => exact ⟨0, [], rfl, by omega, Nat.zero_le _, by rw [HW2.out] at hq0; exact hq0, by rw [HW2.out] at hb; exact hb⟩
  case round =>
    obtain ⟨j, L, rfl, hj, hL, hq, hbb⟩ := hrel
    clear hq0 hb
    by_cases hlt : j < len0
    · obtain ⟨b1, off1, rfl, hb1, hz⟩ := HR.out.2.2 (by omega)
      have hzl := HR.out.1
      obtain ⟨c0, c1, c2, wk, wn, ws⟩ := hz j (by omega)
      obtain ⟨⟨K, n, s⟩, hrow⟩ : ∃ r, r = z[j]'(by omega) := ⟨_, rfl⟩
      rw [← hrow] at c0 c1 c2 ws
      clear hrow hz hzl wk wn
      have d0 := (hbb.cell (p := ⟨b1, off1 + j * 3, none⟩) hb1).trans c0
      have d1 := (hbb.cell (p := ⟨b1, off1 + j * 3 + 1, none⟩) hb1).trans c1
      have d2 := (hbb.cell (p := ⟨b1, off1 + j * 3 + 2, none⟩) hb1).trans c2
      clear c0 c1 c2
      obtain ⟨ls, rfl⟩ : ∃ ls, s = S ls := ⟨_, S_of s⟩
      rw [S_size] at ws
      by_cases hbig : 200 < ls.length
      · unfold maxLen at ws
        go_wp2_with fail
        go_ret
        exact ⟨rfl, hbb.alloc hbb.size _⟩
      have hls : ls.length ≤ 200 := by omega
      have hqa := hq.alloc (.cells #[.int .i64 K, .int .i64 n, .string (S ls)] 41)
      have hoa := Blk.new wr 41 #[.int .i64 K, .int .i64 n, .string (S ls)]
      have hba : Below w.heap.size w (wr.alloc (.cells #[.int .i64 K, .int .i64 n, .string (S ls)] 41)) := hbb.alloc hbb.size _
      obtain ⟨lf, hlf⟩ : ∃ lf, lf = L.flatten := ⟨_, rfl⟩
      have hlfl : lf.length ≤ 20000 := by have := hL.out; rw [hlf]; omega
      have HLF := hide hlf
      have HAL := hide (allc_H hqa (by rw [← hlf]; omega) lf hlf)
      obtain ⟨y, hy⟩ : ∃ y : Int, y = max n 0 := ⟨_, rfl⟩
      have hmax2 := max_i64 (P := Try.prog) #[3, 3] 3 n 0 y hy
      obtain ⟨k, hk⟩ : ∃ k : Nat, (k : Int) = min y lf.length := ⟨(min y lf.length).toNat, by omega⟩
      have hmin2 := min_i64 (P := Try.prog) #[3, 3] 3 y lf.length k hk
      have hkl : k ≤ lf.length := by omega
      have HY := hide hy
      have HKK := hide hk
      clear hlf hy hk hq hbb
      go_wp2_with fail
      refine (unhide HAL).mono ?_
      rintro e w5 ⟨rfl, hw5⟩
      rw [← hw5] at hqa hoa hba
      have hsz5 := hba.size
      clear hw5 HAL
      have o1 := hoa.cellv 1 _ rfl
      have o2 := hoa.cellv 2 _ rfl
      have o0 := hoa.cellv 0 _ rfl
      go_upto_region 14 with (fail)
      clear hmin2 hmax2
      have hLf : L.flatten.length = lf.length := by rw [HLF.out]
      have HLFL := hide hLf
      clear hLf
      by_cases hK1 : K = 1
      · subst hK1
        obtain ⟨L2, hL2e⟩ : ∃ L2, L2 = addL L ls := ⟨_, rfl⟩
        have hL2 : Hid (L2.flatten.length ≤ 200 * (j + 1)) := by
          show _ ≤ _
          rw [hL2e, addL_flat, List.length_append]
          have := hL.out
          omega
        have HAD := hide (add_H hqa ls (by have := HLFL.out; omega) L2 hL2e)
        have HNE := hide hqa.ne.1
        have HL2E := hide hL2e
        clear hqa hL2e
        go_wp2_with fail
        refine (unhide HAD).mono ?_
        rintro e w6 ⟨rfl, hq6, hb6, hk6⟩
        have hbb6 := hba.trans hb6
        have hob6 := hk6 _ _ hoa
        have p2 := hob6.cellv 2 _ rfl
        clear HAD hba hb6 hk6 o0 o1 o2 hoa
        by_cases hle : ls = []
        · subst hle
          have hLL : L2 = L := by rw [HL2E.out]; rfl
          have hq2 : QH w6 w.heap.size w1.heap.size (w1.heap.size + 1) L2 L2 := by rw [hLL] at hq6 ⊢; exact hq6
          have hb2 := hbb6
          clear hLL hq6 hbb6
          as_aux_lemma =>
          obtain ⟨lf2, hlf2⟩ : ∃ lf2, lf2 = L2.flatten := ⟨_, rfl⟩
          have hlf2l : lf2.length ≤ 200 * (j + 1) := by rw [hlf2]; exact hL2.out
          have hq2 := hq2.drew
          have hb2 := hb2.drew
          have HAL := hide (all_H hq2 (by rw [← hlf2]; omega) lf2 hlf2)
          obtain ⟨a9, c9, hS9⟩ := hq2.cell
          have HAC := fun W (hW : QH W w.heap.size w1.heap.size (w1.heap.size + 1) L2 L2) => hide (allc_H hW (by rw [← hlf2]; omega) lf2 hlf2)
          have HLE := fun W (hW : QH W w.heap.size w1.heap.size (w1.heap.size + 1) L2 L2) => hide (len_H hW lf2.length (by rw [hlf2]))
          have HCH := fun W (hW : QH W w.heap.size w1.heap.size (w1.heap.size + 1) L2 L2) => hide (chunks_H hW L2.length rfl)
          clear hlf2
          go_wp2_with fail
          refine wp_region_tree (fun W => W.cell? ⟨w1.heap.size + 1, 0, none⟩ = some (.slice a9 L2.length c9)) 99 (.take [0, 2] (.step 1 (.step 3 (.step 4 (.step 5 (.take [6, 8] (.step 7 (.step 9 (.step 10 (.step 11 (.step 12 (.step 13 (.take [14, 16, 17] (.step 15 (.step 18 (.step 19 (.fin))))))))))))))))) (by kernel_rfl) (by kernel_rfl) (fun _ _ _ _ _ h => h) ?_
          refine wpTree_take (hS9) ?_
          simp only [opsAt, List.getElem?_cons_zero, List.getElem?_cons_succ]
          first | (refine wpPureH_step (v := ?_) rfl (fun W hS => ?_) ?_; rotate_left; · (obtain s1 := hS; (try simp only [Act.put, List.setIfInBounds_toArray, List.set_cons_zero, List.set_cons_succ]); go_simp; with_reducible rfl)) | (refine wpPureH_want (v := ?_) (by rfl) (fun W hS => ?_) ?_; rotate_left; · (obtain s1 := hS; (try simp only [Act.put, List.setIfInBounds_toArray, List.set_cons_zero, List.set_cons_succ]); go_simp; with_reducible rfl))
          first | (refine wpPureH_step (v := ?_) rfl (fun W hS => ?_) ?_; rotate_left; · (obtain s1 := hS; (try simp only [Act.put, List.setIfInBounds_toArray, List.set_cons_zero, List.set_cons_succ]); go_simp; with_reducible rfl)) | (refine wpPureH_want (v := ?_) (by rfl) (fun W hS => ?_) ?_; rotate_left; · (obtain s1 := hS; (try simp only [Act.put, List.setIfInBounds_toArray, List.set_cons_zero, List.set_cons_succ]); go_simp; with_reducible rfl))
          refine wpPureH_nil ?_
          simp only [Act.put, List.setIfInBounds_toArray, List.set_cons_zero, List.set_cons_succ]
          refine wpTree_step ?_
          simp only [opsAt, List.getElem?_cons_zero, List.getElem?_cons_succ]
          go_wp2_with fail
          refine (unhide HAL).mono ?_
          rintro e w6 ⟨rfl, hq6, hb6⟩
          have hS6 := (hb6.cell (p := ⟨w1.heap.size + 1, 0, none⟩) (block_lt_of_cell hS9)).trans hS9
          have hbb6 := hb2.trans (hb6.mono hb2.size)
          have HA6 := HAC w6 hq6
          have HL6 := HLE w6 hq6
          have HC6 := HCH w6 hq6
          clear HAC HLE HCH HAL hq2 hb2 hb6 hS9
          go_wp2_with fail
          refine ⟨.inr hS6, ?_⟩
          refine wpTree_step ?_
          simp only [opsAt, List.getElem?_cons_zero, List.getElem?_cons_succ]
          go_wp2_with fail
          refine (unhide HA6).mono ?_
          rintro e w7 ⟨rfl, hw7⟩
          subst hw7
          go_wp2_with fail
          refine ⟨.inr hS6, ?_⟩
          refine wpTree_step ?_
          simp only [opsAt, List.getElem?_cons_zero, List.getElem?_cons_succ]
          go_wp2_with fail
          refine ⟨.inr (hS6), ?_⟩
          refine wpTree_step ?_
          simp only [opsAt, List.getElem?_cons_zero, List.getElem?_cons_succ]
          go_wp2_with fail
          refine ⟨.inr (hS6), ?_⟩
          refine wpTree_take (hS6) ?_
          simp only [opsAt, List.getElem?_cons_zero, List.getElem?_cons_succ]
          first | (refine wpPureH_step (v := ?_) rfl (fun W hS => ?_) ?_; rotate_left; · (obtain s1 := hS; (try simp only [Act.put, List.setIfInBounds_toArray, List.set_cons_zero, List.set_cons_succ]); go_simp; with_reducible rfl)) | (refine wpPureH_want (v := ?_) (by rfl) (fun W hS => ?_) ?_; rotate_left; · (obtain s1 := hS; (try simp only [Act.put, List.setIfInBounds_toArray, List.set_cons_zero, List.set_cons_succ]); go_simp; with_reducible rfl))
          first | (refine wpPureH_step (v := ?_) rfl (fun W hS => ?_) ?_; rotate_left; · (obtain s1 := hS; (try simp only [Act.put, List.setIfInBounds_toArray, List.set_cons_zero, List.set_cons_succ]); go_simp; with_reducible rfl)) | (refine wpPureH_want (v := ?_) (by rfl) (fun W hS => ?_) ?_; rotate_left; · (obtain s1 := hS; (try simp only [Act.put, List.setIfInBounds_toArray, List.set_cons_zero, List.set_cons_succ]); go_simp; with_reducible rfl))
          refine wpPureH_nil ?_
          simp only [Act.put, List.setIfInBounds_toArray, List.set_cons_zero, List.set_cons_succ]
          refine wpTree_step ?_
          simp only [opsAt, List.getElem?_cons_zero, List.getElem?_cons_succ]
          go_wp2_with fail
          refine (unhide HL6).mono ?_
          rintro e w7 ⟨rfl, hw7⟩
          subst hw7
          go_wp2_with fail
          refine ⟨.inr hS6, ?_⟩
          refine wpTree_step ?_
          simp only [opsAt, List.getElem?_cons_zero, List.getElem?_cons_succ]
          go_wp2_with fail
          refine (unhide HA6).mono ?_
          rintro e w7 ⟨rfl, hw7⟩
          subst hw7
          go_wp2_with fail
          refine ⟨.inr hS6, ?_⟩
          refine wpTree_step ?_
          simp only [opsAt, List.getElem?_cons_zero, List.getElem?_cons_succ]
          go_wp2_with fail
          refine ⟨.inr (hS6), ?_⟩
          refine wpTree_step ?_
          simp only [opsAt, List.getElem?_cons_zero, List.getElem?_cons_succ]
          go_wp2_with fail
          refine ⟨.inr (hS6), ?_⟩
          refine wpTree_step ?_
          simp only [opsAt, List.getElem?_cons_zero, List.getElem?_cons_succ]
          go_wp2_with fail
          refine ⟨.inr (hS6), ?_⟩
          refine wpTree_step ?_
          simp only [opsAt, List.getElem?_cons_zero, List.getElem?_cons_succ]
          go_wp2_with fail
          refine ⟨.inr (hS6), ?_⟩
          refine wpTree_take (hS6) ?_
          simp only [opsAt, List.getElem?_cons_zero, List.getElem?_cons_succ]
          first | (refine wpPureH_step (v := ?_) rfl (fun W hS => ?_) ?_; rotate_left; · (obtain s1 := hS; (try simp only [Act.put, List.setIfInBounds_toArray, List.set_cons_zero, List.set_cons_succ]); go_simp; with_reducible rfl)) | (refine wpPureH_want (v := ?_) (by rfl) (fun W hS => ?_) ?_; rotate_left; · (obtain s1 := hS; (try simp only [Act.put, List.setIfInBounds_toArray, List.set_cons_zero, List.set_cons_succ]); go_simp; with_reducible rfl))
          first | (refine wpPureH_step (v := ?_) rfl (fun W hS => ?_) ?_; rotate_left; · (obtain s1 := hS; (try simp only [Act.put, List.setIfInBounds_toArray, List.set_cons_zero, List.set_cons_succ]); go_simp; with_reducible rfl)) | (refine wpPureH_want (v := ?_) (by rfl) (fun W hS => ?_) ?_; rotate_left; · (obtain s1 := hS; (try simp only [Act.put, List.setIfInBounds_toArray, List.set_cons_zero, List.set_cons_succ]); go_simp; with_reducible rfl))
          first | (refine wpPureH_step (v := ?_) rfl (fun W hS => ?_) ?_; rotate_left; · (obtain s1 := hS; (try simp only [Act.put, List.setIfInBounds_toArray, List.set_cons_zero, List.set_cons_succ]); go_simp; with_reducible rfl)) | (refine wpPureH_want (v := ?_) (by rfl) (fun W hS => ?_) ?_; rotate_left; · (obtain s1 := hS; (try simp only [Act.put, List.setIfInBounds_toArray, List.set_cons_zero, List.set_cons_succ]); go_simp; with_reducible rfl))
          refine wpPureH_nil ?_
          simp only [Act.put, List.setIfInBounds_toArray, List.set_cons_zero, List.set_cons_succ]
          refine wpTree_step ?_
          simp only [opsAt, List.getElem?_cons_zero, List.getElem?_cons_succ]
          go_wp2_with fail
          refine (unhide HC6).mono ?_
          rintro e w7 ⟨rfl, hw7⟩
          subst hw7
          go_wp2_with fail
          refine ⟨.inr hS6, ?_⟩
          refine wpTree_step ?_
          simp only [opsAt, List.getElem?_cons_zero, List.getElem?_cons_succ]
          go_wp2_with fail
          refine ⟨.inr (hS6), ?_⟩
          refine wpTree_step ?_
          simp only [opsAt, List.getElem?_cons_zero, List.getElem?_cons_succ]
          go_wp2_with fail
          refine ⟨.inr (hS6), ?_⟩
          refine wpTree_fin ?_
          go_wp2_with fail
          go_roundg (len0 - j - 1)
          case measure => omega
          case rel => exact ⟨j + 1, L2, by go_num, by omega, hL2, hq6, hbb6⟩
        · have hlne : ls.isEmpty = false := by cases ls with | nil => exact absurd rfl hle | cons x l => rfl
          have hLL : L2 = L ++ [ls] := by rw [HL2E.out, addL, if_neg hle]
          have hq6d := hq6.drew
          obtain ⟨a8, c8, hc8⟩ := hq6d.cell
          have p2d : w6.drew.cell? ⟨wr.heap.size, 2, none⟩ = some (.string (S ls)) := p2
          have HSL := hide (hq6d.src hc8)
          have HQL := hide hq6d.qlt
          have HOL := hide hob6.lt
          have HFZ := hide hq6d.frozen
          have HQ6 := hide hq6d
          have HLL := hide hLL
          have HLE := hide hle
          have hnL : L.length ≤ 20000 := by
            have h1 := flat_le L HNE.out
            have h2 := HLFL.out
            omega
          clear hLL hq6 hq6d hle
          go_wp2_with fail
          refine wp_region_tree (fun W => W.cell? ⟨w1.heap.size + 1, 0, none⟩ = some (.slice a8 L.length c8) ∧ W.cell? ⟨wr.heap.size, 2, none⟩ = some (.string (S ls))) 6 (.take [0, 2, 3] (.two 1 (.step 4 (.step 5 (.step 6 (.fin)))) 4 (.step 1 (.step 5 (.step 6 (.fin)))))) (by kernel_rfl) (by kernel_rfl) (fun _ _ _ _ _ h => h) ?_
          refine wpTree_take (⟨hc8, p2d⟩) ?_
          simp only [opsAt, List.getElem?_cons_zero, List.getElem?_cons_succ]
          first | (refine wpPureH_step (v := ?_) rfl (fun W hS => ?_) ?_; rotate_left; · (obtain ⟨s1, s2⟩ := hS; (try simp only [Act.put, List.setIfInBounds_toArray, List.set_cons_zero, List.set_cons_succ]); go_simp; with_reducible rfl)) | (refine wpPureH_want (v := ?_) (by rfl) (fun W hS => ?_) ?_; rotate_left; · (obtain ⟨s1, s2⟩ := hS; (try simp only [Act.put, List.setIfInBounds_toArray, List.set_cons_zero, List.set_cons_succ]); go_simp; with_reducible rfl))
          first | (refine wpPureH_step (v := ?_) rfl (fun W hS => ?_) ?_; rotate_left; · (obtain ⟨s1, s2⟩ := hS; (try simp only [Act.put, List.setIfInBounds_toArray, List.set_cons_zero, List.set_cons_succ]); go_simp; with_reducible rfl)) | (refine wpPureH_want (v := ?_) (by rfl) (fun W hS => ?_) ?_; rotate_left; · (obtain ⟨s1, s2⟩ := hS; (try simp only [Act.put, List.setIfInBounds_toArray, List.set_cons_zero, List.set_cons_succ]); go_simp; with_reducible rfl))
          first | (refine wpPureH_step (v := ?_) rfl (fun W hS => ?_) ?_; rotate_left; · (obtain ⟨s1, s2⟩ := hS; (try simp only [Act.put, List.setIfInBounds_toArray, List.set_cons_zero, List.set_cons_succ]); go_simp; with_reducible rfl)) | (refine wpPureH_want (v := ?_) (by rfl) (fun W hS => ?_) ?_; rotate_left; · (obtain ⟨s1, s2⟩ := hS; (try simp only [Act.put, List.setIfInBounds_toArray, List.set_cons_zero, List.set_cons_succ]); go_simp; with_reducible rfl))
          refine wpPureH_nil ?_
          simp only [Act.put, List.setIfInBounds_toArray, List.set_cons_zero, List.set_cons_succ]
          refine wpTree_two ?_ ?_
          · refine wpTree_step ?_
            simp only [opsAt, List.getElem?_cons_zero, List.getElem?_cons_succ]
            refine wpList_append_slN rfl (.const (.slice none 0 0)) (.tmp 61) 25 rfl (.string ByteArray.empty) 16 Try.underlying25 info_str2 rfl (by decide) (SlN.nil w6.drew w6.heap.size 9 1) HSL.out.src rfl rfl (by rw [HSL.out.len]) (by intro y hy; obtain ⟨l, _, rfl⟩ := List.mem_map.1 hy; rfl) (by unfold maxLen; omega) (by omega) (Nat.le_refl _) ?_
            intro v1 w7 hv1 ho1 hf1
            rw [Nat.zero_add, List.nil_append] at hv1
            obtain ⟨a7, c7, hv7⟩ := hv1.form
            subst hv7
            have hfx : Only [] w6.drew w7 := by simpa [slB] using ho1
            have hsx : (w7).cell? ⟨w1.heap.size + 1, 0, none⟩ = some (.slice a8 L.length c8) ∧ (w7).cell? ⟨wr.heap.size, 2, none⟩ = some (.string (S ls)) :=
              ⟨(hfx.nil_below.cell (p := ⟨w1.heap.size + 1, 0, none⟩) HQL.out).trans hc8, (hfx.nil_below.cell (p := ⟨wr.heap.size, 2, none⟩) HOL.out).trans p2d⟩
            clear ho1 hf1
            go_wp2_with fail
            refine ⟨.inr hsx, ?_⟩
            refine wpTree_step ?_
            simp only [opsAt, List.getElem?_cons_zero, List.getElem?_cons_succ]
            go_wp2_with fail
            have hv1 := hv1.alloc (.cells #[.string (S ls)] 9)
            have hsw : w6.heap.size ≤ w7.heap.size := hfx.size
            have hb1 := SlN.one (base := w6.heap.size) hsw (Blk.new w7 9 #[.string (S ls)])
            have hfx0 := hfx
            have hfx : Only [] w6.drew (w7.alloc (.cells #[.string (S ls)] 9)) := hfx0.alloc _
            have hsx : ((w7.alloc (.cells #[.string (S ls)] 9))).cell? ⟨w1.heap.size + 1, 0, none⟩ = some (.slice a8 L.length c8) ∧ ((w7.alloc (.cells #[.string (S ls)] 9))).cell? ⟨wr.heap.size, 2, none⟩ = some (.string (S ls)) :=
              ⟨(hfx.nil_below.cell (p := ⟨w1.heap.size + 1, 0, none⟩) HQL.out).trans hc8, (hfx.nil_below.cell (p := ⟨wr.heap.size, 2, none⟩) HOL.out).trans p2d⟩
            refine ⟨.inr hsx, ?_⟩
            refine wpTree_step ?_
            simp only [opsAt, List.getElem?_cons_zero, List.getElem?_cons_succ]
            refine wpList_append_slN rfl (.tmp 62) (.tmp 65) 25 rfl (.string ByteArray.empty) 16 Try.underlying25 info_str2 rfl (by decide) hv1 hb1.src rfl rfl rfl (by intro y hy; rw [List.mem_singleton.1 hy]; rfl) (by unfold maxLen; omega) (by omega) hfx.size ?_
            clear hb1 hfx0
            intro v2 w9 hv2 ho2 hf2
            have hL2s : SlN w9 w6.heap.size 9 1 v2 L2.length (strV L2) := by
              rw [HLL.out, List.length_append, strV_append]
              exact hv2
            have hf9 : ∀ k ∈ slB v2, w6.drew.heap.size ≤ k := fun k hk => (hL2s.lt k hk).1
            have ho9 : Only [] w6.drew w9 := by
              refine Only.trans_new (T := slB (.slice a7 L.length c7)) hfx (by simpa using ho2) (fun k hk => ?_)
              exact (hv1.lt k hk).1
            obtain ⟨a9, c9, hv9⟩ := hL2s.form
            subst hv9
            have hput := HQ6.out.put ho9 (hL2s.mono (by have := hbb6.size; exact this)) hf9 (by
              rw [HLL.out]
              intro l hl
              rcases List.mem_append.1 hl with hl | hl
              · exact HNE.out l hl
              · rw [List.mem_singleton.1 hl]; exact HLE.out)
            have hfz9 : w9.frozen? ⟨w1.heap.size + 1, 0, none⟩ = false := (ho9.nil_below.frozen (p := ⟨w1.heap.size + 1, 0, none⟩) HQL.out).trans HFZ.out
            have hc9 : w9.cell? ⟨w1.heap.size + 1, 0, none⟩ = some (.slice a8 L.length c8) := (ho9.nil_below.cell (p := ⟨w1.heap.size + 1, 0, none⟩) HQL.out).trans hc8
            have hp9 : w9.cell? ⟨wr.heap.size, 2, none⟩ = some (.string (S ls)) := (ho9.nil_below.cell (p := ⟨wr.heap.size, 2, none⟩) HOL.out).trans p2d
            have hob9 := hput.2.2 _ _ hob6.drew
            have hb2 := hbb6.drew.trans hput.2.1
            have hq2 := hput.1
            clear hv1 hfx hsx hv2 ho2 hf2 hL2s hf9 ho9 hput
            go_wp2_with fail
            refine ⟨.inr ⟨hc9, hp9⟩, ?_⟩
            refine wpTree_step ?_
            simp only [opsAt, List.getElem?_cons_zero, List.getElem?_cons_succ]
            go_wp2_with fail
            refine ⟨.inl trivial, wpTree_fin ?_⟩
            clear hc9 hp9 hfz9 hc8 p2d p2 hob6 hbb6 hob9
            as_aux_lemma =>
            obtain ⟨lf2, hlf2⟩ : ∃ lf2, lf2 = L2.flatten := ⟨_, rfl⟩
            have hlf2l : lf2.length ≤ 200 * (j + 1) := by rw [hlf2]; exact hL2.out
            have hq2 := hq2.drew
            have hb2 := hb2.drew
            have HAL := hide (all_H hq2 (by rw [← hlf2]; omega) lf2 hlf2)
            obtain ⟨a9, c9, hS9⟩ := hq2.cell
            have HAC := fun W (hW : QH W w.heap.size w1.heap.size (w1.heap.size + 1) L2 L2) => hide (allc_H hW (by rw [← hlf2]; omega) lf2 hlf2)
            have HLE := fun W (hW : QH W w.heap.size w1.heap.size (w1.heap.size + 1) L2 L2) => hide (len_H hW lf2.length (by rw [hlf2]))
            have HCH := fun W (hW : QH W w.heap.size w1.heap.size (w1.heap.size + 1) L2 L2) => hide (chunks_H hW L2.length rfl)
            clear hlf2
            go_wp2_with fail
            refine wp_region_tree (fun W => W.cell? ⟨w1.heap.size + 1, 0, none⟩ = some (.slice a9 L2.length c9)) 99 (.take [0, 2] (.step 1 (.step 3 (.step 4 (.step 5 (.take [6, 8] (.step 7 (.step 9 (.step 10 (.step 11 (.step 12 (.step 13 (.take [14, 16, 17] (.step 15 (.step 18 (.step 19 (.fin))))))))))))))))) (by kernel_rfl) (by kernel_rfl) (fun _ _ _ _ _ h => h) ?_
            refine wpTree_take (hS9) ?_
            simp only [opsAt, List.getElem?_cons_zero, List.getElem?_cons_succ]
            first | (refine wpPureH_step (v := ?_) rfl (fun W hS => ?_) ?_; rotate_left; · (obtain s1 := hS; (try simp only [Act.put, List.setIfInBounds_toArray, List.set_cons_zero, List.set_cons_succ]); go_simp; with_reducible rfl)) | (refine wpPureH_want (v := ?_) (by rfl) (fun W hS => ?_) ?_; rotate_left; · (obtain s1 := hS; (try simp only [Act.put, List.setIfInBounds_toArray, List.set_cons_zero, List.set_cons_succ]); go_simp; with_reducible rfl))
            first | (refine wpPureH_step (v := ?_) rfl (fun W hS => ?_) ?_; rotate_left; · (obtain s1 := hS; (try simp only [Act.put, List.setIfInBounds_toArray, List.set_cons_zero, List.set_cons_succ]); go_simp; with_reducible rfl)) | (refine wpPureH_want (v := ?_) (by rfl) (fun W hS => ?_) ?_; rotate_left; · (obtain s1 := hS; (try simp only [Act.put, List.setIfInBounds_toArray, List.set_cons_zero, List.set_cons_succ]); go_simp; with_reducible rfl))
            refine wpPureH_nil ?_
            simp only [Act.put, List.setIfInBounds_toArray, List.set_cons_zero, List.set_cons_succ]
            refine wpTree_step ?_
            simp only [opsAt, List.getElem?_cons_zero, List.getElem?_cons_succ]
            go_wp2_with fail
            refine (unhide HAL).mono ?_
            rintro e w6 ⟨rfl, hq6, hb6⟩
            have hS6 := (hb6.cell (p := ⟨w1.heap.size + 1, 0, none⟩) (block_lt_of_cell hS9)).trans hS9
            have hbb6 := hb2.trans (hb6.mono hb2.size)
            have HA6 := HAC w6 hq6
            have HL6 := HLE w6 hq6
            have HC6 := HCH w6 hq6
            clear HAC HLE HCH HAL hq2 hb2 hb6 hS9
            go_wp2_with fail
            refine ⟨.inr hS6, ?_⟩
            refine wpTree_step ?_
            simp only [opsAt, List.getElem?_cons_zero, List.getElem?_cons_succ]
            go_wp2_with fail
            refine (unhide HA6).mono ?_
            rintro e w7 ⟨rfl, hw7⟩
            subst hw7
            go_wp2_with fail
            refine ⟨.inr hS6, ?_⟩
            refine wpTree_step ?_
            simp only [opsAt, List.getElem?_cons_zero, List.getElem?_cons_succ]
            go_wp2_with fail
            refine ⟨.inr (hS6), ?_⟩
            refine wpTree_step ?_
            simp only [opsAt, List.getElem?_cons_zero, List.getElem?_cons_succ]
            go_wp2_with fail
            refine ⟨.inr (hS6), ?_⟩
            refine wpTree_take (hS6) ?_
            simp only [opsAt, List.getElem?_cons_zero, List.getElem?_cons_succ]
            first | (refine wpPureH_step (v := ?_) rfl (fun W hS => ?_) ?_; rotate_left; · (obtain s1 := hS; (try simp only [Act.put, List.setIfInBounds_toArray, List.set_cons_zero, List.set_cons_succ]); go_simp; with_reducible rfl)) | (refine wpPureH_want (v := ?_) (by rfl) (fun W hS => ?_) ?_; rotate_left; · (obtain s1 := hS; (try simp only [Act.put, List.setIfInBounds_toArray, List.set_cons_zero, List.set_cons_succ]); go_simp; with_reducible rfl))
            first | (refine wpPureH_step (v := ?_) rfl (fun W hS => ?_) ?_; rotate_left; · (obtain s1 := hS; (try simp only [Act.put, List.setIfInBounds_toArray, List.set_cons_zero, List.set_cons_succ]); go_simp; with_reducible rfl)) | (refine wpPureH_want (v := ?_) (by rfl) (fun W hS => ?_) ?_; rotate_left; · (obtain s1 := hS; (try simp only [Act.put, List.setIfInBounds_toArray, List.set_cons_zero, List.set_cons_succ]); go_simp; with_reducible rfl))
            refine wpPureH_nil ?_
            simp only [Act.put, List.setIfInBounds_toArray, List.set_cons_zero, List.set_cons_succ]
            refine wpTree_step ?_
            simp only [opsAt, List.getElem?_cons_zero, List.getElem?_cons_succ]
            go_wp2_with fail
            refine (unhide HL6).mono ?_
            rintro e w7 ⟨rfl, hw7⟩
            subst hw7
            go_wp2_with fail
            refine ⟨.inr hS6, ?_⟩
            refine wpTree_step ?_
            simp only [opsAt, List.getElem?_cons_zero, List.getElem?_cons_succ]
            go_wp2_with fail
            refine (unhide HA6).mono ?_
            rintro e w7 ⟨rfl, hw7⟩
            subst hw7
            go_wp2_with fail
            refine ⟨.inr hS6, ?_⟩
            refine wpTree_step ?_
            simp only [opsAt, List.getElem?_cons_zero, List.getElem?_cons_succ]
            go_wp2_with fail
            refine ⟨.inr (hS6), ?_⟩
            refine wpTree_step ?_
            simp only [opsAt, List.getElem?_cons_zero, List.getElem?_cons_succ]
            go_wp2_with fail
            refine ⟨.inr (hS6), ?_⟩
            refine wpTree_step ?_
            simp only [opsAt, List.getElem?_cons_zero, List.getElem?_cons_succ]
            go_wp2_with fail
            refine ⟨.inr (hS6), ?_⟩
            refine wpTree_step ?_
            simp only [opsAt, List.getElem?_cons_zero, List.getElem?_cons_succ]
            go_wp2_with fail
            refine ⟨.inr (hS6), ?_⟩
            refine wpTree_take (hS6) ?_
            simp only [opsAt, List.getElem?_cons_zero, List.getElem?_cons_succ]
            first | (refine wpPureH_step (v := ?_) rfl (fun W hS => ?_) ?_; rotate_left; · (obtain s1 := hS; (try simp only [Act.put, List.setIfInBounds_toArray, List.set_cons_zero, List.set_cons_succ]); go_simp; with_reducible rfl)) | (refine wpPureH_want (v := ?_) (by rfl) (fun W hS => ?_) ?_; rotate_left; · (obtain s1 := hS; (try simp only [Act.put, List.setIfInBounds_toArray, List.set_cons_zero, List.set_cons_succ]); go_simp; with_reducible rfl))
            first | (refine wpPureH_step (v := ?_) rfl (fun W hS => ?_) ?_; rotate_left; · (obtain s1 := hS; (try simp only [Act.put, List.setIfInBounds_toArray, List.set_cons_zero, List.set_cons_succ]); go_simp; with_reducible rfl)) | (refine wpPureH_want (v := ?_) (by rfl) (fun W hS => ?_) ?_; rotate_left; · (obtain s1 := hS; (try simp only [Act.put, List.setIfInBounds_toArray, List.set_cons_zero, List.set_cons_succ]); go_simp; with_reducible rfl))
            first | (refine wpPureH_step (v := ?_) rfl (fun W hS => ?_) ?_; rotate_left; · (obtain s1 := hS; (try simp only [Act.put, List.setIfInBounds_toArray, List.set_cons_zero, List.set_cons_succ]); go_simp; with_reducible rfl)) | (refine wpPureH_want (v := ?_) (by rfl) (fun W hS => ?_) ?_; rotate_left; · (obtain s1 := hS; (try simp only [Act.put, List.setIfInBounds_toArray, List.set_cons_zero, List.set_cons_succ]); go_simp; with_reducible rfl))
            refine wpPureH_nil ?_
            simp only [Act.put, List.setIfInBounds_toArray, List.set_cons_zero, List.set_cons_succ]
            refine wpTree_step ?_
            simp only [opsAt, List.getElem?_cons_zero, List.getElem?_cons_succ]
            go_wp2_with fail
            refine (unhide HC6).mono ?_
            rintro e w7 ⟨rfl, hw7⟩
            subst hw7
            go_wp2_with fail
            refine ⟨.inr hS6, ?_⟩
            refine wpTree_step ?_
            simp only [opsAt, List.getElem?_cons_zero, List.getElem?_cons_succ]
            go_wp2_with fail
            refine ⟨.inr (hS6), ?_⟩
            refine wpTree_step ?_
            simp only [opsAt, List.getElem?_cons_zero, List.getElem?_cons_succ]
            go_wp2_with fail
            refine ⟨.inr (hS6), ?_⟩
            refine wpTree_fin ?_
            go_wp2_with fail
            go_roundg (len0 - j - 1)
            case measure => omega
            case rel => exact ⟨j + 1, L2, by go_num, by omega, hL2, hq6, hbb6⟩
          · refine wpTree_step ?_
            simp only [opsAt, List.getElem?_cons_zero, List.getElem?_cons_succ]
            go_wp2_with fail
            have hfx : Only [] w6.drew (w6.alloc (.cells #[.string (S ls)] 9)).drew := (Only.refl [] w6.drew).alloc (.cells #[.string (S ls)] 9)
            have hb1 := SlN.one (base := w6.heap.size) (Nat.le_refl _) (Blk.new w6 9 #[.string (S ls)]).drew
            have hfx0 := hfx
            have hfx : Only [] w6.drew (w6.alloc (.cells #[.string (S ls)] 9)).drew := hfx0
            have hsx : ((w6.alloc (.cells #[.string (S ls)] 9)).drew).cell? ⟨w1.heap.size + 1, 0, none⟩ = some (.slice a8 L.length c8) ∧ ((w6.alloc (.cells #[.string (S ls)] 9)).drew).cell? ⟨wr.heap.size, 2, none⟩ = some (.string (S ls)) :=
              ⟨(hfx.nil_below.cell (p := ⟨w1.heap.size + 1, 0, none⟩) HQL.out).trans hc8, (hfx.nil_below.cell (p := ⟨wr.heap.size, 2, none⟩) HOL.out).trans p2d⟩
            refine ⟨.inr hsx, ?_⟩
            refine wpTree_step ?_
            simp only [opsAt, List.getElem?_cons_zero, List.getElem?_cons_succ]
            have hsl2 := ((HSL.out.keep hfx (fun _ _ h => by cases h)))
            refine wpList_append_slN rfl (.const (.slice none 0 0)) (.tmp 61) 25 rfl (.string ByteArray.empty) 16 Try.underlying25 info_str2 rfl (by decide) (SlN.nil (w6.alloc (.cells #[.string (S ls)] 9)).drew w6.heap.size 9 1) hsl2.src rfl rfl (by rw [hsl2.len]) (by intro y hy; obtain ⟨l, _, rfl⟩ := List.mem_map.1 hy; rfl) (by unfold maxLen; omega) (by omega) hfx.size ?_
            intro v1 w7 hv1 ho1 hf1
            rw [Nat.zero_add, List.nil_append] at hv1
            obtain ⟨a7, c7, hv7⟩ := hv1.form
            subst hv7
            have hb1 := hb1.keep ho1 (by simp [slB])
            have hfx0 : Only [] w6.drew w7 := hfx.trans (by simpa [slB] using ho1)
            have hfx : Only [] w6.drew w7 := hfx0
            have hsx : (w7).cell? ⟨w1.heap.size + 1, 0, none⟩ = some (.slice a8 L.length c8) ∧ (w7).cell? ⟨wr.heap.size, 2, none⟩ = some (.string (S ls)) :=
              ⟨(hfx.nil_below.cell (p := ⟨w1.heap.size + 1, 0, none⟩) HQL.out).trans hc8, (hfx.nil_below.cell (p := ⟨wr.heap.size, 2, none⟩) HOL.out).trans p2d⟩
            clear hf1 hsl2
            go_wp2_with fail
            refine ⟨.inr hsx, ?_⟩
            refine wpTree_step ?_
            simp only [opsAt, List.getElem?_cons_zero, List.getElem?_cons_succ]
            refine wpList_append_slN rfl (.tmp 62) (.tmp 65) 25 rfl (.string ByteArray.empty) 16 Try.underlying25 info_str2 rfl (by decide) hv1 hb1.src rfl rfl rfl (by intro y hy; rw [List.mem_singleton.1 hy]; rfl) (by unfold maxLen; omega) (by omega) hfx.size ?_
            clear hb1 hfx0 ho1
            intro v2 w9 hv2 ho2 hf2
            have hL2s : SlN w9 w6.heap.size 9 1 v2 L2.length (strV L2) := by
              rw [HLL.out, List.length_append, strV_append]
              exact hv2
            have hf9 : ∀ k ∈ slB v2, w6.drew.heap.size ≤ k := fun k hk => (hL2s.lt k hk).1
            have ho9 : Only [] w6.drew w9 := by
              refine Only.trans_new (T := slB (.slice a7 L.length c7)) hfx (by simpa using ho2) (fun k hk => ?_)
              exact (hv1.lt k hk).1
            obtain ⟨a9, c9, hv9⟩ := hL2s.form
            subst hv9
            have hput := HQ6.out.put ho9 (hL2s.mono (by have := hbb6.size; exact this)) hf9 (by
              rw [HLL.out]
              intro l hl
              rcases List.mem_append.1 hl with hl | hl
              · exact HNE.out l hl
              · rw [List.mem_singleton.1 hl]; exact HLE.out)
            have hfz9 : w9.frozen? ⟨w1.heap.size + 1, 0, none⟩ = false := (ho9.nil_below.frozen (p := ⟨w1.heap.size + 1, 0, none⟩) HQL.out).trans HFZ.out
            have hc9 : w9.cell? ⟨w1.heap.size + 1, 0, none⟩ = some (.slice a8 L.length c8) := (ho9.nil_below.cell (p := ⟨w1.heap.size + 1, 0, none⟩) HQL.out).trans hc8
            have hp9 : w9.cell? ⟨wr.heap.size, 2, none⟩ = some (.string (S ls)) := (ho9.nil_below.cell (p := ⟨wr.heap.size, 2, none⟩) HOL.out).trans p2d
            have hob9 := hput.2.2 _ _ hob6.drew
            have hb2 := hbb6.drew.trans hput.2.1
            have hq2 := hput.1
            clear hv1 hfx hsx hv2 ho2 hf2 hL2s hf9 ho9 hput
            go_wp2_with fail
            refine ⟨.inr ⟨hc9, hp9⟩, ?_⟩
            refine wpTree_step ?_
            simp only [opsAt, List.getElem?_cons_zero, List.getElem?_cons_succ]
            go_wp2_with fail
            refine ⟨.inl trivial, wpTree_fin ?_⟩
            clear hc9 hp9 hfz9 hc8 p2d p2 hob6 hbb6 hob9
            as_aux_lemma =>
            obtain ⟨lf2, hlf2⟩ : ∃ lf2, lf2 = L2.flatten := ⟨_, rfl⟩
            have hlf2l : lf2.length ≤ 200 * (j + 1) := by rw [hlf2]; exact hL2.out
            have hq2 := hq2.drew
            have hb2 := hb2.drew
            have HAL := hide (all_H hq2 (by rw [← hlf2]; omega) lf2 hlf2)
            obtain ⟨a9, c9, hS9⟩ := hq2.cell
            have HAC := fun W (hW : QH W w.heap.size w1.heap.size (w1.heap.size + 1) L2 L2) => hide (allc_H hW (by rw [← hlf2]; omega) lf2 hlf2)
            have HLE := fun W (hW : QH W w.heap.size w1.heap.size (w1.heap.size + 1) L2 L2) => hide (len_H hW lf2.length (by rw [hlf2]))
            have HCH := fun W (hW : QH W w.heap.size w1.heap.size (w1.heap.size + 1) L2 L2) => hide (chunks_H hW L2.length rfl)
            clear hlf2
            go_wp2_with fail
            refine wp_region_tree (fun W => W.cell? ⟨w1.heap.size + 1, 0, none⟩ = some (.slice a9 L2.length c9)) 99 (.take [0, 2] (.step 1 (.step 3 (.step 4 (.step 5 (.take [6, 8] (.step 7 (.step 9 (.step 10 (.step 11 (.step 12 (.step 13 (.take [14, 16, 17] (.step 15 (.step 18 (.step 19 (.fin))))))))))))))))) (by kernel_rfl) (by kernel_rfl) (fun _ _ _ _ _ h => h) ?_
            refine wpTree_take (hS9) ?_
            simp only [opsAt, List.getElem?_cons_zero, List.getElem?_cons_succ]
            first | (refine wpPureH_step (v := ?_) rfl (fun W hS => ?_) ?_; rotate_left; · (obtain s1 := hS; (try simp only [Act.put, List.setIfInBounds_toArray, List.set_cons_zero, List.set_cons_succ]); go_simp; with_reducible rfl)) | (refine wpPureH_want (v := ?_) (by rfl) (fun W hS => ?_) ?_; rotate_left; · (obtain s1 := hS; (try simp only [Act.put, List.setIfInBounds_toArray, List.set_cons_zero, List.set_cons_succ]); go_simp; with_reducible rfl))
            first | (refine wpPureH_step (v := ?_) rfl (fun W hS => ?_) ?_; rotate_left; · (obtain s1 := hS; (try simp only [Act.put, List.setIfInBounds_toArray, List.set_cons_zero, List.set_cons_succ]); go_simp; with_reducible rfl)) | (refine wpPureH_want (v := ?_) (by rfl) (fun W hS => ?_) ?_; rotate_left; · (obtain s1 := hS; (try simp only [Act.put, List.setIfInBounds_toArray, List.set_cons_zero, List.set_cons_succ]); go_simp; with_reducible rfl))
            refine wpPureH_nil ?_
            simp only [Act.put, List.setIfInBounds_toArray, List.set_cons_zero, List.set_cons_succ]
            refine wpTree_step ?_
            simp only [opsAt, List.getElem?_cons_zero, List.getElem?_cons_succ]
            go_wp2_with fail
            refine (unhide HAL).mono ?_
            rintro e w6 ⟨rfl, hq6, hb6⟩
            have hS6 := (hb6.cell (p := ⟨w1.heap.size + 1, 0, none⟩) (block_lt_of_cell hS9)).trans hS9
            have hbb6 := hb2.trans (hb6.mono hb2.size)
            have HA6 := HAC w6 hq6
            have HL6 := HLE w6 hq6
            have HC6 := HCH w6 hq6
            clear HAC HLE HCH HAL hq2 hb2 hb6 hS9
            go_wp2_with fail
            refine ⟨.inr hS6, ?_⟩
            refine wpTree_step ?_
            simp only [opsAt, List.getElem?_cons_zero, List.getElem?_cons_succ]
            go_wp2_with fail
            refine (unhide HA6).mono ?_
            rintro e w7 ⟨rfl, hw7⟩
            subst hw7
            go_wp2_with fail
            refine ⟨.inr hS6, ?_⟩
            refine wpTree_step ?_
            simp only [opsAt, List.getElem?_cons_zero, List.getElem?_cons_succ]
            go_wp2_with fail
            refine ⟨.inr (hS6), ?_⟩
            refine wpTree_step ?_
            simp only [opsAt, List.getElem?_cons_zero, List.getElem?_cons_succ]
            go_wp2_with fail
            refine ⟨.inr (hS6), ?_⟩
            refine wpTree_take (hS6) ?_
            simp only [opsAt, List.getElem?_cons_zero, List.getElem?_cons_succ]
            first | (refine wpPureH_step (v := ?_) rfl (fun W hS => ?_) ?_; rotate_left; · (obtain s1 := hS; (try simp only [Act.put, List.setIfInBounds_toArray, List.set_cons_zero, List.set_cons_succ]); go_simp; with_reducible rfl)) | (refine wpPureH_want (v := ?_) (by rfl) (fun W hS => ?_) ?_; rotate_left; · (obtain s1 := hS; (try simp only [Act.put, List.setIfInBounds_toArray, List.set_cons_zero, List.set_cons_succ]); go_simp; with_reducible rfl))
            first | (refine wpPureH_step (v := ?_) rfl (fun W hS => ?_) ?_; rotate_left; · (obtain s1 := hS; (try simp only [Act.put, List.setIfInBounds_toArray, List.set_cons_zero, List.set_cons_succ]); go_simp; with_reducible rfl)) | (refine wpPureH_want (v := ?_) (by rfl) (fun W hS => ?_) ?_; rotate_left; · (obtain s1 := hS; (try simp only [Act.put, List.setIfInBounds_toArray, List.set_cons_zero, List.set_cons_succ]); go_simp; with_reducible rfl))
            refine wpPureH_nil ?_
            simp only [Act.put, List.setIfInBounds_toArray, List.set_cons_zero, List.set_cons_succ]
            refine wpTree_step ?_
            simp only [opsAt, List.getElem?_cons_zero, List.getElem?_cons_succ]
            go_wp2_with fail
            refine (unhide HL6).mono ?_
            rintro e w7 ⟨rfl, hw7⟩
            subst hw7
            go_wp2_with fail
            refine ⟨.inr hS6, ?_⟩
            refine wpTree_step ?_
            simp only [opsAt, List.getElem?_cons_zero, List.getElem?_cons_succ]
            go_wp2_with fail
            refine (unhide HA6).mono ?_
            rintro e w7 ⟨rfl, hw7⟩
            subst hw7
            go_wp2_with fail
            refine ⟨.inr hS6, ?_⟩
            refine wpTree_step ?_
            simp only [opsAt, List.getElem?_cons_zero, List.getElem?_cons_succ]
            go_wp2_with fail
            refine ⟨.inr (hS6), ?_⟩
            refine wpTree_step ?_
            simp only [opsAt, List.getElem?_cons_zero, List.getElem?_cons_succ]
            go_wp2_with fail
            refine ⟨.inr (hS6), ?_⟩
            refine wpTree_step ?_
            simp only [opsAt, List.getElem?_cons_zero, List.getElem?_cons_succ]
            go_wp2_with fail
            refine ⟨.inr (hS6), ?_⟩
            refine wpTree_step ?_
            simp only [opsAt, List.getElem?_cons_zero, List.getElem?_cons_succ]
            go_wp2_with fail
            refine ⟨.inr (hS6), ?_⟩
            refine wpTree_take (hS6) ?_
            simp only [opsAt, List.getElem?_cons_zero, List.getElem?_cons_succ]
            first | (refine wpPureH_step (v := ?_) rfl (fun W hS => ?_) ?_; rotate_left; · (obtain s1 := hS; (try simp only [Act.put, List.setIfInBounds_toArray, List.set_cons_zero, List.set_cons_succ]); go_simp; with_reducible rfl)) | (refine wpPureH_want (v := ?_) (by rfl) (fun W hS => ?_) ?_; rotate_left; · (obtain s1 := hS; (try simp only [Act.put, List.setIfInBounds_toArray, List.set_cons_zero, List.set_cons_succ]); go_simp; with_reducible rfl))
            first | (refine wpPureH_step (v := ?_) rfl (fun W hS => ?_) ?_; rotate_left; · (obtain s1 := hS; (try simp only [Act.put, List.setIfInBounds_toArray, List.set_cons_zero, List.set_cons_succ]); go_simp; with_reducible rfl)) | (refine wpPureH_want (v := ?_) (by rfl) (fun W hS => ?_) ?_; rotate_left; · (obtain s1 := hS; (try simp only [Act.put, List.setIfInBounds_toArray, List.set_cons_zero, List.set_cons_succ]); go_simp; with_reducible rfl))
            first | (refine wpPureH_step (v := ?_) rfl (fun W hS => ?_) ?_; rotate_left; · (obtain s1 := hS; (try simp only [Act.put, List.setIfInBounds_toArray, List.set_cons_zero, List.set_cons_succ]); go_simp; with_reducible rfl)) | (refine wpPureH_want (v := ?_) (by rfl) (fun W hS => ?_) ?_; rotate_left; · (obtain s1 := hS; (try simp only [Act.put, List.setIfInBounds_toArray, List.set_cons_zero, List.set_cons_succ]); go_simp; with_reducible rfl))
            refine wpPureH_nil ?_
            simp only [Act.put, List.setIfInBounds_toArray, List.set_cons_zero, List.set_cons_succ]
            refine wpTree_step ?_
            simp only [opsAt, List.getElem?_cons_zero, List.getElem?_cons_succ]
            go_wp2_with fail
            refine (unhide HC6).mono ?_
            rintro e w7 ⟨rfl, hw7⟩
            subst hw7
            go_wp2_with fail
            refine ⟨.inr hS6, ?_⟩
            refine wpTree_step ?_
            simp only [opsAt, List.getElem?_cons_zero, List.getElem?_cons_succ]
            go_wp2_with fail
            refine ⟨.inr (hS6), ?_⟩
            refine wpTree_step ?_
            simp only [opsAt, List.getElem?_cons_zero, List.getElem?_cons_succ]
            go_wp2_with fail
            refine ⟨.inr (hS6), ?_⟩
            refine wpTree_fin ?_
            go_wp2_with fail
            go_roundg (len0 - j - 1)
            case measure => omega
            case rel => exact ⟨j + 1, L2, by go_num, by omega, hL2, hq6, hbb6⟩
      have e1 : (K == 1) = false := by simpa using hK1
      by_cases hK2 : K = 2
      · subst hK2
        obtain ⟨L2, hL2e⟩ : ∃ L2, L2 = dropQ 1 L := ⟨_, rfl⟩
        have hL2 : Hid (L2.flatten.length ≤ 200 * (j + 1)) := by
          show _ ≤ _
          rw [hL2e, dropQ_flat, List.length_drop]
          have := hL.out
          omega
        have HL2E := hide hL2e
        have hl1 : L.flatten.length ≤ 1000000 := by have := HLFL.out; omega
        rcases lf with _ | ⟨b, r⟩
        · have hL0 : L = [] := by
            rcases L with _ | ⟨c, L⟩
            · rfl
            · have h1 := hqa.ne.1 c (List.mem_cons_self ..)
              have h2 := HLF.out
              rw [List.flatten_cons] at h2
              have h3 := List.append_eq_nil_iff.1 h2.symm
              exact absurd h3.1 h1
          have HN := hide (next_H hqa hl1 0 false (.inl ⟨hL0, rfl, rfl⟩) L2 hL2e)
          clear hL0
          clear hqa hL2e hl1
          go_wp2_with fail
          refine (unhide HN).mono ?_
          rintro e w6 ⟨rfl, hq6, hb6, hk6⟩
          have hbb6 := hba.trans hb6
          have HD := hide (dropc_H hq6 (by have := HLFL.out; omega) 1 1 rfl (by omega) L2 HL2E.out)
          clear HN hba hb6 hk6 o0 o1 o2 hoa hq6
          go_wp2_with fail
          refine (unhide HD).mono ?_
          rintro e w7 ⟨rfl, hq2, hb7, hk7⟩
          have hb2 := hbb6.trans hb7
          clear HD hbb6 hb7 hk7
          as_aux_lemma =>
          obtain ⟨lf2, hlf2⟩ : ∃ lf2, lf2 = L2.flatten := ⟨_, rfl⟩
          have hlf2l : lf2.length ≤ 200 * (j + 1) := by rw [hlf2]; exact hL2.out
          have hq2 := hq2.drew
          have hb2 := hb2.drew
          have HAL := hide (all_H hq2 (by rw [← hlf2]; omega) lf2 hlf2)
          obtain ⟨a9, c9, hS9⟩ := hq2.cell
          have HAC := fun W (hW : QH W w.heap.size w1.heap.size (w1.heap.size + 1) L2 L2) => hide (allc_H hW (by rw [← hlf2]; omega) lf2 hlf2)
          have HLE := fun W (hW : QH W w.heap.size w1.heap.size (w1.heap.size + 1) L2 L2) => hide (len_H hW lf2.length (by rw [hlf2]))
          have HCH := fun W (hW : QH W w.heap.size w1.heap.size (w1.heap.size + 1) L2 L2) => hide (chunks_H hW L2.length rfl)
          clear hlf2
          go_wp2_with fail
          refine wp_region_tree (fun W => W.cell? ⟨w1.heap.size + 1, 0, none⟩ = some (.slice a9 L2.length c9)) 99 (.take [0, 2] (.step 1 (.step 3 (.step 4 (.step 5 (.take [6, 8] (.step 7 (.step 9 (.step 10 (.step 11 (.step 12 (.step 13 (.take [14, 16, 17] (.step 15 (.step 18 (.step 19 (.fin))))))))))))))))) (by kernel_rfl) (by kernel_rfl) (fun _ _ _ _ _ h => h) ?_
          refine wpTree_take (hS9) ?_
          simp only [opsAt, List.getElem?_cons_zero, List.getElem?_cons_succ]
          first | (refine wpPureH_step (v := ?_) rfl (fun W hS => ?_) ?_; rotate_left; · (obtain s1 := hS; (try simp only [Act.put, List.setIfInBounds_toArray, List.set_cons_zero, List.set_cons_succ]); go_simp; with_reducible rfl)) | (refine wpPureH_want (v := ?_) (by rfl) (fun W hS => ?_) ?_; rotate_left; · (obtain s1 := hS; (try simp only [Act.put, List.setIfInBounds_toArray, List.set_cons_zero, List.set_cons_succ]); go_simp; with_reducible rfl))
          first | (refine wpPureH_step (v := ?_) rfl (fun W hS => ?_) ?_; rotate_left; · (obtain s1 := hS; (try simp only [Act.put, List.setIfInBounds_toArray, List.set_cons_zero, List.set_cons_succ]); go_simp; with_reducible rfl)) | (refine wpPureH_want (v := ?_) (by rfl) (fun W hS => ?_) ?_; rotate_left; · (obtain s1 := hS; (try simp only [Act.put, List.setIfInBounds_toArray, List.set_cons_zero, List.set_cons_succ]); go_simp; with_reducible rfl))
          refine wpPureH_nil ?_
          simp only [Act.put, List.setIfInBounds_toArray, List.set_cons_zero, List.set_cons_succ]
          refine wpTree_step ?_
          simp only [opsAt, List.getElem?_cons_zero, List.getElem?_cons_succ]
          go_wp2_with fail
          refine (unhide HAL).mono ?_
          rintro e w6 ⟨rfl, hq6, hb6⟩
          have hS6 := (hb6.cell (p := ⟨w1.heap.size + 1, 0, none⟩) (block_lt_of_cell hS9)).trans hS9
          have hbb6 := hb2.trans (hb6.mono hb2.size)
          have HA6 := HAC w6 hq6
          have HL6 := HLE w6 hq6
          have HC6 := HCH w6 hq6
          clear HAC HLE HCH HAL hq2 hb2 hb6 hS9
          go_wp2_with fail
          refine ⟨.inr hS6, ?_⟩
          refine wpTree_step ?_
          simp only [opsAt, List.getElem?_cons_zero, List.getElem?_cons_succ]
          go_wp2_with fail
          refine (unhide HA6).mono ?_
          rintro e w7 ⟨rfl, hw7⟩
          subst hw7
          go_wp2_with fail
          refine ⟨.inr hS6, ?_⟩
          refine wpTree_step ?_
          simp only [opsAt, List.getElem?_cons_zero, List.getElem?_cons_succ]
          go_wp2_with fail
          refine ⟨.inr (hS6), ?_⟩
          refine wpTree_step ?_
          simp only [opsAt, List.getElem?_cons_zero, List.getElem?_cons_succ]
          go_wp2_with fail
          refine ⟨.inr (hS6), ?_⟩
          refine wpTree_take (hS6) ?_
          simp only [opsAt, List.getElem?_cons_zero, List.getElem?_cons_succ]
          first | (refine wpPureH_step (v := ?_) rfl (fun W hS => ?_) ?_; rotate_left; · (obtain s1 := hS; (try simp only [Act.put, List.setIfInBounds_toArray, List.set_cons_zero, List.set_cons_succ]); go_simp; with_reducible rfl)) | (refine wpPureH_want (v := ?_) (by rfl) (fun W hS => ?_) ?_; rotate_left; · (obtain s1 := hS; (try simp only [Act.put, List.setIfInBounds_toArray, List.set_cons_zero, List.set_cons_succ]); go_simp; with_reducible rfl))
          first | (refine wpPureH_step (v := ?_) rfl (fun W hS => ?_) ?_; rotate_left; · (obtain s1 := hS; (try simp only [Act.put, List.setIfInBounds_toArray, List.set_cons_zero, List.set_cons_succ]); go_simp; with_reducible rfl)) | (refine wpPureH_want (v := ?_) (by rfl) (fun W hS => ?_) ?_; rotate_left; · (obtain s1 := hS; (try simp only [Act.put, List.setIfInBounds_toArray, List.set_cons_zero, List.set_cons_succ]); go_simp; with_reducible rfl))
          refine wpPureH_nil ?_
          simp only [Act.put, List.setIfInBounds_toArray, List.set_cons_zero, List.set_cons_succ]
          refine wpTree_step ?_
          simp only [opsAt, List.getElem?_cons_zero, List.getElem?_cons_succ]
          go_wp2_with fail
          refine (unhide HL6).mono ?_
          rintro e w7 ⟨rfl, hw7⟩
          subst hw7
          go_wp2_with fail
          refine ⟨.inr hS6, ?_⟩
          refine wpTree_step ?_
          simp only [opsAt, List.getElem?_cons_zero, List.getElem?_cons_succ]
          go_wp2_with fail
          refine (unhide HA6).mono ?_
          rintro e w7 ⟨rfl, hw7⟩
          subst hw7
          go_wp2_with fail
          refine ⟨.inr hS6, ?_⟩
          refine wpTree_step ?_
          simp only [opsAt, List.getElem?_cons_zero, List.getElem?_cons_succ]
          go_wp2_with fail
          refine ⟨.inr (hS6), ?_⟩
          refine wpTree_step ?_
          simp only [opsAt, List.getElem?_cons_zero, List.getElem?_cons_succ]
          go_wp2_with fail
          refine ⟨.inr (hS6), ?_⟩
          refine wpTree_step ?_
          simp only [opsAt, List.getElem?_cons_zero, List.getElem?_cons_succ]
          go_wp2_with fail
          refine ⟨.inr (hS6), ?_⟩
          refine wpTree_step ?_
          simp only [opsAt, List.getElem?_cons_zero, List.getElem?_cons_succ]
          go_wp2_with fail
          refine ⟨.inr (hS6), ?_⟩
          refine wpTree_take (hS6) ?_
          simp only [opsAt, List.getElem?_cons_zero, List.getElem?_cons_succ]
          first | (refine wpPureH_step (v := ?_) rfl (fun W hS => ?_) ?_; rotate_left; · (obtain s1 := hS; (try simp only [Act.put, List.setIfInBounds_toArray, List.set_cons_zero, List.set_cons_succ]); go_simp; with_reducible rfl)) | (refine wpPureH_want (v := ?_) (by rfl) (fun W hS => ?_) ?_; rotate_left; · (obtain s1 := hS; (try simp only [Act.put, List.setIfInBounds_toArray, List.set_cons_zero, List.set_cons_succ]); go_simp; with_reducible rfl))
          first | (refine wpPureH_step (v := ?_) rfl (fun W hS => ?_) ?_; rotate_left; · (obtain s1 := hS; (try simp only [Act.put, List.setIfInBounds_toArray, List.set_cons_zero, List.set_cons_succ]); go_simp; with_reducible rfl)) | (refine wpPureH_want (v := ?_) (by rfl) (fun W hS => ?_) ?_; rotate_left; · (obtain s1 := hS; (try simp only [Act.put, List.setIfInBounds_toArray, List.set_cons_zero, List.set_cons_succ]); go_simp; with_reducible rfl))
          first | (refine wpPureH_step (v := ?_) rfl (fun W hS => ?_) ?_; rotate_left; · (obtain s1 := hS; (try simp only [Act.put, List.setIfInBounds_toArray, List.set_cons_zero, List.set_cons_succ]); go_simp; with_reducible rfl)) | (refine wpPureH_want (v := ?_) (by rfl) (fun W hS => ?_) ?_; rotate_left; · (obtain s1 := hS; (try simp only [Act.put, List.setIfInBounds_toArray, List.set_cons_zero, List.set_cons_succ]); go_simp; with_reducible rfl))
          refine wpPureH_nil ?_
          simp only [Act.put, List.setIfInBounds_toArray, List.set_cons_zero, List.set_cons_succ]
          refine wpTree_step ?_
          simp only [opsAt, List.getElem?_cons_zero, List.getElem?_cons_succ]
          go_wp2_with fail
          refine (unhide HC6).mono ?_
          rintro e w7 ⟨rfl, hw7⟩
          subst hw7
          go_wp2_with fail
          refine ⟨.inr hS6, ?_⟩
          refine wpTree_step ?_
          simp only [opsAt, List.getElem?_cons_zero, List.getElem?_cons_succ]
          go_wp2_with fail
          refine ⟨.inr (hS6), ?_⟩
          refine wpTree_step ?_
          simp only [opsAt, List.getElem?_cons_zero, List.getElem?_cons_succ]
          go_wp2_with fail
          refine ⟨.inr (hS6), ?_⟩
          refine wpTree_fin ?_
          go_wp2_with fail
          go_roundg (len0 - j - 1)
          case measure => omega
          case rel => exact ⟨j + 1, L2, by go_num, by omega, hL2, hq6, hbb6⟩
        · have HN := hide (next_H hqa hl1 (b.toNat : Int) true (.inr ⟨b, r, HLF.out.symm, rfl, rfl⟩) L2 hL2e)
          have hix0 := index_S (P := Try.prog) Try.underlying9 (b :: r) 0 (by simp) 0 rfl (b.toNat : Int) rfl
          clear hqa hL2e hl1
          go_wp2_with fail
          refine (unhide HN).mono ?_
          rintro e w6 ⟨rfl, hq6, hb6, hk6⟩
          have hbb6 := hba.trans hb6
          have HD := hide (dropc_H hq6 (by have := HLFL.out; omega) 1 1 rfl (by omega) L2 HL2E.out)
          clear HN hba hb6 hk6 o0 o1 o2 hoa hq6
          go_wp2_with fail
          refine (unhide HD).mono ?_
          rintro e w7 ⟨rfl, hq2, hb7, hk7⟩
          have hb2 := hbb6.trans hb7
          clear HD hbb6 hb7 hk7
          as_aux_lemma =>
          obtain ⟨lf2, hlf2⟩ : ∃ lf2, lf2 = L2.flatten := ⟨_, rfl⟩
          have hlf2l : lf2.length ≤ 200 * (j + 1) := by rw [hlf2]; exact hL2.out
          have hq2 := hq2.drew
          have hb2 := hb2.drew
          have HAL := hide (all_H hq2 (by rw [← hlf2]; omega) lf2 hlf2)
          obtain ⟨a9, c9, hS9⟩ := hq2.cell
          have HAC := fun W (hW : QH W w.heap.size w1.heap.size (w1.heap.size + 1) L2 L2) => hide (allc_H hW (by rw [← hlf2]; omega) lf2 hlf2)
          have HLE := fun W (hW : QH W w.heap.size w1.heap.size (w1.heap.size + 1) L2 L2) => hide (len_H hW lf2.length (by rw [hlf2]))
          have HCH := fun W (hW : QH W w.heap.size w1.heap.size (w1.heap.size + 1) L2 L2) => hide (chunks_H hW L2.length rfl)
          clear hlf2
          go_wp2_with fail
          refine wp_region_tree (fun W => W.cell? ⟨w1.heap.size + 1, 0, none⟩ = some (.slice a9 L2.length c9)) 99 (.take [0, 2] (.step 1 (.step 3 (.step 4 (.step 5 (.take [6, 8] (.step 7 (.step 9 (.step 10 (.step 11 (.step 12 (.step 13 (.take [14, 16, 17] (.step 15 (.step 18 (.step 19 (.fin))))))))))))))))) (by kernel_rfl) (by kernel_rfl) (fun _ _ _ _ _ h => h) ?_
          refine wpTree_take (hS9) ?_
          simp only [opsAt, List.getElem?_cons_zero, List.getElem?_cons_succ]
          first | (refine wpPureH_step (v := ?_) rfl (fun W hS => ?_) ?_; rotate_left; · (obtain s1 := hS; (try simp only [Act.put, List.setIfInBounds_toArray, List.set_cons_zero, List.set_cons_succ]); go_simp; with_reducible rfl)) | (refine wpPureH_want (v := ?_) (by rfl) (fun W hS => ?_) ?_; rotate_left; · (obtain s1 := hS; (try simp only [Act.put, List.setIfInBounds_toArray, List.set_cons_zero, List.set_cons_succ]); go_simp; with_reducible rfl))
          first | (refine wpPureH_step (v := ?_) rfl (fun W hS => ?_) ?_; rotate_left; · (obtain s1 := hS; (try simp only [Act.put, List.setIfInBounds_toArray, List.set_cons_zero, List.set_cons_succ]); go_simp; with_reducible rfl)) | (refine wpPureH_want (v := ?_) (by rfl) (fun W hS => ?_) ?_; rotate_left; · (obtain s1 := hS; (try simp only [Act.put, List.setIfInBounds_toArray, List.set_cons_zero, List.set_cons_succ]); go_simp; with_reducible rfl))
          refine wpPureH_nil ?_
          simp only [Act.put, List.setIfInBounds_toArray, List.set_cons_zero, List.set_cons_succ]
          refine wpTree_step ?_
          simp only [opsAt, List.getElem?_cons_zero, List.getElem?_cons_succ]
          go_wp2_with fail
          refine (unhide HAL).mono ?_
          rintro e w6 ⟨rfl, hq6, hb6⟩
          have hS6 := (hb6.cell (p := ⟨w1.heap.size + 1, 0, none⟩) (block_lt_of_cell hS9)).trans hS9
          have hbb6 := hb2.trans (hb6.mono hb2.size)
          have HA6 := HAC w6 hq6
          have HL6 := HLE w6 hq6
          have HC6 := HCH w6 hq6
          clear HAC HLE HCH HAL hq2 hb2 hb6 hS9
          go_wp2_with fail
          refine ⟨.inr hS6, ?_⟩
          refine wpTree_step ?_
          simp only [opsAt, List.getElem?_cons_zero, List.getElem?_cons_succ]
          go_wp2_with fail
          refine (unhide HA6).mono ?_
          rintro e w7 ⟨rfl, hw7⟩
          subst hw7
          go_wp2_with fail
          refine ⟨.inr hS6, ?_⟩
          refine wpTree_step ?_
          simp only [opsAt, List.getElem?_cons_zero, List.getElem?_cons_succ]
          go_wp2_with fail
          refine ⟨.inr (hS6), ?_⟩
          refine wpTree_step ?_
          simp only [opsAt, List.getElem?_cons_zero, List.getElem?_cons_succ]
          go_wp2_with fail
          refine ⟨.inr (hS6), ?_⟩
          refine wpTree_take (hS6) ?_
          simp only [opsAt, List.getElem?_cons_zero, List.getElem?_cons_succ]
          first | (refine wpPureH_step (v := ?_) rfl (fun W hS => ?_) ?_; rotate_left; · (obtain s1 := hS; (try simp only [Act.put, List.setIfInBounds_toArray, List.set_cons_zero, List.set_cons_succ]); go_simp; with_reducible rfl)) | (refine wpPureH_want (v := ?_) (by rfl) (fun W hS => ?_) ?_; rotate_left; · (obtain s1 := hS; (try simp only [Act.put, List.setIfInBounds_toArray, List.set_cons_zero, List.set_cons_succ]); go_simp; with_reducible rfl))
          first | (refine wpPureH_step (v := ?_) rfl (fun W hS => ?_) ?_; rotate_left; · (obtain s1 := hS; (try simp only [Act.put, List.setIfInBounds_toArray, List.set_cons_zero, List.set_cons_succ]); go_simp; with_reducible rfl)) | (refine wpPureH_want (v := ?_) (by rfl) (fun W hS => ?_) ?_; rotate_left; · (obtain s1 := hS; (try simp only [Act.put, List.setIfInBounds_toArray, List.set_cons_zero, List.set_cons_succ]); go_simp; with_reducible rfl))
          refine wpPureH_nil ?_
          simp only [Act.put, List.setIfInBounds_toArray, List.set_cons_zero, List.set_cons_succ]
          refine wpTree_step ?_
          simp only [opsAt, List.getElem?_cons_zero, List.getElem?_cons_succ]
          go_wp2_with fail
          refine (unhide HL6).mono ?_
          rintro e w7 ⟨rfl, hw7⟩
          subst hw7
          go_wp2_with fail
          refine ⟨.inr hS6, ?_⟩
          refine wpTree_step ?_
          simp only [opsAt, List.getElem?_cons_zero, List.getElem?_cons_succ]
          go_wp2_with fail
          refine (unhide HA6).mono ?_
          rintro e w7 ⟨rfl, hw7⟩
          subst hw7
          go_wp2_with fail
          refine ⟨.inr hS6, ?_⟩
          refine wpTree_step ?_
          simp only [opsAt, List.getElem?_cons_zero, List.getElem?_cons_succ]
          go_wp2_with fail
          refine ⟨.inr (hS6), ?_⟩
          refine wpTree_step ?_
          simp only [opsAt, List.getElem?_cons_zero, List.getElem?_cons_succ]
          go_wp2_with fail
          refine ⟨.inr (hS6), ?_⟩
          refine wpTree_step ?_
          simp only [opsAt, List.getElem?_cons_zero, List.getElem?_cons_succ]
          go_wp2_with fail
          refine ⟨.inr (hS6), ?_⟩
          refine wpTree_step ?_
          simp only [opsAt, List.getElem?_cons_zero, List.getElem?_cons_succ]
          go_wp2_with fail
          refine ⟨.inr (hS6), ?_⟩
          refine wpTree_take (hS6) ?_
          simp only [opsAt, List.getElem?_cons_zero, List.getElem?_cons_succ]
          first | (refine wpPureH_step (v := ?_) rfl (fun W hS => ?_) ?_; rotate_left; · (obtain s1 := hS; (try simp only [Act.put, List.setIfInBounds_toArray, List.set_cons_zero, List.set_cons_succ]); go_simp; with_reducible rfl)) | (refine wpPureH_want (v := ?_) (by rfl) (fun W hS => ?_) ?_; rotate_left; · (obtain s1 := hS; (try simp only [Act.put, List.setIfInBounds_toArray, List.set_cons_zero, List.set_cons_succ]); go_simp; with_reducible rfl))
          first | (refine wpPureH_step (v := ?_) rfl (fun W hS => ?_) ?_; rotate_left; · (obtain s1 := hS; (try simp only [Act.put, List.setIfInBounds_toArray, List.set_cons_zero, List.set_cons_succ]); go_simp; with_reducible rfl)) | (refine wpPureH_want (v := ?_) (by rfl) (fun W hS => ?_) ?_; rotate_left; · (obtain s1 := hS; (try simp only [Act.put, List.setIfInBounds_toArray, List.set_cons_zero, List.set_cons_succ]); go_simp; with_reducible rfl))
          first | (refine wpPureH_step (v := ?_) rfl (fun W hS => ?_) ?_; rotate_left; · (obtain s1 := hS; (try simp only [Act.put, List.setIfInBounds_toArray, List.set_cons_zero, List.set_cons_succ]); go_simp; with_reducible rfl)) | (refine wpPureH_want (v := ?_) (by rfl) (fun W hS => ?_) ?_; rotate_left; · (obtain s1 := hS; (try simp only [Act.put, List.setIfInBounds_toArray, List.set_cons_zero, List.set_cons_succ]); go_simp; with_reducible rfl))
          refine wpPureH_nil ?_
          simp only [Act.put, List.setIfInBounds_toArray, List.set_cons_zero, List.set_cons_succ]
          refine wpTree_step ?_
          simp only [opsAt, List.getElem?_cons_zero, List.getElem?_cons_succ]
          go_wp2_with fail
          refine (unhide HC6).mono ?_
          rintro e w7 ⟨rfl, hw7⟩
          subst hw7
          go_wp2_with fail
          refine ⟨.inr hS6, ?_⟩
          refine wpTree_step ?_
          simp only [opsAt, List.getElem?_cons_zero, List.getElem?_cons_succ]
          go_wp2_with fail
          refine ⟨.inr (hS6), ?_⟩
          refine wpTree_step ?_
          simp only [opsAt, List.getElem?_cons_zero, List.getElem?_cons_succ]
          go_wp2_with fail
          refine ⟨.inr (hS6), ?_⟩
          refine wpTree_fin ?_
          go_wp2_with fail
          go_roundg (len0 - j - 1)
          case measure => omega
          case rel => exact ⟨j + 1, L2, by go_num, by omega, hL2, hq6, hbb6⟩
      have e2 : (K == 2) = false := by simpa using hK2
      by_cases hK3 : K = 3
      · subst hK3
        have hs1 := slice_to (P := Try.prog) Try.underlying9 lf k hkl
        obtain ⟨l3, hl3⟩ : ∃ l3, l3 = lf.take k := ⟨_, rfl⟩
        rw [← hl3] at hs1
        obtain ⟨L2, hL2e⟩ : ∃ L2, L2 = dropQ k L := ⟨_, rfl⟩
        have hL2 : Hid (L2.flatten.length ≤ 200 * (j + 1)) := by
          show _ ≤ _
          rw [hL2e, dropQ_flat, List.length_drop]
          have := hL.out
          omega
        have HT := hide (take_H hqa.drew n k (by rw [HKK.out, HY.out, HLFL.out]; omega) (by have := HLFL.out; omega) l3 (by rw [hl3, HLF.out]) L2 hL2e)
        have HL2E := hide hL2e
        clear hqa hL2e hl3
        go_wp2_with fail
        refine wp_region_tbs [4, 5, 6] [0, 1, 2] [3, 7] (by kernel_rfl) (by kernel_rfl) (fun _ _ _ _ _ h => h) ?_
        simp only [opsAt, List.getElem?_cons_zero, List.getElem?_cons_succ]
        first | refine wpPure_move _ rfl rfl ?_ | (refine wpPure_step (v := ?_) rfl (fun w' => ?_) ?_; rotate_left; · (simp only [Act.put, List.setIfInBounds_toArray, List.set_cons_zero, List.set_cons_succ]; go_simp; with_reducible rfl))
        first | refine wpPure_move _ rfl rfl ?_ | (refine wpPure_step (v := ?_) rfl (fun w' => ?_) ?_; rotate_left; · (simp only [Act.put, List.setIfInBounds_toArray, List.set_cons_zero, List.set_cons_succ]; go_simp; with_reducible rfl))
        first | refine wpPure_move _ rfl rfl ?_ | (refine wpPure_step (v := ?_) rfl (fun w' => ?_) ?_; rotate_left; · (simp only [Act.put, List.setIfInBounds_toArray, List.set_cons_zero, List.set_cons_succ]; go_simp; with_reducible rfl))
        refine wpPure_nil ?_
        simp only [Act.put, Act.eval, List.setIfInBounds_toArray, List.set_cons_zero, List.set_cons_succ]
        repeat (refine wpStill_step (fun K hK => ?_); go_simp; (try go_bits); refine hK _ ?_; clear hK K)
        refine wpStill_nil ?_
        go_wp2_with fail
        refine (unhide HT).mono ?_
        rintro e w6 ⟨rfl, hq6, hb6, hk6⟩
        have hbb6 := hba.drew.trans hb6
        have hob6 := hk6 _ _ hoa.drew
        have HD := hide (dropc_H hq6 (by have := HLFL.out; omega) k k rfl (by omega) L2 HL2E.out)
        clear HT hba hb6 hk6 o0 o1 o2 hoa hs1 hq6
        go_wp2_with fail
        refine (unhide HD).mono ?_
        rintro e w7 ⟨rfl, hq2, hb7, hk7⟩
        have hb2 := hbb6.trans hb7
        clear HD hbb6 hb7 hk7 hob6
        as_aux_lemma =>
        obtain ⟨lf2, hlf2⟩ : ∃ lf2, lf2 = L2.flatten := ⟨_, rfl⟩
        have hlf2l : lf2.length ≤ 200 * (j + 1) := by rw [hlf2]; exact hL2.out
        have hq2 := hq2.drew
        have hb2 := hb2.drew
        have HAL := hide (all_H hq2 (by rw [← hlf2]; omega) lf2 hlf2)
        obtain ⟨a9, c9, hS9⟩ := hq2.cell
        have HAC := fun W (hW : QH W w.heap.size w1.heap.size (w1.heap.size + 1) L2 L2) => hide (allc_H hW (by rw [← hlf2]; omega) lf2 hlf2)
        have HLE := fun W (hW : QH W w.heap.size w1.heap.size (w1.heap.size + 1) L2 L2) => hide (len_H hW lf2.length (by rw [hlf2]))
        have HCH := fun W (hW : QH W w.heap.size w1.heap.size (w1.heap.size + 1) L2 L2) => hide (chunks_H hW L2.length rfl)
        clear hlf2
        go_wp2_with fail
        refine wp_region_tree (fun W => W.cell? ⟨w1.heap.size + 1, 0, none⟩ = some (.slice a9 L2.length c9)) 99 (.take [0, 2] (.step 1 (.step 3 (.step 4 (.step 5 (.take [6, 8] (.step 7 (.step 9 (.step 10 (.step 11 (.step 12 (.step 13 (.take [14, 16, 17] (.step 15 (.step 18 (.step 19 (.fin))))))))))))))))) (by kernel_rfl) (by kernel_rfl) (fun _ _ _ _ _ h => h) ?_
        refine wpTree_take (hS9) ?_
        simp only [opsAt, List.getElem?_cons_zero, List.getElem?_cons_succ]
        first | (refine wpPureH_step (v := ?_) rfl (fun W hS => ?_) ?_; rotate_left; · (obtain s1 := hS; (try simp only [Act.put, List.setIfInBounds_toArray, List.set_cons_zero, List.set_cons_succ]); go_simp; with_reducible rfl)) | (refine wpPureH_want (v := ?_) (by rfl) (fun W hS => ?_) ?_; rotate_left; · (obtain s1 := hS; (try simp only [Act.put, List.setIfInBounds_toArray, List.set_cons_zero, List.set_cons_succ]); go_simp; with_reducible rfl))
        first | (refine wpPureH_step (v := ?_) rfl (fun W hS => ?_) ?_; rotate_left; · (obtain s1 := hS; (try simp only [Act.put, List.setIfInBounds_toArray, List.set_cons_zero, List.set_cons_succ]); go_simp; with_reducible rfl)) | (refine wpPureH_want (v := ?_) (by rfl) (fun W hS => ?_) ?_; rotate_left; · (obtain s1 := hS; (try simp only [Act.put, List.setIfInBounds_toArray, List.set_cons_zero, List.set_cons_succ]); go_simp; with_reducible rfl))
        refine wpPureH_nil ?_
        simp only [Act.put, List.setIfInBounds_toArray, List.set_cons_zero, List.set_cons_succ]
        refine wpTree_step ?_
        simp only [opsAt, List.getElem?_cons_zero, List.getElem?_cons_succ]
        go_wp2_with fail
        refine (unhide HAL).mono ?_
        rintro e w6 ⟨rfl, hq6, hb6⟩
        have hS6 := (hb6.cell (p := ⟨w1.heap.size + 1, 0, none⟩) (block_lt_of_cell hS9)).trans hS9
        have hbb6 := hb2.trans (hb6.mono hb2.size)
        have HA6 := HAC w6 hq6
        have HL6 := HLE w6 hq6
        have HC6 := HCH w6 hq6
        clear HAC HLE HCH HAL hq2 hb2 hb6 hS9
        go_wp2_with fail
        refine ⟨.inr hS6, ?_⟩
        refine wpTree_step ?_
        simp only [opsAt, List.getElem?_cons_zero, List.getElem?_cons_succ]
        go_wp2_with fail
        refine (unhide HA6).mono ?_
        rintro e w7 ⟨rfl, hw7⟩
        subst hw7
        go_wp2_with fail
        refine ⟨.inr hS6, ?_⟩
        refine wpTree_step ?_
        simp only [opsAt, List.getElem?_cons_zero, List.getElem?_cons_succ]
        go_wp2_with fail
        refine ⟨.inr (hS6), ?_⟩
        refine wpTree_step ?_
        simp only [opsAt, List.getElem?_cons_zero, List.getElem?_cons_succ]
        go_wp2_with fail
        refine ⟨.inr (hS6), ?_⟩
        refine wpTree_take (hS6) ?_
        simp only [opsAt, List.getElem?_cons_zero, List.getElem?_cons_succ]
        first | (refine wpPureH_step (v := ?_) rfl (fun W hS => ?_) ?_; rotate_left; · (obtain s1 := hS; (try simp only [Act.put, List.setIfInBounds_toArray, List.set_cons_zero, List.set_cons_succ]); go_simp; with_reducible rfl)) | (refine wpPureH_want (v := ?_) (by rfl) (fun W hS => ?_) ?_; rotate_left; · (obtain s1 := hS; (try simp only [Act.put, List.setIfInBounds_toArray, List.set_cons_zero, List.set_cons_succ]); go_simp; with_reducible rfl))
        first | (refine wpPureH_step (v := ?_) rfl (fun W hS => ?_) ?_; rotate_left; · (obtain s1 := hS; (try simp only [Act.put, List.setIfInBounds_toArray, List.set_cons_zero, List.set_cons_succ]); go_simp; with_reducible rfl)) | (refine wpPureH_want (v := ?_) (by rfl) (fun W hS => ?_) ?_; rotate_left; · (obtain s1 := hS; (try simp only [Act.put, List.setIfInBounds_toArray, List.set_cons_zero, List.set_cons_succ]); go_simp; with_reducible rfl))
        refine wpPureH_nil ?_
        simp only [Act.put, List.setIfInBounds_toArray, List.set_cons_zero, List.set_cons_succ]
        refine wpTree_step ?_
        simp only [opsAt, List.getElem?_cons_zero, List.getElem?_cons_succ]
        go_wp2_with fail
        refine (unhide HL6).mono ?_
        rintro e w7 ⟨rfl, hw7⟩
        subst hw7
        go_wp2_with fail
        refine ⟨.inr hS6, ?_⟩
        refine wpTree_step ?_
        simp only [opsAt, List.getElem?_cons_zero, List.getElem?_cons_succ]
        go_wp2_with fail
        refine (unhide HA6).mono ?_
        rintro e w7 ⟨rfl, hw7⟩
        subst hw7
        go_wp2_with fail
        refine ⟨.inr hS6, ?_⟩
        refine wpTree_step ?_
        simp only [opsAt, List.getElem?_cons_zero, List.getElem?_cons_succ]
        go_wp2_with fail
        refine ⟨.inr (hS6), ?_⟩
        refine wpTree_step ?_
        simp only [opsAt, List.getElem?_cons_zero, List.getElem?_cons_succ]
        go_wp2_with fail
        refine ⟨.inr (hS6), ?_⟩
        refine wpTree_step ?_
        simp only [opsAt, List.getElem?_cons_zero, List.getElem?_cons_succ]
        go_wp2_with fail
        refine ⟨.inr (hS6), ?_⟩
        refine wpTree_step ?_
        simp only [opsAt, List.getElem?_cons_zero, List.getElem?_cons_succ]
        go_wp2_with fail
        refine ⟨.inr (hS6), ?_⟩
        refine wpTree_take (hS6) ?_
        simp only [opsAt, List.getElem?_cons_zero, List.getElem?_cons_succ]
        first | (refine wpPureH_step (v := ?_) rfl (fun W hS => ?_) ?_; rotate_left; · (obtain s1 := hS; (try simp only [Act.put, List.setIfInBounds_toArray, List.set_cons_zero, List.set_cons_succ]); go_simp; with_reducible rfl)) | (refine wpPureH_want (v := ?_) (by rfl) (fun W hS => ?_) ?_; rotate_left; · (obtain s1 := hS; (try simp only [Act.put, List.setIfInBounds_toArray, List.set_cons_zero, List.set_cons_succ]); go_simp; with_reducible rfl))
        first | (refine wpPureH_step (v := ?_) rfl (fun W hS => ?_) ?_; rotate_left; · (obtain s1 := hS; (try simp only [Act.put, List.setIfInBounds_toArray, List.set_cons_zero, List.set_cons_succ]); go_simp; with_reducible rfl)) | (refine wpPureH_want (v := ?_) (by rfl) (fun W hS => ?_) ?_; rotate_left; · (obtain s1 := hS; (try simp only [Act.put, List.setIfInBounds_toArray, List.set_cons_zero, List.set_cons_succ]); go_simp; with_reducible rfl))
        first | (refine wpPureH_step (v := ?_) rfl (fun W hS => ?_) ?_; rotate_left; · (obtain s1 := hS; (try simp only [Act.put, List.setIfInBounds_toArray, List.set_cons_zero, List.set_cons_succ]); go_simp; with_reducible rfl)) | (refine wpPureH_want (v := ?_) (by rfl) (fun W hS => ?_) ?_; rotate_left; · (obtain s1 := hS; (try simp only [Act.put, List.setIfInBounds_toArray, List.set_cons_zero, List.set_cons_succ]); go_simp; with_reducible rfl))
        refine wpPureH_nil ?_
        simp only [Act.put, List.setIfInBounds_toArray, List.set_cons_zero, List.set_cons_succ]
        refine wpTree_step ?_
        simp only [opsAt, List.getElem?_cons_zero, List.getElem?_cons_succ]
        go_wp2_with fail
        refine (unhide HC6).mono ?_
        rintro e w7 ⟨rfl, hw7⟩
        subst hw7
        go_wp2_with fail
        refine ⟨.inr hS6, ?_⟩
        refine wpTree_step ?_
        simp only [opsAt, List.getElem?_cons_zero, List.getElem?_cons_succ]
        go_wp2_with fail
        refine ⟨.inr (hS6), ?_⟩
        refine wpTree_step ?_
        simp only [opsAt, List.getElem?_cons_zero, List.getElem?_cons_succ]
        go_wp2_with fail
        refine ⟨.inr (hS6), ?_⟩
        refine wpTree_fin ?_
        go_wp2_with fail
        go_roundg (len0 - j - 1)
        case measure => omega
        case rel => exact ⟨j + 1, L2, by go_num, by omega, hL2, hq6, hbb6⟩
      have e3 : (K == 3) = false := by simpa using hK3
      by_cases hK4 : K = 4
      · subst hK4
        obtain ⟨kk, hkk⟩ : ∃ kk : Nat, (kk : Int) = max n 0 := ⟨(max n 0).toNat, by omega⟩
        obtain ⟨L2, hL2e⟩ : ∃ L2, L2 = cutQ kk L := ⟨_, rfl⟩
        have hL2 : Hid (L2.flatten.length ≤ 200 * (j + 1)) := by
          show _ ≤ _
          rw [hL2e, cutQ_flat, List.length_take]
          have := hL.out
          omega
        have hkk2 : (kk : Int) = max n 0 ∧ k = min kk lf.length := ⟨hkk, by have := HKK.out; have := HY.out; omega⟩
        have HK2 := hide hkk2
        have hcke : L2 = cutQ k L := by
          rw [hL2e]
          by_cases hc : kk ≤ lf.length
          · rw [show k = kk by omega]
          · rw [show k = lf.length by omega, cutQ_all L hqa.ne.1 _ (by have := HLFL.out; omega), cutQ_all L hqa.ne.1 _ (by have := HLFL.out; omega)]
        have HCK := hide hcke
        have hlb : (lf.length : Int) ≤ 20000 := by omega
        have hkb : (k : Int) ≤ lf.length := by omega
        have HT := hide (cut_H hqa n kk hkk (by have := HLFL.out; omega) ((lf.length : Int) - k) (by have := HLFL.out; omega) L2 hL2e)
        have HNE := hide hqa.ne.1
        clear hqa hL2e hkk hkk2 hcke
        go_wp2_with fail
        refine (unhide HT).mono ?_
        rintro e w6 ⟨rfl, hq6, hb6, hk6⟩
        have hbb6 := hba.trans hb6
        obtain ⟨a8, c8, hc8⟩ := hq6.cell
        have HSL := hide (hq6.src hc8)
        have HQ6 := hide hq6
        have HQL := hide hq6.qlt
        have HFZ := hide hq6.frozen
        have hnL : L.length ≤ 20000 := by
          have h1 := flat_le L HNE.out
          have h2 := HLFL.out
          omega
        clear HT hba hb6 hk6 o0 o1 o2 hoa hq6 hlb hkb
        go_wp2_with fail
        go_loopg [10, 13, 15, 16, 123] L.length (fun g s10 s13 s15 s16 s123 wr4 => ∃ (i m : Nat) (R : List (List UInt8)) (vr : Value), s123 = .int .i64 i ∧ i + g = L.length ∧ s10 = .int .i64 m ∧ m ≤ 20000 ∧ s13 = vr ∧ Hid (m = k - (L.take i).flatten.length) ∧ Hid (R = cutQ k (L.take i)) ∧
          SlN wr4 w6.heap.size 9 1 vr R.length (strV R) ∧ R.length ≤ i ∧ Only [] w6 wr4)
        case atStart => exact ⟨0, k, [], .slice none 0 0, rfl, by omega, rfl, by omega, rfl, by show k = _; simp, by show [] = _; simp [cutQ], SlN.nil _ _ _ _, by simp, Only.refl _ _⟩
        case round =>
          obtain ⟨i, m, R, vr, rfl, hi, rfl, hm2, rfl, hm, hR, hsr, hRi, hor⟩ := hrel
          obtain ⟨a7, c7, hv7⟩ := hsr.form
          subst hv7
          by_cases hil : i < L.length
          · obtain ⟨g, off, cap, hv, hcz, _⟩ := HSL.out.cell i (by rw [strV_length]; exact hil)
            injection hv with hv hve1 hve2
            subst hv
            obtain ⟨c, hc⟩ : ∃ c, c = L[i] := ⟨_, rfl⟩
            have cz : wr.cell? ⟨g, off + i, none⟩ = some (.string (S c)) := by
              refine (hor.nil_below.cell (p := ⟨g, off + i, none⟩) (block_lt_of_cell hcz)).trans ?_
              rw [hcz, hc]
              simp [strV]
            have HC := hide hc
            clear hc hcz hve1 hve2
            by_cases hm0 : m = 0
            · have hR4 : L2 = R := by
                rw [HCK.out, hR.out]
                have h1 := hm.out
                conv => lhs; rw [← List.take_append_drop i L]
                exact cutQ_stop _ _ _ (by omega)
              have hfr : ∀ x ∈ slB (.slice a7 R.length c7), w6.heap.size ≤ x := fun x hx => (hsr.lt x hx).1
              have hsr := hsr.mono (base' := w.heap.size) hbb6.size
              subst hm0
              clear hm hR hRi HC
              have hsr4 : SlN wr w.heap.size 9 1 (.slice a7 R.length c7) L2.length (strV L2) := by rw [hR4]; exact hsr
              have hput := HQ6.out.put hor hsr4 hfr (by rw [HCK.out]; exact cutQ_ne L HNE.out k)
              have hfz9 : wr.frozen? ⟨w1.heap.size + 1, 0, none⟩ = false := (hor.nil_below.frozen (p := ⟨w1.heap.size + 1, 0, none⟩) HQL.out).trans HFZ.out
              have hc9 := (hor.nil_below.cell (p := ⟨w1.heap.size + 1, 0, none⟩) HQL.out).trans hc8
              have hb2 := hbb6.trans hput.2.1
              have hq2 := hput.1
              clear hput hor hsr hsr4 hfr hR4
              as_aux_lemma =>
              obtain ⟨lf2, hlf2⟩ : ∃ lf2, lf2 = L2.flatten := ⟨_, rfl⟩
              have hlf2l : lf2.length ≤ 200 * (j + 1) := by rw [hlf2]; exact hL2.out
              have hq2 := hq2.drew
              have hb2 := hb2.drew
              have HAL := hide (all_H hq2 (by rw [← hlf2]; omega) lf2 hlf2)
              obtain ⟨a9, c9, hS9⟩ := hq2.cell
              have HAC := fun W (hW : QH W w.heap.size w1.heap.size (w1.heap.size + 1) L2 L2) => hide (allc_H hW (by rw [← hlf2]; omega) lf2 hlf2)
              have HLE := fun W (hW : QH W w.heap.size w1.heap.size (w1.heap.size + 1) L2 L2) => hide (len_H hW lf2.length (by rw [hlf2]))
              have HCH := fun W (hW : QH W w.heap.size w1.heap.size (w1.heap.size + 1) L2 L2) => hide (chunks_H hW L2.length rfl)
              clear hlf2
              go_wp2_with fail
              refine wp_region_tree (fun W => W.cell? ⟨w1.heap.size + 1, 0, none⟩ = some (.slice a9 L2.length c9)) 99 (.take [0, 2] (.step 1 (.step 3 (.step 4 (.step 5 (.take [6, 8] (.step 7 (.step 9 (.step 10 (.step 11 (.step 12 (.step 13 (.take [14, 16, 17] (.step 15 (.step 18 (.step 19 (.fin))))))))))))))))) (by kernel_rfl) (by kernel_rfl) (fun _ _ _ _ _ h => h) ?_
              refine wpTree_take (hS9) ?_
              simp only [opsAt, List.getElem?_cons_zero, List.getElem?_cons_succ]
              first | (refine wpPureH_step (v := ?_) rfl (fun W hS => ?_) ?_; rotate_left; · (obtain s1 := hS; (try simp only [Act.put, List.setIfInBounds_toArray, List.set_cons_zero, List.set_cons_succ]); go_simp; with_reducible rfl)) | (refine wpPureH_want (v := ?_) (by rfl) (fun W hS => ?_) ?_; rotate_left; · (obtain s1 := hS; (try simp only [Act.put, List.setIfInBounds_toArray, List.set_cons_zero, List.set_cons_succ]); go_simp; with_reducible rfl))
              first | (refine wpPureH_step (v := ?_) rfl (fun W hS => ?_) ?_; rotate_left; · (obtain s1 := hS; (try simp only [Act.put, List.setIfInBounds_toArray, List.set_cons_zero, List.set_cons_succ]); go_simp; with_reducible rfl)) | (refine wpPureH_want (v := ?_) (by rfl) (fun W hS => ?_) ?_; rotate_left; · (obtain s1 := hS; (try simp only [Act.put, List.setIfInBounds_toArray, List.set_cons_zero, List.set_cons_succ]); go_simp; with_reducible rfl))
              refine wpPureH_nil ?_
              simp only [Act.put, List.setIfInBounds_toArray, List.set_cons_zero, List.set_cons_succ]
              refine wpTree_step ?_
              simp only [opsAt, List.getElem?_cons_zero, List.getElem?_cons_succ]
              go_wp2_with fail
              refine (unhide HAL).mono ?_
              rintro e w6 ⟨rfl, hq6, hb6⟩
              have hS6 := (hb6.cell (p := ⟨w1.heap.size + 1, 0, none⟩) (block_lt_of_cell hS9)).trans hS9
              have hbb6 := hb2.trans (hb6.mono hb2.size)
              have HA6 := HAC w6 hq6
              have HL6 := HLE w6 hq6
              have HC6 := HCH w6 hq6
              clear HAC HLE HCH HAL hq2 hb2 hb6 hS9
              go_wp2_with fail
              refine ⟨.inr hS6, ?_⟩
              refine wpTree_step ?_
              simp only [opsAt, List.getElem?_cons_zero, List.getElem?_cons_succ]
              go_wp2_with fail
              refine (unhide HA6).mono ?_
              rintro e w7 ⟨rfl, hw7⟩
              subst hw7
              go_wp2_with fail
              refine ⟨.inr hS6, ?_⟩
              refine wpTree_step ?_
              simp only [opsAt, List.getElem?_cons_zero, List.getElem?_cons_succ]
              go_wp2_with fail
              refine ⟨.inr (hS6), ?_⟩
              refine wpTree_step ?_
              simp only [opsAt, List.getElem?_cons_zero, List.getElem?_cons_succ]
              go_wp2_with fail
              refine ⟨.inr (hS6), ?_⟩
              refine wpTree_take (hS6) ?_
              simp only [opsAt, List.getElem?_cons_zero, List.getElem?_cons_succ]
              first | (refine wpPureH_step (v := ?_) rfl (fun W hS => ?_) ?_; rotate_left; · (obtain s1 := hS; (try simp only [Act.put, List.setIfInBounds_toArray, List.set_cons_zero, List.set_cons_succ]); go_simp; with_reducible rfl)) | (refine wpPureH_want (v := ?_) (by rfl) (fun W hS => ?_) ?_; rotate_left; · (obtain s1 := hS; (try simp only [Act.put, List.setIfInBounds_toArray, List.set_cons_zero, List.set_cons_succ]); go_simp; with_reducible rfl))
              first | (refine wpPureH_step (v := ?_) rfl (fun W hS => ?_) ?_; rotate_left; · (obtain s1 := hS; (try simp only [Act.put, List.setIfInBounds_toArray, List.set_cons_zero, List.set_cons_succ]); go_simp; with_reducible rfl)) | (refine wpPureH_want (v := ?_) (by rfl) (fun W hS => ?_) ?_; rotate_left; · (obtain s1 := hS; (try simp only [Act.put, List.setIfInBounds_toArray, List.set_cons_zero, List.set_cons_succ]); go_simp; with_reducible rfl))
              refine wpPureH_nil ?_
              simp only [Act.put, List.setIfInBounds_toArray, List.set_cons_zero, List.set_cons_succ]
              refine wpTree_step ?_
              simp only [opsAt, List.getElem?_cons_zero, List.getElem?_cons_succ]
              go_wp2_with fail
              refine (unhide HL6).mono ?_
              rintro e w7 ⟨rfl, hw7⟩
              subst hw7
              go_wp2_with fail
              refine ⟨.inr hS6, ?_⟩
              refine wpTree_step ?_
              simp only [opsAt, List.getElem?_cons_zero, List.getElem?_cons_succ]
              go_wp2_with fail
              refine (unhide HA6).mono ?_
              rintro e w7 ⟨rfl, hw7⟩
              subst hw7
              go_wp2_with fail
              refine ⟨.inr hS6, ?_⟩
              refine wpTree_step ?_
              simp only [opsAt, List.getElem?_cons_zero, List.getElem?_cons_succ]
              go_wp2_with fail
              refine ⟨.inr (hS6), ?_⟩
              refine wpTree_step ?_
              simp only [opsAt, List.getElem?_cons_zero, List.getElem?_cons_succ]
              go_wp2_with fail
              refine ⟨.inr (hS6), ?_⟩
              refine wpTree_step ?_
              simp only [opsAt, List.getElem?_cons_zero, List.getElem?_cons_succ]
              go_wp2_with fail
              refine ⟨.inr (hS6), ?_⟩
              refine wpTree_step ?_
              simp only [opsAt, List.getElem?_cons_zero, List.getElem?_cons_succ]
              go_wp2_with fail
              refine ⟨.inr (hS6), ?_⟩
              refine wpTree_take (hS6) ?_
              simp only [opsAt, List.getElem?_cons_zero, List.getElem?_cons_succ]
              first | (refine wpPureH_step (v := ?_) rfl (fun W hS => ?_) ?_; rotate_left; · (obtain s1 := hS; (try simp only [Act.put, List.setIfInBounds_toArray, List.set_cons_zero, List.set_cons_succ]); go_simp; with_reducible rfl)) | (refine wpPureH_want (v := ?_) (by rfl) (fun W hS => ?_) ?_; rotate_left; · (obtain s1 := hS; (try simp only [Act.put, List.setIfInBounds_toArray, List.set_cons_zero, List.set_cons_succ]); go_simp; with_reducible rfl))
              first | (refine wpPureH_step (v := ?_) rfl (fun W hS => ?_) ?_; rotate_left; · (obtain s1 := hS; (try simp only [Act.put, List.setIfInBounds_toArray, List.set_cons_zero, List.set_cons_succ]); go_simp; with_reducible rfl)) | (refine wpPureH_want (v := ?_) (by rfl) (fun W hS => ?_) ?_; rotate_left; · (obtain s1 := hS; (try simp only [Act.put, List.setIfInBounds_toArray, List.set_cons_zero, List.set_cons_succ]); go_simp; with_reducible rfl))
              first | (refine wpPureH_step (v := ?_) rfl (fun W hS => ?_) ?_; rotate_left; · (obtain s1 := hS; (try simp only [Act.put, List.setIfInBounds_toArray, List.set_cons_zero, List.set_cons_succ]); go_simp; with_reducible rfl)) | (refine wpPureH_want (v := ?_) (by rfl) (fun W hS => ?_) ?_; rotate_left; · (obtain s1 := hS; (try simp only [Act.put, List.setIfInBounds_toArray, List.set_cons_zero, List.set_cons_succ]); go_simp; with_reducible rfl))
              refine wpPureH_nil ?_
              simp only [Act.put, List.setIfInBounds_toArray, List.set_cons_zero, List.set_cons_succ]
              refine wpTree_step ?_
              simp only [opsAt, List.getElem?_cons_zero, List.getElem?_cons_succ]
              go_wp2_with fail
              refine (unhide HC6).mono ?_
              rintro e w7 ⟨rfl, hw7⟩
              subst hw7
              go_wp2_with fail
              refine ⟨.inr hS6, ?_⟩
              refine wpTree_step ?_
              simp only [opsAt, List.getElem?_cons_zero, List.getElem?_cons_succ]
              go_wp2_with fail
              refine ⟨.inr (hS6), ?_⟩
              refine wpTree_step ?_
              simp only [opsAt, List.getElem?_cons_zero, List.getElem?_cons_succ]
              go_wp2_with fail
              refine ⟨.inr (hS6), ?_⟩
              refine wpTree_fin ?_
              go_wp2_with fail
              go_roundg (len0 - j - 1)
              case measure => omega
              case rel => exact ⟨j + 1, L2, by go_num, by omega, hL2, hq6, hbb6⟩
            · have hm1 : ((m : Int) == 0) = false := by simp; omega
              obtain ⟨nn, hnn⟩ : ∃ nn, nn = min m c.length := ⟨_, rfl⟩
              have hmin4 := min_i64 (P := Try.prog) #[3, 3] 3 m c.length nn (by rw [hnn]; omega)
              have hst4 := slice_to (P := Try.prog) Try.underlying9 c nn (by omega)
              obtain ⟨d, hd⟩ : ∃ d, d = c.take nn := ⟨_, rfl⟩
              rw [← hd] at hst4
              have hnm : (nn : Int) ≤ m := by omega
              have hm20 : (m : Int) ≤ 20000 := by omega
              have hft := flatten_snoc L i hil
              have hmn : Hid (m - nn = k - (L.take (i + 1)).flatten.length) := by
                show _ = _
                rw [hft, List.length_append, ← HC.out, hnn, hm.out]
                omega
              have hRn : Hid (R ++ [d] = cutQ k (L.take (i + 1))) := by
                show _ = _
                rw [List.take_succ_eq_append_getElem hil, ← HC.out, cutQ_snoc, ← hm.out, if_neg hm0, hR.out, hd, hnn]
                congr 2
                rw [List.take_eq_take_iff]
                omega
              have hsw : w6.heap.size ≤ wr.heap.size := hor.size
              have hRl : R.length ≤ 20000 := by omega
              have HM0 := hide hm0
              clear hnn hd hft hm hR hm0
              go_wp2_with (at_builtin; refine wpList_append_slN rfl (.tmp 133) (.tmp 137) 25 rfl (.string ByteArray.empty) 16 Try.underlying25 info_str2 rfl (by decide) (hsr.alloc (.cells #[.string (S d)] 9)) (SlN.one (base := w6.heap.size) hsw (Blk.new wr 9 #[.string (S d)])).src rfl rfl rfl (by intro y hy; rw [List.mem_singleton.1 hy]; rfl) (by unfold maxLen; omega) (by omega) (by simp; omega) ?_; intro v2 w8 hv2 ho2 hf2; obtain ⟨a9, c9, hv9⟩ := hv2.form; subst hv9)
              have ho8 : Only [] w6 w8 := Only.trans_new (T := slB (.slice a7 R.length c7)) (hor.alloc _) (by simpa using ho2) (fun x hx => (hsr.lt x hx).1)
              go_roundg (gk - 1)
              case measure => omega
              case rel => exact ⟨i + 1, m - nn, R ++ [d], _, by go_num, by omega, congrArg (Value.int .i64) (by omega), by omega, rfl, hmn, hRn, by rw [strV_append, List.length_append]; exact hv2, by simp; omega, ho8⟩
          · have hR4 : L2 = R := by
              rw [HCK.out, hR.out, List.take_of_length_le (by omega)]
            have hfr : ∀ x ∈ slB (.slice a7 R.length c7), w6.heap.size ≤ x := fun x hx => (hsr.lt x hx).1
            have hsr := hsr.mono (base' := w.heap.size) hbb6.size
            clear hm hR hRi
            have hsr4 : SlN wr w.heap.size 9 1 (.slice a7 R.length c7) L2.length (strV L2) := by rw [hR4]; exact hsr
            have hput := HQ6.out.put hor hsr4 hfr (by rw [HCK.out]; exact cutQ_ne L HNE.out k)
            have hfz9 : wr.frozen? ⟨w1.heap.size + 1, 0, none⟩ = false := (hor.nil_below.frozen (p := ⟨w1.heap.size + 1, 0, none⟩) HQL.out).trans HFZ.out
            have hc9 := (hor.nil_below.cell (p := ⟨w1.heap.size + 1, 0, none⟩) HQL.out).trans hc8
            have hb2 := hbb6.trans hput.2.1
            have hq2 := hput.1
            clear hput hor hsr hsr4 hfr hR4
            as_aux_lemma =>
            obtain ⟨lf2, hlf2⟩ : ∃ lf2, lf2 = L2.flatten := ⟨_, rfl⟩
            have hlf2l : lf2.length ≤ 200 * (j + 1) := by rw [hlf2]; exact hL2.out
            have hq2 := hq2.drew
            have hb2 := hb2.drew
            have HAL := hide (all_H hq2 (by rw [← hlf2]; omega) lf2 hlf2)
            obtain ⟨a9, c9, hS9⟩ := hq2.cell
            have HAC := fun W (hW : QH W w.heap.size w1.heap.size (w1.heap.size + 1) L2 L2) => hide (allc_H hW (by rw [← hlf2]; omega) lf2 hlf2)
            have HLE := fun W (hW : QH W w.heap.size w1.heap.size (w1.heap.size + 1) L2 L2) => hide (len_H hW lf2.length (by rw [hlf2]))
            have HCH := fun W (hW : QH W w.heap.size w1.heap.size (w1.heap.size + 1) L2 L2) => hide (chunks_H hW L2.length rfl)
            clear hlf2
            go_wp2_with fail
            refine wp_region_tree (fun W => W.cell? ⟨w1.heap.size + 1, 0, none⟩ = some (.slice a9 L2.length c9)) 99 (.take [0, 2] (.step 1 (.step 3 (.step 4 (.step 5 (.take [6, 8] (.step 7 (.step 9 (.step 10 (.step 11 (.step 12 (.step 13 (.take [14, 16, 17] (.step 15 (.step 18 (.step 19 (.fin))))))))))))))))) (by kernel_rfl) (by kernel_rfl) (fun _ _ _ _ _ h => h) ?_
            refine wpTree_take (hS9) ?_
            simp only [opsAt, List.getElem?_cons_zero, List.getElem?_cons_succ]
            first | (refine wpPureH_step (v := ?_) rfl (fun W hS => ?_) ?_; rotate_left; · (obtain s1 := hS; (try simp only [Act.put, List.setIfInBounds_toArray, List.set_cons_zero, List.set_cons_succ]); go_simp; with_reducible rfl)) | (refine wpPureH_want (v := ?_) (by rfl) (fun W hS => ?_) ?_; rotate_left; · (obtain s1 := hS; (try simp only [Act.put, List.setIfInBounds_toArray, List.set_cons_zero, List.set_cons_succ]); go_simp; with_reducible rfl))
            first | (refine wpPureH_step (v := ?_) rfl (fun W hS => ?_) ?_; rotate_left; · (obtain s1 := hS; (try simp only [Act.put, List.setIfInBounds_toArray, List.set_cons_zero, List.set_cons_succ]); go_simp; with_reducible rfl)) | (refine wpPureH_want (v := ?_) (by rfl) (fun W hS => ?_) ?_; rotate_left; · (obtain s1 := hS; (try simp only [Act.put, List.setIfInBounds_toArray, List.set_cons_zero, List.set_cons_succ]); go_simp; with_reducible rfl))
            refine wpPureH_nil ?_
            simp only [Act.put, List.setIfInBounds_toArray, List.set_cons_zero, List.set_cons_succ]
            refine wpTree_step ?_
            simp only [opsAt, List.getElem?_cons_zero, List.getElem?_cons_succ]
            go_wp2_with fail
            refine (unhide HAL).mono ?_
            rintro e w6 ⟨rfl, hq6, hb6⟩
            have hS6 := (hb6.cell (p := ⟨w1.heap.size + 1, 0, none⟩) (block_lt_of_cell hS9)).trans hS9
            have hbb6 := hb2.trans (hb6.mono hb2.size)
            have HA6 := HAC w6 hq6
            have HL6 := HLE w6 hq6
            have HC6 := HCH w6 hq6
            clear HAC HLE HCH HAL hq2 hb2 hb6 hS9
            go_wp2_with fail
            refine ⟨.inr hS6, ?_⟩
            refine wpTree_step ?_
            simp only [opsAt, List.getElem?_cons_zero, List.getElem?_cons_succ]
            go_wp2_with fail
            refine (unhide HA6).mono ?_
            rintro e w7 ⟨rfl, hw7⟩
            subst hw7
            go_wp2_with fail
            refine ⟨.inr hS6, ?_⟩
            refine wpTree_step ?_
            simp only [opsAt, List.getElem?_cons_zero, List.getElem?_cons_succ]
            go_wp2_with fail
            refine ⟨.inr (hS6), ?_⟩
            refine wpTree_step ?_
            simp only [opsAt, List.getElem?_cons_zero, List.getElem?_cons_succ]
            go_wp2_with fail
            refine ⟨.inr (hS6), ?_⟩
            refine wpTree_take (hS6) ?_
            simp only [opsAt, List.getElem?_cons_zero, List.getElem?_cons_succ]
            first | (refine wpPureH_step (v := ?_) rfl (fun W hS => ?_) ?_; rotate_left; · (obtain s1 := hS; (try simp only [Act.put, List.setIfInBounds_toArray, List.set_cons_zero, List.set_cons_succ]); go_simp; with_reducible rfl)) | (refine wpPureH_want (v := ?_) (by rfl) (fun W hS => ?_) ?_; rotate_left; · (obtain s1 := hS; (try simp only [Act.put, List.setIfInBounds_toArray, List.set_cons_zero, List.set_cons_succ]); go_simp; with_reducible rfl))
            first | (refine wpPureH_step (v := ?_) rfl (fun W hS => ?_) ?_; rotate_left; · (obtain s1 := hS; (try simp only [Act.put, List.setIfInBounds_toArray, List.set_cons_zero, List.set_cons_succ]); go_simp; with_reducible rfl)) | (refine wpPureH_want (v := ?_) (by rfl) (fun W hS => ?_) ?_; rotate_left; · (obtain s1 := hS; (try simp only [Act.put, List.setIfInBounds_toArray, List.set_cons_zero, List.set_cons_succ]); go_simp; with_reducible rfl))
            refine wpPureH_nil ?_
            simp only [Act.put, List.setIfInBounds_toArray, List.set_cons_zero, List.set_cons_succ]
            refine wpTree_step ?_
            simp only [opsAt, List.getElem?_cons_zero, List.getElem?_cons_succ]
            go_wp2_with fail
            refine (unhide HL6).mono ?_
            rintro e w7 ⟨rfl, hw7⟩
            subst hw7
            go_wp2_with fail
            refine ⟨.inr hS6, ?_⟩
            refine wpTree_step ?_
            simp only [opsAt, List.getElem?_cons_zero, List.getElem?_cons_succ]
            go_wp2_with fail
            refine (unhide HA6).mono ?_
            rintro e w7 ⟨rfl, hw7⟩
            subst hw7
            go_wp2_with fail
            refine ⟨.inr hS6, ?_⟩
            refine wpTree_step ?_
            simp only [opsAt, List.getElem?_cons_zero, List.getElem?_cons_succ]
            go_wp2_with fail
            refine ⟨.inr (hS6), ?_⟩
            refine wpTree_step ?_
            simp only [opsAt, List.getElem?_cons_zero, List.getElem?_cons_succ]
            go_wp2_with fail
            refine ⟨.inr (hS6), ?_⟩
            refine wpTree_step ?_
            simp only [opsAt, List.getElem?_cons_zero, List.getElem?_cons_succ]
            go_wp2_with fail
            refine ⟨.inr (hS6), ?_⟩
            refine wpTree_step ?_
            simp only [opsAt, List.getElem?_cons_zero, List.getElem?_cons_succ]
            go_wp2_with fail
            refine ⟨.inr (hS6), ?_⟩
            refine wpTree_take (hS6) ?_
            simp only [opsAt, List.getElem?_cons_zero, List.getElem?_cons_succ]
            first | (refine wpPureH_step (v := ?_) rfl (fun W hS => ?_) ?_; rotate_left; · (obtain s1 := hS; (try simp only [Act.put, List.setIfInBounds_toArray, List.set_cons_zero, List.set_cons_succ]); go_simp; with_reducible rfl)) | (refine wpPureH_want (v := ?_) (by rfl) (fun W hS => ?_) ?_; rotate_left; · (obtain s1 := hS; (try simp only [Act.put, List.setIfInBounds_toArray, List.set_cons_zero, List.set_cons_succ]); go_simp; with_reducible rfl))
            first | (refine wpPureH_step (v := ?_) rfl (fun W hS => ?_) ?_; rotate_left; · (obtain s1 := hS; (try simp only [Act.put, List.setIfInBounds_toArray, List.set_cons_zero, List.set_cons_succ]); go_simp; with_reducible rfl)) | (refine wpPureH_want (v := ?_) (by rfl) (fun W hS => ?_) ?_; rotate_left; · (obtain s1 := hS; (try simp only [Act.put, List.setIfInBounds_toArray, List.set_cons_zero, List.set_cons_succ]); go_simp; with_reducible rfl))
            first | (refine wpPureH_step (v := ?_) rfl (fun W hS => ?_) ?_; rotate_left; · (obtain s1 := hS; (try simp only [Act.put, List.setIfInBounds_toArray, List.set_cons_zero, List.set_cons_succ]); go_simp; with_reducible rfl)) | (refine wpPureH_want (v := ?_) (by rfl) (fun W hS => ?_) ?_; rotate_left; · (obtain s1 := hS; (try simp only [Act.put, List.setIfInBounds_toArray, List.set_cons_zero, List.set_cons_succ]); go_simp; with_reducible rfl))
            refine wpPureH_nil ?_
            simp only [Act.put, List.setIfInBounds_toArray, List.set_cons_zero, List.set_cons_succ]
            refine wpTree_step ?_
            simp only [opsAt, List.getElem?_cons_zero, List.getElem?_cons_succ]
            go_wp2_with fail
            refine (unhide HC6).mono ?_
            rintro e w7 ⟨rfl, hw7⟩
            subst hw7
            go_wp2_with fail
            refine ⟨.inr hS6, ?_⟩
            refine wpTree_step ?_
            simp only [opsAt, List.getElem?_cons_zero, List.getElem?_cons_succ]
            go_wp2_with fail
            refine ⟨.inr (hS6), ?_⟩
            refine wpTree_step ?_
            simp only [opsAt, List.getElem?_cons_zero, List.getElem?_cons_succ]
            go_wp2_with fail
            refine ⟨.inr (hS6), ?_⟩
            refine wpTree_fin ?_
            go_wp2_with fail
            go_roundg (len0 - j - 1)
            case measure => omega
            case rel => exact ⟨j + 1, L2, by go_num, by omega, hL2, hq6, hbb6⟩
      have e4 : (K == 4) = false := by simpa using hK4
      have hq2 := hqa
      have hb2 := hba
      obtain ⟨L2, hL2e⟩ : ∃ L2, L2 = L := ⟨_, rfl⟩
      have hL2 : Hid (L2.flatten.length ≤ 200 * (j + 1)) := by show _ ≤ _; rw [hL2e]; have := hL.out; omega
      rw [← hL2e] at hq2
      clear hqa hba hL2e
      as_aux_lemma =>
      obtain ⟨lf2, hlf2⟩ : ∃ lf2, lf2 = L2.flatten := ⟨_, rfl⟩
      have hlf2l : lf2.length ≤ 200 * (j + 1) := by rw [hlf2]; exact hL2.out
      have hq2 := hq2.drew
      have hb2 := hb2.drew
      have HAL := hide (all_H hq2 (by rw [← hlf2]; omega) lf2 hlf2)
      obtain ⟨a9, c9, hS9⟩ := hq2.cell
      have HAC := fun W (hW : QH W w.heap.size w1.heap.size (w1.heap.size + 1) L2 L2) => hide (allc_H hW (by rw [← hlf2]; omega) lf2 hlf2)
      have HLE := fun W (hW : QH W w.heap.size w1.heap.size (w1.heap.size + 1) L2 L2) => hide (len_H hW lf2.length (by rw [hlf2]))
      have HCH := fun W (hW : QH W w.heap.size w1.heap.size (w1.heap.size + 1) L2 L2) => hide (chunks_H hW L2.length rfl)
      clear hlf2
      go_wp2_with fail
      refine wp_region_tree (fun W => W.cell? ⟨w1.heap.size + 1, 0, none⟩ = some (.slice a9 L2.length c9)) 99 (.take [0, 2] (.step 1 (.step 3 (.step 4 (.step 5 (.take [6, 8] (.step 7 (.step 9 (.step 10 (.step 11 (.step 12 (.step 13 (.take [14, 16, 17] (.step 15 (.step 18 (.step 19 (.fin))))))))))))))))) (by kernel_rfl) (by kernel_rfl) (fun _ _ _ _ _ h => h) ?_
      refine wpTree_take (hS9) ?_
      simp only [opsAt, List.getElem?_cons_zero, List.getElem?_cons_succ]
      first | (refine wpPureH_step (v := ?_) rfl (fun W hS => ?_) ?_; rotate_left; · (obtain s1 := hS; (try simp only [Act.put, List.setIfInBounds_toArray, List.set_cons_zero, List.set_cons_succ]); go_simp; with_reducible rfl)) | (refine wpPureH_want (v := ?_) (by rfl) (fun W hS => ?_) ?_; rotate_left; · (obtain s1 := hS; (try simp only [Act.put, List.setIfInBounds_toArray, List.set_cons_zero, List.set_cons_succ]); go_simp; with_reducible rfl))
      first | (refine wpPureH_step (v := ?_) rfl (fun W hS => ?_) ?_; rotate_left; · (obtain s1 := hS; (try simp only [Act.put, List.setIfInBounds_toArray, List.set_cons_zero, List.set_cons_succ]); go_simp; with_reducible rfl)) | (refine wpPureH_want (v := ?_) (by rfl) (fun W hS => ?_) ?_; rotate_left; · (obtain s1 := hS; (try simp only [Act.put, List.setIfInBounds_toArray, List.set_cons_zero, List.set_cons_succ]); go_simp; with_reducible rfl))
      refine wpPureH_nil ?_
      simp only [Act.put, List.setIfInBounds_toArray, List.set_cons_zero, List.set_cons_succ]
      refine wpTree_step ?_
      simp only [opsAt, List.getElem?_cons_zero, List.getElem?_cons_succ]
      go_wp2_with fail
      refine (unhide HAL).mono ?_
      rintro e w6 ⟨rfl, hq6, hb6⟩
      have hS6 := (hb6.cell (p := ⟨w1.heap.size + 1, 0, none⟩) (block_lt_of_cell hS9)).trans hS9
      have hbb6 := hb2.trans (hb6.mono hb2.size)
      have HA6 := HAC w6 hq6
      have HL6 := HLE w6 hq6
      have HC6 := HCH w6 hq6
      clear HAC HLE HCH HAL hq2 hb2 hb6 hS9
      go_wp2_with fail
      refine ⟨.inr hS6, ?_⟩
      refine wpTree_step ?_
      simp only [opsAt, List.getElem?_cons_zero, List.getElem?_cons_succ]
      go_wp2_with fail
      refine (unhide HA6).mono ?_
      rintro e w7 ⟨rfl, hw7⟩
      subst hw7
      go_wp2_with fail
      refine ⟨.inr hS6, ?_⟩
      refine wpTree_step ?_
      simp only [opsAt, List.getElem?_cons_zero, List.getElem?_cons_succ]
      go_wp2_with fail
      refine ⟨.inr (hS6), ?_⟩
      refine wpTree_step ?_
      simp only [opsAt, List.getElem?_cons_zero, List.getElem?_cons_succ]
      go_wp2_with fail
      refine ⟨.inr (hS6), ?_⟩
      refine wpTree_take (hS6) ?_
      simp only [opsAt, List.getElem?_cons_zero, List.getElem?_cons_succ]
      first | (refine wpPureH_step (v := ?_) rfl (fun W hS => ?_) ?_; rotate_left; · (obtain s1 := hS; (try simp only [Act.put, List.setIfInBounds_toArray, List.set_cons_zero, List.set_cons_succ]); go_simp; with_reducible rfl)) | (refine wpPureH_want (v := ?_) (by rfl) (fun W hS => ?_) ?_; rotate_left; · (obtain s1 := hS; (try simp only [Act.put, List.setIfInBounds_toArray, List.set_cons_zero, List.set_cons_succ]); go_simp; with_reducible rfl))
      first | (refine wpPureH_step (v := ?_) rfl (fun W hS => ?_) ?_; rotate_left; · (obtain s1 := hS; (try simp only [Act.put, List.setIfInBounds_toArray, List.set_cons_zero, List.set_cons_succ]); go_simp; with_reducible rfl)) | (refine wpPureH_want (v := ?_) (by rfl) (fun W hS => ?_) ?_; rotate_left; · (obtain s1 := hS; (try simp only [Act.put, List.setIfInBounds_toArray, List.set_cons_zero, List.set_cons_succ]); go_simp; with_reducible rfl))
      refine wpPureH_nil ?_
      simp only [Act.put, List.setIfInBounds_toArray, List.set_cons_zero, List.set_cons_succ]
      refine wpTree_step ?_
      simp only [opsAt, List.getElem?_cons_zero, List.getElem?_cons_succ]
      go_wp2_with fail
      refine (unhide HL6).mono ?_
      rintro e w7 ⟨rfl, hw7⟩
      subst hw7
      go_wp2_with fail
      refine ⟨.inr hS6, ?_⟩
      refine wpTree_step ?_
      simp only [opsAt, List.getElem?_cons_zero, List.getElem?_cons_succ]
      go_wp2_with fail
      refine (unhide HA6).mono ?_
      rintro e w7 ⟨rfl, hw7⟩
      subst hw7
      go_wp2_with fail
      refine ⟨.inr hS6, ?_⟩
      refine wpTree_step ?_
      simp only [opsAt, List.getElem?_cons_zero, List.getElem?_cons_succ]
      go_wp2_with fail
      refine ⟨.inr (hS6), ?_⟩
      refine wpTree_step ?_
      simp only [opsAt, List.getElem?_cons_zero, List.getElem?_cons_succ]
      go_wp2_with fail
      refine ⟨.inr (hS6), ?_⟩
      refine wpTree_step ?_
      simp only [opsAt, List.getElem?_cons_zero, List.getElem?_cons_succ]
      go_wp2_with fail
      refine ⟨.inr (hS6), ?_⟩
      refine wpTree_step ?_
      simp only [opsAt, List.getElem?_cons_zero, List.getElem?_cons_succ]
      go_wp2_with fail
      refine ⟨.inr (hS6), ?_⟩
      refine wpTree_take (hS6) ?_
      simp only [opsAt, List.getElem?_cons_zero, List.getElem?_cons_succ]
      first | (refine wpPureH_step (v := ?_) rfl (fun W hS => ?_) ?_; rotate_left; · (obtain s1 := hS; (try simp only [Act.put, List.setIfInBounds_toArray, List.set_cons_zero, List.set_cons_succ]); go_simp; with_reducible rfl)) | (refine wpPureH_want (v := ?_) (by rfl) (fun W hS => ?_) ?_; rotate_left; · (obtain s1 := hS; (try simp only [Act.put, List.setIfInBounds_toArray, List.set_cons_zero, List.set_cons_succ]); go_simp; with_reducible rfl))
      first | (refine wpPureH_step (v := ?_) rfl (fun W hS => ?_) ?_; rotate_left; · (obtain s1 := hS; (try simp only [Act.put, List.setIfInBounds_toArray, List.set_cons_zero, List.set_cons_succ]); go_simp; with_reducible rfl)) | (refine wpPureH_want (v := ?_) (by rfl) (fun W hS => ?_) ?_; rotate_left; · (obtain s1 := hS; (try simp only [Act.put, List.setIfInBounds_toArray, List.set_cons_zero, List.set_cons_succ]); go_simp; with_reducible rfl))
      first | (refine wpPureH_step (v := ?_) rfl (fun W hS => ?_) ?_; rotate_left; · (obtain s1 := hS; (try simp only [Act.put, List.setIfInBounds_toArray, List.set_cons_zero, List.set_cons_succ]); go_simp; with_reducible rfl)) | (refine wpPureH_want (v := ?_) (by rfl) (fun W hS => ?_) ?_; rotate_left; · (obtain s1 := hS; (try simp only [Act.put, List.setIfInBounds_toArray, List.set_cons_zero, List.set_cons_succ]); go_simp; with_reducible rfl))
      refine wpPureH_nil ?_
      simp only [Act.put, List.setIfInBounds_toArray, List.set_cons_zero, List.set_cons_succ]
      refine wpTree_step ?_
      simp only [opsAt, List.getElem?_cons_zero, List.getElem?_cons_succ]
      go_wp2_with fail
      refine (unhide HC6).mono ?_
      rintro e w7 ⟨rfl, hw7⟩
      subst hw7
      go_wp2_with fail
      refine ⟨.inr hS6, ?_⟩
      refine wpTree_step ?_
      simp only [opsAt, List.getElem?_cons_zero, List.getElem?_cons_succ]
      go_wp2_with fail
      refine ⟨.inr (hS6), ?_⟩
      refine wpTree_step ?_
      simp only [opsAt, List.getElem?_cons_zero, List.getElem?_cons_succ]
      go_wp2_with fail
      refine ⟨.inr (hS6), ?_⟩
      refine wpTree_fin ?_
      go_wp2_with fail
      go_roundg (len0 - j - 1)
      case measure => omega
      case rel => exact ⟨j + 1, L2, by go_num, by omega, hL2, hq6, hbb6⟩
    · as_aux_lemma =>
      clear hq
      go_wp2_with (first | (go_at_call 9; refine (add_nil _ _).mono ?_; rintro e w' ⟨rfl, rfl⟩) | (go_at_call 13; refine (len_nil _).mono ?_; rintro e w' ⟨rfl, rfl⟩) | (go_at_call 14; refine (chunks_nil _).mono ?_; rintro e w' ⟨rfl, rfl⟩) | (go_at_call 17; refine (cut_nil _ _).mono ?_; rintro e w' ⟨rfl, rfl⟩) | (go_at_call 12; refine (all_nil _).mono ?_; rintro e w' ⟨rfl, rfl⟩) | (go_at_call 11; refine (next_nil _).mono ?_; rintro e w7 ⟨rfl, hbn⟩) | (go_at_call 10; refine (take_nil _ _).mono ?_; rintro e w8 ⟨rfl, hbt⟩))
      go_ret
      exact ⟨rfl, (hbb.trans (hbn.mono hbb.size)).trans (hbt.mono (Nat.le_trans hbb.size hbn.size))⟩
end Go.Proofs.Ytilfhanmokfhlaa
