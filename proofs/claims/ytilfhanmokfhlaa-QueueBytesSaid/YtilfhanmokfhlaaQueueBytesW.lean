/-
  The walk of QueueBytes.
-/
import Derived.Test.YtilfhanmokfhlaaQueueD
import Derived.Test.YtilfhanmokfhlaaStage
namespace Go.Proofs.Ytilfhanmokfhlaa
open Go.RowKit

theorem queueBytes_no (a : Option Addr) (len cap : Nat) (w : World) (h : 30 < len) (hl : len ≤ 9223372036854775807) :
    Calls Try.prog 4 #[.slice a len cap] w fun e w' => e = .returned (.bool true) ∧ Below w.heap.size w w' := by
  have HA := hide (alive_any w)
  go_enter Try.func4, Try.ntmps4
  go_wp2_with fail
  (with_reducible refine (unhide HA).mono ?_)
  rintro e w1 ⟨rfl, hb⟩
  go_wp2_with fail
  go_ret
  exact ⟨rfl, hb⟩

/-- All chunks, empty ones left out. -/
def addAll (L : List (List UInt8)) (Z : List (List UInt8)) : List (List UInt8) := Z.foldl addL L
theorem addAll_flat (Z : List (List UInt8)) : ∀ L, (addAll L Z).flatten = L.flatten ++ Z.flatten := by
  induction Z with
  | nil => intro L; simp [addAll]
  | cons c Z ih => intro L; rw [addAll, List.foldl_cons, ← addAll, ih, addL_flat, List.flatten_cons, List.append_assoc]
theorem addAll_snoc (Z : List (List UInt8)) (c : List UInt8) : addAll [] (Z ++ [c]) = addL (addAll [] Z) c := by simp [addAll]

set_option maxRecDepth 100000 in
theorem queueBytes_go (a : Option Addr) (len cap : Nat) (Z : List (List UInt8)) (w : World) (h30 : len ≤ 30) (hz : len ≤ Z.length)
    (hc : ∀ i (hi : i < len), ∃ b off, a = some ⟨b, off, none⟩ ∧ b < w.heap.size ∧ w.cell? ⟨b, off + i, none⟩ = some (.string (S (Z[i]'(by omega))))) :
    Calls Try.prog 4 #[.slice a len cap] w fun e w' => e = .returned (.bool true) ∧ Below w.heap.size w w' := by
  have HA := hide (alive_any w)
  have HC := hide hc
  clear hc
  go_enter Try.func4, Try.ntmps4
  go_wp2_with fail
  (with_reducible refine (unhide HA).mono ?_)
  rintro e w1 ⟨rfl, hb⟩
  have h0 := Q.new (B := w.heap.size) w1 hb.size
  have hb := hb.alloc hb.size (.cells #[.slice none 0 0, .int .i64 0] 27)
  go_wp2_with fail
  go_loopg [4, 5, 7, 25] len (fun g s4 s5 s7 s25 wr => ∃ (j : Nat) (all : List UInt8) (L : List (List UInt8)), s25 = .int .i64 j ∧ j + g = len ∧ s4 = .string (S all) ∧ s5 = .int .i64 L.length ∧
    Hid (all = (Z.take j).flatten) ∧ Hid (L = addAll [] (Z.take j)) ∧ all.length ≤ 100 * j ∧ L.length ≤ j ∧ Q wr w.heap.size w1.heap.size L ∧ Below w.heap.size w wr)
  case atStart => exact ⟨0, [], [], rfl, by omega, rfl, rfl, rfl, rfl, by simp, by simp, h0, hb⟩
  case round =>
    obtain ⟨j, all, L, rfl, hj, rfl, rfl, hall, hL, hal, hLl, hq, hb⟩ := hrel
    clear h0
    have hLf : L.flatten = all := by rw [hL.out, addAll_flat, hall.out]; rfl
    by_cases hlt : j < len
    · obtain ⟨b, off, rfl, hbs, hcell⟩ := HC.out j hlt
      have hjZ : j < Z.length := by omega
      obtain ⟨c, hcv⟩ : ∃ c, c = Z[j] := ⟨_, rfl⟩
      rw [← hcv] at hcell
      have cz : wr.cell? ⟨b, off + j, none⟩ = some (.string (S c)) := (hb.cell (p := ⟨b, off + j, none⟩) hbs).trans hcell
      clear hcell
      by_cases hc100 : 100 < c.length
      · have hc1 : (100 : Int) < c.length := by omega
        clear hcv hLf
        go_wp2_with fail
        go_ret
        exact ⟨rfl, hb⟩
      · have hc1 : (c.length : Int) ≤ 100 := by omega
        obtain ⟨all2, hall2⟩ : ∃ all2, all2 = all ++ c := ⟨_, rfl⟩
        have hadd := run_add_S (P := Try.prog) all c (by omega)
        rw [← hall2] at hadd
        have hl2 : all2.length ≤ 100 * (j + 1) := by rw [hall2, List.length_append]; omega
        have hall3 : Hid (all2 = (Z.take (j + 1)).flatten) := by show _ = _; rw [hall2, take_snoc Z j hjZ, List.flatten_append, ← hall.out, hcv]; simp
        have hL3 : Hid (addL L c = addAll [] (Z.take (j + 1))) := by show _ = _; rw [take_snoc Z j hjZ, addAll_snoc, ← hL.out, hcv]
        have H := hide (add_Q hq c (S c) rfl (by rw [hLf]; omega))
        clear hcv hLf hall2 hq
        by_cases hce : c = []
        · subst hce
          have hLL : addL L [] = L := by simp [addL]
          rw [hLL] at H hL3
          clear hLL
          go_wp2_with fail
          (with_reducible refine (unhide H).mono ?_)
          rintro e w2 ⟨rfl, hq, hb2⟩
          have hb := hb.trans hb2
          go_wp2_with fail
          go_roundg (gk - 1)
          case measure => omega
          case rel => exact ⟨j + 1, all2, L, by go_num, by omega, rfl, rfl, hall3, hL3, hl2, by omega, hq, hb⟩
        · have hLL : addL L c = L ++ [c] := by simp [addL, hce]
          rw [hLL] at H hL3
          have hbe : c.isEmpty = false := by cases c with | nil => exact absurd rfl hce | cons _ _ => rfl
          clear hLL hce
          go_wp2_with fail
          (with_reducible refine (unhide H).mono ?_)
          rintro e w2 ⟨rfl, hq, hb2⟩
          have hb := hb.trans hb2
          go_wp2_with fail
          go_roundg (gk - 1)
          case measure => omega
          case rel => exact ⟨j + 1, all2, L ++ [c], by go_num, by omega, rfl, by rw [List.length_append]; go_num, hall3, hL3, hl2, by rw [List.length_append, List.length_singleton]; omega, hq, hb⟩
    · have hjl : j = len := by omega
      subst hjl
      have H := hide (chunks_Q hq L.length rfl)
      have hal2 : all.length ≤ 3000 := by omega
      have HLf := hide hLf
      clear hLf
      go_wp2_with fail
      (with_reducible refine (unhide H).mono ?_)
      rintro e w2 ⟨rfl, rfl⟩
      go_wp2_with fail
      obtain ⟨wo, rfl⟩ : ∃ wo : World, wo = w2 := ⟨_, rfl⟩
      go_loopg [8, 9, 10] all.length (fun g s8 s9 s10 wr => ∃ (i : Nat) (M : List (List UInt8)), s8 = .int .i64 i ∧ i + g = all.length ∧ Hid (M.flatten = all.drop i) ∧ Q wr w.heap.size w1.heap.size M ∧ Below w.heap.size w wr)
      case atStart => exact ⟨0, L, rfl, by omega, by show _ = _; rw [HLf.out]; rfl, hq, hb⟩
      case round =>
        obtain ⟨i, M, rfl, hi, hM, hqM, hbM⟩ := hrel
        clear hq hb
        have hMl : M.flatten.length = all.length - i := by rw [hM.out, List.length_drop]
        by_cases hlt : i < all.length
        · have hil : (i : Int) < all.length := by omega
          have H := hide (next_Q hqM (by omega) (all[i].toNat : Int) true (.inr ⟨all[i], all.drop (i + 1), by rw [hM.out, List.drop_eq_getElem_cons hlt], rfl, rfl⟩))
          have hM2 : Hid ((dropQ 1 M).flatten = all.drop (i + 1)) := by show _ = _; rw [dropQ_flat, hM.out, List.drop_drop]
          clear hMl
          go_wp2_with fail
          (with_reducible refine (unhide H).mono ?_)
          rintro e w3 ⟨rfl, hq3, hb3⟩
          have hb4 := hbM.trans hb3
          have H := hide (len_Q hq3 ((all.length : Int) - i - 1) (by rw [hM2.out, List.length_drop]; omega))
          go_wp2_with fail
          (with_reducible refine (unhide H).mono ?_)
          rintro e w3 ⟨rfl, rfl⟩
          go_wp2_with fail
          go_roundg (gk - 1)
          case measure => omega
          case rel => exact ⟨i + 1, _, by go_num, by omega, hM2, hq3, hb4⟩
        · have hil : i = all.length := by omega
          subst hil
          have hM0 : M = [] := by
            have h1 := flat_le M hqM.ne
            exact List.eq_nil_of_length_eq_zero (by omega)
          subst hM0
          have H := hide (next_Q hqM (by simp) 0 false (.inl ⟨rfl, rfl, rfl⟩))
          clear hMl
          go_wp2_with fail
          (with_reducible refine (unhide H).mono ?_)
          rintro e w3 ⟨rfl, hq3, hb3⟩
          have hb4 := hbM.trans hb3
          go_wp2_with fail
          go_ret
          exact ⟨rfl, hb4⟩
end Go.Proofs.Ytilfhanmokfhlaa
