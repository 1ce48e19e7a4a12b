/-
  The walk of QueueParts.
-/
import Derived.Test.YtilfhanmokfhlaaQueueD
import Derived.Test.YtilfhanmokfhlaaStage
namespace Go.Proofs.Ytilfhanmokfhlaa
open Go.RowKit Instr

theorem queueParts_no (b : List UInt8) (a1 : Option Addr) (len1 cap1 : Nat) (a2 : Option Addr) (len2 cap2 : Nat) (w : World) (hb : b.length ≤ 140737488355328) (hl1 : len1 ≤ 9223372036854775807) (hl2 : len2 ≤ 9223372036854775807)
    (h : 300 < b.length ∨ 60 < len1 ∨ 60 < len2) :
    Calls Try.prog 3 #[.string (S b), .slice a1 len1 cap1, .slice a2 len2 cap2] w fun e w' => e = .returned (.bool true) ∧ Below w.heap.size w w' := by
  have HA := hide (alive_any w)
  by_cases h1 : 300 < b.length
  · have h1' : (300 : Int) < b.length := by omega
    clear h
    go_enter Try.func3, Try.ntmps3
    go_wp2_with fail
    (with_reducible refine (unhide HA).mono ?_)
    rintro e w1 ⟨rfl, hb⟩
    go_wp2_with fail
    go_ret
    exact ⟨rfl, hb⟩
  by_cases h2 : 60 < len1
  · have h2' : (60 : Int) < len1 := by omega
    clear h
    go_enter Try.func3, Try.ntmps3
    go_wp2_with fail
    (with_reducible refine (unhide HA).mono ?_)
    rintro e w1 ⟨rfl, hb⟩
    go_wp2_with fail
    go_ret
    exact ⟨rfl, hb⟩
  have h3' : (60 : Int) < len2 := by omega
  clear h
  go_enter Try.func3, Try.ntmps3
  go_wp2_with fail
  (with_reducible refine (unhide HA).mono ?_)
  rintro e w1 ⟨rfl, hb⟩
  go_wp2_with fail
  go_ret
  exact ⟨rfl, hb⟩

theorem i64_and1 (z : Int) : ∃ k : Nat, k ≤ 1 ∧ bits .and .i64 z 1 = (k : Int) := i64_and_mask z 1 (by omega)

/-- string([]byte{x}) -/
theorem run_string_byte {P : Program} {src dst e : TypeId} (hs : P.underlying src = some (.slice e)) (he : P.underlying e = some (.int .u8)) (hd : P.underlying dst = some .string)
    (x : UInt8) (xi : Int) (hxi : xi = (x.toNat : Int)) (W : World) (g : Nat) (h : W.cell? ⟨g, 0, none⟩ = some (.int .u8 xi)) :
    (convert src dst (.slice (some ⟨g, 0, none⟩) 1 1)).run P W = Result.ok (.string (S [x])) W := by
  refine run_string_at hs he hd W ⟨g, 0, none⟩ 1 1 [x] (by simp) (fun j u hu => ?_)
  cases j with
  | zero =>
    have e1 : (⟨g, 0, none⟩ : Addr).add 0 = ⟨g, 0, none⟩ := rfl
    rw [e1, h]
    simp [u8s] at hu
    rw [← hu, hxi]
  | succ j => simp [u8s] at hu

set_option maxRecDepth 100000 in
theorem queueParts_yes (b : List UInt8) (a1 : Option Addr) (len1 cap1 : Nat) (a2 : Option Addr) (len2 cap2 : Nat) (w : World) (hb3 : b.length ≤ 300) (hl1 : len1 ≤ 60) (hl2 : len2 ≤ 60)
    (hc1 : ∀ i, i < len1 → ∃ g off, a1 = some ⟨g, off, none⟩ ∧ g < w.heap.size ∧ ∃ z, w.cell? ⟨g, off + i, none⟩ = some (.int .i64 z))
    (hc2 : ∀ i, i < len2 → ∃ g off, a2 = some ⟨g, off, none⟩ ∧ g < w.heap.size ∧ ∃ z, w.cell? ⟨g, off + i, none⟩ = some (.int .i64 z)) :
    Calls Try.prog 3 #[.string (S b), .slice a1 len1 cap1, .slice a2 len2 cap2] w fun e w' => e = .returned (.bool true) ∧ Below w.heap.size w w' := by
  have HA := hide (alive_any w)
  have HC1 := hide hc1
  have HC2 := hide hc2
  clear hc1 hc2
  go_enter Try.func3, Try.ntmps3
  go_wp2_with fail
  (with_reducible refine (unhide HA).mono ?_)
  rintro e w1 ⟨rfl, hb⟩
  have h0 := Q.new (B := w.heap.size) w1 hb.size
  have hb := hb.alloc hb.size (.cells #[.slice none 0 0, .int .i64 0] 27)
  go_wp2_with fail
  go_loopg [8, 10, 11, 40] len1 (fun g s8 s10 s11 s40 wr => ∃ (j : Nat) (left : List UInt8) (L : List (List UInt8)), s40 = .int .i64 j ∧ j + g = len1 ∧ s8 = .string (S left) ∧ Hid (L.flatten ++ left = b) ∧ left.length ≤ b.length ∧
    Q wr w.heap.size w1.heap.size L ∧ Below w.heap.size w wr)
  case atStart => exact ⟨0, b, [], rfl, by omega, rfl, rfl, by omega, h0, hb⟩
  case round =>
    obtain ⟨j, left, L, rfl, hj, rfl, hall, hll, hq, hb⟩ := hrel
    clear h0
    have hLl : L.flatten.length + left.length = b.length := by rw [← hall.out, List.length_append]
    by_cases hlt : j < len1
    · obtain ⟨g, off, rfl, hgs, z, hcell⟩ := HC1.out j hlt
      have cz : wr.cell? ⟨g, off + j, none⟩ = some (.int .i64 z) := (hb.cell (p := ⟨g, off + j, none⟩) hgs).trans hcell
      obtain ⟨m, hm, hbits⟩ := i64_and_mask z 15 (by omega)
      have hbits' : bits BinOp.and IntKind.i64 z 15 = (m : Int) := hbits
      obtain ⟨n, hn⟩ : ∃ n : Nat, n = min m left.length := ⟨_, rfl⟩
      have hmin := min_i64 (P := Try.prog) #[3, 3] 3 m left.length n (by omega)
      obtain ⟨lt, hlt2⟩ : ∃ lt, lt = left.take n := ⟨_, rfl⟩
      obtain ⟨ld, hld⟩ : ∃ ld, ld = left.drop n := ⟨_, rfl⟩
      have hs1 := slice_to_at (P := Try.prog) Try.underlying9 left n (by omega) n rfl lt hlt2
      have hs2 := slice_from_at (P := Try.prog) Try.underlying9 left n (by omega) n rfl ld hld
      have hlt3 : lt.length ≤ left.length := by rw [hlt2, List.length_take]; omega
      have hld3 : ld.length ≤ left.length := by rw [hld, List.length_drop]; omega
      have H := hide (add_Q hq lt (S lt) rfl (by omega))
      have hall2 : Hid ((addL L lt).flatten ++ ld = b) := by show _ = _; rw [addL_flat, hlt2, hld, List.append_assoc, List.take_append_drop]; exact hall.out
      clear hcell hbits hn hlt2 hld hq
      go_wp2_with fail
      (with_reducible refine (unhide H).mono ?_)
      rintro e w2 ⟨rfl, hq, hb2⟩
      have hb := hb.trans hb2
      go_wp2_with fail
      go_roundg (gk - 1)
      case measure => omega
      case rel => exact ⟨j + 1, ld, addL L lt, by go_num, by omega, rfl, hall2, by omega, hq, hb⟩
    · have H := hide (add_Q hq left (S left) rfl (by omega))
      obtain ⟨L2, hL2⟩ : ∃ L2, L2 = addL L left := ⟨_, rfl⟩
      have hf2 : L2.flatten = b := by rw [hL2, addL_flat]; exact hall.out
      rw [← hL2] at H
      have hf2 := hide hf2
      clear hL2 hq
      go_wp2_with fail
      (with_reducible refine (unhide H).mono ?_)
      rintro e w2 ⟨rfl, hq, hb2⟩
      have hb := hb.trans hb2
      go_wp2_with fail
      go_loopg [12, 14, 15, 16, 63] len2 (fun g s12 s14 s15 s16 s63 wr => ∃ (i : Nat) (got : List UInt8) (M : List (List UInt8)), s63 = .int .i64 i ∧ i + g = len2 ∧ s12 = .string (S got) ∧ Hid (got ++ M.flatten = b) ∧ got.length ≤ b.length ∧
        Q wr w.heap.size w1.heap.size M ∧ Below w.heap.size w wr)
      case atStart => exact ⟨0, [], L2, rfl, by omega, rfl, hf2.out, by simp, hq, hb⟩
      case round =>
        obtain ⟨i, got, M, rfl, hi, rfl, hgot, hgl, hqM, hbM⟩ := hrel
        clear hq hb
        have hMl : got.length + M.flatten.length = b.length := by rw [← hgot.out, List.length_append]
        by_cases hlt2 : i < len2
        · obtain ⟨g, off, rfl, hgs, z, hcell⟩ := HC2.out i hlt2
          have cz : wr.cell? ⟨g, off + i, none⟩ = some (.int .i64 z) := (hbM.cell (p := ⟨g, off + i, none⟩) hgs).trans hcell
          obtain ⟨o, ho, hbits⟩ := i64_and1 z
          have hbits' : bits BinOp.and IntKind.i64 z 1 = (o : Int) := hbits
          by_cases ho0 : o = 0
          · subst ho0
            obtain ⟨k, hk, hbits2⟩ := i64_and_mask (z / 2) 15 (by omega)
            have hbits2' : bits BinOp.and IntKind.i64 (z / 2) 15 = (k : Int) := hbits2
            obtain ⟨kk, hkk⟩ : ∃ kk : Nat, kk = min k M.flatten.length := ⟨_, rfl⟩
            obtain ⟨l, hl⟩ : ∃ l, l = M.flatten.take kk := ⟨_, rfl⟩
            have H := hide (take_Q hqM k kk (by omega) (by omega) l hl)
            have hll : l.length ≤ M.flatten.length := by rw [hl, List.length_take]; omega
            have hadd := run_add_S (P := Try.prog) got l (by omega)
            obtain ⟨got2, hgot2⟩ : ∃ got2, got2 = got ++ l := ⟨_, rfl⟩
            rw [← hgot2] at hadd
            have hg2 : Hid (got2 ++ (dropQ kk M).flatten = b) := by show _ = _; rw [hgot2, dropQ_flat, List.append_assoc, hl, List.take_append_drop]; exact hgot.out
            have hg3 : got2.length ≤ b.length := by rw [hgot2, List.length_append]; omega
            clear hcell hbits hbits2 hkk hl hgot2 hqM hMl hll
            go_wp2_with fail
            (with_reducible refine (unhide H).mono ?_)
            rintro e w3 ⟨rfl, hqM, hb3⟩
            have hbM := hbM.trans hb3
            go_wp2_with fail
            go_roundg (gk - 1)
            case measure => omega
            case rel => exact ⟨i + 1, got2, _, by go_num, by omega, rfl, hg2, hg3, hqM, hbM⟩
          · have ho1 : o = 1 := by omega
            subst ho1
            clear hcell hbits ho0
            by_cases hM0 : M.flatten = []
            · have hMe : M = [] := by
                have h1 := flat_le M hqM.ne
                rw [hM0] at h1
                exact List.eq_nil_of_length_eq_zero (by simpa using h1)
              subst hMe
              have H := hide (next_Q hqM (by simp) 0 false (.inl ⟨rfl, rfl, rfl⟩))
              clear hM0 hqM hMl
              go_wp2_with fail
              (with_reducible refine (unhide H).mono ?_)
              rintro e w3 ⟨rfl, hqM, hb3⟩
              have hbM := hbM.trans hb3
              go_wp2_with fail
              go_roundg (gk - 1)
              case measure => omega
              case rel => exact ⟨i + 1, got, _, by go_num, by omega, rfl, hgot, hgl, hqM, hbM⟩
            · obtain ⟨x, r, hxr⟩ := List.exists_cons_of_ne_nil hM0
              have H := hide (next_Q hqM (by omega) (x.toNat : Int) true (.inr ⟨x, r, hxr, rfl, rfl⟩))
              have hcv := run_string_byte (P := Try.prog) Try.underlying33 Try.underlying5 Try.underlying9 x (x.toNat : Int) rfl
              rw [hxr, List.length_cons] at hMl
              have hadd := run_add_S (P := Try.prog) got [x] (by simp; omega)
              obtain ⟨got2, hgot2⟩ : ∃ got2, got2 = got ++ [x] := ⟨_, rfl⟩
              rw [← hgot2] at hadd
              have hg2 : Hid (got2 ++ (dropQ 1 M).flatten = b) := by show _ = _; rw [hgot2, dropQ_flat, List.append_assoc, hxr, ← hgot.out, hxr]; rfl
              have hg3 : got2.length ≤ b.length := by rw [hgot2, List.length_append, List.length_singleton]; omega
              clear hgot2 hqM hMl hM0 hxr
              go_wp2_with fail
              (with_reducible refine (unhide H).mono ?_)
              rintro e w3 ⟨rfl, hqM, hb3⟩
              have hbM := hbM.trans hb3
              go_wp2_with fail
              go_roundg (gk - 1)
              case measure => omega
              case rel => exact ⟨i + 1, got2, _, by go_num, by omega, rfl, hg2, hg3, hqM.alloc _, hbM.alloc hbM.size _⟩
        · have hil : i = len2 := by omega
          subst hil
          obtain ⟨l, hl⟩ : ∃ l, l = M.flatten := ⟨_, rfl⟩
          have H := hide (all_Q hqM (by omega) l hl)
          have hadd := run_add_S (P := Try.prog) got l (by rw [hl]; omega)
          rw [hl, hgot.out, ← hl] at hadd
          have Hl := hide (show (b.length : Int) - got.length = (M.flatten.length : Nat) by omega)
          clear hl hqM hMl
          go_wp2_with fail
          (with_reducible refine (unhide H).mono ?_)
          rintro e w3 ⟨rfl, hqM, hb3⟩
          have hbM := hbM.trans (hb3.mono hbM.size)
          have H := hide (len_Q hqM _ Hl.out)
          go_wp2_with fail
          (with_reducible refine (unhide H).mono ?_)
          rintro e w3 ⟨rfl, rfl⟩
          go_wp2_with fail
          go_ret
          exact ⟨rfl, hbM⟩
end Go.Proofs.Ytilfhanmokfhlaa
