/-
  The walk of RingOrder: it returns true and writes nothing that was there.
-/
import Derived.Test.YtaejefahmmickaaRingA
import Derived.Test.YtaejefahmmickaaArgs
namespace Go.Proofs.Ytaejefahmmickaa
open Go.RowKit

theorem ringOrder_no (lb : List UInt8) (a1 : Option Addr) (len1 cap1 : Nat) (a2 : Option Addr) (len2 cap2 : Nat) (w : World) (hb : lb.length ≤ 140737488351232) (hl1 : len1 ≤ 9223372036854775807) (hl2 : len2 ≤ 9223372036854775807)
    (h : 300 < lb.length ∨ len1 = 0 ∨ 60 < len1 ∨ 60 < len2) :
    Calls Try.prog 3 #[.string (S lb), .slice a1 len1 cap1, .slice a2 len2 cap2] w fun e w' => e = .returned (.bool true) ∧ Below w.heap.size w w' := by
  by_cases h1 : 300 < lb.length
  · go_enter Try.func3, Try.ntmps3
    go_wp2_with (go_at_call 8; refine (alive_any _).mono ?_; rintro e w' ⟨rfl, hb⟩)
    go_ret
    exact ⟨rfl, by assumption⟩
  by_cases h2 : len1 = 0
  · subst h2
    go_enter Try.func3, Try.ntmps3
    go_wp2_with (go_at_call 8; refine (alive_any _).mono ?_; rintro e w' ⟨rfl, hb⟩)
    go_ret
    exact ⟨rfl, by assumption⟩
  have h2' : ((len1 : Int) == 0) = false := by simp; omega
  by_cases h3 : 60 < len1
  · go_enter Try.func3, Try.ntmps3
    go_wp2_with (go_at_call 8; refine (alive_any _).mono ?_; rintro e w' ⟨rfl, hb⟩)
    go_ret
    exact ⟨rfl, by assumption⟩
  have h4 : 60 < len2 := by omega
  go_enter Try.func3, Try.ntmps3
  go_wp2_with (go_at_call 8; refine (alive_any _).mono ?_; rintro e w' ⟨rfl, hb⟩)
  go_ret
  exact ⟨rfl, by assumption⟩

theorem ringOrder_yes (lb : List UInt8) (b1 off1 len1 cap1 : Nat) (z1 : List Int) (a2 : Option Addr) (len2 cap2 : Nat) (z2 : List Int) (w : World) (hlb : lb.length ≤ 300) (h0 : 0 < len1) (h1 : len1 ≤ 60) (h2 : len2 ≤ 60)
    (hb1 : b1 < w.heap.size) (hz1 : len1 ≤ z1.length) (hc1 : ∀ i, i < z1.length → w.cell? ⟨b1, off1 + i, none⟩ = some (.int .i64 (z1.getD i 0))) (hrow2 : IsRow .i64 w a2 len2 cap2 z2) :
    Calls Try.prog 3 #[.string (S lb), .slice (some ⟨b1, off1, none⟩) len1 cap1, .slice a2 len2 cap2] w fun e w' => e = .returned (.bool true) ∧ Below w.heap.size w w' := by
  have h2' : ((len1 : Int) == 0) = false := by simp; omega
  have HA := hide (alive_any w)
  have HC1 := hide hc1
  have HR2 := hide hrow2
  clear hc1 hrow2
  go_enter Try.func3, Try.ntmps3
  go_wp2_with fail
  refine (unhide HA).mono ?_
  rintro e w1 ⟨rfl, hbl1⟩
  have HN := hide (new_any 20 w1)
  clear HA
  go_wp2_with fail
  refine (unhide HN).mono ?_
  rintro e w2 ⟨p, rfl, hr2, hb2⟩
  have hr3 : Ring w.heap.size w2 p 20 [] := ring_mono hr2 hbl1.size
  have hb3 : Below w.heap.size w w2 := hbl1.trans (hb2.mono hbl1.size)
  clear HN hr2 hb2 hbl1
  go_wp2_with fail
  go_loopg [8, 9, 10] lb.length (fun g got left i wr => ∃ (j : Nat) (lg ll lr : List UInt8), got = .string (S lg) ∧ left = .string (S ll) ∧ i = .int .i64 j ∧ Hid (lg ++ (lr ++ ll) = lb) ∧ Hid (g = lr.length + ll.length) ∧ j + g ≤ lb.length ∧ Ring w.heap.size wr p 20 lr ∧ Below w.heap.size w wr)
  case atStart => exact ⟨0, [], lb, [], rfl, rfl, rfl, rfl, by show lb.length = _; simp, by omega, hr3, hb3⟩
  case round =>
    obtain ⟨j, lg, ll, lr, rfl, rfl, rfl, H1, H2, hj, hr, hb⟩ := hrel
    clear hr3 hb3
    by_cases hC : ll = [] ∧ lr = []
    · obtain ⟨rfl, rfl⟩ := hC
      have HL := hide (len_at _ _ _ _ _ hr 0 rfl)
      have hj' : (j : Int) < 2000 := by omega
      go_wp2_with fail
      refine (unhide HL).mono ?_
      rintro e w4 ⟨rfl, rfl⟩
      have he : lg = lb := by have := H1.out; simpa using this
      subst he
      clear H1
      go_wp2_with fail
      go_ret
      exact ⟨rfl, hb⟩
    · have hll : ll.length ≤ lb.length := by have := H2.out; omega
      have hlr := (ring_lt hr).2
      have hlg : lg.length ≤ lb.length := by have := congrArg List.length H1.out; simp at this; omega
      have hpos : 0 < lr.length + ll.length := by
        rcases ll with _ | ⟨c, cs⟩
        · rcases lr with _ | ⟨c, cs⟩
          · exact absurd ⟨rfl, rfl⟩ hC
          · simp
        · simp; omega
      have hj' : (j : Int) < 2000 := by omega
      -- the first list's element
      have hmod : j % len1 < len1 := Nat.mod_lt _ h0
      have cz : wr.cell? ⟨b1, off1 + j % len1, none⟩ = some (.int .i64 (z1.getD (j % len1) 0)) := (hb.cell (p := ⟨b1, off1 + j % len1, none⟩) hb1).trans (HC1.out _ (by omega))
      obtain ⟨z, hz⟩ : ∃ z, z = z1.getD (j % len1) 0 := ⟨_, rfl⟩
      rw [← hz] at cz
      obtain ⟨m, hm, hbits⟩ := i64_and_mask z 15 (by omega)
      have hcz : len1 ≠ 0 := by omega
      have htm : (j : Int).tmod len1 = (j : Int) % len1 := Int.tmod_eq_emod_of_nonneg (by omega)
      have hm1 : (0 : Int) ≤ (j : Int) % len1 := Int.emod_nonneg _ (by omega)
      have hm2 : (j : Int) % len1 < len1 := Int.emod_lt_of_pos _ (by omega)
      obtain ⟨n, hn⟩ : ∃ n : Nat, n = min (m + 1) ll.length := ⟨_, rfl⟩
      have hmin := min_i64 (P := Try.prog) #[3, 3] 3 ((m : Int) + 1) ll.length n (by omega)
      have hnl : n ≤ ll.length := by omega
      have hs1 := slice_to (P := Try.prog) Try.underlying9 ll n hnl
      obtain ⟨k1, hk1⟩ : ∃ k1 : Nat, k1 = min n (20 - lr.length) := ⟨_, rfl⟩
      have hkl : k1 ≤ ll.length := by omega
      have hs2 := slice_from (P := Try.prog) Try.underlying9 ll k1 hkl
      have HP := fun W (hW : Ring w.heap.size W p 20 lr) => put_any _ _ _ _ (S (ll.take n)) W hW (by rw [S_size, List.length_take]; omega) k1 (20 - lr.length) (by omega) (by rw [S_size, List.length_take]; omega)
      have H3 := hide (And.intro hn (And.intro hk1 hpos))
      have H4 := hide HP
      have HL := hide (len_any _ _ _ _ _ hr)
      have hbits' : bits BinOp.and IntKind.i64 z 15 = (m : Int) := hbits
      clear hz hn hk1 HP hbits hpos
      have fin : ∀ (x : Int) (k2 : Nat) (W : World), 1 ≤ x → (k2 : Int) = min (max x 0) (lr ++ ll.take k1).length →
          lg ++ (lr ++ ll.take k1).take k2 ++ ((lr ++ ll.take k1).drop k2 ++ ll.drop k1) = lb ∧ ((lr ++ ll.take k1).drop k2).length + (ll.drop k1).length < gk ∧ (lr ++ ll.take k1).length ≤ 20 := by
        intro x k2 W hx hk2
        obtain ⟨hn, hk1, hpos⟩ := H3.out
        refine ⟨?_, ?_, ?_⟩
        · rw [List.append_assoc, ← List.append_assoc ((lr ++ ll.take k1).take k2), List.take_append_drop, List.append_assoc, List.take_append_drop]; exact H1.out
        · rw [H2.out, List.length_drop, List.length_drop, List.length_append, List.length_take]
          rw [List.length_append, List.length_take] at hk2
          omega
        · rw [List.length_append, List.length_take]; omega
      have HF := hide fin
      clear fin
      by_cases hA : ll.isEmpty = true
      · have hB : 0 < lr.length := by
          have h3 := H3.out.2.2
          have h4 : ll.length = 0 := by simpa using hA
          omega
        go_wp2_with fail
        refine (unhide HL).mono ?_
        rintro e w4 ⟨rfl, rfl⟩
        go_wp2_with fail
        have HP := hide ((unhide H4) _ hr)
        refine (unhide HP).mono ?_
        rintro e w5 ⟨rfl, hr5, hb5⟩
        have hr5 : Ring w.heap.size w5 p 20 (lr ++ ll.take k1) := by
          have hn := H3.out
          rw [S_data, List.take_take, Nat.min_eq_left (by omega)] at hr5
          exact hr5
        have hb5 := hb.trans hb5
        clear HP H4 HL
        by_cases hL2 : 0 < len2
        · obtain ⟨b2, off2, rfl, hb2, hl2, hm2', hz2, hc2, _⟩ := isRow_at HR2.out hL2
          have hmod2 : j % len2 < len2 := Nat.mod_lt _ hL2
          have cz2 : w5.cell? ⟨b2, off2 + j % len2, none⟩ = some (.int .i64 (z2.getD (j % len2) 0)) := (hb5.cell (p := ⟨b2, off2 + j % len2, none⟩) hb2).trans (hc2 _ (by omega))
          obtain ⟨z', hz'⟩ : ∃ z', z' = z2.getD (j % len2) 0 := ⟨_, rfl⟩
          rw [← hz'] at cz2
          obtain ⟨m2, hm2, hbits2⟩ := i64_and_mask z' 7 (by omega)
          have hbits2' : bits BinOp.and IntKind.i64 z' 7 = (m2 : Int) := hbits2
          have hcz2 : len2 ≠ 0 := by omega
          have htm2 : (j : Int).tmod len2 = (j : Int) % len2 := Int.tmod_eq_emod_of_nonneg (by omega)
          have hm12 : (0 : Int) ≤ (j : Int) % len2 := Int.emod_nonneg _ (by omega)
          have hm22 : (j : Int) % len2 < len2 := Int.emod_lt_of_pos _ (by omega)
          obtain ⟨x, hx⟩ : ∃ x : Int, x = (m2 : Int) + 1 := ⟨_, rfl⟩
          obtain ⟨k2, hk2⟩ : ∃ k2 : Nat, (k2 : Int) = min (max x 0) (lr ++ ll.take k1).length := ⟨(min (max x 0) (lr ++ ll.take k1).length).toNat, by omega⟩
          obtain ⟨hF1, hF2, hF3⟩ := HF.out x k2 w5 (by omega) hk2
          have hF1 := hide hF1
          clear hz' hbits2 hc2 HF
          subst hx
          go_wp2_with fail
          have HT := hide (take_any _ _ _ _ _ _ hr5 k2 hk2)
          clear hk2
          go_wp2_with fail
          refine (unhide HT).mono ?_
          rintro e w6 ⟨rfl, hr6, hb6⟩
          have hadd := run_add_S (P := Try.prog) lg ((lr ++ ll.take k1).take k2) (by rw [List.length_take]; omega)
          clear hr5 HT
          go_wp2_with fail
          go_roundg (((lr ++ ll.take k1).drop k2).length + (ll.drop k1).length)
          case measure => exact hF2
          case rel => exact ⟨j + 1, _, _, _, rfl, rfl, by go_num, hF1, rfl, by omega, hr6, hb5.trans hb6⟩
        · have hL2' : len2 ≤ 0 := by omega
          obtain ⟨x, hx⟩ : ∃ x : Int, x = 1 := ⟨_, rfl⟩
          obtain ⟨k2, hk2⟩ : ∃ k2 : Nat, (k2 : Int) = min (max x 0) (lr ++ ll.take k1).length := ⟨(min (max x 0) (lr ++ ll.take k1).length).toNat, by omega⟩
          obtain ⟨hF1, hF2, hF3⟩ := HF.out x k2 w5 (by omega) hk2
          have hF1 := hide hF1
          clear HF
          subst hx
          go_wp2_with fail
          have HT := hide (take_any _ _ _ _ _ _ hr5 k2 hk2)
          clear hk2
          go_wp2_with fail
          refine (unhide HT).mono ?_
          rintro e w6 ⟨rfl, hr6, hb6⟩
          have hadd := run_add_S (P := Try.prog) lg ((lr ++ ll.take k1).take k2) (by rw [List.length_take]; omega)
          clear hr5 HT
          go_wp2_with fail
          go_roundg (((lr ++ ll.take k1).drop k2).length + (ll.drop k1).length)
          case measure => exact hF2
          case rel => exact ⟨j + 1, _, _, _, rfl, rfl, by go_num, hF1, rfl, by omega, hr6, hb5.trans hb6⟩
      · have hA' : ll.isEmpty = false := by simpa using hA
        clear hA
        go_wp2_with fail
        have HP := hide ((unhide H4) _ hr)
        refine (unhide HP).mono ?_
        rintro e w5 ⟨rfl, hr5, hb5⟩
        have hr5 : Ring w.heap.size w5 p 20 (lr ++ ll.take k1) := by
          have hn := H3.out
          rw [S_data, List.take_take, Nat.min_eq_left (by omega)] at hr5
          exact hr5
        have hb5 := hb.trans hb5
        clear HP H4 HL
        by_cases hL2 : 0 < len2
        · obtain ⟨b2, off2, rfl, hb2, hl2, hm2', hz2, hc2, _⟩ := isRow_at HR2.out hL2
          have hmod2 : j % len2 < len2 := Nat.mod_lt _ hL2
          have cz2 : w5.cell? ⟨b2, off2 + j % len2, none⟩ = some (.int .i64 (z2.getD (j % len2) 0)) := (hb5.cell (p := ⟨b2, off2 + j % len2, none⟩) hb2).trans (hc2 _ (by omega))
          obtain ⟨z', hz'⟩ : ∃ z', z' = z2.getD (j % len2) 0 := ⟨_, rfl⟩
          rw [← hz'] at cz2
          obtain ⟨m2, hm2, hbits2⟩ := i64_and_mask z' 7 (by omega)
          have hbits2' : bits BinOp.and IntKind.i64 z' 7 = (m2 : Int) := hbits2
          have hcz2 : len2 ≠ 0 := by omega
          have htm2 : (j : Int).tmod len2 = (j : Int) % len2 := Int.tmod_eq_emod_of_nonneg (by omega)
          have hm12 : (0 : Int) ≤ (j : Int) % len2 := Int.emod_nonneg _ (by omega)
          have hm22 : (j : Int) % len2 < len2 := Int.emod_lt_of_pos _ (by omega)
          obtain ⟨x, hx⟩ : ∃ x : Int, x = (m2 : Int) + 1 := ⟨_, rfl⟩
          obtain ⟨k2, hk2⟩ : ∃ k2 : Nat, (k2 : Int) = min (max x 0) (lr ++ ll.take k1).length := ⟨(min (max x 0) (lr ++ ll.take k1).length).toNat, by omega⟩
          obtain ⟨hF1, hF2, hF3⟩ := HF.out x k2 w5 (by omega) hk2
          have hF1 := hide hF1
          clear hz' hbits2 hc2 HF
          subst hx
          go_wp2_with fail
          have HT := hide (take_any _ _ _ _ _ _ hr5 k2 hk2)
          clear hk2
          go_wp2_with fail
          refine (unhide HT).mono ?_
          rintro e w6 ⟨rfl, hr6, hb6⟩
          have hadd := run_add_S (P := Try.prog) lg ((lr ++ ll.take k1).take k2) (by rw [List.length_take]; omega)
          clear hr5 HT
          go_wp2_with fail
          go_roundg (((lr ++ ll.take k1).drop k2).length + (ll.drop k1).length)
          case measure => exact hF2
          case rel => exact ⟨j + 1, _, _, _, rfl, rfl, by go_num, hF1, rfl, by omega, hr6, hb5.trans hb6⟩
        · have hL2' : len2 ≤ 0 := by omega
          obtain ⟨x, hx⟩ : ∃ x : Int, x = 1 := ⟨_, rfl⟩
          obtain ⟨k2, hk2⟩ : ∃ k2 : Nat, (k2 : Int) = min (max x 0) (lr ++ ll.take k1).length := ⟨(min (max x 0) (lr ++ ll.take k1).length).toNat, by omega⟩
          obtain ⟨hF1, hF2, hF3⟩ := HF.out x k2 w5 (by omega) hk2
          have hF1 := hide hF1
          clear HF
          subst hx
          go_wp2_with fail
          have HT := hide (take_any _ _ _ _ _ _ hr5 k2 hk2)
          clear hk2
          go_wp2_with fail
          refine (unhide HT).mono ?_
          rintro e w6 ⟨rfl, hr6, hb6⟩
          have hadd := run_add_S (P := Try.prog) lg ((lr ++ ll.take k1).take k2) (by rw [List.length_take]; omega)
          clear hr5 HT
          go_wp2_with fail
          go_roundg (((lr ++ ll.take k1).drop k2).length + (ll.drop k1).length)
          case measure => exact hF2
          case rel => exact ⟨j + 1, _, _, _, rfl, rfl, by go_num, hF1, rfl, by omega, hr6, hb5.trans hb6⟩
end Go.Proofs.Ytaejefahmmickaa
