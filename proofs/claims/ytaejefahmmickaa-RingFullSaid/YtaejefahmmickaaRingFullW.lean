/-
  The walk of RingFull: it returns true and writes nothing that was there.
-/
import Derived.Test.YtaejefahmmickaaRingA
namespace Go.Proofs.Ytaejefahmmickaa
open Go.RowKit

theorem string_made (l : List UInt8) (n : Nat) (hn : l.length = n) (W : World) (g : Nat) (hg : W.heap.size = g) :
    (convert 30 9 (.slice (some ⟨g, 0, none⟩) n n)).run Try.prog (W.alloc (.cells (bytesV l) 5)) = .ok (.string (S l)) (W.alloc (.cells (bytesV l) 5)) := by
  subst hg
  refine run_string_at Try.underlying30 Try.underlying5 Try.underlying9 _ _ n n l hn (fun j u hu => ?_)
  have h := (Blk.new W 5 (bytesV l)).cell j
  have e : (⟨W.heap.size, 0, none⟩ : Addr).add j = ⟨W.heap.size, j, none⟩ := by unfold Addr.add; split <;> simp_all
  rw [e, h, bytesV_eq, ← hu]
  simp

theorem ringFull_no (a0 a1 : Int) (w : World) (h : a0 < 1 ∨ 200 < a0 ∨ a1 < 0 ∨ 300 < a1) :
    Calls Try.prog 4 #[.int .i64 a0, .int .i64 a1] w fun e w' => e = .returned (.bool true) ∧ Below w.heap.size w w' := by
  by_cases h1 : a0 < 1
  · go_enter Try.func4, Try.ntmps4
    go_wp2_with (go_at_call 8; refine (alive_any _).mono ?_; rintro e w' ⟨rfl, hb⟩)
    go_ret
    exact ⟨rfl, hb⟩
  by_cases h2 : 200 < a0
  · go_enter Try.func4, Try.ntmps4
    go_wp2_with (go_at_call 8; refine (alive_any _).mono ?_; rintro e w' ⟨rfl, hb⟩)
    go_ret
    exact ⟨rfl, hb⟩
  by_cases h3 : a1 < 0
  · go_enter Try.func4, Try.ntmps4
    go_wp2_with (go_at_call 8; refine (alive_any _).mono ?_; rintro e w' ⟨rfl, hb⟩)
    go_ret
    exact ⟨rfl, hb⟩
  · have h4 : 300 < a1 := by omega
    go_enter Try.func4, Try.ntmps4
    go_wp2_with (go_at_call 8; refine (alive_any _).mono ?_; rintro e w' ⟨rfl, hb⟩)
    go_ret
    exact ⟨rfl, hb⟩

theorem ringFull_yes (r n : Nat) (w : World) (h1 : 1 ≤ r) (h2 : r ≤ 200) (h4 : n ≤ 300) :
    Calls Try.prog 4 #[.int .i64 (r : Int), .int .i64 (n : Int)] w fun e w' => e = .returned (.bool true) ∧ Below w.heap.size w w' := by
  have hm1 := make_u8 (r + 5) ((r : Int) + 5) (by omega) (by omega)
  have hc1 := string_made (List.replicate (r + 5) 0) (r + 5) (by simp)
  have hm2 := make_u8 (n + 1) ((n : Int) + 1) (by omega) (by omega)
  have hc2 := string_made (List.replicate (n + 1) 0) (n + 1) (by simp)
  have hmin := min_i64 (P := Try.prog) #[3, 3] 3 (n : Int) (r : Int) ((min n r : Nat) : Int) (by omega)
  have HA := hide (alive_any w)
  go_enter Try.func4, Try.ntmps4
  go_wp2_with fail
  refine (unhide HA).mono ?_
  rintro e w1 ⟨rfl, hb1⟩
  have HN := hide (new_any r w1)
  clear HA
  go_wp2_with fail
  refine (unhide HN).mono ?_
  rintro e w2 ⟨p, rfl, hr2, hb2⟩
  have hr3 : Ring w.heap.size (w2.alloc (.cells (bytesV (List.replicate (r + 5) 0)) 5)) p r [] := by
    rw [show (min (max (r : Int) 0) 10000).toNat = r by omega] at hr2
    exact ring_alloc (ring_mono hr2 hb1.size) _
  have hb3 : Below w.heap.size w (w2.alloc (.cells (bytesV (List.replicate (r + 5) 0)) 5)) := (hb1.trans (hb2.mono hb1.size)).alloc (Nat.le_trans hb1.size hb2.size) _
  have HP := hide (put_any _ _ _ _ (S (List.replicate (r + 5) 0)) _ hr3 (by rw [S_size]; simp; omega) r r (by simp) (by rw [S_size]; simp))
  clear HN hr2 hb2 hb1
  go_wp2_with fail
  refine (unhide HP).mono ?_
  rintro e w4 ⟨rfl, hr4, hb4⟩
  obtain ⟨l1, hl1, hr5⟩ : ∃ l1 : List UInt8, l1.length = r ∧ Ring w.heap.size w4 p r l1 := ⟨_, by rw [S_data]; simp, hr4⟩
  have hb5 := hb3.trans hb4
  have HP2 := hide (put_any _ _ _ _ ⟨#[120]⟩ _ hr5 (by decide) 0 0 (by omega) (by omega))
  have H1 := hide hl1
  clear HP hr4 hb4 hb3 hr3 hl1 hr5
  go_wp2_with fail
  refine (unhide HP2).mono ?_
  rintro e w5 ⟨rfl, hr6, hb6⟩
  rw [List.take_zero, List.append_nil] at hr6
  have hb7 := hb5.trans hb6
  obtain ⟨k, hk⟩ : ∃ k, k = min n r := ⟨_, rfl⟩
  have hkn : k ≤ n := by omega
  have hkr : k ≤ r := by omega
  have HT := hide (take_any _ _ _ _ n _ hr6 k (by have := H1.out; omega))
  have hsz : (S (l1.take k)).size = k := by have := H1.out; rw [S_size, List.length_take]; omega
  rw [← hk] at hmin
  have H2 := hide hk
  clear HP2 hr6 hb6 hb5 hk
  go_wp2_with fail
  refine (unhide HT).mono ?_
  rintro e w6 ⟨rfl, hr8, hb8⟩
  have hl2 : (l1.drop k).length = r - k := by have := H1.out; rw [List.length_drop]; omega
  have hb9 := hb7.trans hb8
  have HR := hide (room_any _ _ _ _ _ hr8 k (by omega))
  have H3 := hide hl2
  clear HT hb7 hb8 hl2
  go_wp2_with fail
  refine (unhide HR).mono ?_
  rintro e w7 ⟨rfl, n1, rfl⟩
  have hc3 := hc2 (w6.drewN n1) w6.heap.size rfl
  have hr9 := ring_alloc (ring_drewN hr8 n1) (.cells (bytesV (List.replicate (n + 1) 0)) 5)
  have hb10 := (below_drewN hb9 n1).alloc hb9.size (.cells (bytesV (List.replicate (n + 1) 0)) 5)
  have HP := hide (put_any _ _ _ _ (S (List.replicate (n + 1) 0)) _ hr9 (by rw [S_size]; simp; omega) k k (by have := H3.out; omega) (by rw [S_size]; simp; omega))
  clear HR hr8 hb9 hr9 hc2
  go_wp2_with fail
  refine (unhide HP).mono ?_
  rintro e w8 ⟨rfl, hr10, hb11⟩
  obtain ⟨l2, hl2, hr11⟩ : ∃ l2 : List UInt8, l2.length = r ∧ Ring w.heap.size w8 p r l2 := ⟨_, by have := H3.out; rw [S_data, List.length_append, List.length_take, List.length_replicate]; omega, hr10⟩
  have HR := hide (room_any _ _ _ _ _ hr11 0 (by omega))
  have HL := hide (len_any _ _ _ _ _ (ring_drewN hr11 0))
  have hb12 := hb10.trans hb11
  have H4 := hide hl2
  clear HP hr10 hb11 hb10 hl2
  go_wp2_with fail
  refine (unhide HR).mono ?_
  rintro e w9 ⟨rfl, n2, rfl⟩
  have HL := hide (len_any _ _ _ _ _ (ring_drewN hr11 n2))
  have hb13 := below_drewN hb12 n2
  have he := H4.out
  rw [he] at HL
  clear HR hr11 hb12 he
  go_wp2_with fail
  refine (unhide HL).mono ?_
  rintro e w10 ⟨rfl, rfl⟩
  go_wp2_with fail
  go_ret
  exact ⟨rfl, hb13⟩
end Go.Proofs.Ytaejefahmmickaa
