/-
  HeadLong, all its ways together.
-/
import Derived.Test.YtogindldfpinjaaHeadLongW
namespace Go.Proofs.Ytogindldfpinjaa
open Go.RowKit

set_option maxRecDepth 100000 in
theorem headLong_no0 (major n : Int) (v : Nat) (tn : Int) (hn0 : n.tmod 4 = tn) (hn1 : -4 < tn) (hn2 : tn < 4) (hn3 : (tn + 4).tmod 4 = 0) (hv : 256 ≤ v) (w : World) :
    Calls Try.prog 5 #[.int .i64 major, .int .u64 v, .int .i64 n] w fun e w' => e = .returned (.bool true) ∧ Below w.heap.size w w' := by
  have HA := hide (alive_any w)
  have hvi : decide ((256 : Int) ≤ (v : Int)) = true := by simp; omega
  clear hv
  go_enter Try.func5, Try.ntmps5
  go_wp2_with fail
  (with_reducible refine (unhide HA).mono ?_)
  rintro e w1 ⟨rfl, hb⟩
  go_wp2_with fail
  go_ret
  exact ⟨rfl, hb⟩
set_option maxRecDepth 100000 in
theorem headLong_no1 (major n : Int) (v : Nat) (tn : Int) (hn0 : n.tmod 4 = tn) (hn1 : -4 < tn) (hn2 : tn < 4) (hn3 : (tn + 4).tmod 4 = 1) (hv : 65536 ≤ v) (w : World) :
    Calls Try.prog 5 #[.int .i64 major, .int .u64 v, .int .i64 n] w fun e w' => e = .returned (.bool true) ∧ Below w.heap.size w w' := by
  have HA := hide (alive_any w)
  have hvi : decide ((65536 : Int) ≤ (v : Int)) = true := by simp; omega
  clear hv
  go_enter Try.func5, Try.ntmps5
  go_wp2_with fail
  (with_reducible refine (unhide HA).mono ?_)
  rintro e w1 ⟨rfl, hb⟩
  go_wp2_with fail
  go_ret
  exact ⟨rfl, hb⟩
set_option maxRecDepth 100000 in
theorem headLong_no2 (major n : Int) (v : Nat) (tn : Int) (hn0 : n.tmod 4 = tn) (hn1 : -4 < tn) (hn2 : tn < 4) (hn3 : (tn + 4).tmod 4 = 2) (hv : 4294967296 ≤ v) (w : World) :
    Calls Try.prog 5 #[.int .i64 major, .int .u64 v, .int .i64 n] w fun e w' => e = .returned (.bool true) ∧ Below w.heap.size w w' := by
  have HA := hide (alive_any w)
  have hvi : decide ((4294967296 : Int) ≤ (v : Int)) = true := by simp; omega
  clear hv
  go_enter Try.func5, Try.ntmps5
  go_wp2_with fail
  (with_reducible refine (unhide HA).mono ?_)
  rintro e w1 ⟨rfl, hb⟩
  go_wp2_with fail
  go_ret
  exact ⟨rfl, hb⟩

theorem headLong_any (major n : Int) (v : Nat) (hv : v < 18446744073709551616) (w : World) :
    Calls Try.prog 5 #[.int .i64 major, .int .u64 v, .int .i64 n] w fun e w' => e = .returned (.bool true) ∧ Below w.heap.size w w' := by
  have ht1 : -8 < major.tmod 8 := Int.lt_tmod_of_pos _ (by omega)
  have ht2 : major.tmod 8 < 8 := Int.tmod_lt_of_pos _ (by omega)
  have hn1 : -4 < n.tmod 4 := Int.lt_tmod_of_pos _ (by omega)
  have hn2 : n.tmod 4 < 4 := Int.tmod_lt_of_pos _ (by omega)
  obtain ⟨m, hm⟩ : ∃ m : Nat, (major.tmod 8 + 8).tmod 8 = (m : Int) := ⟨((major.tmod 8 + 8).tmod 8).toNat, by rw [Int.tmod_eq_emod_of_nonneg (by omega)]; omega⟩
  have hm8 : m < 8 := by rw [Int.tmod_eq_emod_of_nonneg (by omega)] at hm; omega
  have hk : (n.tmod 4 + 4).tmod 4 = 0 ∨ (n.tmod 4 + 4).tmod 4 = 1 ∨ (n.tmod 4 + 4).tmod 4 = 2 ∨ (n.tmod 4 + 4).tmod 4 = 3 := by rw [Int.tmod_eq_emod_of_nonneg (by omega)]; omega
  rcases hk with hk | hk | hk | hk
  · by_cases h : v < 256
    · exact headLong_0 major n v m _ _ rfl ht1 ht2 hm hm8 rfl hn1 hn2 hk h w
    · exact headLong_no0 major n v _ rfl hn1 hn2 hk (by omega) w
  · by_cases h : v < 65536
    · exact headLong_1 major n v m _ _ rfl ht1 ht2 hm hm8 rfl hn1 hn2 hk h w
    · exact headLong_no1 major n v _ rfl hn1 hn2 hk (by omega) w
  · by_cases h : v < 4294967296
    · exact headLong_2 major n v m _ _ rfl ht1 ht2 hm hm8 rfl hn1 hn2 hk h w
    · exact headLong_no2 major n v _ rfl hn1 hn2 hk (by omega) w
  · exact headLong_3 major n v m _ _ rfl ht1 ht2 hm hm8 rfl hn1 hn2 hk hv w
end Go.Proofs.Ytogindldfpinjaa
