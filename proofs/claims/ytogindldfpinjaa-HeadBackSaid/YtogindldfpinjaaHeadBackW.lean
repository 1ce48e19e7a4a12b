/-
  The walk of HeadBack.
-/
import Derived.Test.YtogindldfpinjaaHeadD
namespace Go.Proofs.Ytogindldfpinjaa
open Go.RowKit

set_option maxRecDepth 100000 in
theorem headBack_any (major : Int) (v : Nat) (hv : v < 18446744073709551616) (w : World) :
    Calls Try.prog 3 #[.int .i64 major, .int .u64 v] w fun e w' => e = .returned (.bool true) ∧ Below w.heap.size w w' := by
  have HA := hide (alive_any w)
  obtain ⟨n, hf⟩ := form_put major v hv
  have hlen := hf.len
  obtain ⟨L, hL⟩ : ∃ L, L = putL major v := ⟨_, rfl⟩
  have HP := fun W => hide (put_at major v v rfl (S L) (by rw [hL]) W)
  rw [← hL] at hf hlen
  obtain ⟨m, hm⟩ : ∃ m, m = (major % 8).toNat := ⟨_, rfl⟩
  rw [← hm] at hf
  have hm8 : m < 8 := by omega
  obtain ⟨tm, htm⟩ : ∃ tm, tm = major.tmod 8 := ⟨_, rfl⟩
  have ht1 : -8 < tm := by rw [htm]; exact Int.lt_tmod_of_pos _ (by omega)
  have ht2 : tm < 8 := by rw [htm]; exact Int.tmod_lt_of_pos _ (by omega)
  have ht3 : (tm + 8).tmod 8 = (m : Int) := by
    rw [Int.tmod_eq_emod_of_nonneg (by omega)]
    have := Int.mul_tdiv_add_tmod major 8
    omega
  have ht0 : major.tmod 8 = tm := htm.symm
  have hn8 := hf.n8
  have HF := hide hf
  have hll : (L.length : Int) = n + 1 := by omega
  have HL := hide hlen
  clear hL hm hf htm
  go_enter Try.func3, Try.ntmps3
  go_wp2_with fail
  (with_reducible refine (unhide HA).mono ?_)
  rintro e w1 ⟨rfl, hb⟩
  go_wp2_with fail
  (with_reducible refine (unhide (HP _)).mono ?_)
  rintro e w2 ⟨rfl, ho⟩
  have hb := hb.trans (ho.below hb.size (by simp))
  have h0 := head_new w2
  have hs2 := hb.size
  have hb := hb.alloc hb.size (.cells #[.bool false, .bool false, .bool false, .int .i64 0, .int .i64 0, .int .u64 0, .int .i64 0] 28)
  clear ho HA
  go_wp2_with fail
  go_loopg [7, 8, 9] (n + 1) (fun g i s8 s9 wr => ∃ j : Nat, i = .int .i64 j ∧ j + g = n + 1 ∧ Head wr w2.heap.size (stI m n v j) ∧ Below w.heap.size w wr)
  case atStart => exact ⟨0, rfl, by omega, h0, hb⟩
  case round =>
    obtain ⟨j, rfl, hj, hh, hb⟩ := hrel
    clear h0
    by_cases hlt : j < n + 1
    · have hlt' : j < L.length := by have := HL.out; omega
      obtain ⟨en, hen⟩ : ∃ en, en = decide (j = n) := ⟨_, rfl⟩
      have HS := hide (step_in HF.out j hlt' hh _ rfl en hen)
      have hjn : ((j : Int) == (n : Int)) = en := by rw [hen, Bool.eq_iff_iff]; simp; omega
      have hjl : (j : Int) < L.length := by omega
      clear hh hen
      go_wp2_with fail
      refine (unhide HS).mono ?_
      rintro e w5 ⟨rfl, hh, ho⟩
      have hb5 := hb.trans (ho.below hb.size (by simp; omega))
      clear ho HS
      go_wp2_with fail
      go_roundg (gk - 1)
      case measure => omega
      case rel => exact ⟨j + 1, by go_num, by omega, hh, hb5⟩
    · have hjn : j = n + 1 := by omega
      subst hjn
      rw [end_st] at hh
      have HV := hide (value_any hh v (by rfl))
      have HM := hide (major_any hh m (by rfl))
      have HO := hide (open_any hh false (by rfl))
      clear hh
      go_wp2_with fail
      (with_reducible refine (unhide HV).mono ?_)
      rintro e w5 ⟨rfl, rfl⟩
      go_wp2_with fail
      (with_reducible refine (unhide HM).mono ?_)
      rintro e w6 ⟨rfl, rfl⟩
      go_wp2_with fail
      (with_reducible refine (unhide HO).mono ?_)
      rintro e w7 ⟨rfl, rfl⟩
      go_wp2_with fail
      go_ret
      exact ⟨rfl, hb⟩
end Go.Proofs.Ytogindldfpinjaa
