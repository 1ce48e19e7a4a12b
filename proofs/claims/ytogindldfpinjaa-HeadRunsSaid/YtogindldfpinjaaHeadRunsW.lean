/-
  The walk of HeadRuns.
-/
import Derived.Test.YtogindldfpinjaaHeadD
namespace Go.Proofs.Ytogindldfpinjaa
open Go.RowKit

theorem value_before (m n v j : Nat) (h : j < n) : (stI m n v (j + 1)).value = 0 := by
  have : j ≠ n := by omega
  simp [stI, stAt, HSt.value, this]
theorem open_before (m n v j : Nat) : (stI m n v (j + 1)).isOpen = false := by
  simp [stI, stAt, HSt.isOpen]

theorem headRuns_no (a : Option Addr) (len cap : Nat) (w : World) (h : 20 < len) (hl : len ≤ 9223372036854775807) :
    Calls Try.prog 7 #[.slice a len cap] w fun e w' => e = .returned (.bool true) ∧ Below w.heap.size w w' := by
  have HA := hide (alive_any w)
  go_enter Try.func7, Try.ntmps7
  go_wp2_with fail
  (with_reducible refine (unhide HA).mono ?_)
  rintro e w1 ⟨rfl, hb⟩
  go_wp2_with fail
  go_ret
  exact ⟨rfl, hb⟩

set_option maxRecDepth 100000 in
theorem headRuns_nil (a : Option Addr) (cap : Nat) (w : World) :
    Calls Try.prog 7 #[.slice a 0 cap] w fun e w' => e = .returned (.bool true) ∧ Below w.heap.size w w' := by
  have HA := hide (alive_any w)
  go_enter Try.func7, Try.ntmps7
  go_wp2_with fail
  (with_reducible refine (unhide HA).mono ?_)
  rintro e w1 ⟨rfl, hb⟩
  have hb := hb.alloc hb.size (.cells #[.bool false, .bool false, .bool false, .int .i64 0, .int .i64 0, .int .u64 0, .int .i64 0] 28)
  go_wp2_with fail
  go_loopg [4, 5, 6, 7, 8, 9, 22] 1 (fun g s4 s5 s6 s7 s8 s9 i wr => i = .int .i64 0 ∧ Below w.heap.size w wr)
  case atStart => exact ⟨rfl, hb⟩
  case round =>
    obtain ⟨rfl, hb⟩ := hrel
    go_wp2_with fail
    go_ret
    exact ⟨rfl, hb⟩

set_option maxRecDepth 100000 in
theorem headRuns_yes (b off len cap : Nat) (z : List Int) (w : World) (h0 : 0 < len) (h20 : len ≤ 20) (hbs : b < w.heap.size) (hz : len ≤ z.length)
    (hc : ∀ i, i < z.length → w.cell? ⟨b, off + i, none⟩ = some (.int .u64 (z.getD i 0))) (hw : ∀ n ∈ z, (Lit.int .u64 n).wf = true) :
    Calls Try.prog 7 #[.slice (some ⟨b, off, none⟩) len cap] w fun e w' => e = .returned (.bool true) ∧ Below w.heap.size w w' := by
  have HA := hide (alive_any w)
  have HC := hide hc
  have HW := hide hw
  clear hc hw
  go_enter Try.func7, Try.ntmps7
  go_wp2_with fail
  (with_reducible refine (unhide HA).mono ?_)
  rintro e w1 ⟨rfl, hb⟩
  have h1 := head_new w1
  have hs := hb.size
  have hb := hb.alloc hb.size (.cells #[.bool false, .bool false, .bool false, .int .i64 0, .int .i64 0, .int .u64 0, .int .i64 0] 28)
  go_wp2_with fail
  go_loopg [4, 5, 6, 7, 8, 9, 22] len (fun g s4 s5 s6 s7 s8 s9 i wr => ∃ j : Nat, i = .int .i64 j ∧ j + g = len ∧ Head wr w1.heap.size HSt.zero ∧ Below w.heap.size w wr)
  case atStart => exact ⟨0, rfl, by omega, h1, hb⟩
  case round =>
    obtain ⟨i, rfl, hi, hh, hb⟩ := hrel
    clear h1
    by_cases hlt : i < len
    · have cz : wr.cell? ⟨b, off + i, none⟩ = some (.int .u64 (z.getD i 0)) := (hb.cell (p := ⟨b, off + i, none⟩) hbs).trans (HC.out i (by omega))
      obtain ⟨v, hv, hv64⟩ : ∃ v : Nat, z.getD i 0 = (v : Int) ∧ v < 18446744073709551616 := by
        have hm : z.getD i 0 ∈ z := by rw [show z.getD i 0 = z[i]'(by omega) by simp [List.getD, List.getElem?_eq_getElem (show i < z.length by omega)]]; exact List.getElem_mem _
        have := wf_bounds_u64 (HW.out _ hm)
        exact ⟨(z.getD i 0).toNat, by omega, by omega⟩
      rw [hv] at cz
      obtain ⟨n, hf⟩ := form_put (i : Int) v hv64
      have hlen := hf.len
      obtain ⟨L, hL⟩ : ∃ L, L = putL (i : Int) v := ⟨_, rfl⟩
      have HP := fun W => hide (put_at (i : Int) v v rfl (S L) (by rw [hL]) W)
      rw [← hL] at hf hlen
      obtain ⟨m, hm⟩ : ∃ m, m = ((i : Int) % 8).toNat := ⟨_, rfl⟩
      rw [← hm] at hf
      have hmi : (i : Int) % 8 = (m : Int) := by omega
      have hn8 := hf.n8
      have HF := hide hf
      have hll : (L.length : Int) = n + 1 := by omega
      have HL := hide hlen
      clear hL hm hf hlen hv hv64
      go_wp2_with fail
      refine (unhide (HP _)).mono ?_
      rintro e w2 ⟨rfl, ho⟩
      have hh2 := hh.keep ho (by simp)
      have hb2 := hb.trans (ho.below hb.size (by simp))
      clear ho cz hh hb
      go_wp2_with fail
      obtain ⟨wo, rfl⟩ : ∃ wo : World, wo = wr := ⟨_, rfl⟩
      go_loopg [7, 8, 9] (n + 1) (fun g k s8 s9 wr => ∃ j : Nat, k = .int .i64 j ∧ j + g = n + 1 ∧ Head wr w1.heap.size (stI m n v j) ∧ Below w.heap.size w wr)
      case atStart => exact ⟨0, rfl, by omega, hh2, hb2⟩
      case round =>
        obtain ⟨j, rfl, hj, hh, hb⟩ := hrel
        clear hh2 hb2
        by_cases hlt : j < n + 1
        · have hlt' : j < L.length := by have := HL.out; omega
          obtain ⟨en, hen⟩ : ∃ en, en = decide (j = n) := ⟨_, rfl⟩
          have HS := hide (step_in HF.out j hlt' hh _ rfl en hen)
          have hjn : ((j : Int) == (n : Int)) = en := by rw [hen, Bool.eq_iff_iff]; simp; omega
          have hjl : (j : Int) < L.length := by omega
          clear hh
          go_wp2_with fail
          refine (unhide HS).mono ?_
          rintro e w5 ⟨rfl, hh, ho⟩
          have hb5 := hb.trans (ho.below hb.size (by simp; omega))
          clear ho HS
          by_cases hjn2 : j = n
          · have : en = true := by rw [hen]; simpa using hjn2
            subst this
            clear hen hjn2
            go_wp2_with fail
            go_roundg (gk - 1)
            case measure => omega
            case rel => exact ⟨j + 1, by go_num, by omega, hh, hb5⟩
          · have : en = false := by rw [hen]; simpa using hjn2
            subst this
            have HV := hide (value_any hh 0 (by rw [value_before m n v j (by omega)]; rfl))
            have HO := hide (open_any hh false (by rw [open_before]))
            clear hen hjn2
            go_wp2_with fail
            (with_reducible refine (unhide HV).mono ?_)
            rintro e w6 ⟨rfl, rfl⟩
            go_wp2_with fail
            (with_reducible refine (unhide HO).mono ?_)
            rintro e w7 ⟨rfl, rfl⟩
            go_wp2_with fail
            go_roundg (gk - 1)
            case measure => omega
            case rel => exact ⟨j + 1, by go_num, by omega, hh, hb5⟩
        · have hjn : j = n + 1 := by omega
          subst hjn
          rw [end_st] at hh
          have HV := hide (value_any hh v (by rfl))
          have HM := hide (major_any hh m (by rfl))
          have HX := hide (clear_any hh)
          clear hh
          go_wp2_with fail
          (with_reducible refine (unhide HV).mono ?_)
          rintro e w5 ⟨rfl, rfl⟩
          go_wp2_with fail
          (with_reducible refine (unhide HM).mono ?_)
          rintro e w6 ⟨rfl, rfl⟩
          go_wp2_with fail
          (with_reducible refine (unhide HX).mono ?_)
          rintro e w7 ⟨rfl, hh, ho⟩
          have hb7 := hb.trans (ho.below hb.size (by simp; omega))
          have HV := hide (value_any hh 0 (by rfl))
          have HM := hide (major_any hh 0 (by rfl))
          clear ho HX
          go_wp2_with fail
          (with_reducible refine (unhide HV).mono ?_)
          rintro e w8 ⟨rfl, rfl⟩
          go_wp2_with fail
          (with_reducible refine (unhide HM).mono ?_)
          rintro e w9 ⟨rfl, rfl⟩
          go_wp2_with fail
          go_roundg (len - i - 1)
          case measure => omega
          case rel => exact ⟨i + 1, by go_num, by omega, hh, hb7⟩
    · have hil : i = len := by omega
      subst hil
      go_wp2_with fail
      go_ret
      exact ⟨rfl, hb⟩
end Go.Proofs.Ytogindldfpinjaa
