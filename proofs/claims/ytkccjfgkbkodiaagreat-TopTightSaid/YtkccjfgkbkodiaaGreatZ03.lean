/-
  EscC · Num · NumB · NumC: parts of the walk of TopTight, under no condition.
-/
import Derived.Shelf.Bits.Mul64
import Derived.Laws.Externs
import Derived.BigRegion
import Derived.Test.YtkccjfgkbkodiaaGreatZ01
import Derived.Test.YtkccjfgkbkodiaaGreatZ02
namespace Go.Proofs.YtkccjfgkbkodiaaGreat
open Go.RowKit
set_option maxRecDepth 100000 in
set_option maxHeartbeats 2000000 in
theorem esc_raw {w : World} {b off : Nat} {t : TypeId} {pre post : List Value} (h : Raw w b t pre escK post off) (u : UInt8) :
    Calls Tryz.prog 195 #[.pointer (some ⟨b, off, none⟩), .int .u8 (u.toNat : Int)] w fun e w' => RetSE 4 e ∧ Raw w' b t pre escK post off ∧ Only [b] w w' := by
  obtain ⟨c4, z4⟩ := h.i64 4 rfl
  obtain ⟨c7, z7⟩ := h.i64 7 rfl
  obtain ⟨c8, z8, g0, g1⟩ := h.err 8 rfl
  have f8 := h.frozen (off + 8)
  have H := hide h
  have HM := hide (may_raw h (u.toNat : Int))
  have HP := hide (plain_raw h u)
  have HB := hide (behind_raw h (u.toNat : Int))
  have HD := hide (digit_raw h (u.toNat : Int))
  obtain ⟨x, hx⟩ : ∃ x : Int, x = u.toNat := ⟨_, rfl⟩
  rw [← hx] at HM HP HB HD ⊢
  clear h hx
  by_cases h0 : c8 = 0
  · subst h0
    clear g0 g1
    by_cases hp : 0 < c7
    · go_enter Tryz.func195, Tryz.ntmps195
      go_wp2_with fail
      (with_reducible refine (unhide HM).mono ?_)
      rintro e w2 ⟨⟨r, rfl⟩, hw2⟩
      subst hw2
      clear HM
      cases r with
      | false =>
        clear HP HB HD
        go_wp2_with fail
        go_quiet (fail)
        go_wp2_with fail
        go_ret2
        exact ⟨⟨[], 9, rfl, Nat.zero_le _, by omega, by omega⟩, Raw.drewN (Raw.setE H.out rfl (by omega) (by omega)) _, Only.drewN ((Only.refl _ _).setCell (by simp) _) _⟩
      | true =>
        by_cases h1 : c4 = 0
        · subst h1
          clear HB HD
          skip
          go_wp2_with fail
          (with_reducible refine (unhide HP).mono ?_)
          rintro e w3 ⟨⟨l, k, rfl, hl, k0, k1⟩, h3, ho⟩
          clear HP
          obtain ⟨c9, z9, g0, g1⟩ := h3.err 8 rfl
          have f9 := h3.frozen (off + 8)
          have H3 := hide h3
          have HO := hide ho
          have HL := hide hl
          clear h3 ho hl H z4 z7 z8 f8
          go_wp2_with fail
          go_quiet (fail)
          go_wp2_with fail
          go_ret2
          exact ⟨⟨l, k, rfl, HL.out, k0, k1⟩, Raw.drewN (Raw.setE H3.out rfl k0 k1) _, Only.drewN (HO.out.setCell (by simp) _) _⟩
        have e1 : (c4 == 0) = false := by simpa using h1
        by_cases h2 : c4 = 1
        · subst h2
          clear HP HD h1
          skip
          go_wp2_with fail
          (with_reducible refine (unhide HB).mono ?_)
          rintro e w3 ⟨⟨l, k, rfl, hl, k0, k1⟩, h3, ho⟩
          clear HB
          obtain ⟨c9, z9, g0, g1⟩ := h3.err 8 rfl
          have f9 := h3.frozen (off + 8)
          have H3 := hide h3
          have HO := hide ho
          have HL := hide hl
          clear h3 ho hl H z4 z7 z8 f8
          go_wp2_with fail
          go_quiet (fail)
          go_wp2_with fail
          go_ret2
          exact ⟨⟨l, k, rfl, HL.out, k0, k1⟩, Raw.drewN (Raw.setE H3.out rfl k0 k1) _, Only.drewN (HO.out.setCell (by simp) _) _⟩
        have e2 : (c4 == 1) = false := by simpa using h2
        clear HP HB h1 h2
        skip
        go_wp2_with fail
        (with_reducible refine (unhide HD).mono ?_)
        rintro e w3 ⟨⟨l, k, rfl, hl, k0, k1⟩, h3, ho⟩
        clear HD
        obtain ⟨c9, z9, g0, g1⟩ := h3.err 8 rfl
        have f9 := h3.frozen (off + 8)
        have H3 := hide h3
        have HO := hide ho
        have HL := hide hl
        clear h3 ho hl H z4 z7 z8 f8
        go_wp2_with fail
        go_quiet (fail)
        go_wp2_with fail
        go_ret2
        exact ⟨⟨l, k, rfl, HL.out, k0, k1⟩, Raw.drewN (Raw.setE H3.out rfl k0 k1) _, Only.drewN (HO.out.setCell (by simp) _) _⟩
    · clear HM
      by_cases h1 : c4 = 0
      · subst h1
        clear HB HD
        go_enter Tryz.func195, Tryz.ntmps195
        go_wp2_with fail
        (with_reducible refine (unhide HP).mono ?_)
        rintro e w3 ⟨⟨l, k, rfl, hl, k0, k1⟩, h3, ho⟩
        clear HP
        obtain ⟨c9, z9, g0, g1⟩ := h3.err 8 rfl
        have f9 := h3.frozen (off + 8)
        have H3 := hide h3
        have HO := hide ho
        have HL := hide hl
        clear h3 ho hl H z4 z7 z8 f8
        go_wp2_with fail
        go_quiet (fail)
        go_wp2_with fail
        go_ret2
        exact ⟨⟨l, k, rfl, HL.out, k0, k1⟩, Raw.drewN (Raw.setE H3.out rfl k0 k1) _, Only.drewN (HO.out.setCell (by simp) _) _⟩
      have e1 : (c4 == 0) = false := by simpa using h1
      by_cases h2 : c4 = 1
      · subst h2
        clear HP HD h1
        go_enter Tryz.func195, Tryz.ntmps195
        go_wp2_with fail
        (with_reducible refine (unhide HB).mono ?_)
        rintro e w3 ⟨⟨l, k, rfl, hl, k0, k1⟩, h3, ho⟩
        clear HB
        obtain ⟨c9, z9, g0, g1⟩ := h3.err 8 rfl
        have f9 := h3.frozen (off + 8)
        have H3 := hide h3
        have HO := hide ho
        have HL := hide hl
        clear h3 ho hl H z4 z7 z8 f8
        go_wp2_with fail
        go_quiet (fail)
        go_wp2_with fail
        go_ret2
        exact ⟨⟨l, k, rfl, HL.out, k0, k1⟩, Raw.drewN (Raw.setE H3.out rfl k0 k1) _, Only.drewN (HO.out.setCell (by simp) _) _⟩
      have e2 : (c4 == 1) = false := by simpa using h2
      clear HP HB h1 h2
      go_enter Tryz.func195, Tryz.ntmps195
      go_wp2_with fail
      (with_reducible refine (unhide HD).mono ?_)
      rintro e w3 ⟨⟨l, k, rfl, hl, k0, k1⟩, h3, ho⟩
      clear HD
      obtain ⟨c9, z9, g0, g1⟩ := h3.err 8 rfl
      have f9 := h3.frozen (off + 8)
      have H3 := hide h3
      have HO := hide ho
      have HL := hide hl
      clear h3 ho hl H z4 z7 z8 f8
      go_wp2_with fail
      go_quiet (fail)
      go_wp2_with fail
      go_ret2
      exact ⟨⟨l, k, rfl, HL.out, k0, k1⟩, Raw.drewN (Raw.setE H3.out rfl k0 k1) _, Only.drewN (HO.out.setCell (by simp) _) _⟩
  · have e0 : (c8 != 0) = true := by simpa using h0
    clear h0 HM HP HB HD
    go_enter Tryz.func195, Tryz.ntmps195
    go_wp2_with fail
    go_quiet (fail)
    go_wp2_with fail
    go_ret2
    exact ⟨⟨[], c8, rfl, Nat.zero_le _, g0, g1⟩, H.out.drewN _, (Only.refl _ _).drewN _⟩
set_option maxRecDepth 100000 in
set_option maxHeartbeats 1000000 in
theorem escw_raw {w : World} {b off : Nat} {t : TypeId} {pre post : List Value} (h : Raw w b t pre escK post off) :
    Calls Tryz.prog 194 #[.pointer (some ⟨b, off, none⟩)] w fun e w' => RetB e ∧ w' = w := by
  obtain ⟨c4, z4⟩ := h.i64 4 rfl
  obtain ⟨c7, z7⟩ := h.i64 7 rfl
  obtain ⟨c8, z8, g0, g1⟩ := h.err 8 rfl
  obtain ⟨c, hc, _⟩ := esc_chk h
  have HW := hide (whole_raw hc)
  clear h hc g0 g1
  by_cases h0 : c8 = 0
  · subst h0
    by_cases h1 : c4 = 0
    · subst h1
      by_cases h2 : c7 = 0
      · subst h2
        go_enter Tryz.func194, Tryz.ntmps194
        go_wp2_with fail
        (with_reducible refine (unhide HW).mono ?_)
        rintro e w2 ⟨⟨r, rfl⟩, hw2⟩
        subst hw2
        go_wp2_with fail
        go_ret
        exact ⟨⟨_, rfl⟩, rfl⟩
      · have e2 : (c7 == 0) = false := by simpa using h2
        clear h2 HW
        go_enter Tryz.func194, Tryz.ntmps194
        go_wp2_with fail
        go_ret
        exact ⟨⟨_, rfl⟩, rfl⟩
    · have e1 : (c4 == 0) = false := by simpa using h1
      clear h1 HW
      go_enter Tryz.func194, Tryz.ntmps194
      go_wp2_with fail
      go_ret
      exact ⟨⟨_, rfl⟩, rfl⟩
  · have e0 : (c8 == 0) = false := by simpa using h0
    clear h0 HW
    go_enter Tryz.func194, Tryz.ntmps194
    go_wp2_with fail
    go_ret
    exact ⟨⟨_, rfl⟩, rfl⟩
end Go.Proofs.YtkccjfgkbkodiaaGreat
namespace Go.Proofs.YtkccjfgkbkodiaaGreat
open Go.Shelf Go.RowKit
def ren264 : Go.Shelf.Ren := ⟨fun | 264 => 208 | n => n, fun | 46 => 161 | 53 => 65 | n => n, fun n => n⟩
theorem lays264 : Go.Proofs.Lays.n264 Tryz.prog ren264 := {
  mixed := by kernel_rfl
  f264 := Tryz.func208.trans (congrArg some (by kernel_rfl))
  t46 := Tryz.underlying161
  a46 := Tryz.isAgg161
  z46 := Tryz.sizeOf161
  v46 := Tryz.zeroValue161
  t53 := Tryz.underlying65
  a53 := Tryz.isAgg65
  z53 := Tryz.sizeOf65
  v53 := Tryz.zeroValue65 }
structure Num where
  neg : Bool
  minus : Bool
  digits : Bool
  zero : Bool
  v : Nat
  top : Bool
  over : Bool
  e : Int
def Num.enc (x : Num) : List Value := [.bool x.neg, .bool x.minus, .bool x.digits, .bool x.zero, .int .u64 (x.v : Int), .bool x.top, .bool x.over, .int .i64 x.e]
def Num.new : Num := ⟨false, false, false, false, 0, false, false, 0⟩
def isDigit (b : Int) : Bool := decide (48 ≤ b) && decide (b ≤ 57)
/-- One digit more. -/
def Num.add (x : Num) (d : Nat) : Num :=
  if x.top = true ∨ x.over = true then { x with over := true }
  else { x with v := (x.v * 10 + d) % 18446744073709551616, top := decide ((x.v * 10 + d) / 18446744073709551616 = 1), over := decide (1 < (x.v * 10 + d) / 18446744073709551616) }
def Num.step (x : Num) (b : Nat) : Num × Bool × Int :=
  if x.e ≠ 0 then (x, false, x.e)
  else if isDigit b = true ∧ x.zero = false then ({ x.add (b - 48) with zero := !x.digits && decide (b = 48), digits := true }, true, 0)
  else if b = 45 ∧ x.minus = false ∧ x.digits = false then ({ x with minus := true, neg := true }, true, 0)
  else if x.digits = true ∧ (b = 46 ∨ b = 101 ∨ b = 69) then ({ x with e := 6 }, false, 6)
  else if x.digits = false ∨ isDigit b = true then ({ x with e := 2 }, false, 2)
  else (x, false, 0)
/-- The number at its end: is it below 0, its magnitude, the error. -/
def Num.fin (x : Num) : Bool × Nat × Int :=
  if x.e ≠ 0 then (false, 0, x.e)
  else if x.digits = false then (false, 0, 2)
  else if x.over = true ∨ (x.top = true ∧ (x.neg = false ∨ 0 < x.v)) then (false, 0, 7)
  else if x.neg = true ∧ (0 < x.v ∨ x.top = true) then (true, if x.v = 0 then 18446744073709551615 else x.v - 1, 0)
  else (false, x.v, 0)
/-- What may be. -/
structure Num.Ok (x : Num) : Prop where
  v : x.v < 18446744073709551616
  e0 : 0 ≤ x.e
  e10 : x.e ≤ 10
theorem Num.new_ok : Num.new.Ok := ⟨by simp [Num.new], by simp [Num.new], by simp [Num.new]⟩
theorem Num.add_ok {x : Num} (h : x.Ok) (d : Nat) : (x.add d).Ok := by
  unfold Num.add
  split
  · exact ⟨h.v, h.e0, h.e10⟩
  · exact ⟨Nat.mod_lt _ (by omega), h.e0, h.e10⟩
theorem Num.step_ok {x : Num} (h : x.Ok) (b : Nat) : (x.step b).1.Ok ∧ 0 ≤ (x.step b).2.2 ∧ (x.step b).2.2 ≤ 10 := by
  unfold Num.step
  split
  · exact ⟨h, h.e0, h.e10⟩
  split
  · have := Num.add_ok h (b - 48)
    exact ⟨⟨this.v, this.e0, this.e10⟩, by simp, by simp⟩
  split
  · exact ⟨⟨h.v, h.e0, h.e10⟩, by simp, by simp⟩
  split
  · exact ⟨⟨h.v, by simp, by simp⟩, by simp, by simp⟩
  split
  · exact ⟨⟨h.v, by simp, by simp⟩, by simp, by simp⟩
  · exact ⟨h, by simp, by simp⟩
theorem Num.fin_ok {x : Num} (h : x.Ok) : x.fin.2.1 < 18446744073709551616 ∧ 0 ≤ x.fin.2.2 ∧ x.fin.2.2 ≤ 10 := by
  have := h.v
  unfold Num.fin
  split
  · exact ⟨by simp, h.e0, h.e10⟩
  split
  · exact ⟨by simp, by simp, by simp⟩
  split
  · exact ⟨by simp, by simp, by simp⟩
  split
  · refine ⟨?_, by simp, by simp⟩
    simp only
    split <;> omega
  · exact ⟨this, by simp, by simp⟩
set_option maxRecDepth 100000 in
theorem mul64_any (x y : Nat) (hx : x < 18446744073709551616) (hy : y < 18446744073709551616) (w : World) :
    Calls Tryz.prog 208 #[.int .u64 x, .int .u64 y] w fun e w' => e = .returned (.tuple #[.int .u64 ((x * y / 18446744073709551616 : Nat) : Int), .int .u64 ((x * y % 18446744073709551616 : Nat) : Int)]) ∧ w' = w :=
  Any.bits_Mul64 lays264 x y hx hy w
set_option maxRecDepth 100000 in
set_option maxHeartbeats 1000000 in
theorem add_any {w : World} {b off : Nat} {t : TypeId} {pre post : List Value} {x : Num} (h : Mid w b t pre x.enc post off) (hv : x.v < 18446744073709551616) (d : Nat) (hd : d < 10) :
    Calls Tryz.prog 203 #[.pointer (some ⟨b, off, none⟩), .int .u64 (d : Int)] w fun e w' => e = .returned (.tuple #[]) ∧ Mid w' b t pre (x.add d).enc post off ∧ Only [b] w w' := by
  obtain ⟨neg, minus, digits, zero, v, top, over, er⟩ := x
  simp only at hv
  have z4 : w.cell? ⟨b, off + 4, none⟩ = some (.int .u64 (v : Int)) := h.cell 4 _ rfl
  have z5 : w.cell? ⟨b, off + 5, none⟩ = some (.bool top) := h.cell 5 _ rfl
  have z6 : w.cell? ⟨b, off + 6, none⟩ = some (.bool over) := h.cell 6 _ rfl
  have f4 := h.frozen (off + 4)
  have f5 := h.frozen (off + 5)
  have f6 := h.frozen (off + 6)
  have H := hide h
  clear h
  by_cases h0 : top = true ∨ over = true
  · have hm : Num.add ⟨neg, minus, digits, zero, v, top, over, er⟩ d = ⟨neg, minus, digits, zero, v, top, true, er⟩ := if_pos h0
    have HM := hide hm
    clear hm hv
    rcases h0 with rfl | rfl
    · go_enter Tryz.func203, Tryz.ntmps203
      go_wp2_with fail
      refine bodyPost_ret (results_none rfl _ _ _) rfl ⟨rfl, ?_, (Only.refl _ _).setCell (by simp) _⟩
      rw [HM.out]
      exact H.out.set 6 (by simp [Num.enc]) _
    · cases top with
      | true =>
        go_enter Tryz.func203, Tryz.ntmps203
        go_wp2_with fail
        refine bodyPost_ret (results_none rfl _ _ _) rfl ⟨rfl, ?_, (Only.refl _ _).setCell (by simp) _⟩
        rw [HM.out]
        exact H.out.set 6 (by simp [Num.enc]) _
      | false =>
        go_enter Tryz.func203, Tryz.ntmps203
        go_wp2_with fail
        refine bodyPost_ret (results_none rfl _ _ _) rfl ⟨rfl, ?_, (Only.refl _ _).setCell (by simp) _⟩
        rw [HM.out]
        exact H.out.set 6 (by simp [Num.enc]) _
  · have h1 : top = false := by cases top; rfl; exact absurd (.inl rfl) h0
    have h2 : over = false := by cases over; rfl; exact absurd (.inr rfl) h0
    subst h1 h2
    have hm : Num.add ⟨neg, minus, digits, zero, v, false, false, er⟩ d = ⟨neg, minus, digits, zero, (v * 10 + d) % 18446744073709551616, decide ((v * 10 + d) / 18446744073709551616 = 1), decide (1 < (v * 10 + d) / 18446744073709551616), er⟩ := if_neg (by simp)
    have HM := hide hm
    have HMU := fun W => hide (show Calls Tryz.prog 208 #[.int .u64 v, .int .u64 10] W fun e w' => e = .returned (.tuple #[.int .u64 ((v * 10 / 18446744073709551616 : Nat) : Int), .int .u64 ((v * 10 % 18446744073709551616 : Nat) : Int)]) ∧ w' = W from mul64_any v 10 hv (by omega) W)
    obtain ⟨hi, hhi⟩ : ∃ hi, hi = v * 10 / 18446744073709551616 := ⟨_, rfl⟩
    obtain ⟨lo, hlo⟩ : ∃ lo, lo = v * 10 % 18446744073709551616 := ⟨_, rfl⟩
    obtain ⟨lo2, hlo2⟩ : ∃ lo2, lo2 = (v * 10 + d) % 18446744073709551616 := ⟨_, rfl⟩
    obtain ⟨hi2, hhi2⟩ : ∃ hi2, hi2 = (v * 10 + d) / 18446744073709551616 := ⟨_, rfl⟩
    obtain ⟨ca, hca⟩ : ∃ ca, ca = (lo + d + 0) / 18446744073709551616 := ⟨_, rfl⟩
    have hA : ((lo : Int) + d + 0) % 18446744073709551616 = lo2 := by
      have h9 : (lo + d) % 18446744073709551616 = lo2 := by rw [hlo, hlo2, Nat.mod_add_mod]
      rw [Int.add_zero, ← Int.natCast_add, ← h9]
      rfl
    have hC : ((lo : Int) + d + 0) / 18446744073709551616 = ca := by
      rw [Int.add_zero, ← Int.natCast_add, hca, Nat.add_zero]
      rfl
    have hs : (hi : Int) + ca = hi2 := by
      have h9 : hi + ca = hi2 := by
        rw [hhi, hca, hhi2, hlo]
        generalize v * 10 = P
        omega
      omega
    have hadd : ∀ W, (callFunc 209 #[.int .u64 (lo : Int), .int .u64 (d : Int), .int .u64 0]).run Tryz.prog W = .ok (.value (.tuple #[.int .u64 (lo2 : Int), .int .u64 (ca : Int)])) W := fun W => by
      rw [run_callFunc_extern Tryz.func209 (by kernel_rfl) (by kernel_rfl) (by kernel_rfl) (e := add64Entry) (by kernel_rfl), run_add64 lo d 0 (by omega) (by omega) (by omega) (by omega)]
      simp only [Result.andThen]
      rw [hA, hC]
    have hw : IntKind.u64.wrap ((hi : Int) + ca) = hi2 := by
      have h9 : hi2 < 18446744073709551616 := by rw [hhi2]; omega
      rw [IntKind.wrap_u64, hs]
      omega
    have e1 : ((hi2 : Int) == 1) = decide (hi2 = 1) := by
      by_cases h : hi2 = 1
      · simp [h]
      · have : ¬ (hi2 : Int) = 1 := by omega
        simp [h, this]
    have e2 : decide ((1 : Int) < hi2) = decide (1 < hi2) := by
      by_cases h : 1 < hi2
      · rw [decide_eq_true h, decide_eq_true (by omega)]
      · rw [decide_eq_false h, decide_eq_false (by omega)]
    rw [← hhi, ← hlo] at HMU
    have HS := hide hs
    have HLO2 := hide hlo2
    have HHI2 := hide hhi2
    have hh1 : hi ≤ 10 := by rw [hhi]; omega
    have hh0 : hi2 ≤ 10 := by rw [hhi2]; omega
    have hc1 : ca ≤ 10 := by omega
    have H1 := hide e1
    have H2 := hide e2
    clear hm hhi hlo hlo2 hhi2 hca h0 hs e1 e2 hv hA hC
    go_enter Tryz.func203, Tryz.ntmps203
    go_wp2_with fail
    (with_reducible refine (unhide (HMU _)).mono ?_)
    rintro e w2 ⟨rfl, hw2⟩
    subst hw2
    clear HMU
    go_wp2_with fail
    refine bodyPost_end (results_none rfl _ _ _) rfl ⟨rfl, ?_, (((Only.refl _ _).setCell (by simp) _).setCell (by simp) _).setCell (by simp) _⟩
    rw [HM.out, ← HLO2.out, ← HHI2.out, ← H1.out, ← H2.out]
    exact ((H.out.set 4 (by simp [Num.enc]) _).set 5 (by simp [Num.enc]) _).set 6 (by simp [Num.enc]) _
end Go.Proofs.YtkccjfgkbkodiaaGreat
namespace Go.Proofs.YtkccjfgkbkodiaaGreat
open Go.RowKit
theorem isDigit_in {b : Nat} (h1 : 48 ≤ b) (h2 : b ≤ 57) : isDigit (b : Int) = true := by
  unfold isDigit
  rw [decide_eq_true (by omega), decide_eq_true (by omega)]
  rfl
theorem isDigit_lo {b : Nat} (h : b < 48) : isDigit (b : Int) = false := by
  unfold isDigit
  rw [decide_eq_false (by omega)]
  rfl
theorem isDigit_hi {b : Nat} (h : 57 < b) : isDigit (b : Int) = false := by
  unfold isDigit
  rw [decide_eq_false (p := (b : Int) ≤ 57) (by omega), Bool.and_false]
def NumPost (w : World) (b : Nat) (t : TypeId) (pre post : List Value) (off : Nat) (r : Num × Bool × Int) (e : Ending) (w' : World) : Prop :=
  e = .returned (.tuple #[.bool r.2.1, .int .i64 r.2.2]) ∧ Mid w' b t pre r.1.enc post off ∧ Only [b] w w'
set_option maxRecDepth 100000 in
set_option maxHeartbeats 4000000 in
theorem num_step {w : World} {b off : Nat} {t : TypeId} {pre post : List Value} {x : Num} (h : Mid w b t pre x.enc post off) (hx : x.Ok) (c : Nat) (hc : c < 256) :
    Calls Tryz.prog 196 #[.pointer (some ⟨b, off, none⟩), .int .u8 (c : Int)] w (NumPost w b t pre post off (x.step c)) := by
  have HA := fun hd => hide (add_any h hx.v (c - 48) hd)
  obtain ⟨neg, minus, digits, zero, v, top, over, er⟩ := x
  have z1 : w.cell? ⟨b, off + 1, none⟩ = some (.bool minus) := h.cell 1 _ rfl
  have z2 : w.cell? ⟨b, off + 2, none⟩ = some (.bool digits) := h.cell 2 _ rfl
  have z3 : w.cell? ⟨b, off + 3, none⟩ = some (.bool zero) := h.cell 3 _ rfl
  have z7 : w.cell? ⟨b, off + 7, none⟩ = some (.int .i64 er) := h.cell 7 _ rfl
  have z0 : w.cell? ⟨b, off, none⟩ = some (.bool neg) := h.cell0 _ rfl
  have f0 := h.frozen off
  have f1 := h.frozen (off + 1)
  have f2 := h.frozen (off + 2)
  have f3 := h.frozen (off + 3)
  have f7 := h.frozen (off + 7)
  have H := hide h
  have hci : (c : Int) < 256 := by omega
  clear h
  by_cases hlo : c < 48
  · have hdg := isDigit_lo hlo
    have hd1 : (c : Int) < 48 := by omega
    by_cases he : er ≠ 0
    · have HM := hide (show Num.step ⟨neg, minus, digits, zero, v, top, over, er⟩ c = (⟨neg, minus, digits, zero, v, top, over, er⟩, false, er) from if_pos he)
      have e7 : (er != 0) = true := by simpa using he
      clear HA he hx
      go_enter Tryz.func196, Tryz.ntmps196
      go_wp2_with fail
      go_quiet (fail)
      go_wp2_with fail
      go_ret2
      rw [HM.out]
      exact ⟨rfl, H.out.drewN _, (Only.refl _ _).drewN _⟩
    obtain rfl : er = 0 := by omega
    by_cases h45 : c = 45
    · subst h45
      clear hdg
      cases digits with
      | true =>
        have HM := hide (show Num.step ⟨neg, minus, true, zero, v, top, over, 0⟩ 45 = (⟨neg, minus, true, zero, v, top, over, 0⟩, false, 0) by cases minus <;> rfl)
        cases minus with
        | true =>
          clear HA hx
          go_enter Tryz.func196, Tryz.ntmps196
          go_wp2_with fail
          go_quiet (fail)
          go_wp2_with fail
          go_ret2
          rw [HM.out]
          exact ⟨rfl, H.out.drewN _, (Only.refl _ _).drewN _⟩
        | false =>
          clear HA hx
          go_enter Tryz.func196, Tryz.ntmps196
          go_wp2_with fail
          go_quiet (fail)
          go_wp2_with fail
          go_ret2
          rw [HM.out]
          exact ⟨rfl, H.out.drewN _, (Only.refl _ _).drewN _⟩
      | false =>
        cases minus with
        | true =>
          have HM := hide (show Num.step ⟨neg, true, false, zero, v, top, over, 0⟩ 45 = (⟨neg, true, false, zero, v, top, over, 2⟩, false, 2) from rfl)
          clear HA hx
          go_enter Tryz.func196, Tryz.ntmps196
          go_wp2_with fail
          go_quiet (fail)
          go_wp2_with fail
          go_ret2
          rw [HM.out]
          exact ⟨rfl, (H.out.set 7 (by simp [Num.enc]) _).drewN _, ((Only.refl _ _).setCell (by simp) _).drewN _⟩
        | false =>
          have HM := hide (show Num.step ⟨neg, false, false, zero, v, top, over, 0⟩ 45 = (⟨true, true, false, zero, v, top, over, 0⟩, true, 0) from rfl)
          clear HA hx
          go_enter Tryz.func196, Tryz.ntmps196
          go_wp2_with fail
          go_ret2
          rw [HM.out]
          exact ⟨rfl, (H.out.set 1 (by simp [Num.enc]) _).set 0 (by simp [Num.enc]) _, ((Only.refl _ _).setCell (by simp) _).setCell (by simp) _⟩
    have e45 : ((c : Int) == 45) = false := by simp; omega
    cases digits with
    | false =>
      have HM := hide (show Num.step ⟨neg, minus, false, zero, v, top, over, 0⟩ c = (⟨neg, minus, false, zero, v, top, over, 2⟩, false, 2) by
        unfold Num.step
        rw [if_neg (by simp), if_neg (by rw [hdg]; simp), if_neg (fun h9 => h45 h9.1), if_neg (by simp), if_pos (.inl rfl)])
      clear h45 hdg
      clear HA hx
      go_enter Tryz.func196, Tryz.ntmps196
      go_wp2_with fail
      go_quiet (fail)
      go_wp2_with fail
      go_ret2
      rw [HM.out]
      exact ⟨rfl, (H.out.set 7 (by simp [Num.enc]) _).drewN _, ((Only.refl _ _).setCell (by simp) _).drewN _⟩
    | true =>
      by_cases h46 : c = 46
      · subst h46
        have HM := hide (show Num.step ⟨neg, minus, true, zero, v, top, over, 0⟩ 46 = (⟨neg, minus, true, zero, v, top, over, 6⟩, false, 6) by
          unfold Num.step
          rw [if_neg (by simp), if_neg (by rw [hdg]; simp), if_neg (by simp), if_pos ⟨rfl, by simp⟩])
        clear hdg
        clear HA hx
        go_enter Tryz.func196, Tryz.ntmps196
        go_wp2_with fail
        go_quiet (fail)
        go_wp2_with fail
        go_ret2
        rw [HM.out]
        exact ⟨rfl, (H.out.set 7 (by simp [Num.enc]) _).drewN _, ((Only.refl _ _).setCell (by simp) _).drewN _⟩
      have e46 : ((c : Int) == 46) = false := by simp; omega
      have e101 : ((c : Int) == 101) = false := by simp; omega
      have e69 : ((c : Int) == 69) = false := by simp; omega
      have HM := hide (show Num.step ⟨neg, minus, true, zero, v, top, over, 0⟩ c = (⟨neg, minus, true, zero, v, top, over, 0⟩, false, 0) by
        unfold Num.step
        rw [if_neg (by simp), if_neg (by rw [hdg]; simp), if_neg (fun h9 => h45 h9.1), if_neg (by rintro ⟨_, h9⟩; omega), if_neg (by rw [hdg]; simp)])
      clear h45 hdg
      clear HA hx
      go_enter Tryz.func196, Tryz.ntmps196
      go_wp2_with fail
      go_quiet (fail)
      go_wp2_with fail
      go_ret2
      rw [HM.out]
      exact ⟨rfl, H.out.drewN _, (Only.refl _ _).drewN _⟩
  have hd1 : (48 : Int) ≤ c := by omega
  by_cases hhi : 57 < c
  · have hdg := isDigit_hi hhi
    have hd2 : (57 : Int) < c := by omega
    by_cases he : er ≠ 0
    · have HM := hide (show Num.step ⟨neg, minus, digits, zero, v, top, over, er⟩ c = (⟨neg, minus, digits, zero, v, top, over, er⟩, false, er) from if_pos he)
      have e7 : (er != 0) = true := by simpa using he
      clear HA he hx
      go_enter Tryz.func196, Tryz.ntmps196
      go_wp2_with fail
      go_quiet (fail)
      go_wp2_with fail
      go_ret2
      rw [HM.out]
      exact ⟨rfl, H.out.drewN _, (Only.refl _ _).drewN _⟩
    obtain rfl : er = 0 := by omega
    have h45 : ¬ c = 45 := by omega
    have e45 : ((c : Int) == 45) = false := by simp; omega
    cases digits with
    | false =>
      have HM := hide (show Num.step ⟨neg, minus, false, zero, v, top, over, 0⟩ c = (⟨neg, minus, false, zero, v, top, over, 2⟩, false, 2) by
        unfold Num.step
        rw [if_neg (by simp), if_neg (by rw [hdg]; simp), if_neg (fun h9 => h45 h9.1), if_neg (by simp), if_pos (.inl rfl)])
      clear h45 hdg
      clear HA hx
      go_enter Tryz.func196, Tryz.ntmps196
      go_wp2_with fail
      go_quiet (fail)
      go_wp2_with fail
      go_ret2
      rw [HM.out]
      exact ⟨rfl, (H.out.set 7 (by simp [Num.enc]) _).drewN _, ((Only.refl _ _).setCell (by simp) _).drewN _⟩
    | true =>
      have e46 : ((c : Int) == 46) = false := by simp; omega
      by_cases h101 : c = 101
      · subst h101
        have HM := hide (show Num.step ⟨neg, minus, true, zero, v, top, over, 0⟩ 101 = (⟨neg, minus, true, zero, v, top, over, 6⟩, false, 6) by
          unfold Num.step
          rw [if_neg (by simp), if_neg (by rw [hdg]; simp), if_neg (by simp), if_pos ⟨rfl, by simp⟩])
        clear hdg
        clear HA hx
        go_enter Tryz.func196, Tryz.ntmps196
        go_wp2_with fail
        go_quiet (fail)
        go_wp2_with fail
        go_ret2
        rw [HM.out]
        exact ⟨rfl, (H.out.set 7 (by simp [Num.enc]) _).drewN _, ((Only.refl _ _).setCell (by simp) _).drewN _⟩
      have e101 : ((c : Int) == 101) = false := by simp; omega
      by_cases h69 : c = 69
      · subst h69
        have HM := hide (show Num.step ⟨neg, minus, true, zero, v, top, over, 0⟩ 69 = (⟨neg, minus, true, zero, v, top, over, 6⟩, false, 6) by
          unfold Num.step
          rw [if_neg (by simp), if_neg (by rw [hdg]; simp), if_neg (by simp), if_pos ⟨rfl, by simp⟩])
        clear hdg
        clear HA hx
        go_enter Tryz.func196, Tryz.ntmps196
        go_wp2_with fail
        go_quiet (fail)
        go_wp2_with fail
        go_ret2
        rw [HM.out]
        exact ⟨rfl, (H.out.set 7 (by simp [Num.enc]) _).drewN _, ((Only.refl _ _).setCell (by simp) _).drewN _⟩
      have e69 : ((c : Int) == 69) = false := by simp; omega
      have HM := hide (show Num.step ⟨neg, minus, true, zero, v, top, over, 0⟩ c = (⟨neg, minus, true, zero, v, top, over, 0⟩, false, 0) by
        unfold Num.step
        rw [if_neg (by simp), if_neg (by rw [hdg]; simp), if_neg (fun h9 => h45 h9.1), if_neg (by rintro ⟨_, h9⟩; omega), if_neg (by rw [hdg]; simp)])
      clear h45 hdg
      clear HA hx
      go_enter Tryz.func196, Tryz.ntmps196
      go_wp2_with fail
      go_quiet (fail)
      go_wp2_with fail
      go_ret2
      rw [HM.out]
      exact ⟨rfl, H.out.drewN _, (Only.refl _ _).drewN _⟩
  have hd2 : (c : Int) ≤ 57 := by omega
  have hdg := isDigit_in (show 48 ≤ c by omega) (show c ≤ 57 by omega)
  by_cases he : er ≠ 0
  · have HM := hide (show Num.step ⟨neg, minus, digits, zero, v, top, over, er⟩ c = (⟨neg, minus, digits, zero, v, top, over, er⟩, false, er) from if_pos he)
    have e7 : (er != 0) = true := by simpa using he
    clear HA he hx
    go_enter Tryz.func196, Tryz.ntmps196
    go_wp2_with fail
    go_quiet (fail)
    go_wp2_with fail
    go_ret2
    rw [HM.out]
    exact ⟨rfl, H.out.drewN _, (Only.refl _ _).drewN _⟩
  obtain rfl : er = 0 := by omega
  have e45 : ((c : Int) == 45) = false := by simp; omega
  have e46 : ((c : Int) == 46) = false := by simp; omega
  have e101 : ((c : Int) == 101) = false := by simp; omega
  have e69 : ((c : Int) == 69) = false := by simp; omega
  cases zero with
  | true =>
    have HM := hide (show Num.step ⟨neg, minus, digits, true, v, top, over, 0⟩ c = (⟨neg, minus, digits, true, v, top, over, 2⟩, false, 2) by
      unfold Num.step
      rw [if_neg (by simp), if_neg (by simp), if_neg (by omega), if_neg (by omega), if_pos (.inr hdg)])
    clear hdg
    cases digits with
    | true =>
      clear HA hx
      go_enter Tryz.func196, Tryz.ntmps196
      go_wp2_with fail
      go_quiet (fail)
      go_wp2_with fail
      go_ret2
      rw [HM.out]
      exact ⟨rfl, (H.out.set 7 (by simp [Num.enc]) _).drewN _, ((Only.refl _ _).setCell (by simp) _).drewN _⟩
    | false =>
      clear HA hx
      go_enter Tryz.func196, Tryz.ntmps196
      go_wp2_with fail
      go_quiet (fail)
      go_wp2_with fail
      go_ret2
      rw [HM.out]
      exact ⟨rfl, (H.out.set 7 (by simp [Num.enc]) _).drewN _, ((Only.refl _ _).setCell (by simp) _).drewN _⟩
  | false =>
    have HM := hide (show Num.step ⟨neg, minus, digits, false, v, top, over, 0⟩ c = ({ Num.add ⟨neg, minus, digits, false, v, top, over, 0⟩ (c - 48) with zero := !digits && decide (c = 48), digits := true }, true, 0) by
      unfold Num.step
      rw [if_neg (by simp), if_pos ⟨hdg, rfl⟩])
    have HADD := HA (by omega)
    obtain ⟨d, hd⟩ : ∃ d, d = c - 48 := ⟨_, rfl⟩
    have hcd : (c : Int) - 48 = (d : Int) := by omega
    have hd9 : (d : Int) ≤ 9 := by omega
    obtain ⟨v2, top2, over2, hadd⟩ : ∃ v2 top2 over2, Num.add ⟨neg, minus, digits, false, v, top, over, 0⟩ d = ⟨neg, minus, digits, false, v2, top2, over2, 0⟩ := by
      unfold Num.add
      split
      · exact ⟨_, _, _, rfl⟩
      · exact ⟨_, _, _, rfl⟩
    rw [← hd] at HADD HM
    rw [hadd] at HADD HM
    clear HA hdg hx hd hadd
    cases digits with
    | true =>
      go_enter Tryz.func196, Tryz.ntmps196
      go_wp2_with fail
      (with_reducible refine (unhide HADD).mono ?_)
      rintro e w2 ⟨rfl, h2, ho⟩
      have z2 : w2.cell? ⟨b, off + 2, none⟩ = some (.bool true) := h2.cell 2 _ rfl
      have z3 : w2.cell? ⟨b, off + 3, none⟩ = some (.bool false) := h2.cell 3 _ rfl
      have f2 := h2.frozen (off + 2)
      have f3 := h2.frozen (off + 3)
      have H2 := hide h2
      have HO := hide ho
      clear HADD h2 ho H z0 z1 z7 f0 f1 f7
      go_wp2_with fail
      go_ret2
      rw [HM.out]
      exact ⟨rfl, (H2.out.set 3 (by simp [Num.enc]) _).set 2 (by simp [Num.enc]) _, (HO.out.setCell (by simp) _).setCell (by simp) _⟩
    | false =>
      by_cases h48 : c = 48
      · have e48 : ((c : Int) == 48) = true := by simp [h48]
        rw [decide_eq_true h48] at HM
        clear h48
        go_enter Tryz.func196, Tryz.ntmps196
        go_wp2_with fail
        (with_reducible refine (unhide HADD).mono ?_)
        rintro e w2 ⟨rfl, h2, ho⟩
        have z2 : w2.cell? ⟨b, off + 2, none⟩ = some (.bool false) := h2.cell 2 _ rfl
        have z3 : w2.cell? ⟨b, off + 3, none⟩ = some (.bool false) := h2.cell 3 _ rfl
        have f2 := h2.frozen (off + 2)
        have f3 := h2.frozen (off + 3)
        have H2 := hide h2
        have HO := hide ho
        clear HADD h2 ho H z0 z1 z7 f0 f1 f7
        go_wp2_with fail
        go_ret2
        rw [HM.out]
        exact ⟨rfl, (H2.out.set 3 (by simp [Num.enc]) _).set 2 (by simp [Num.enc]) _, (HO.out.setCell (by simp) _).setCell (by simp) _⟩
      · have e48 : ((c : Int) == 48) = false := by simp; omega
        rw [decide_eq_false h48] at HM
        clear h48
        go_enter Tryz.func196, Tryz.ntmps196
        go_wp2_with fail
        (with_reducible refine (unhide HADD).mono ?_)
        rintro e w2 ⟨rfl, h2, ho⟩
        have z2 : w2.cell? ⟨b, off + 2, none⟩ = some (.bool false) := h2.cell 2 _ rfl
        have z3 : w2.cell? ⟨b, off + 3, none⟩ = some (.bool false) := h2.cell 3 _ rfl
        have f2 := h2.frozen (off + 2)
        have f3 := h2.frozen (off + 3)
        have H2 := hide h2
        have HO := hide ho
        clear HADD h2 ho H z0 z1 z7 f0 f1 f7
        go_wp2_with fail
        go_ret2
        rw [HM.out]
        exact ⟨rfl, (H2.out.set 3 (by simp [Num.enc]) _).set 2 (by simp [Num.enc]) _, (HO.out.setCell (by simp) _).setCell (by simp) _⟩
end Go.Proofs.YtkccjfgkbkodiaaGreat
namespace Go.Proofs.YtkccjfgkbkodiaaGreat
open Go.RowKit
def FinPost (w : World) (r : Bool × Nat × Int) (e : Ending) (w' : World) : Prop :=
  e = .returned (.tuple #[.agg #[.bool r.1, .int .u64 (r.2.1 : Int)], .int .i64 r.2.2]) ∧ Below w.heap.size w w'
set_option maxRecDepth 100000 in
set_option maxHeartbeats 4000000 in
theorem num_fin {w : World} {b off : Nat} {t : TypeId} {pre post : List Value} {x : Num} (h : Mid w b t pre x.enc post off) (hx : x.Ok) :
    Calls Tryz.prog 154 #[.pointer (some ⟨b, off, none⟩)] w (FinPost w x.fin) := by
  have hv := hx.v
  have hlt := h.lt
  obtain ⟨neg, minus, digits, zero, v, top, over, er⟩ := x
  simp only at hv
  have z0 : w.cell? ⟨b, off, none⟩ = some (.bool neg) := h.cell0 _ rfl
  have z2 : w.cell? ⟨b, off + 2, none⟩ = some (.bool digits) := h.cell 2 _ rfl
  have z4 : w.cell? ⟨b, off + 4, none⟩ = some (.int .u64 (v : Int)) := h.cell 4 _ rfl
  have z5 : w.cell? ⟨b, off + 5, none⟩ = some (.bool top) := h.cell 5 _ rfl
  have z6 : w.cell? ⟨b, off + 6, none⟩ = some (.bool over) := h.cell 6 _ rfl
  have z7 : w.cell? ⟨b, off + 7, none⟩ = some (.int .i64 er) := h.cell 7 _ rfl
  have hvi : (v : Int) < 18446744073709551616 := by omega
  have HVI := hide hvi
  clear h hx hv hvi
  by_cases he : er ≠ 0
  · have HM := hide (show Num.fin ⟨neg, minus, digits, zero, v, top, over, er⟩ = (false, 0, er) from if_pos he)
    have e7 : (er != 0) = true := by simpa using he
    clear he
    go_enter Tryz.func154, Tryz.ntmps154
    go_wp2_with fail
    go_region
    all_goals
      go_wp2_with fail
      refine bodyPost_ret (v := .tuple #[.agg #[.bool false, .int .u64 0], .int .i64 er]) (by simp [results, Tryz.results154, go_sem]; try rfl) rfl ?_
      rw [HM.out]
      refine ⟨rfl, ?_⟩
      repeat (first | exact Below.refl _ _ | refine Below.alloc ?_ (Nat.le_refl _) _ | refine Below.drew ?_ | refine Below.setCell ?_ (by simp) _)
  obtain rfl : er = 0 := by omega
  cases digits with
  | false =>
    have HM := hide (show Num.fin ⟨neg, minus, false, zero, v, top, over, 0⟩ = (false, 0, 2) from rfl)
    go_enter Tryz.func154, Tryz.ntmps154
    go_wp2_with fail
    refine bodyPost_ret (v := .tuple #[.agg #[.bool false, .int .u64 0], .int .i64 2]) (by simp [results, Tryz.results154, go_sem]; try rfl) rfl ?_
    rw [HM.out]
    refine ⟨rfl, ?_⟩
    repeat (first | exact Below.refl _ _ | refine Below.alloc ?_ (Nat.le_refl _) _ | refine Below.drew ?_ | refine Below.setCell ?_ (by simp) _)
  | true =>
    cases over with
    | true =>
      have HM := hide (show Num.fin ⟨neg, minus, true, zero, v, top, true, 0⟩ = (false, 0, 7) from rfl)
      go_enter Tryz.func154, Tryz.ntmps154
      go_wp2_with fail
      refine bodyPost_ret (v := .tuple #[.agg #[.bool false, .int .u64 0], .int .i64 7]) (by simp [results, Tryz.results154, go_sem]; try rfl) rfl ?_
      rw [HM.out]
      refine ⟨rfl, ?_⟩
      repeat (first | exact Below.refl _ _ | refine Below.alloc ?_ (Nat.le_refl _) _ | refine Below.drew ?_ | refine Below.setCell ?_ (by simp) _)
    | false =>
      by_cases hv0 : v = 0
      · subst hv0
        have hd0 : ¬ (0 : Int) < ((0 : Nat) : Int) := by omega
        cases top with
        | true =>
          cases neg with
          | true =>
            have HM := hide (show Num.fin ⟨true, minus, true, zero, 0, true, false, 0⟩ = (true, 18446744073709551615, 0) from rfl)
            go_enter Tryz.func154, Tryz.ntmps154
            go_wp2_with fail
            refine bodyPost_ret (v := .tuple #[.agg #[.bool true, .int .u64 18446744073709551615], .int .i64 0]) (by simp [results, Tryz.results154, go_sem]; try rfl) rfl ?_
            rw [HM.out]
            refine ⟨rfl, ?_⟩
            repeat (first | exact Below.refl _ _ | refine Below.alloc ?_ (Nat.le_refl _) _ | refine Below.drew ?_ | refine Below.setCell ?_ (by simp) _)
          | false =>
            have HM := hide (show Num.fin ⟨false, minus, true, zero, 0, true, false, 0⟩ = (false, 0, 7) from rfl)
            go_enter Tryz.func154, Tryz.ntmps154
            go_wp2_with fail
            refine bodyPost_ret (v := .tuple #[.agg #[.bool false, .int .u64 0], .int .i64 7]) (by simp [results, Tryz.results154, go_sem]; try rfl) rfl ?_
            rw [HM.out]
            refine ⟨rfl, ?_⟩
            repeat (first | exact Below.refl _ _ | refine Below.alloc ?_ (Nat.le_refl _) _ | refine Below.drew ?_ | refine Below.setCell ?_ (by simp) _)
        | false =>
          have HM := hide (show Num.fin ⟨neg, minus, true, zero, 0, false, false, 0⟩ = (false, 0, 0) by cases neg <;> rfl)
          cases neg with
          | true =>
            go_enter Tryz.func154, Tryz.ntmps154
            go_wp2_with fail
            refine bodyPost_ret (v := .tuple #[.agg #[.bool false, .int .u64 0], .int .i64 0]) (by simp [results, Tryz.results154, go_sem]; try rfl) rfl ?_
            rw [HM.out]
            refine ⟨rfl, ?_⟩
            repeat (first | exact Below.refl _ _ | refine Below.alloc ?_ (Nat.le_refl _) _ | refine Below.drew ?_ | refine Below.setCell ?_ (by simp) _)
          | false =>
            go_enter Tryz.func154, Tryz.ntmps154
            go_wp2_with fail
            refine bodyPost_ret (v := .tuple #[.agg #[.bool false, .int .u64 0], .int .i64 0]) (by simp [results, Tryz.results154, go_sem]; try rfl) rfl ?_
            rw [HM.out]
            refine ⟨rfl, ?_⟩
            repeat (first | exact Below.refl _ _ | refine Below.alloc ?_ (Nat.le_refl _) _ | refine Below.drew ?_ | refine Below.setCell ?_ (by simp) _)
      · have hd0 : decide ((0 : Int) < (v : Int)) = true := decide_eq_true (by omega)
        have hvp : 0 < v := by omega
        cases top with
        | true =>
          have HM := hide (show Num.fin ⟨neg, minus, true, zero, v, true, false, 0⟩ = (false, 0, 7) by
            unfold Num.fin
            rw [if_neg (by simp), if_neg (by simp), if_pos (.inr ⟨rfl, .inr hvp⟩)])
          clear hv0
          cases neg with
          | true =>
            go_enter Tryz.func154, Tryz.ntmps154
            go_wp2_with fail
            refine bodyPost_ret (v := .tuple #[.agg #[.bool false, .int .u64 0], .int .i64 7]) (by simp [results, Tryz.results154, go_sem]; try rfl) rfl ?_
            rw [HM.out]
            refine ⟨rfl, ?_⟩
            repeat (first | exact Below.refl _ _ | refine Below.alloc ?_ (Nat.le_refl _) _ | refine Below.drew ?_ | refine Below.setCell ?_ (by simp) _)
          | false =>
            go_enter Tryz.func154, Tryz.ntmps154
            go_wp2_with fail
            refine bodyPost_ret (v := .tuple #[.agg #[.bool false, .int .u64 0], .int .i64 7]) (by simp [results, Tryz.results154, go_sem]; try rfl) rfl ?_
            rw [HM.out]
            refine ⟨rfl, ?_⟩
            repeat (first | exact Below.refl _ _ | refine Below.alloc ?_ (Nat.le_refl _) _ | refine Below.drew ?_ | refine Below.setCell ?_ (by simp) _)
        | false =>
          cases neg with
          | true =>
            have HM := hide (show Num.fin ⟨true, minus, true, zero, v, false, false, 0⟩ = (true, v - 1, 0) by
              unfold Num.fin
              rw [if_neg (by simp), if_neg (by simp), if_neg (by simp), if_pos ⟨rfl, .inl hvp⟩]
              simp only
              rw [if_neg hv0])
            have hvw : IntKind.u64.wrap ((v : Int) - 1) = ((v - 1 : Nat) : Int) := by have hvi := HVI.out; rw [IntKind.wrap_u64]; omega
            clear hv0
            go_enter Tryz.func154, Tryz.ntmps154
            go_wp2_with fail
            refine bodyPost_ret (v := .tuple #[.agg #[.bool true, .int .u64 ((v - 1 : Nat) : Int)], .int .i64 0]) (by simp [results, Tryz.results154, go_sem]; try rfl) rfl ?_
            rw [HM.out]
            refine ⟨rfl, ?_⟩
            repeat (first | exact Below.refl _ _ | refine Below.alloc ?_ (Nat.le_refl _) _ | refine Below.drew ?_ | refine Below.setCell ?_ (by simp) _)
          | false =>
            have HM := hide (show Num.fin ⟨false, minus, true, zero, v, false, false, 0⟩ = (false, v, 0) by
              unfold Num.fin
              rw [if_neg (by simp), if_neg (by simp), if_neg (by simp), if_neg (by simp)])
            clear hv0
            go_enter Tryz.func154, Tryz.ntmps154
            go_wp2_with fail
            refine bodyPost_ret (v := .tuple #[.agg #[.bool false, .int .u64 (v : Int)], .int .i64 0]) (by simp [results, Tryz.results154, go_sem]; try rfl) rfl ?_
            rw [HM.out]
            refine ⟨rfl, ?_⟩
            repeat (first | exact Below.refl _ _ | refine Below.alloc ?_ (Nat.le_refl _) _ | refine Below.drew ?_ | refine Below.setCell ?_ (by simp) _)
end Go.Proofs.YtkccjfgkbkodiaaGreat
