/-
  The walk of CboroutCounts.
-/
import Derived.Test.YtjegeoeebbfajaaCbK
namespace Go.Proofs.Ytjegeoeebbfajaa
open Go.RowKit

def wantN (m : Bool) (n : Nat) : Nat := if m then 2 * n else n
theorem word_more (m : Bool) (n i : Nat) (h : i < wantN m n) : (0, putL 3 1 ++ [97], [⟨m, n, i + 1⟩], false) = stepC [⟨m, n, i⟩] false (.word [97]) := by
  have hf : (⟨m, n, i⟩ : Cont).full = false := by
    unfold wantN at h
    cases m
    · simp [Cont.full] at h ⊢; omega
    · simp [Cont.full, Cont.between] at h ⊢; omega
  have ht : (⟨m, n, i⟩ : Cont).takes (.word [97]) = true := by simp [Cont.takes, Part.isWord]
  unfold stepC
  simp only [Part.may, Part.isClose, hf, ht]
  rfl
theorem word_full (m : Bool) (n : Nat) : (14, [], [⟨m, n, wantN m n⟩], false) = stepC [⟨m, n, wantN m n⟩] false (.word [97]) := by
  have hf : (⟨m, n, wantN m n⟩ : Cont).full = true := by
    unfold wantN
    cases m
    · simp [Cont.full]
    · simp [Cont.full, Cont.between]
  unfold stepC
  simp only [Part.may, Part.isClose, hf]
  rfl
theorem close_is (m : Bool) (n : Nat) : (0, [], [], true) = stepC [⟨m, n, wantN m n⟩] false .close := by
  have he : (⟨m, n, wantN m n⟩ : Cont).ends = true := by
    unfold wantN
    cases m
    · simp [Cont.ends, Cont.full, Cont.between]
    · simp [Cont.ends, Cont.full, Cont.between]
  have hb : endB ⟨m, n, wantN m n⟩ = [] := by simp [endB]
  unfold stepC
  simp only [Part.may, Part.isClose, he, hb]
  rfl
theorem close_not (m : Bool) (n i : Nat) (h : i < wantN m n) : (14, [], [⟨m, n, i⟩], false) = stepC [⟨m, n, i⟩] false .close := by
  have he : (⟨m, n, i⟩ : Cont).ends = false := by
    unfold wantN at h
    cases m
    · simp [Cont.ends, Cont.full, Cont.between] at h ⊢; omega
    · simp [Cont.ends, Cont.full, Cont.between] at h ⊢; omega
  unfold stepC
  simp only [Part.may, Part.isClose, he]
  rfl
theorem small_one (c : Cont) (h : c.parts ≤ 1000000) : SmallC [c] := ⟨fun x hx => by rw [List.mem_singleton.1 hx]; exact h, by simp⟩

set_option maxRecDepth 100000 in
theorem counts_no (n k : Int) (m : Bool) (w : World) (h : n < 0 ∨ 30 < n ∨ k < 0 ∨ 70 < k) :
    Calls Try.prog 8 #[.int .i64 n, .int .i64 k, .bool m] w fun e w' => e = .returned (.bool true) ∧ Below w.heap.size w w' := by
  have HA := fun W => hide (alive_any W)
  by_cases h1 : n < 0
  · clear h
    go_enter Try.func8, Try.ntmps8
    go_wp2_with fail
    (with_reducible refine (unhide (HA _)).mono ?_)
    rintro e w1 ⟨rfl, hb⟩
    go_wp2_with fail
    go_ret
    exact ⟨rfl, hb⟩
  have e1 : decide (n < 0) = false := decide_eq_false h1
  by_cases h2 : 30 < n
  · clear h
    go_enter Try.func8, Try.ntmps8
    go_wp2_with fail
    (with_reducible refine (unhide (HA _)).mono ?_)
    rintro e w1 ⟨rfl, hb⟩
    go_wp2_with fail
    go_ret
    exact ⟨rfl, hb⟩
  have e2 : decide (30 < n) = false := decide_eq_false h2
  by_cases h3 : k < 0
  · clear h
    go_enter Try.func8, Try.ntmps8
    go_wp2_with fail
    (with_reducible refine (unhide (HA _)).mono ?_)
    rintro e w1 ⟨rfl, hb⟩
    go_wp2_with fail
    go_ret
    exact ⟨rfl, hb⟩
  have e3 : decide (k < 0) = false := decide_eq_false h3
  have h4 : 70 < k := by omega
  clear h
  go_enter Try.func8, Try.ntmps8
  go_wp2_with fail
  (with_reducible refine (unhide (HA _)).mono ?_)
  rintro e w1 ⟨rfl, hb⟩
  go_wp2_with fail
  go_ret
  exact ⟨rfl, hb⟩

set_option maxRecDepth 100000 in
set_option maxHeartbeats 1000000 in
theorem counts_go (n k : Nat) (m : Bool) (w : World) (hn : n ≤ 30) (hk : k ≤ 70) :
    Calls Try.prog 8 #[.int .i64 n, .int .i64 k, .bool m] w fun e w' => e = .returned (.bool true) ∧ Below w.heap.size w w' := by
  have HA := fun W => hide (alive_any W)
  have hn2 : (n : Int) ≤ 30 := by omega
  have hk2 : (k : Int) ≤ 70 := by omega
  have hn3 : ¬ (30 : Int) < n := by omega
  have hk3 : ¬ (70 : Int) < k := by omega
  have HS : S [97] = ⟨#[97]⟩ := rfl
  have HE : S [] = ⟨#[]⟩ := rfl
  obtain ⟨wn, hwn⟩ : ∃ wn, wn = wantN m n := ⟨_, rfl⟩
  have hwl : (wn : Int) ≤ 60 := by rw [hwn]; unfold wantN; split <;> omega
  have WM : ∀ i, i < wn → (0, putL 3 1 ++ [97], [(⟨m, n, i + 1⟩ : Cont)], false) = stepC [⟨m, n, i⟩] false (.word [97]) := fun i hi => word_more m n i (hwn ▸ hi)
  have WF : (14, [], [(⟨m, n, wn⟩ : Cont)], false) = stepC [⟨m, n, wn⟩] false (.word [97]) := hwn ▸ word_full m n
  have CI : (0, [], [], true) = stepC [⟨m, n, wn⟩] false .close := hwn ▸ close_is m n
  have CN : ∀ i, i < wn → (14, [], [(⟨m, n, i⟩ : Cont)], false) = stepC [⟨m, n, i⟩] false .close := fun i hi => close_not m n i (hwn ▸ hi)
  have SM := fun (W : World) (B p : Nat) (v : Value) (i : Nat) (hi : i < wn) (h : Wr W B p v [⟨m, n, i⟩] false) => step_any (R := [⟨m, n, i⟩]) h (small_one _ (by simp only; omega)) (.word [97]) (by decide) 0 (putL 3 1 ++ [97]) [⟨m, n, i + 1⟩] false (WM i hi)
  have SF := fun (W : World) (B p : Nat) (v : Value) (h : Wr W B p v [⟨m, n, wn⟩] false) => step_any (R := [⟨m, n, wn⟩]) h (small_one _ (by simp only; omega)) (.word [97]) (by decide) 14 [] [⟨m, n, wn⟩] false WF
  have SC := fun (W : World) (B p : Nat) (v : Value) (h : Wr W B p v [⟨m, n, wn⟩] false) => step_any (R := [⟨m, n, wn⟩]) h (small_one _ (by simp only; omega)) .close rfl 0 [] [] true CI
  have SN := fun (W : World) (B p : Nat) (v : Value) (i : Nat) (hi : i < wn) (h : Wr W B p v [⟨m, n, i⟩] false) => step_any (R := [⟨m, n, i⟩]) h (small_one _ (by simp only; omega)) .close rfl 14 [] [⟨m, n, i⟩] false (CN i hi)
  have SB := fun (W : World) (B p : Nat) (v : Value) (h : Wr W B p v [] false) => step_begin_nil h m n (by omega) (by omega) _ rfl
  simp only [Part.val] at SM SF SC SN SB
  rw [HS] at SM SF
  rw [HE] at SC SN SF
  have HSM := fun W B p v i hi h => hide (SM W B p v i hi h)
  have HSF := fun W B p v h => hide (SF W B p v h)
  have HSC := fun W B p v h => hide (SC W B p v h)
  have HSN := fun W B p v i hi h => hide (SN W B p v i hi h)
  have HSB := fun W B p v h => hide (SB W B p v h)
  clear SM SF SC SN SB WM WF CI CN HS HE
  cases m with
  | false =>
    have HWE := hide (show (wn : Int) = (n : Int) by rw [hwn]; rfl)
    clear hwn
    go_enter Try.func8, Try.ntmps8
    go_wp2_with fail
    (with_reducible refine (unhide (HA _)).mono ?_)
    rintro e w1 ⟨rfl, hb⟩
    have hw0 : Wr (w1.alloc (.cells #[.slice none 0 0, .bool false] 27)) w1.heap.size w1.heap.size (.slice none 0 0) [] false := ⟨Nat.le_refl _, Blk.new w1 27 _, SlN.nil _ _ _ _⟩
    have H0 := HSB _ _ _ _ hw0
    have hb0 : Below w.heap.size w (w1.alloc (.cells #[.slice none 0 0, .bool false] 27)) := hb.alloc hb.size _
    clear hw0 HA
    go_wp2_with fail
    (with_reducible refine (unhide H0).mono ?_)
    rintro e w2 ⟨rfl, v2, hw2, ho2, hf2⟩
    have hsz := hb.size
    have hB2 : Below w.heap.size w w2 := hb0.trans (ho2.below hb0.size (fun x hx => by
      rcases List.mem_cons.1 hx with rfl | hx
      · exact hsz
      · simp [slB] at hx))
    clear ho2 hf2 hb hb0 HSB
    go_wp2_with fail
    go_loopg [11, 12, 13] k (fun g s11 s12 s13 wr => ∃ (i : Nat) (v : Value), s11 = .int .i64 i ∧ i + g = k ∧ Wr wr w1.heap.size w1.heap.size v [⟨false, n, min i wn⟩] false ∧ Below w.heap.size w wr)
    case atStart => exact ⟨0, v2, rfl, by omega, by rw [Nat.zero_min]; exact hw2, hB2⟩
    case round =>
      obtain ⟨i, v, rfl, hi, hw, hB⟩ := hrel
      have HLT := hide (fun x hx => (hw.2.2.lt x hx).1)
      by_cases hik : i < k
      · by_cases hin : i < wn
        · rw [Nat.min_eq_left (by omega)] at hw
          have H := HSM _ _ _ _ i hin hw
          have hdin : (i : Int) < (n : Int) := by have := HWE.out; omega
          clear hw HSM HSF HSC HSN hw2 hB2
          go_wp2_with fail
          (with_reducible refine (unhide H).mono ?_)
          rintro e w3 ⟨rfl, v3, hw3, ho3, hf3⟩
          have hB3 : Below w.heap.size w w3 := hB.trans (ho3.below hB.size (fun x hx => by
            rcases List.mem_cons.1 hx with rfl | hx
            · exact hsz
            · exact Nat.le_trans hsz (HLT.out x hx)))
          clear ho3 hf3 H
          go_wp2_with fail
          go_roundg (gk - 1)
          case measure => omega
          case rel => exact ⟨i + 1, v3, by go_num, by omega, by rw [Nat.min_eq_left (by omega)]; exact hw3, hB3⟩
        · rw [Nat.min_eq_right (by omega)] at hw
          have H := HSF _ _ _ _ hw
          have hdin : ¬ (i : Int) < (n : Int) := by have := HWE.out; omega
          clear hw HSM HSF HSC HSN hw2 hB2
          go_wp2_with fail
          (with_reducible refine (unhide H).mono ?_)
          rintro e w3 ⟨rfl, v3, hw3, ho3, hf3⟩
          have hB3 : Below w.heap.size w w3 := hB.trans (ho3.below hB.size (fun x hx => by
            rcases List.mem_cons.1 hx with rfl | hx
            · exact hsz
            · exact Nat.le_trans hsz (HLT.out x hx)))
          clear ho3 hf3 H
          go_wp2_with fail
          go_roundg (gk - 1)
          case measure => omega
          case rel => exact ⟨i + 1, v3, by go_num, by omega, by rw [Nat.min_eq_right (by omega)]; exact hw3, hB3⟩
      · have hik2 : i = k := by omega
        subst hik2
        by_cases hkw : wn ≤ i
        · have hkz : (n : Int) ≤ (i : Int) := by have := HWE.out; omega
          rw [Nat.min_eq_right (by omega)] at hw
          have H := HSC _ _ _ _ hw
          clear hw HSM HSF HSC HSN hw2 hB2
          go_wp2_with fail
          (with_reducible refine (unhide H).mono ?_)
          rintro e w3 ⟨rfl, v3, hw3, ho3, hf3⟩
          have hB3 : Below w.heap.size w w3 := hB.trans (ho3.below hB.size (fun x hx => by
            rcases List.mem_cons.1 hx with rfl | hx
            · exact hsz
            · exact Nat.le_trans hsz (HLT.out x hx)))
          have HD := hide (done_any hw3)
          clear ho3 hf3 H
          go_wp2_with fail
          (with_reducible refine (unhide HD).mono ?_)
          rintro e w4 ⟨rfl, hw4⟩
          subst hw4
          go_wp2_with fail
          go_ret
          first | exact ⟨rfl, hB3⟩ | exact ⟨congrArg (fun b => Ending.returned (Value.bool b)) (show (!decide ((n : Int) ≤ (i : Int))) = true by simp; omega), hB3⟩ | exact ⟨congrArg (fun b => Ending.returned (Value.bool b)) (show (!decide (n ≤ i)) = true by simp; omega), hB3⟩
        · have hkz : ¬ (n : Int) ≤ (i : Int) := by have := HWE.out; omega
          rw [Nat.min_eq_left (by omega)] at hw
          have H := HSN _ _ _ _ i (by omega) hw
          clear hw HSM HSF HSC HSN hw2 hB2
          go_wp2_with fail
          (with_reducible refine (unhide H).mono ?_)
          rintro e w3 ⟨rfl, v3, hw3, ho3, hf3⟩
          have hB3 : Below w.heap.size w w3 := hB.trans (ho3.below hB.size (fun x hx => by
            rcases List.mem_cons.1 hx with rfl | hx
            · exact hsz
            · exact Nat.le_trans hsz (HLT.out x hx)))
          have HD := hide (done_any hw3)
          clear ho3 hf3 H
          go_wp2_with fail
          (with_reducible refine (unhide HD).mono ?_)
          rintro e w4 ⟨rfl, hw4⟩
          subst hw4
          go_wp2_with fail
          go_ret
          first | exact ⟨rfl, hB3⟩ | exact ⟨congrArg (fun b => Ending.returned (Value.bool b)) (show (!decide ((n : Int) ≤ (i : Int))) = true by simp; omega), hB3⟩ | exact ⟨congrArg (fun b => Ending.returned (Value.bool b)) (show (!decide (n ≤ i)) = true by simp; omega), hB3⟩
  | true =>
    have HWE := hide (show (wn : Int) = (2 * (n : Int)) by rw [hwn]; simp [wantN])
    clear hwn
    go_enter Try.func8, Try.ntmps8
    go_wp2_with fail
    (with_reducible refine (unhide (HA _)).mono ?_)
    rintro e w1 ⟨rfl, hb⟩
    have hw0 : Wr (w1.alloc (.cells #[.slice none 0 0, .bool false] 27)) w1.heap.size w1.heap.size (.slice none 0 0) [] false := ⟨Nat.le_refl _, Blk.new w1 27 _, SlN.nil _ _ _ _⟩
    have H0 := HSB _ _ _ _ hw0
    have hb0 : Below w.heap.size w (w1.alloc (.cells #[.slice none 0 0, .bool false] 27)) := hb.alloc hb.size _
    clear hw0 HA
    go_wp2_with fail
    (with_reducible refine (unhide H0).mono ?_)
    rintro e w2 ⟨rfl, v2, hw2, ho2, hf2⟩
    have hsz := hb.size
    have hB2 : Below w.heap.size w w2 := hb0.trans (ho2.below hb0.size (fun x hx => by
      rcases List.mem_cons.1 hx with rfl | hx
      · exact hsz
      · simp [slB] at hx))
    clear ho2 hf2 hb hb0 HSB
    go_wp2_with fail
    go_loopg [11, 12, 13] k (fun g s11 s12 s13 wr => ∃ (i : Nat) (v : Value), s11 = .int .i64 i ∧ i + g = k ∧ Wr wr w1.heap.size w1.heap.size v [⟨true, n, min i wn⟩] false ∧ Below w.heap.size w wr)
    case atStart => exact ⟨0, v2, rfl, by omega, by rw [Nat.zero_min]; exact hw2, hB2⟩
    case round =>
      obtain ⟨i, v, rfl, hi, hw, hB⟩ := hrel
      have HLT := hide (fun x hx => (hw.2.2.lt x hx).1)
      by_cases hik : i < k
      · by_cases hin : i < wn
        · rw [Nat.min_eq_left (by omega)] at hw
          have H := HSM _ _ _ _ i hin hw
          have hdin : (i : Int) < (2 * (n : Int)) := by have := HWE.out; omega
          clear hw HSM HSF HSC HSN hw2 hB2
          go_wp2_with fail
          (with_reducible refine (unhide H).mono ?_)
          rintro e w3 ⟨rfl, v3, hw3, ho3, hf3⟩
          have hB3 : Below w.heap.size w w3 := hB.trans (ho3.below hB.size (fun x hx => by
            rcases List.mem_cons.1 hx with rfl | hx
            · exact hsz
            · exact Nat.le_trans hsz (HLT.out x hx)))
          clear ho3 hf3 H
          go_wp2_with fail
          go_roundg (gk - 1)
          case measure => omega
          case rel => exact ⟨i + 1, v3, by go_num, by omega, by rw [Nat.min_eq_left (by omega)]; exact hw3, hB3⟩
        · rw [Nat.min_eq_right (by omega)] at hw
          have H := HSF _ _ _ _ hw
          have hdin : ¬ (i : Int) < (2 * (n : Int)) := by have := HWE.out; omega
          clear hw HSM HSF HSC HSN hw2 hB2
          go_wp2_with fail
          (with_reducible refine (unhide H).mono ?_)
          rintro e w3 ⟨rfl, v3, hw3, ho3, hf3⟩
          have hB3 : Below w.heap.size w w3 := hB.trans (ho3.below hB.size (fun x hx => by
            rcases List.mem_cons.1 hx with rfl | hx
            · exact hsz
            · exact Nat.le_trans hsz (HLT.out x hx)))
          clear ho3 hf3 H
          go_wp2_with fail
          go_roundg (gk - 1)
          case measure => omega
          case rel => exact ⟨i + 1, v3, by go_num, by omega, by rw [Nat.min_eq_right (by omega)]; exact hw3, hB3⟩
      · have hik2 : i = k := by omega
        subst hik2
        by_cases hkw : wn ≤ i
        · have hkz : (2 * (n : Int)) ≤ (i : Int) := by have := HWE.out; omega
          rw [Nat.min_eq_right (by omega)] at hw
          have H := HSC _ _ _ _ hw
          clear hw HSM HSF HSC HSN hw2 hB2
          go_wp2_with fail
          (with_reducible refine (unhide H).mono ?_)
          rintro e w3 ⟨rfl, v3, hw3, ho3, hf3⟩
          have hB3 : Below w.heap.size w w3 := hB.trans (ho3.below hB.size (fun x hx => by
            rcases List.mem_cons.1 hx with rfl | hx
            · exact hsz
            · exact Nat.le_trans hsz (HLT.out x hx)))
          have HD := hide (done_any hw3)
          clear ho3 hf3 H
          go_wp2_with fail
          (with_reducible refine (unhide HD).mono ?_)
          rintro e w4 ⟨rfl, hw4⟩
          subst hw4
          go_wp2_with fail
          go_ret
          first | exact ⟨rfl, hB3⟩ | exact ⟨congrArg (fun b => Ending.returned (Value.bool b)) (show (!decide ((2 * (n : Int)) ≤ (i : Int))) = true by simp; omega), hB3⟩ | exact ⟨congrArg (fun b => Ending.returned (Value.bool b)) (show (!decide (n ≤ i)) = true by simp; omega), hB3⟩
        · have hkz : ¬ (2 * (n : Int)) ≤ (i : Int) := by have := HWE.out; omega
          rw [Nat.min_eq_left (by omega)] at hw
          have H := HSN _ _ _ _ i (by omega) hw
          clear hw HSM HSF HSC HSN hw2 hB2
          go_wp2_with fail
          (with_reducible refine (unhide H).mono ?_)
          rintro e w3 ⟨rfl, v3, hw3, ho3, hf3⟩
          have hB3 : Below w.heap.size w w3 := hB.trans (ho3.below hB.size (fun x hx => by
            rcases List.mem_cons.1 hx with rfl | hx
            · exact hsz
            · exact Nat.le_trans hsz (HLT.out x hx)))
          have HD := hide (done_any hw3)
          clear ho3 hf3 H
          go_wp2_with fail
          (with_reducible refine (unhide HD).mono ?_)
          rintro e w4 ⟨rfl, hw4⟩
          subst hw4
          go_wp2_with fail
          go_ret
          first | exact ⟨rfl, hB3⟩ | exact ⟨congrArg (fun b => Ending.returned (Value.bool b)) (show (!decide ((2 * (n : Int)) ≤ (i : Int))) = true by simp; omega), hB3⟩ | exact ⟨congrArg (fun b => Ending.returned (Value.bool b)) (show (!decide (n ≤ i)) = true by simp; omega), hB3⟩
end Go.Proofs.Ytjegeoeebbfajaa
