/-
  The walk of PackoutCounts.
-/
import Derived.Test.YteggfobeaolafaaPkK
namespace Go.Proofs.Yteggfobeaolafaa
open Go.RowKit

theorem small_nil : SmallC [] := ⟨fun x hx => (by cases hx), (by simp)⟩
set_option maxRecDepth 100000 in
set_option maxHeartbeats 2000000 in
theorem counts_any (n : Int) (m : Bool) (w : World) (hn9 : n ≤ 9223372036854775807) :
    Calls Try.prog 9 #[.int .i64 n, .bool m] w fun e w' => e = .returned (.bool true) ∧ Below w.heap.size w w' := by
  have HA := fun W => hide (alive_any W)
  have HEM : S [] = ⟨#[]⟩ := rfl
  by_cases h1 : n < -1
  · have h1' : decide (n < -1) = true := decide_eq_true h1
    have SB := fun (W : World) (B p : Nat) (v : Value) (h : Wr W B p v [] false) => step_any (R := []) h small_nil (.begin_ m n) (by simp only [Part.fits]; exact decide_eq_true hn9) 14 [] [] false (by unfold stepC; rw [if_pos (.inl (by simp only [Part.may]; exact decide_eq_false (by omega)))])
    simp only [Part.val] at SB
    rw [HEM] at SB
    have HSB := fun W B p v h => hide (SB W B p v h)
    clear SB
    go_enter Try.func9, Try.ntmps9
    go_wp2_with fail
    (with_reducible refine (unhide (HA _)).mono ?_)
    rintro e w1 ⟨rfl, hb⟩
    have hw0 : Wr (w1.alloc (.cells #[.slice none 0 0, .bool false] 27)) w1.heap.size w1.heap.size (.slice none 0 0) [] false := ⟨Nat.le_refl _, Blk.new w1 27 _, SlN.nil _ _ _ _⟩
    have H0 := HSB _ _ _ _ hw0
    have hb0 : Below w.heap.size w (w1.alloc (.cells #[.slice none 0 0, .bool false] 27)) := hb.alloc hb.size _
    clear hw0 HA HSB
    go_wp2_with fail
    (with_reducible refine (unhide H0).mono ?_)
    rintro e w2 ⟨rfl, v2, hw2, ho2, hf2⟩
    have hB2 : Below w.heap.size w w2 := hb0.trans (ho2.below hb0.size (fun k hk => by
      simp [slB] at hk
      subst hk
      exact hb.size))
    have HD := hide (done_any hw2)
    clear ho2 hf2 H0 hb0
    go_wp2_with fail
    go_ret
    exact ⟨rfl, hB2⟩
  have h1' : decide (n < -1) = false := decide_eq_false h1
  have hmay : (Part.begin_ m n).may = true := by simp only [Part.may]; exact decide_eq_true (by omega)
  by_cases h2 : n < 0 ∨ 4294967295 < n
  ·
    by_cases h3 : n < 0
    · have h3' : decide (n < 0) = true := decide_eq_true h3
      have SB := fun (W : World) (B p : Nat) (v : Value) (h : Wr W B p v [] false) => step_any (R := []) h small_nil (.begin_ m n) (by simp only [Part.fits]; exact decide_eq_true hn9) 7 [] [] false (by unfold stepC; rw [if_neg (by rw [hmay]; simp)]; simp [Part.isClose, partR, beginR, h2])
      simp only [Part.val] at SB
      rw [HEM] at SB
      have HSB := fun W B p v h => hide (SB W B p v h)
      clear SB
      go_enter Try.func9, Try.ntmps9
      go_wp2_with fail
      (with_reducible refine (unhide (HA _)).mono ?_)
      rintro e w1 ⟨rfl, hb⟩
      have hw0 : Wr (w1.alloc (.cells #[.slice none 0 0, .bool false] 27)) w1.heap.size w1.heap.size (.slice none 0 0) [] false := ⟨Nat.le_refl _, Blk.new w1 27 _, SlN.nil _ _ _ _⟩
      have H0 := HSB _ _ _ _ hw0
      have hb0 : Below w.heap.size w (w1.alloc (.cells #[.slice none 0 0, .bool false] 27)) := hb.alloc hb.size _
      clear hw0 HA HSB
      go_wp2_with fail
      (with_reducible refine (unhide H0).mono ?_)
      rintro e w2 ⟨rfl, v2, hw2, ho2, hf2⟩
      have hB2 : Below w.heap.size w w2 := hb0.trans (ho2.below hb0.size (fun k hk => by
        simp [slB] at hk
        subst hk
        exact hb.size))
      have HD := hide (done_any hw2)
      clear ho2 hf2 H0 hb0
      clear hmay h2
      go_wp2_with fail
      (with_reducible refine (unhide HD).mono ?_)
      rintro e w3 ⟨rfl, hw3⟩
      subst hw3
      go_wp2_with fail
      go_ret
      exact ⟨rfl, hB2⟩
    · have h3' : decide (n < 0) = false := decide_eq_false h3
      have h4' : decide (4294967295 < n) = true := decide_eq_true (by omega)
      have SB := fun (W : World) (B p : Nat) (v : Value) (h : Wr W B p v [] false) => step_any (R := []) h small_nil (.begin_ m n) (by simp only [Part.fits]; exact decide_eq_true hn9) 7 [] [] false (by unfold stepC; rw [if_neg (by rw [hmay]; simp)]; simp [Part.isClose, partR, beginR, h2])
      simp only [Part.val] at SB
      rw [HEM] at SB
      have HSB := fun W B p v h => hide (SB W B p v h)
      clear SB
      go_enter Try.func9, Try.ntmps9
      go_wp2_with fail
      (with_reducible refine (unhide (HA _)).mono ?_)
      rintro e w1 ⟨rfl, hb⟩
      have hw0 : Wr (w1.alloc (.cells #[.slice none 0 0, .bool false] 27)) w1.heap.size w1.heap.size (.slice none 0 0) [] false := ⟨Nat.le_refl _, Blk.new w1 27 _, SlN.nil _ _ _ _⟩
      have H0 := HSB _ _ _ _ hw0
      have hb0 : Below w.heap.size w (w1.alloc (.cells #[.slice none 0 0, .bool false] 27)) := hb.alloc hb.size _
      clear hw0 HA HSB
      go_wp2_with fail
      (with_reducible refine (unhide H0).mono ?_)
      rintro e w2 ⟨rfl, v2, hw2, ho2, hf2⟩
      have hB2 : Below w.heap.size w w2 := hb0.trans (ho2.below hb0.size (fun k hk => by
        simp [slB] at hk
        subst hk
        exact hb.size))
      have HD := hide (done_any hw2)
      clear ho2 hf2 H0 hb0
      clear hmay h2
      go_wp2_with fail
      (with_reducible refine (unhide HD).mono ?_)
      rintro e w3 ⟨rfl, hw3⟩
      subst hw3
      go_wp2_with fail
      go_ret
      exact ⟨rfl, hB2⟩
  have h3' : decide (n < 0) = false := decide_eq_false (by omega)
  have h4' : decide (4294967295 < n) = false := decide_eq_false (by omega)
  obtain ⟨c, rfl⟩ := Int.eq_ofNat_of_zero_le (show 0 ≤ n by omega)
  have hst : (0, headB m c, [(⟨m, c, 0⟩ : Cont)], false) = stepC [] false (.begin_ m c) := by
    unfold stepC
    rw [if_neg (by rw [hmay]; simp)]
    simp [Part.isClose, partR, beginR, h2, Part.opens, Part.isBegin]
  obtain ⟨l, hl⟩ : ∃ l, l = headB m c := ⟨_, rfl⟩
  rw [← hl] at hst
  have hlen : l.length = if c < 16 then 1 else if c < 65536 then 3 else 5 := by
    rw [hl]
    unfold headB
    by_cases h5 : c < 16
    · rw [if_pos h5, if_pos h5]; simp
    rw [if_neg h5, if_neg h5]
    by_cases h6 : c < 65536
    · rw [if_pos h6, sizedL_hit (.inr (by omega))]; simp
    · rw [if_neg h6, sizedL_next (by omega), sizedL_hit (.inr (by omega))]; simp
  have HST := hide hst
  have HLEN := hide hlen
  clear hst hlen hl hmay h1 h2
  by_cases h5 : c < 16
  · have h5' : decide ((16 : Int) ≤ c) = false := decide_eq_false (by omega)
    have h6' : decide ((65536 : Int) ≤ c) = false := decide_eq_false (by omega)
    have hlen : (l.length : Int) = 1 := by rw [HLEN.out, if_pos h5]; rfl
    clear h5
    have SB := fun (W : World) (B p : Nat) (v : Value) (h : Wr W B p v [] false) => step_any (R := []) h small_nil (.begin_ m (c : Int)) (by simp only [Part.fits]; exact decide_eq_true hn9) 0 l [⟨m, c, 0⟩] false HST.out
    simp only [Part.val] at SB
    have HSB := fun W B p v h => hide (SB W B p v h)
    clear SB
    go_enter Try.func9, Try.ntmps9
    go_wp2_with fail
    (with_reducible refine (unhide (HA _)).mono ?_)
    rintro e w1 ⟨rfl, hb⟩
    have hw0 : Wr (w1.alloc (.cells #[.slice none 0 0, .bool false] 27)) w1.heap.size w1.heap.size (.slice none 0 0) [] false := ⟨Nat.le_refl _, Blk.new w1 27 _, SlN.nil _ _ _ _⟩
    have H0 := HSB _ _ _ _ hw0
    have hb0 : Below w.heap.size w (w1.alloc (.cells #[.slice none 0 0, .bool false] 27)) := hb.alloc hb.size _
    clear hw0 HA HSB
    go_wp2_with fail
    (with_reducible refine (unhide H0).mono ?_)
    rintro e w2 ⟨rfl, v2, hw2, ho2, hf2⟩
    have hB2 : Below w.heap.size w w2 := hb0.trans (ho2.below hb0.size (fun k hk => by
      simp [slB] at hk
      subst hk
      exact hb.size))
    have HD := hide (done_any hw2)
    clear ho2 hf2 H0 hb0
    go_wp2_with fail
    (with_reducible refine (unhide HD).mono ?_)
    rintro e w3 ⟨rfl, hw3⟩
    subst hw3
    go_wp2_with fail
    go_ret
    exact ⟨rfl, hB2⟩
  have h5' : decide ((16 : Int) ≤ c) = true := decide_eq_true (by omega)
  by_cases h6 : c < 65536
  · have h6' : decide ((65536 : Int) ≤ c) = false := decide_eq_false (by omega)
    have hlen : (l.length : Int) = 3 := by rw [HLEN.out, if_neg h5, if_pos h6]; rfl
    clear h5 h6
    have SB := fun (W : World) (B p : Nat) (v : Value) (h : Wr W B p v [] false) => step_any (R := []) h small_nil (.begin_ m (c : Int)) (by simp only [Part.fits]; exact decide_eq_true hn9) 0 l [⟨m, c, 0⟩] false HST.out
    simp only [Part.val] at SB
    have HSB := fun W B p v h => hide (SB W B p v h)
    clear SB
    go_enter Try.func9, Try.ntmps9
    go_wp2_with fail
    (with_reducible refine (unhide (HA _)).mono ?_)
    rintro e w1 ⟨rfl, hb⟩
    have hw0 : Wr (w1.alloc (.cells #[.slice none 0 0, .bool false] 27)) w1.heap.size w1.heap.size (.slice none 0 0) [] false := ⟨Nat.le_refl _, Blk.new w1 27 _, SlN.nil _ _ _ _⟩
    have H0 := HSB _ _ _ _ hw0
    have hb0 : Below w.heap.size w (w1.alloc (.cells #[.slice none 0 0, .bool false] 27)) := hb.alloc hb.size _
    clear hw0 HA HSB
    go_wp2_with fail
    (with_reducible refine (unhide H0).mono ?_)
    rintro e w2 ⟨rfl, v2, hw2, ho2, hf2⟩
    have hB2 : Below w.heap.size w w2 := hb0.trans (ho2.below hb0.size (fun k hk => by
      simp [slB] at hk
      subst hk
      exact hb.size))
    have HD := hide (done_any hw2)
    clear ho2 hf2 H0 hb0
    go_wp2_with fail
    (with_reducible refine (unhide HD).mono ?_)
    rintro e w3 ⟨rfl, hw3⟩
    subst hw3
    go_wp2_with fail
    go_ret
    exact ⟨rfl, hB2⟩
  · have h6' : decide ((65536 : Int) ≤ c) = true := decide_eq_true (by omega)
    have hlen : (l.length : Int) = 5 := by rw [HLEN.out, if_neg h5, if_neg h6]; rfl
    clear h5 h6
    have SB := fun (W : World) (B p : Nat) (v : Value) (h : Wr W B p v [] false) => step_any (R := []) h small_nil (.begin_ m (c : Int)) (by simp only [Part.fits]; exact decide_eq_true hn9) 0 l [⟨m, c, 0⟩] false HST.out
    simp only [Part.val] at SB
    have HSB := fun W B p v h => hide (SB W B p v h)
    clear SB
    go_enter Try.func9, Try.ntmps9
    go_wp2_with fail
    (with_reducible refine (unhide (HA _)).mono ?_)
    rintro e w1 ⟨rfl, hb⟩
    have hw0 : Wr (w1.alloc (.cells #[.slice none 0 0, .bool false] 27)) w1.heap.size w1.heap.size (.slice none 0 0) [] false := ⟨Nat.le_refl _, Blk.new w1 27 _, SlN.nil _ _ _ _⟩
    have H0 := HSB _ _ _ _ hw0
    have hb0 : Below w.heap.size w (w1.alloc (.cells #[.slice none 0 0, .bool false] 27)) := hb.alloc hb.size _
    clear hw0 HA HSB
    go_wp2_with fail
    (with_reducible refine (unhide H0).mono ?_)
    rintro e w2 ⟨rfl, v2, hw2, ho2, hf2⟩
    have hB2 : Below w.heap.size w w2 := hb0.trans (ho2.below hb0.size (fun k hk => by
      simp [slB] at hk
      subst hk
      exact hb.size))
    have HD := hide (done_any hw2)
    clear ho2 hf2 H0 hb0
    go_wp2_with fail
    (with_reducible refine (unhide HD).mono ?_)
    rintro e w3 ⟨rfl, hw3⟩
    subst hw3
    go_wp2_with fail
    go_ret
    exact ⟨rfl, hB2⟩
end Go.Proofs.Yteggfobeaolafaa
