/-
  A part that is no container, as bytes (packout.plain).
-/
import Derived.Test.YteggfobeaolafaaPkC
namespace Go.Proofs.Yteggfobeaolafaa
open Go.RowKit

theorem u64_or_32 (C c : Nat) (hC : C % 32 = 0 ∧ C < 256) (hc : c < 32) : bits .or .u64 (C : Int) (c : Int) = ((C + c : Nat) : Int) := by
  have h7 : (BitVec.ofInt 64 (C : Int) ||| BitVec.ofInt 64 (c : Int)).toNat = C + c := by
    rw [BitVec.ofInt_natCast, BitVec.ofInt_natCast, BitVec.toNat_or, BitVec.toNat_ofNat, BitVec.toNat_ofNat, Nat.mod_eq_of_lt (by omega), Nat.mod_eq_of_lt (by omega)]
    have h2 := Nat.shiftLeft_add_eq_or_of_lt (i := 5) (b := c) hc (C / 32)
    rw [Nat.shiftLeft_eq, show 2 ^ 5 = 32 from rfl, show C / 32 * 32 = C by omega] at h2
    omega
  show IntKind.u64.wrap ((BitVec.ofInt 64 (C : Int) ||| BitVec.ofInt 64 (c : Int)).toNat : Int) = _
  rw [h7, IntKind.wrap_u64]
  omega
set_option maxRecDepth 100000 in
set_option maxHeartbeats 1000000 in
theorem cplain_any (p : Part) (hc : p.isClose = false) (ho : p.may = true) (hm : ∀ g m, p = .whole g m → 0 ≤ m ∧ m < 18446744073709551616) (hl : ∀ l, p = .word l ∨ p = .blob l → l.length ≤ 1000000) (w : World) (r : List UInt8) (k : Int) (hr : (r, k) = plainR p) :
    Calls Try.prog 26 #[p.val] w fun e w' => e = .returned (.tuple #[.string (S r), .int .i64 k]) ∧ Below w.heap.size w w' := by
  cases p with
  | null =>
    simp only [plainR] at hr
    injection hr with e1 e2
    subst e1 e2
    unfold Part.val
    have t1 := fun w => ta_bool Part.null w
    have t2 := fun w => ta_whole Part.null w
    have t3 := fun w => ta_word Part.null w
    have t4 := fun w => ta_blob Part.null w
    simp only [Part.val, Part.asBool, Part.isBool, Part.asWhole, Part.isWhole, Part.asWord, Part.isWord, Part.asBlob, Part.isBlob] at t1 t2 t3 t4
    go_enter Try.func26, Try.ntmps26
    go_wp2_with fail
    go_ret2
    exact ⟨rfl, by repeat refine Below.more ?_ (Nat.le_refl _) _
                   exact Below.refl _ _⟩
  | begin_ m n =>
    simp only [plainR] at hr
    injection hr with e1 e2
    subst e1 e2
    unfold Part.val
    have t1 := fun w => ta_bool (Part.begin_ m n) w
    have t2 := fun w => ta_whole (Part.begin_ m n) w
    have t3 := fun w => ta_word (Part.begin_ m n) w
    have t4 := fun w => ta_blob (Part.begin_ m n) w
    simp only [Part.val, Part.asBool, Part.isBool, Part.asWhole, Part.isWhole, Part.asWord, Part.isWord, Part.asBlob, Part.isBlob] at t1 t2 t3 t4
    go_enter Try.func26, Try.ntmps26
    go_wp2_with fail
    go_ret2
    exact ⟨rfl, by repeat refine Below.more ?_ (Nat.le_refl _) _
                   exact Below.refl _ _⟩
  | bool b =>
    simp only [plainR] at hr
    injection hr with e1 e2
    subst e1 e2
    unfold Part.val
    have t1 := fun w => ta_bool (Part.bool b) w
    have t2 := fun w => ta_whole (Part.bool b) w
    have t3 := fun w => ta_word (Part.bool b) w
    have t4 := fun w => ta_blob (Part.bool b) w
    simp only [Part.val, Part.asBool, Part.isBool, Part.asWhole, Part.isWhole, Part.asWord, Part.isWord, Part.asBlob, Part.isBlob] at t1 t2 t3 t4
    cases b with
    | true =>
      go_enter Try.func26, Try.ntmps26
      go_wp2_with fail
      go_ret2
      exact ⟨rfl, Below.refl _ _⟩
    | false =>
      go_enter Try.func26, Try.ntmps26
      go_wp2_with fail
      go_ret2
      exact ⟨rfl, Below.refl _ _⟩
  | whole g m =>
    obtain ⟨h0, h64⟩ := hm g m rfl
    obtain ⟨c, rfl⟩ := Int.eq_ofNat_of_zero_le h0
    unfold Part.val
    have t1 := fun w => ta_bool (Part.whole g (c : Int)) w
    have t2 := fun w => ta_whole (Part.whole g (c : Int)) w
    have t3 := fun w => ta_word (Part.whole g (c : Int)) w
    have t4 := fun w => ta_blob (Part.whole g (c : Int)) w
    simp only [Part.val, Part.asBool, Part.isBool, Part.asWhole, Part.isWhole, Part.asWord, Part.isWord, Part.asBlob, Part.isBlob] at t1 t2 t3 t4
    simp only [plainR, Int.toNat_natCast] at hr
    cases g with
    | true =>
      rw [if_pos rfl] at hr
      have HP := fun W => hide (below_any c (hide (by omega)) W r k hr)
      clear hr hm hl h0 h64 ho hc
      go_enter Try.func26, Try.ntmps26
      go_wp2_with fail
      (with_reducible refine (unhide (HP _)).mono ?_)
      rintro e w1 ⟨rfl, hb1⟩
      go_wp2_with fail
      go_ret2
      exact ⟨rfl, (Below.more (Below.refl _ _) (Nat.le_refl _) _).trans (hb1.mono (by simp))⟩
    | false =>
      rw [if_neg (by decide)] at hr
      by_cases h1 : (c : Int) < 128
      · rw [if_pos h1] at hr
        injection hr with e1 e2
        subst e2
        have HP := fun W => hide (big_at c 1 c 1 rfl rfl (by omega) (by omega) r e1 W)
        clear hm hl h0 h64 ho hc e1
        go_enter Try.func26, Try.ntmps26
        go_wp2_with fail
        (with_reducible refine (unhide (HP _)).mono ?_)
        rintro e w1 ⟨rfl, ho1⟩
        go_wp2_with fail
        go_ret2
        exact ⟨rfl, (Below.more (Below.refl _ _) (Nat.le_refl _) _).trans (ho1.nil_below.mono (by simp))⟩
      · rw [if_neg h1] at hr
        injection hr with e1 e2
        subst e2
        have h1' : decide ((c : Int) < 128) = false := decide_eq_false h1
        have bk : Blk ((w.alloc (.cells #[.bool false, .int .u64 c] 53)).alloc (.cells #[.int .i64 1, .int .i64 2, .int .i64 4, .int .i64 8] 3)) (w.heap.size + 1) 3 #[.int .i64 1, .int .i64 2, .int .i64 4, .int .i64 8] := by simpa using Blk.new (w.alloc (.cells #[.bool false, .int .u64 c] 53)) 3 #[.int .i64 1, .int .i64 2, .int .i64 4, .int .i64 8]
        have H1 := hide (sized_blk 204 (w.heap.size + 1) (by omega) [1, 2, 4, 8] (by simp) (by simp) _ rfl bk 4 rfl c 204 rfl r e1)
        clear hm hl h0 h64 ho hc e1 bk h1
        go_enter Try.func26, Try.ntmps26
        go_wp2_with fail
        (with_reducible refine (unhide H1).mono ?_)
        rintro e w1 ⟨rfl, hb1⟩
        go_wp2_with fail
        go_ret2
        exact ⟨rfl, (Below.more (Below.more (Below.refl _ _) (Nat.le_refl _) _) (Nat.le_refl _) _).trans (hb1.mono (by simp; omega))⟩
  | word l =>
    have hll := hl l (.inl rfl)
    have hll2 : (l.length : Int) ≤ 1000000 := by omega
    have hwr : IntKind.u64.wrap (l.length : Int) = l.length := by rw [IntKind.wrap_u64]; omega
    simp only [plainR] at hr
    injection hr with e1 e2
    subst e2
    unfold Part.val
    have t1 := fun w => ta_bool (Part.word l) w
    have t2 := fun w => ta_whole (Part.word l) w
    have t3 := fun w => ta_word (Part.word l) w
    have t4 := fun w => ta_blob (Part.word l) w
    simp only [Part.val, Part.asBool, Part.isBool, Part.asWhole, Part.isWhole, Part.asWord, Part.isWord, Part.asBlob, Part.isBlob] at t1 t2 t3 t4
    unfold wordB at e1
    by_cases h1 : l.length < 32
    · rw [if_pos h1] at e1
      have h1' : decide ((l.length : Int) < 32) = true := by simp; omega
      obtain ⟨h, hh⟩ : ∃ h, h = bigL (160 + l.length) 1 := ⟨_, rfl⟩
      rw [← hh] at e1
      have hhl : h.length = 1 := by rw [hh]; simp
      have hadd := run_add_S (P := Try.prog) h l (by omega)
      rw [← e1] at hadd
      have hor : bits .or .u64 160 (l.length : Int) = ((160 + l.length : Nat) : Int) := u64_or_32 160 l.length (by decide) h1
      have HP := fun W => hide (big_at (bits .or .u64 160 (l.length : Int)) 1 (160 + l.length) 1 hor rfl (by omega) (by omega) h hh W)
      clear e1 hh hm hl hor h1 ho hc hhl
      go_enter Try.func26, Try.ntmps26
      go_wp2_with fail
      (with_reducible refine (unhide (HP _)).mono ?_)
      rintro e w1 ⟨rfl, ho1⟩
      go_wp2_with fail
      go_ret2
      exact ⟨rfl, (Below.more (Below.refl _ _) (Nat.le_refl _) _).trans (ho1.nil_below.mono (by simp))⟩
    · rw [if_neg h1] at e1
      have h1' : decide ((l.length : Int) < 32) = false := by simp; omega
      clear h1
      obtain ⟨h, hh⟩ : ∃ h, h = sizedL 217 0 [1, 2, 4] l.length := ⟨_, rfl⟩
      rw [← hh] at e1
      have hhl : h.length ≤ 9 := by rw [hh]; exact sizedL_length _ _ _ _ (by simp)
      have hadd := run_add_S (P := Try.prog) h l (by omega)
      rw [← e1] at hadd
      have bk : Blk ((w.alloc (.cells #[.bool false, .int .u64 0] 53)).alloc (.cells #[.int .i64 1, .int .i64 2, .int .i64 4] 3)) (w.heap.size + 1) 3 #[.int .i64 1, .int .i64 2, .int .i64 4] := by simpa using Blk.new (w.alloc (.cells #[.bool false, .int .u64 0] 53)) 3 #[.int .i64 1, .int .i64 2, .int .i64 4]
      have H1 := hide (sized_blk 217 (w.heap.size + 1) (by omega) [1, 2, 4] (by simp) (by simp) _ rfl bk 3 rfl l.length 217 rfl h hh)
      clear hm hl ho hc e1 bk hh hhl
      go_enter Try.func26, Try.ntmps26
      go_wp2_with fail
      (with_reducible refine (unhide H1).mono ?_)
      rintro e w1 ⟨rfl, hb1⟩
      go_wp2_with fail
      go_ret2
      exact ⟨rfl, (Below.more (Below.more (Below.refl _ _) (Nat.le_refl _) _) (Nat.le_refl _) _).trans (hb1.mono (by simp; omega))⟩
  | blob l =>
    have hll := hl l (.inr rfl)
    have hll2 : (l.length : Int) ≤ 1000000 := by omega
    have hwr : IntKind.u64.wrap (l.length : Int) = l.length := by rw [IntKind.wrap_u64]; omega
    simp only [plainR] at hr
    injection hr with e1 e2
    subst e2
    unfold Part.val
    have t1 := fun w => ta_bool (Part.blob l) w
    have t2 := fun w => ta_whole (Part.blob l) w
    have t3 := fun w => ta_word (Part.blob l) w
    have t4 := fun w => ta_blob (Part.blob l) w
    simp only [Part.val, Part.asBool, Part.isBool, Part.asWhole, Part.isWhole, Part.asWord, Part.isWord, Part.asBlob, Part.isBlob] at t1 t2 t3 t4
    obtain ⟨h, hh⟩ : ∃ h, h = sizedL 196 0 [1, 2, 4] l.length := ⟨_, rfl⟩
    rw [← hh] at e1
    have hhl : h.length ≤ 9 := by rw [hh]; exact sizedL_length _ _ _ _ (by simp)
    have hadd := run_add_S (P := Try.prog) h l (by omega)
    rw [← e1] at hadd
    have bk : Blk ((w.alloc (.cells #[.bool false, .int .u64 0] 53)).alloc (.cells #[.int .i64 1, .int .i64 2, .int .i64 4] 3)) (w.heap.size + 1) 3 #[.int .i64 1, .int .i64 2, .int .i64 4] := by simpa using Blk.new (w.alloc (.cells #[.bool false, .int .u64 0] 53)) 3 #[.int .i64 1, .int .i64 2, .int .i64 4]
    have H1 := hide (sized_blk 196 (w.heap.size + 1) (by omega) [1, 2, 4] (by simp) (by simp) _ rfl bk 3 rfl l.length 196 rfl h hh)
    clear hm hl ho hc e1 bk hh hhl
    go_enter Try.func26, Try.ntmps26
    go_wp2_with fail
    (with_reducible refine (unhide H1).mono ?_)
    rintro e w1 ⟨rfl, hb1⟩
    go_wp2_with fail
    go_ret2
    exact ⟨rfl, (Below.more (Below.more (Below.refl _ _) (Nat.le_refl _) _) (Nat.le_refl _) _).trans (hb1.mono (by simp; omega))⟩
  | close => simp [Part.isClose] at hc
  | odd => simp [Part.may] at ho
end Go.Proofs.Yteggfobeaolafaa
