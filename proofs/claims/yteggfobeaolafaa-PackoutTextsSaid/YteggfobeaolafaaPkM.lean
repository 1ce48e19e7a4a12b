/-
  The walk of PackoutTexts.
-/
import Derived.Test.YteggfobeaolafaaPkK
namespace Go.Proofs.Yteggfobeaolafaa
open Go.RowKit Instr

def headN (b : Bool) (n : Nat) : Nat := if n < 32 ∧ b = false then 1 else if n < 256 then 2 else if n < 65536 then 3 else 5
theorem text_head (b : Bool) (l : List UInt8) (hl : l.length ≤ 70000) : ∃ hd : List UInt8, hd.length = headN b l.length ∧ allC [⟨if b then 4 else 3, false, 0, l, 0⟩] [] false [] = (hd ++ l, 0) := by
  cases b with
  | false =>
    have hs : allC [⟨if false then 4 else 3, false, 0, l, 0⟩] [] false [] = (wordB l, 0) := by
      simp [allC, EvM.part, partOf, stepC, Part.may, Part.isClose, partR, plainR, Part.opens, Part.isBegin]
    rw [hs]
    unfold wordB headN
    by_cases h1 : l.length < 32
    · exact ⟨bigL (160 + l.length) 1, by rw [if_pos ⟨h1, rfl⟩, bigL_length], by rw [if_pos h1]⟩
    rw [if_neg h1, if_neg (by simp [h1])]
    by_cases h2 : l.length < 256
    · exact ⟨sizedL 217 0 [1, 2, 4] l.length, by rw [if_pos h2, sizedL_hit (.inr (by omega))]; simp, rfl⟩
    by_cases h3 : l.length < 65536
    · exact ⟨sizedL 217 0 [1, 2, 4] l.length, by rw [if_neg h2, if_pos h3, sizedL_next (by omega), sizedL_hit (.inr (by omega))]; simp, rfl⟩
    · exact ⟨sizedL 217 0 [1, 2, 4] l.length, by rw [if_neg h2, if_neg h3, sizedL_next (by omega), sizedL_next (by omega), sizedL_hit (.inr (by omega))]; simp, rfl⟩
  | true =>
    have hs : allC [⟨if true then 4 else 3, false, 0, l, 0⟩] [] false [] = (sizedL 196 0 [1, 2, 4] l.length ++ l, 0) := by
      simp [allC, EvM.part, partOf, stepC, Part.may, Part.isClose, partR, plainR, Part.opens, Part.isBegin]
    rw [hs]
    unfold headN
    rw [if_neg (by simp)]
    by_cases h2 : l.length < 256
    · exact ⟨sizedL 196 0 [1, 2, 4] l.length, by rw [if_pos h2, sizedL_hit (.inr (by omega))]; simp, rfl⟩
    by_cases h3 : l.length < 65536
    · exact ⟨sizedL 196 0 [1, 2, 4] l.length, by rw [if_neg h2, if_pos h3, sizedL_next (by omega), sizedL_hit (.inr (by omega))]; simp, rfl⟩
    · exact ⟨sizedL 196 0 [1, 2, 4] l.length, by rw [if_neg h2, if_neg h3, sizedL_next (by omega), sizedL_next (by omega), sizedL_hit (.inr (by omega))]; simp, rfl⟩
theorem head5 (b : Bool) {n : Nat} (h : 65536 ≤ n) : headN b n = 5 := by unfold headN; rw [if_neg (by omega), if_neg (by omega), if_neg (by omega)]
theorem head3 (b : Bool) {n : Nat} (h : 256 ≤ n) (h2 : ¬ 65536 ≤ n) : headN b n = 3 := by unfold headN; rw [if_neg (by omega), if_neg (by omega), if_pos (by omega)]
theorem head2 (b : Bool) {n : Nat} (h : 32 ≤ n) (h2 : ¬ 256 ≤ n) : headN b n = 2 := by unfold headN; rw [if_neg (by omega), if_pos (by omega)]
theorem head2b {n : Nat} (h2 : ¬ 256 ≤ n) : headN true n = 2 := by unfold headN; rw [if_neg (by simp), if_pos (by omega)]
theorem head1 {n : Nat} (h : ¬ 32 ≤ n) : headN false n = 1 := by unfold headN; rw [if_pos ⟨by omega, rfl⟩]
theorem wf_bounds_u8 {n : Int} (h : (Lit.int .u8 n).wf = true) : 0 ≤ n ∧ n < 256 := by
  simp [Lit.wf, IntKind.min, IntKind.max, IntKind.signed, IntKind.bits] at h
  omega
theorem rep_set (n i : Nat) (c : UInt8) (h : i < n) : (List.replicate i c ++ List.replicate (n - i) (0 : UInt8)).set i c = List.replicate (i + 1) c ++ List.replicate (n - (i + 1)) 0 := by
  obtain ⟨m, rfl⟩ : ∃ m, n = i + (m + 1) := ⟨n - i - 1, by omega⟩
  rw [show i + (m + 1) - i = m + 1 by omega, show i + (m + 1) - (i + 1) = m by omega, List.set_append_right _ _ (by simp), List.replicate_succ, List.replicate_succ']
  simp

set_option maxRecDepth 100000 in
set_option maxHeartbeats 1000000 in
theorem texts_no (n c : Int) (b : Bool) (w : World) (h : n < 0 ∨ 70000 < n ∨ 128 ≤ c) :
    Calls Try.prog 8 #[.int .i64 n, .int .u8 c, .bool b] w fun e w' => e = .returned (.bool true) ∧ Below w.heap.size w w' := by
  have HA := fun W => hide (alive_any W)
  by_cases h1 : n < 0
  · have h1' : decide (n < 0) = true := decide_eq_true h1
    clear h
    go_enter Try.func8, Try.ntmps8
    go_wp2_with fail
    (with_reducible refine (unhide (HA _)).mono ?_)
    rintro e w1 ⟨rfl, hb⟩
    go_wp2_with fail
    go_ret
    exact ⟨rfl, hb⟩
  have h1' : decide (n < 0) = false := decide_eq_false h1
  by_cases h2 : 70000 < n
  · have h2' : decide (70000 < n) = true := decide_eq_true h2
    clear h
    go_enter Try.func8, Try.ntmps8
    go_wp2_with fail
    (with_reducible refine (unhide (HA _)).mono ?_)
    rintro e w1 ⟨rfl, hb⟩
    go_wp2_with fail
    go_ret
    exact ⟨rfl, hb⟩
  have h2' : decide (70000 < n) = false := decide_eq_false h2
  have h3' : decide (128 ≤ c) = true := decide_eq_true (by omega)
  clear h
  go_enter Try.func8, Try.ntmps8
  go_wp2_with fail
  (with_reducible refine (unhide (HA _)).mono ?_)
  rintro e w1 ⟨rfl, hb⟩
  go_wp2_with fail
  go_ret
  exact ⟨rfl, hb⟩
set_option maxRecDepth 100000 in
set_option maxHeartbeats 4000000 in
theorem texts_go (n : Nat) (c : UInt8) (b : Bool) (w : World) (hn : n ≤ 70000) (hc : c.toNat < 128) :
    Calls Try.prog 8 #[.int .i64 n, .int .u8 (c.toNat : Int), .bool b] w fun e w' => e = .returned (.bool true) ∧ Below w.heap.size w w' := by
  have HA := fun W => hide (alive_any W)
  obtain ⟨ci, hci⟩ : ∃ ci, ci = (List.replicate n (Value.int .u8 0)).toArray := ⟨_, rfl⟩
  have info8 : (Try.prog.info? 5).map (fun i => (i.zero, i.size, i.bytes)) = some (some (.int .u8 0), 1, 1) := by kernel_rfl
  have hm1 := run_make_cells (P := Try.prog) Try.underlying59 (.int .u8 0) 1 info8 rfl n n rfl (by omega) (by omega)
  rw [← hci] at hm1
  have Hci := hide hci
  clear hci
  have h1' : decide ((n : Int) < 0) = false := by simp
  have h2' : decide (70000 < (n : Int)) = false := decide_eq_false (by omega)
  have h3' : decide (128 ≤ (c.toNat : Int)) = false := decide_eq_false (by omega)
  have hn2 : (n : Int) ≤ 70000 := by omega
  clear hc
  go_enter Try.func8, Try.ntmps8
  go_wp2_with fail
  (with_reducible refine (unhide (HA _)).mono ?_)
  rintro e w1 ⟨rfl, hb⟩
  have HB := hide hb
  clear HA hb
  go_wp2_with fail
  go_loopg [8, 32] n (fun g s8 s32 wr => ∃ i : Nat, s32 = .int .i64 i ∧ i + g = n ∧ Blk wr w1.heap.size 5 (bytesV (List.replicate i c ++ List.replicate (n - i) 0)) ∧ Hid (Below w1.heap.size w1 wr))
  case atStart =>
    refine ⟨0, rfl, by omega, ?_, hide ((Below.refl _ _).alloc (Nat.le_refl _) _)⟩
    have := Blk.new w1 5 ci
    rw [Hci.out] at this ⊢
    simpa [bytesV] using this
  case round =>
    obtain ⟨i, rfl, hi, hbl, ho⟩ := hrel
    by_cases hlt : i < n
    · have fz := hbl.frozen i
      have cz := hbl.cellv i (.int .u8 0) (by
        rw [bytesV_get, List.getElem?_append_right (by simp), List.getElem?_replicate, if_pos (by simp; omega)]
        rfl)
      have hs := hbl.set_ i (.int .u8 (c.toNat : Int))
      rw [bytesV_set, rep_set n i c hlt] at hs
      have Hs := hide hs
      clear hs
      go_wp2_with fail
      go_roundg (gk - 1)
      case measure => omega
      case rel => exact ⟨i + 1, by go_num, by omega, Hs.out, hide (ho.out.setCell (Nat.le_refl _) _)⟩
    · obtain rfl : i = n := by omega
      rw [Nat.sub_self, List.replicate_zero, List.append_nil] at hbl
      obtain ⟨l, hl⟩ : ∃ l, l = List.replicate i c := ⟨_, rfl⟩
      rw [← hl] at hbl
      have hll : l.length = i := by rw [hl]; simp
      have hstr := run_string_blk (P := Try.prog) Try.underlying59 Try.underlying5 Try.underlying9 hbl i i hll
      have HLL := hide hll
      have HBR := hide (HB.out.trans (ho.out.mono HB.out.size))
      obtain ⟨hd, hhd, hall⟩ := text_head b l (by omega)
      rw [hll] at hhd
      obtain ⟨r, hr⟩ : ∃ r, r = hd ++ l := ⟨_, rfl⟩
      rw [← hr] at hall
      have HRR := hide hr
      have HHD0 := hide hhd
      have HALL0 := hide hall
      clear hl hbl ho hll hall hhd hr
      by_cases d1 : 65536 ≤ i
      · have d1' : decide (65536 ≤ (i : Int)) = true := decide_eq_true (by omega)
        cases b with
        | false =>
          have HHD : Hid (hd.length = 5) := hide (by rw [HHD0.out]; exact head5 _ d1)
          have H := fun W B hB => all_any (evs_built W [⟨3, false, 0, l, 0⟩] 1 rfl #[.int .i64 3, .bool false, .int .u64 0, .string (S l), .int .i64 0] rfl B hB) (by intro e he; simp at he; subst he; exact ⟨Int.le_refl 0, by simp only; have := HLL.out; omega, by simp, by simp⟩) (by simp) r 0 HALL0.out.symm
          have HH := fun W B hB => hide (H W B hB)
          have hmx := max_i64 (P := Try.prog) #[3, 3] 3 5 2 5 (by decide)
          have hx3 := (Blk.new wr 34 #[.int .i64 3, .bool false, .int .u64 0, .string (S l), .int .i64 0])
          have HX3 := hide hx3
          clear H hx3
          go_wp2_with fail
          (with_reducible refine (unhide (HH _ _ (by simp))).mono ?_)
          rintro e w4 ⟨rfl, hb4⟩
          have x3 : w4.cell? ⟨wr.heap.size, 3, none⟩ = some (.string (S l)) := ((HX3.out.alloc _).below hb4 (by have := (HX3.out.alloc (.cells #[.int .i64 3, .bool false, .int .u64 0, .string (S l), .int .i64 0] 34)).lt; exact this)).cellv 3 _ rfl
          have HB4 : Hid (Below w.heap.size w w4) := hide ((Below.more (Below.more HBR.out (Nat.le_refl _) _) (Nat.le_refl _) _).trans (hb4.mono (by have := HBR.out.size; simp; omega)))
          have hsl : ∀ W, (Instr.slice 9 (.string (S r)) (some (.int .i64 5)) none none).run Try.prog W = .ok (.string (S l)) W := by
            have h9 := slice_from (P := Try.prog) (t := 9) Try.underlying9 (hd ++ l) 5 (by rw [List.length_append, HHD.out]; omega)
            rw [List.drop_left' HHD.out, ← HRR.out] at h9
            exact h9
          have hll : (r.length : Int) = (i : Int) + 5 := by rw [HRR.out, List.length_append, HHD.out, HLL.out]; push_cast; omega
          clear hb4 HH hmx HX3
          go_upto_region 21 with (fail)
          go_quiet (fail)
          go_wp2_with fail
          go_ret
          exact ⟨rfl, below_drewN HB4.out _⟩
        | true =>
          have HHD : Hid (hd.length = 5) := hide (by rw [HHD0.out]; exact head5 _ d1)
          have H := fun W B hB => all_any (evs_built W [⟨4, false, 0, l, 0⟩] 1 rfl #[.int .i64 4, .bool false, .int .u64 0, .string (S l), .int .i64 0] rfl B hB) (by intro e he; simp at he; subst he; exact ⟨Int.le_refl 0, by simp only; have := HLL.out; omega, by simp, by simp⟩) (by simp) r 0 HALL0.out.symm
          have HH := fun W B hB => hide (H W B hB)
          have hmx := max_i64 (P := Try.prog) #[3, 3] 3 5 2 5 (by decide)
          have hx3 := (Blk.new wr 34 #[.int .i64 4, .bool false, .int .u64 0, .string (S l), .int .i64 0])
          have HX3 := hide hx3
          clear H hx3
          go_wp2_with fail
          (with_reducible refine (unhide (HH _ _ (by simp))).mono ?_)
          rintro e w4 ⟨rfl, hb4⟩
          have x3 : w4.cell? ⟨wr.heap.size, 3, none⟩ = some (.string (S l)) := ((HX3.out.alloc _).below hb4 (by have := (HX3.out.alloc (.cells #[.int .i64 4, .bool false, .int .u64 0, .string (S l), .int .i64 0] 34)).lt; exact this)).cellv 3 _ rfl
          have HB4 : Hid (Below w.heap.size w w4) := hide ((Below.more (Below.more HBR.out (Nat.le_refl _) _) (Nat.le_refl _) _).trans (hb4.mono (by have := HBR.out.size; simp; omega)))
          have hsl : ∀ W, (Instr.slice 9 (.string (S r)) (some (.int .i64 5)) none none).run Try.prog W = .ok (.string (S l)) W := by
            have h9 := slice_from (P := Try.prog) (t := 9) Try.underlying9 (hd ++ l) 5 (by rw [List.length_append, HHD.out]; omega)
            rw [List.drop_left' HHD.out, ← HRR.out] at h9
            exact h9
          have hll : (r.length : Int) = (i : Int) + 5 := by rw [HRR.out, List.length_append, HHD.out, HLL.out]; push_cast; omega
          clear hb4 HH hmx HX3
          go_upto_region 21 with (fail)
          go_quiet (fail)
          go_wp2_with fail
          go_ret
          exact ⟨rfl, below_drewN HB4.out _⟩
      have d1' : decide (65536 ≤ (i : Int)) = false := decide_eq_false (by omega)
      by_cases d2 : 256 ≤ i
      · have d2' : decide (256 ≤ (i : Int)) = true := decide_eq_true (by omega)
        cases b with
        | false =>
          have HHD : Hid (hd.length = 3) := hide (by rw [HHD0.out]; exact head3 _ d2 d1)
          have H := fun W B hB => all_any (evs_built W [⟨3, false, 0, l, 0⟩] 1 rfl #[.int .i64 3, .bool false, .int .u64 0, .string (S l), .int .i64 0] rfl B hB) (by intro e he; simp at he; subst he; exact ⟨Int.le_refl 0, by simp only; have := HLL.out; omega, by simp, by simp⟩) (by simp) r 0 HALL0.out.symm
          have HH := fun W B hB => hide (H W B hB)
          have hmx := max_i64 (P := Try.prog) #[3, 3] 3 3 2 3 (by decide)
          have hx3 := (Blk.new wr 34 #[.int .i64 3, .bool false, .int .u64 0, .string (S l), .int .i64 0])
          have HX3 := hide hx3
          clear H hx3
          go_wp2_with fail
          (with_reducible refine (unhide (HH _ _ (by simp))).mono ?_)
          rintro e w4 ⟨rfl, hb4⟩
          have x3 : w4.cell? ⟨wr.heap.size, 3, none⟩ = some (.string (S l)) := ((HX3.out.alloc _).below hb4 (by have := (HX3.out.alloc (.cells #[.int .i64 3, .bool false, .int .u64 0, .string (S l), .int .i64 0] 34)).lt; exact this)).cellv 3 _ rfl
          have HB4 : Hid (Below w.heap.size w w4) := hide ((Below.more (Below.more HBR.out (Nat.le_refl _) _) (Nat.le_refl _) _).trans (hb4.mono (by have := HBR.out.size; simp; omega)))
          have hsl : ∀ W, (Instr.slice 9 (.string (S r)) (some (.int .i64 3)) none none).run Try.prog W = .ok (.string (S l)) W := by
            have h9 := slice_from (P := Try.prog) (t := 9) Try.underlying9 (hd ++ l) 3 (by rw [List.length_append, HHD.out]; omega)
            rw [List.drop_left' HHD.out, ← HRR.out] at h9
            exact h9
          have hll : (r.length : Int) = (i : Int) + 3 := by rw [HRR.out, List.length_append, HHD.out, HLL.out]; push_cast; omega
          clear hb4 HH hmx HX3
          go_upto_region 21 with (fail)
          go_quiet (fail)
          go_wp2_with fail
          go_ret
          exact ⟨rfl, below_drewN HB4.out _⟩
        | true =>
          have HHD : Hid (hd.length = 3) := hide (by rw [HHD0.out]; exact head3 _ d2 d1)
          have H := fun W B hB => all_any (evs_built W [⟨4, false, 0, l, 0⟩] 1 rfl #[.int .i64 4, .bool false, .int .u64 0, .string (S l), .int .i64 0] rfl B hB) (by intro e he; simp at he; subst he; exact ⟨Int.le_refl 0, by simp only; have := HLL.out; omega, by simp, by simp⟩) (by simp) r 0 HALL0.out.symm
          have HH := fun W B hB => hide (H W B hB)
          have hmx := max_i64 (P := Try.prog) #[3, 3] 3 3 2 3 (by decide)
          have hx3 := (Blk.new wr 34 #[.int .i64 4, .bool false, .int .u64 0, .string (S l), .int .i64 0])
          have HX3 := hide hx3
          clear H hx3
          go_wp2_with fail
          (with_reducible refine (unhide (HH _ _ (by simp))).mono ?_)
          rintro e w4 ⟨rfl, hb4⟩
          have x3 : w4.cell? ⟨wr.heap.size, 3, none⟩ = some (.string (S l)) := ((HX3.out.alloc _).below hb4 (by have := (HX3.out.alloc (.cells #[.int .i64 4, .bool false, .int .u64 0, .string (S l), .int .i64 0] 34)).lt; exact this)).cellv 3 _ rfl
          have HB4 : Hid (Below w.heap.size w w4) := hide ((Below.more (Below.more HBR.out (Nat.le_refl _) _) (Nat.le_refl _) _).trans (hb4.mono (by have := HBR.out.size; simp; omega)))
          have hsl : ∀ W, (Instr.slice 9 (.string (S r)) (some (.int .i64 3)) none none).run Try.prog W = .ok (.string (S l)) W := by
            have h9 := slice_from (P := Try.prog) (t := 9) Try.underlying9 (hd ++ l) 3 (by rw [List.length_append, HHD.out]; omega)
            rw [List.drop_left' HHD.out, ← HRR.out] at h9
            exact h9
          have hll : (r.length : Int) = (i : Int) + 3 := by rw [HRR.out, List.length_append, HHD.out, HLL.out]; push_cast; omega
          clear hb4 HH hmx HX3
          go_upto_region 21 with (fail)
          go_quiet (fail)
          go_wp2_with fail
          go_ret
          exact ⟨rfl, below_drewN HB4.out _⟩
      have d2' : decide (256 ≤ (i : Int)) = false := decide_eq_false (by omega)
      by_cases d3 : 32 ≤ i
      · have d3' : decide (32 ≤ (i : Int)) = true := decide_eq_true (by omega)
        cases b with
        | false =>
          have HHD : Hid (hd.length = 2) := hide (by rw [HHD0.out]; exact head2 _ d3 d2)
          have H := fun W B hB => all_any (evs_built W [⟨3, false, 0, l, 0⟩] 1 rfl #[.int .i64 3, .bool false, .int .u64 0, .string (S l), .int .i64 0] rfl B hB) (by intro e he; simp at he; subst he; exact ⟨Int.le_refl 0, by simp only; have := HLL.out; omega, by simp, by simp⟩) (by simp) r 0 HALL0.out.symm
          have HH := fun W B hB => hide (H W B hB)
          have hmx := max_i64 (P := Try.prog) #[3, 3] 3 2 2 2 (by decide)
          have hx3 := (Blk.new wr 34 #[.int .i64 3, .bool false, .int .u64 0, .string (S l), .int .i64 0])
          have HX3 := hide hx3
          clear H hx3
          go_wp2_with fail
          (with_reducible refine (unhide (HH _ _ (by simp))).mono ?_)
          rintro e w4 ⟨rfl, hb4⟩
          have x3 : w4.cell? ⟨wr.heap.size, 3, none⟩ = some (.string (S l)) := ((HX3.out.alloc _).below hb4 (by have := (HX3.out.alloc (.cells #[.int .i64 3, .bool false, .int .u64 0, .string (S l), .int .i64 0] 34)).lt; exact this)).cellv 3 _ rfl
          have HB4 : Hid (Below w.heap.size w w4) := hide ((Below.more (Below.more HBR.out (Nat.le_refl _) _) (Nat.le_refl _) _).trans (hb4.mono (by have := HBR.out.size; simp; omega)))
          have hsl : ∀ W, (Instr.slice 9 (.string (S r)) (some (.int .i64 2)) none none).run Try.prog W = .ok (.string (S l)) W := by
            have h9 := slice_from (P := Try.prog) (t := 9) Try.underlying9 (hd ++ l) 2 (by rw [List.length_append, HHD.out]; omega)
            rw [List.drop_left' HHD.out, ← HRR.out] at h9
            exact h9
          have hll : (r.length : Int) = (i : Int) + 2 := by rw [HRR.out, List.length_append, HHD.out, HLL.out]; push_cast; omega
          clear hb4 HH hmx HX3
          go_upto_region 21 with (fail)
          go_quiet (fail)
          go_wp2_with fail
          go_ret
          exact ⟨rfl, below_drewN HB4.out _⟩
        | true =>
          have HHD : Hid (hd.length = 2) := hide (by rw [HHD0.out]; exact head2 _ d3 d2)
          have H := fun W B hB => all_any (evs_built W [⟨4, false, 0, l, 0⟩] 1 rfl #[.int .i64 4, .bool false, .int .u64 0, .string (S l), .int .i64 0] rfl B hB) (by intro e he; simp at he; subst he; exact ⟨Int.le_refl 0, by simp only; have := HLL.out; omega, by simp, by simp⟩) (by simp) r 0 HALL0.out.symm
          have HH := fun W B hB => hide (H W B hB)
          have hmx := max_i64 (P := Try.prog) #[3, 3] 3 2 2 2 (by decide)
          have hx3 := (Blk.new wr 34 #[.int .i64 4, .bool false, .int .u64 0, .string (S l), .int .i64 0])
          have HX3 := hide hx3
          clear H hx3
          go_wp2_with fail
          (with_reducible refine (unhide (HH _ _ (by simp))).mono ?_)
          rintro e w4 ⟨rfl, hb4⟩
          have x3 : w4.cell? ⟨wr.heap.size, 3, none⟩ = some (.string (S l)) := ((HX3.out.alloc _).below hb4 (by have := (HX3.out.alloc (.cells #[.int .i64 4, .bool false, .int .u64 0, .string (S l), .int .i64 0] 34)).lt; exact this)).cellv 3 _ rfl
          have HB4 : Hid (Below w.heap.size w w4) := hide ((Below.more (Below.more HBR.out (Nat.le_refl _) _) (Nat.le_refl _) _).trans (hb4.mono (by have := HBR.out.size; simp; omega)))
          have hsl : ∀ W, (Instr.slice 9 (.string (S r)) (some (.int .i64 2)) none none).run Try.prog W = .ok (.string (S l)) W := by
            have h9 := slice_from (P := Try.prog) (t := 9) Try.underlying9 (hd ++ l) 2 (by rw [List.length_append, HHD.out]; omega)
            rw [List.drop_left' HHD.out, ← HRR.out] at h9
            exact h9
          have hll : (r.length : Int) = (i : Int) + 2 := by rw [HRR.out, List.length_append, HHD.out, HLL.out]; push_cast; omega
          clear hb4 HH hmx HX3
          go_upto_region 21 with (fail)
          go_quiet (fail)
          go_wp2_with fail
          go_ret
          exact ⟨rfl, below_drewN HB4.out _⟩
      have d3' : decide (32 ≤ (i : Int)) = false := decide_eq_false (by omega)
      cases b with
      | false =>
          have HHD : Hid (hd.length = 1) := hide (by rw [HHD0.out]; exact head1 d3)
          have H := fun W B hB => all_any (evs_built W [⟨3, false, 0, l, 0⟩] 1 rfl #[.int .i64 3, .bool false, .int .u64 0, .string (S l), .int .i64 0] rfl B hB) (by intro e he; simp at he; subst he; exact ⟨Int.le_refl 0, by simp only; have := HLL.out; omega, by simp, by simp⟩) (by simp) r 0 HALL0.out.symm
          have HH := fun W B hB => hide (H W B hB)
          have hmx := max_i64 (P := Try.prog) #[3, 3] 3 1 2 2 (by decide)
          have hx3 := (Blk.new wr 34 #[.int .i64 3, .bool false, .int .u64 0, .string (S l), .int .i64 0])
          have HX3 := hide hx3
          clear H hx3
          go_wp2_with fail
          (with_reducible refine (unhide (HH _ _ (by simp))).mono ?_)
          rintro e w4 ⟨rfl, hb4⟩
          have x3 : w4.cell? ⟨wr.heap.size, 3, none⟩ = some (.string (S l)) := ((HX3.out.alloc _).below hb4 (by have := (HX3.out.alloc (.cells #[.int .i64 3, .bool false, .int .u64 0, .string (S l), .int .i64 0] 34)).lt; exact this)).cellv 3 _ rfl
          have HB4 : Hid (Below w.heap.size w w4) := hide ((Below.more (Below.more HBR.out (Nat.le_refl _) _) (Nat.le_refl _) _).trans (hb4.mono (by have := HBR.out.size; simp; omega)))
          have hsl : ∀ W, (Instr.slice 9 (.string (S r)) (some (.int .i64 1)) none none).run Try.prog W = .ok (.string (S l)) W := by
            have h9 := slice_from (P := Try.prog) (t := 9) Try.underlying9 (hd ++ l) 1 (by rw [List.length_append, HHD.out]; omega)
            rw [List.drop_left' HHD.out, ← HRR.out] at h9
            exact h9
          have hll : (r.length : Int) = (i : Int) + 1 := by rw [HRR.out, List.length_append, HHD.out, HLL.out]; push_cast; omega
          clear hb4 HH hmx HX3
          go_upto_region 21 with (fail)
          go_quiet (fail)
          go_wp2_with fail
          go_ret
          exact ⟨rfl, below_drewN HB4.out _⟩
      | true =>
          have HHD : Hid (hd.length = 2) := hide (by rw [HHD0.out]; exact head2b d2)
          have H := fun W B hB => all_any (evs_built W [⟨4, false, 0, l, 0⟩] 1 rfl #[.int .i64 4, .bool false, .int .u64 0, .string (S l), .int .i64 0] rfl B hB) (by intro e he; simp at he; subst he; exact ⟨Int.le_refl 0, by simp only; have := HLL.out; omega, by simp, by simp⟩) (by simp) r 0 HALL0.out.symm
          have HH := fun W B hB => hide (H W B hB)
          have hmx := max_i64 (P := Try.prog) #[3, 3] 3 1 2 2 (by decide)
          have hx3 := (Blk.new wr 34 #[.int .i64 4, .bool false, .int .u64 0, .string (S l), .int .i64 0])
          have HX3 := hide hx3
          clear H hx3
          go_wp2_with fail
          (with_reducible refine (unhide (HH _ _ (by simp))).mono ?_)
          rintro e w4 ⟨rfl, hb4⟩
          have x3 : w4.cell? ⟨wr.heap.size, 3, none⟩ = some (.string (S l)) := ((HX3.out.alloc _).below hb4 (by have := (HX3.out.alloc (.cells #[.int .i64 4, .bool false, .int .u64 0, .string (S l), .int .i64 0] 34)).lt; exact this)).cellv 3 _ rfl
          have HB4 : Hid (Below w.heap.size w w4) := hide ((Below.more (Below.more HBR.out (Nat.le_refl _) _) (Nat.le_refl _) _).trans (hb4.mono (by have := HBR.out.size; simp; omega)))
          have hsl : ∀ W, (Instr.slice 9 (.string (S r)) (some (.int .i64 2)) none none).run Try.prog W = .ok (.string (S l)) W := by
            have h9 := slice_from (P := Try.prog) (t := 9) Try.underlying9 (hd ++ l) 2 (by rw [List.length_append, HHD.out]; omega)
            rw [List.drop_left' HHD.out, ← HRR.out] at h9
            exact h9
          have hll : (r.length : Int) = (i : Int) + 2 := by rw [HRR.out, List.length_append, HHD.out, HLL.out]; push_cast; omega
          clear hb4 HH hmx HX3
          go_upto_region 21 with (fail)
          go_quiet (fail)
          go_wp2_with fail
          go_ret
          exact ⟨rfl, below_drewN HB4.out _⟩
end Go.Proofs.Yteggfobeaolafaa
