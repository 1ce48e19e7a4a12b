/-
  The reference's Step: the end of a container.
-/
import Derived.Test.YteggfobeaolafaaPkP
namespace Go.Proofs.Yteggfobeaolafaa
open Go.RowKit

/-- What the reference's test on a count tells. -/
theorem ref_ends (pr : Bool) (cn : Int) (ps : Nat) (h : ps ≤ 1000000) (he : (Cont.mk pr cn ps).full = true) :
    (pr = false ∧ 0 ≤ cn ∧ cn ≤ 1000000 ∧ (ps : Int) = cn) ∨ (pr = true ∧ ps % 2 = 0 ∧ 0 ≤ cn ∧ cn ≤ 1000000 ∧ (ps : Int) = 2 * cn) := by
  cases pr with
  | false =>
    left
    simp [Cont.full] at he
    refine ⟨rfl, ?_⟩
    omega
  | true =>
    right
    simp [Cont.between, Cont.full] at he
    refine ⟨rfl, ?_⟩
    omega
theorem ref_ends_not (pr : Bool) (cn : Int) (ps : Nat) (hn0 : 0 ≤ cn) (he : (Cont.mk pr cn ps).full = false) :
    (pr = false ∧ 0 ≤ cn ∧ (ps : Int) ≠ cn) ∨ (pr = true ∧ ps % 2 = 1) ∨ (pr = true ∧ ps % 2 = 0 ∧ 0 ≤ cn ∧ cn ≤ 2305843009213693952 ∧ (ps : Int) ≠ 2 * cn) ∨ (pr = true ∧ ps % 2 = 0 ∧ 2305843009213693952 < cn) := by
  cases pr with
  | false =>
    left
    simp [Cont.full] at he
    refine ⟨rfl, ?_⟩
    omega
  | true =>
    right
    simp [Cont.between, Cont.full] at he
    by_cases h1 : ps % 2 = 1
    · exact .inl ⟨rfl, h1⟩
    · right
      by_cases h2 : cn ≤ 2305843009213693952
      · left
        refine ⟨rfl, by omega, hn0, h2, ?_⟩
        omega
      · right
        exact ⟨rfl, by omega, by omega⟩

set_option maxRecDepth 100000 in
set_option maxHeartbeats 1000000 in
theorem refstep_close_no {w : World} {B p : Nat} {v : Value} {M : List Cont} {c : Cont} (h : RWr w B p v (M ++ [c]) false) (hp20 : c.parts ≤ 1000000) (hcn : 0 ≤ c.count ∧ c.count ≤ 9223372036854775807) (hML : M.length ≤ 1000000) (e : EvM) (hp : e.part = some .close) (he : c.full = false) :
    Calls Try.prog 13 #[.pointer (some ⟨p, 0, none⟩), .agg e.cells] w fun r w' => r = .returned (.tuple #[.string (S []), .int .i64 14]) ∧ Below w.heap.size w w' := by
  obtain ⟨pr, cn, ps⟩ := c
  have hcases := hide (ref_ends_not pr cn ps hcn.1 he)
  have hp21 : (ps : Int) ≤ 1000000 := by simp only at hp20; omega
  have hcn2 := Lib.hid hcn.2
  clear he hp20 hcn
  have hk := part_close hp
  obtain ⟨k, y, m, l, c5⟩ := e
  simp only at hk
  subst hk
  have hpt := hp
  clear hp
  simp only [EvM.cells, evV]
  obtain ⟨n, hn⟩ : ∃ n, n = M.length := ⟨_, rfl⟩
  obtain ⟨g, off, cap, hv, hgl, d0, d1, d2, _, _, hdrop⟩ := top_some h.2.2 n hn
  subst hv
  have c1 := h.2.1.cellv 1 _ rfl
  have hpl := h.2.1.lt
  have hn20 : (n : Int) ≤ 1000000 := by omega
  have HN := hide hn
  have HD := hide hdrop
  clear hn hML hdrop
  have HM0 := fun W => refmay_any ⟨7, y, m, l, c5⟩ W true (by rw [hpt]; rfl)
  simp only [EvM.cells, evV] at HM0
  have HM := fun W => hide (HM0 W)
  have hn1 : ((n : Int) + 1 == 0) = false := by simp; omega
  clear HM0 hpt
  go_enter Try.func13, Try.ntmps13
  go_wp2_with fail
  (with_reducible refine (unhide (HM _)).mono ?_)
  rintro e w1 ⟨rfl, hb1⟩
  have kw := (h.alloc (.cells #[.int .i64 7, .bool y, .int .u64 m, .string (S l), .int .i64 c5] 34)).below hb1
  have bx := (Blk.new w 34 #[.int .i64 7, .bool y, .int .u64 m, .string (S l), .int .i64 c5]).below hb1 (by simp)
  have HB1 : Hid (Below w.heap.size w w1) := hide (((Below.refl _ _).alloc (Nat.le_refl _) _).trans (hb1.mono (by simp)))
  have kc0 := kw.2.1.cellv 0 _ rfl
  have kc1 := kw.2.1.cellv 1 _ rfl
  have kc2 := kw.2.1.cellv 2 _ rfl
  have kf1 := kw.2.1.frozen 1
  have kf2 := kw.2.1.frozen 2
  have kpl := kw.2.1.lt
  have bc0 := bx.cellv 0 _ rfl
  have hg1 : g < w1.heap.size := Nat.lt_of_lt_of_le hgl HB1.out.size
  have e0 := (HB1.out.cell (p := ⟨g, off + n * 3, none⟩) hgl).trans d0
  have e1 := (HB1.out.cell (p := ⟨g, off + n * 3 + 1, none⟩) hgl).trans d1
  have e2 := (HB1.out.cell (p := ⟨g, off + n * 3 + 2, none⟩) hgl).trans d2
  have KW := hide kw
  clear HM hb1 d0 d1 d2 c1 bx kw h
  rcases hcases.out with ⟨rfl, h0, h1⟩ | ⟨rfl, h1⟩ | ⟨rfl, h1, h0, h2, h3⟩ | ⟨rfl, h1, h2⟩
  · have t1 : ((ps : Int) != cn) = true := by simpa using h1
    have t2 : decide (0 ≤ cn) = true := decide_eq_true h0
    clear h1
    go_wp2_with fail
    all_goals
      go_ret2
      exact ⟨rfl, Below.more HB1.out (Nat.le_refl _) _⟩
  · have t1 : ((ps : Int) % 2 != 0) = true := by simp; omega
    clear h1
    go_wp2_with fail
    all_goals
      go_ret2
      exact ⟨rfl, Below.more HB1.out (Nat.le_refl _) _⟩
  · have t1 : ((ps : Int) % 2 != 0) = false := by simp; omega
    have t2 : decide (0 ≤ cn) = true := decide_eq_true h0
    have t3 : IntKind.i64.wrap (2 * cn) = 2 * cn := by rw [IntKind.wrap_i64]; omega
    have t4 : ((ps : Int) != 2 * cn) = true := by simpa using h3
    clear h1 h3 h2
    go_wp2_with fail
    all_goals
      go_ret2
      exact ⟨rfl, Below.more HB1.out (Nat.le_refl _) _⟩
  · have t1 : ((ps : Int) % 2 != 0) = false := by simp; omega
    have t2 : decide (0 ≤ cn) = true := decide_eq_true (by omega)
    have t3 : decide (2305843009213693952 < cn) = true := decide_eq_true h2
    clear h1 h2
    go_wp2_with fail
    all_goals
      go_ret2
      exact ⟨rfl, Below.more HB1.out (Nat.le_refl _) _⟩

set_option maxRecDepth 100000 in
set_option maxHeartbeats 1000000 in
theorem refstep_close_yes {w : World} {B p : Nat} {v : Value} {M : List Cont} {c : Cont} (h : RWr w B p v (M ++ [c]) false) (hp20 : c.parts ≤ 1000000) (hcn : 0 ≤ c.count ∧ c.count ≤ 9223372036854775807) (hML : M.length ≤ 1000000) (e : EvM) (hp : e.part = some .close) (he : c.full = true) (d' : Bool) (hd' : d' = decide (M = [])) :
    Calls Try.prog 13 #[.pointer (some ⟨p, 0, none⟩), .agg e.cells] w fun x w' => x = .returned (.tuple #[.string (S []), .int .i64 0]) ∧ ∃ v', RWr w' B p v' M d' ∧ Only [p] w w' ∧ ∀ k ∈ slB v', k ∈ slB v ∨ w.heap.size ≤ k := by
  obtain ⟨pr, cn, ps⟩ := c
  have hcases := hide (ref_ends pr cn ps hp20 he)
  have hp21 : (ps : Int) ≤ 1000000 := by simp only at hp20; omega
  have hcn2 := Lib.hid hcn.2
  have HD9 := hide hd'
  have HMN : Hid (d' = decide (M.length = 0)) := hide (by rw [hd', decide_eq_decide]; exact List.length_eq_zero_iff.symm)
  have hcap := h.2.2
  clear he hp20 hcn hd'
  have hk := part_close hp
  obtain ⟨k, y, m, l, c5⟩ := e
  simp only at hk
  subst hk
  have hpt := hp
  clear hp
  simp only [EvM.cells, evV]
  obtain ⟨n, hn⟩ : ∃ n, n = M.length := ⟨_, rfl⟩
  obtain ⟨g, off, cap, hv, hgl, d0, d1, d2, _, _, hdrop⟩ := top_some h.2.2 n hn
  subst hv
  have c1 := h.2.1.cellv 1 _ rfl
  have hpl := h.2.1.lt
  have hn20 : (n : Int) ≤ 1000000 := by omega
  have HN := hide hn
  have HD := hide hdrop
  clear hn hML hdrop
  have HM0 := fun W => refmay_any ⟨7, y, m, l, c5⟩ W true (by rw [hpt]; rfl)
  simp only [EvM.cells, evV] at HM0
  have HM := fun W => hide (HM0 W)
  have hn1 : ((n : Int) + 1 == 0) = false := by simp; omega
  clear HM0 hpt
  go_enter Try.func13, Try.ntmps13
  go_wp2_with fail
  (with_reducible refine (unhide (HM _)).mono ?_)
  rintro e w1 ⟨rfl, hb1⟩
  have kw := (h.alloc (.cells #[.int .i64 7, .bool y, .int .u64 m, .string (S l), .int .i64 c5] 34)).below hb1
  have bx := (Blk.new w 34 #[.int .i64 7, .bool y, .int .u64 m, .string (S l), .int .i64 c5]).below hb1 (by simp)
  have HB1 : Hid (Below w.heap.size w w1) := hide (((Below.refl _ _).alloc (Nat.le_refl _) _).trans (hb1.mono (by simp)))
  have kc0 := kw.2.1.cellv 0 _ rfl
  have kc1 := kw.2.1.cellv 1 _ rfl
  have kc2 := kw.2.1.cellv 2 _ rfl
  have kf1 := kw.2.1.frozen 1
  have kf2 := kw.2.1.frozen 2
  have kpl := kw.2.1.lt
  have bc0 := bx.cellv 0 _ rfl
  have hg1 : g < w1.heap.size := Nat.lt_of_lt_of_le hgl HB1.out.size
  have e0 := (HB1.out.cell (p := ⟨g, off + n * 3, none⟩) hgl).trans d0
  have e1 := (HB1.out.cell (p := ⟨g, off + n * 3 + 1, none⟩) hgl).trans d1
  have e2 := (HB1.out.cell (p := ⟨g, off + n * 3 + 2, none⟩) hgl).trans d2
  have KW := hide kw
  clear HM hb1 d0 d1 d2 c1 bx kw h
  have hnd : ((n : Int) + 1 == 1) = d' := by rw [HMN.out, ← HN.out, Bool.eq_iff_iff]; simp; omega
  have hnd2 : ((n : Int) == 0) = d' := by rw [HMN.out, ← HN.out, Bool.eq_iff_iff]; simp
  have hcap2 := hcap.cap_le
  have hsl := slice_top (P := Try.prog) (t := 29) (z := 3) Try.underlying29 (by intro w; kernel_rfl) g off (n + 1) n cap (by omega) n rfl
  clear hcap hcap2
  rcases hcases.out with ⟨rfl, h0, h2, h3⟩ | ⟨rfl, h1, h0, h2, h3⟩
  · have t1 : decide (0 ≤ cn) = true := decide_eq_true h0
    have t3 : ((ps : Int) != cn) = false := by simpa using h3
    clear h3
    have hW1 := KW.out.alloc (.cells #[.bool false, .int .i64 cn, .int .i64 ps] 77)
    have bb := Blk.new w1 77 #[.bool false, .int .i64 cn, .int .i64 ps]
    have hsrc := (HD.out _ hW1.2.2).src
    have HSRC := hide hsrc
    have HW1 := hide hW1
    have HBB := hide bb
    clear hsrc hW1 bb
    go_wp2_with (at_builtin; refine wpList_append_slN rfl (.const (.slice none 0 0)) (.tmp 92) 29 rfl _ 24 Try.underlying29 info_box rfl (by decide) (SlN.nil _ (w1.heap.size + 1) 77 3) HSRC.out rfl rfl (by rw [contV_length, HN.out]) (contV_one M) (by unfold maxLen; omega) (by omega) (by simp) ?_; intro v' w2 hs ho hf; rw [Nat.zero_add, List.nil_append] at hs; obtain ⟨a', c', rfl⟩ := hs.form; have pb := ho.blk HW1.out.2.1 (by simp [slB]); have d0 := pb.cellv 0 _ rfl; have d1 := pb.cellv 1 _ rfl; have d2 := pb.cellv 2 _ rfl; have g1 := pb.frozen 1; have g2 := pb.frozen 2; have bb2 := ho.blk HBB.out (by simp [slB]); have x0 := bb2.cellv 0 _ rfl; have x1 := bb2.cellv 1 _ rfl)
    have hB : B ≤ w1.heap.size + 1 := by have := HW1.out.1; omega
    have hfp : p ∉ slB (.slice a' n c') := fun hk => by
      rcases hf p hk with h9 | h9
      · simp [slB] at h9
      · simp at h9; omega
    have hput := HW1.out.put ho (by simp [slB]) (by rw [← HN.out]; exact hs.mono hB) hfp
    go_ret2
    refine ⟨rfl, .slice a' n c', hput.1.done d', ?_, fun k hk => ?_⟩
    · exact ((Only.ofBelow (Below.more HB1.out (Nat.le_refl _) _)).trans hput.2).setCell (by simp) _
    · rcases hf k hk with h9 | h9
      · simp [slB] at h9
      · right
        have := HB1.out.size
        simp at h9
        omega
  · have t0 : ((ps : Int) % 2 != 0) = false := by simp; omega
    have t1 : decide (0 ≤ cn) = true := decide_eq_true h0
    have t3 : ((ps : Int) != 2 * cn) = false := by simpa using h3
    have t4 : decide (2305843009213693952 < cn) = false := decide_eq_false (by omega)
    clear h3 h1
    have hW1 := KW.out.alloc (.cells #[.bool true, .int .i64 cn, .int .i64 ps] 77)
    have bb := Blk.new w1 77 #[.bool true, .int .i64 cn, .int .i64 ps]
    have hsrc := (HD.out _ hW1.2.2).src
    have HSRC := hide hsrc
    have HW1 := hide hW1
    have HBB := hide bb
    clear hsrc hW1 bb
    go_wp2_with (at_builtin; refine wpList_append_slN rfl (.const (.slice none 0 0)) (.tmp 92) 29 rfl _ 24 Try.underlying29 info_box rfl (by decide) (SlN.nil _ (w1.heap.size + 1) 77 3) HSRC.out rfl rfl (by rw [contV_length, HN.out]) (contV_one M) (by unfold maxLen; omega) (by omega) (by simp) ?_; intro v' w2 hs ho hf; rw [Nat.zero_add, List.nil_append] at hs; obtain ⟨a', c', rfl⟩ := hs.form; have pb := ho.blk HW1.out.2.1 (by simp [slB]); have d0 := pb.cellv 0 _ rfl; have d1 := pb.cellv 1 _ rfl; have d2 := pb.cellv 2 _ rfl; have g1 := pb.frozen 1; have g2 := pb.frozen 2; have bb2 := ho.blk HBB.out (by simp [slB]); have x0 := bb2.cellv 0 _ rfl; have x1 := bb2.cellv 1 _ rfl)
    have hB : B ≤ w1.heap.size + 1 := by have := HW1.out.1; omega
    have hfp : p ∉ slB (.slice a' n c') := fun hk => by
      rcases hf p hk with h9 | h9
      · simp [slB] at h9
      · simp at h9; omega
    have hput := HW1.out.put ho (by simp [slB]) (by rw [← HN.out]; exact hs.mono hB) hfp
    go_ret2
    refine ⟨rfl, .slice a' n c', hput.1.done d', ?_, fun k hk => ?_⟩
    · exact ((Only.ofBelow (Below.more HB1.out (Nat.le_refl _) _)).trans hput.2).setCell (by simp) _
    · rcases hf k hk with h9 | h9
      · simp [slB] at h9
      · right
        have := HB1.out.size
        simp at h9
        omega
end Go.Proofs.Yteggfobeaolafaa
