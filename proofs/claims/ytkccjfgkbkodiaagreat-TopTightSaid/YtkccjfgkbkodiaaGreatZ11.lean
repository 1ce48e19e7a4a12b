/-
  PkFe · PkG · PkGe: parts of the walk of TopTight, under no condition.
-/
import Derived.Test.YtkccjfgkbkodiaaGreatZ10
namespace Go.Proofs.YtkccjfgkbkodiaaGreat
open Go.RowKit
set_option maxRecDepth 100000 in
set_option maxHeartbeats 2000000 in
theorem step_perr_top {w : World} {B p : Nat} {v : Value} {M : List Cont} {c : Cont} (h : Wr w B p v (M ++ [c]) false) (hp : c.parts ≤ 1000000) (hML : M.length ≤ 1000000) (pt : Part) (hmay : pt.may = true) (hcl : pt.isClose = false) (hbg : pt.isBegin = false) (hf : c.full = false) (ht : c.takes pt = true)
    (hplain : ∀ W, Calls Tryz.prog 286 #[pt.val] W fun e w' => e = .returned (.tuple #[.string (S []), .int .i64 7]) ∧ Below W.heap.size W w') :
    Calls Tryz.prog 283 #[.pointer (some ⟨p, 0, none⟩), pt.val] w fun e w' => e = .returned (.tuple #[.string (S []), .int .i64 7]) ∧ Below w.heap.size w w' := by
  have t5 := fun W => ta_close pt W
  rw [hcl] at t5
  have t3 := fun W => ta_word pt W
  obtain ⟨lw, hlw⟩ := asWord_form pt
  rw [hlw] at t3
  obtain ⟨isw, hisw⟩ : ∃ isw, isw = pt.isWord := ⟨_, rfl⟩
  rw [← hisw] at t3
  have t6 := fun W => ta_begin pt W
  rw [hbg, asBegin_no hbg] at t6
  have HCP := fun W => hide (hplain W)
  unfold Cont.takes at ht
  rw [← hisw] at ht
  clear hplain hcl hbg hisw hlw
  cases hpr : c.pairs with
  | false =>
    have HPR := hide hpr
    clear hpr ht
    have hp20 : (c.parts : Int) ≤ 1000000 := by omega
    obtain ⟨n, hn⟩ : ∃ n, n = M.length := ⟨_, rfl⟩
    obtain ⟨g, off, cap, hv, hgl, d0, d1, d2, _, htop, hdrop⟩ := top_some h.2.2 n hn
    have hcap0 := h.2.2
    subst hv
    have hcap := hcap0.cap_le
    rw [List.length_append, List.length_singleton, ← hn] at hcap
    have hn20 : (n : Int) ≤ 1000000 := by omega
    have hn0 : decide ((n : Int) < 0) = false := by simp
    have HB := fun W r hr => hide (between_any c hp W r hr)
    have HF := fun W r hr => hide (full_any c hp W r hr)
    have HN := hide hn
    have HTOP := hide htop
    have HDROP := hide hdrop
    clear hn hML htop hdrop hcap0
    obtain ⟨k5, y5, m5, l5, c5, hev⟩ := ev_form pt
    have HPL := hide (plain_any pt w)
    rw [hev, hmay] at HPL
    unfold evV at HPL
    clear hev hmay
    go_enter Tryz.func283, Tryz.ntmps283
    go_wp2_with fail
    refine (unhide HPL).mono ?_
    rintro e w1 ⟨rfl, hb1⟩
    have kw := h.below hb1
    have kc0 := kw.2.1.cellv 0 _ rfl
    have kc1 := kw.2.1.cellv 1 _ rfl
    have kpl := kw.2.1.lt
    clear HPL
    have g0 := (hb1.cell (p := ⟨g, off + n * 3, none⟩) hgl).trans d0
    have g1 := (hb1.cell (p := ⟨g, off + n * 3 + 1, none⟩) hgl).trans d1
    have g2 := (hb1.cell (p := ⟨g, off + n * 3 + 2, none⟩) hgl).trans d2
    have hg1 : g < w1.heap.size := Nat.lt_of_lt_of_le hgl hb1.size
    clear d0 d1 d2
    have KW := hide kw
    clear kw
    have H := fun W => HF W false hf.symm
    have x0 := (Blk.new ((w1.alloc (.cells #[.int .i64 k5, .bool y5, .int .u64 m5, .string (S l5), .int .i64 c5] 139)).alloc (.cells #[] 246)) 351 #[.bool c.pairs, .int .i64 c.count, .int .i64 c.parts]).cellv 0 _ rfl
    have x1 := (Blk.new ((w1.alloc (.cells #[.int .i64 k5, .bool y5, .int .u64 m5, .string (S l5), .int .i64 c5] 139)).alloc (.cells #[] 246)) 351 #[.bool c.pairs, .int .i64 c.count, .int .i64 c.parts]).cellv 1 _ rfl
    have x2 := (Blk.new ((w1.alloc (.cells #[.int .i64 k5, .bool y5, .int .u64 m5, .string (S l5), .int .i64 c5] 139)).alloc (.cells #[] 246)) 351 #[.bool c.pairs, .int .i64 c.count, .int .i64 c.parts]).cellv 2 _ rfl
    have X := hide (And.intro x0 (And.intro x1 x2))
    clear HF hf x0 x1 x2
    go_wp2_with fail
    (with_reducible refine (unhide (H _)).mono ?_)
    rintro e w3 ⟨rfl, hb3⟩
    clear H
    have hb13 : Below w1.heap.size w1 w3 := (Below.more (Below.more (Below.more (Below.refl _ _) (Nat.le_refl _) _) (Nat.le_refl _) _) (Nat.le_refl _) _).trans (hb3.mono (by simp; omega))
    have x0 : w3.cell? ⟨w1.heap.size + 1 + 1, 0, none⟩ = some (.bool c.pairs) := (hb3.cell (p := ⟨w1.heap.size + 1 + 1, 0, none⟩) (by simp)).trans (by simpa using X.out.1)
    have x1 : w3.cell? ⟨w1.heap.size + 1 + 1, 1, none⟩ = some (.int .i64 c.count) := (hb3.cell (p := ⟨w1.heap.size + 1 + 1, 1, none⟩) (by simp)).trans (by simpa using X.out.2.1)
    have x2 : w3.cell? ⟨w1.heap.size + 1 + 1, 2, none⟩ = some (.int .i64 c.parts) := (hb3.cell (p := ⟨w1.heap.size + 1 + 1, 2, none⟩) (by simp)).trans (by simpa using X.out.2.2)
    clear X hb3
    rw [HPR.out] at x0
    have hbW := hb13
    go_wp2_with fail
    (with_reducible refine (unhide (HCP _)).mono ?_)
    rintro e w9 ⟨rfl, hb9⟩
    have hbX := hbW.trans (hb9.mono hbW.size)
    have HBW := hide (hb1.trans (hbX.mono hb1.size))
    clear hbX hb9 hbW hb13 HB g0 g1 g2 kc0 kc1
    go_wp2_with fail
    go_ret2
    exact ⟨rfl, Below.more HBW.out (Nat.le_refl _) _⟩
  | true =>
    rw [hpr] at ht
    have HPR := hide hpr
    have HT := hide ht
    clear hpr ht
    have hp20 : (c.parts : Int) ≤ 1000000 := by omega
    obtain ⟨n, hn⟩ : ∃ n, n = M.length := ⟨_, rfl⟩
    obtain ⟨g, off, cap, hv, hgl, d0, d1, d2, _, htop, hdrop⟩ := top_some h.2.2 n hn
    have hcap0 := h.2.2
    subst hv
    have hcap := hcap0.cap_le
    rw [List.length_append, List.length_singleton, ← hn] at hcap
    have hn20 : (n : Int) ≤ 1000000 := by omega
    have hn0 : decide ((n : Int) < 0) = false := by simp
    have HB := fun W r hr => hide (between_any c hp W r hr)
    have HF := fun W r hr => hide (full_any c hp W r hr)
    have HN := hide hn
    have HTOP := hide htop
    have HDROP := hide hdrop
    clear hn hML htop hdrop hcap0
    obtain ⟨k5, y5, m5, l5, c5, hev⟩ := ev_form pt
    have HPL := hide (plain_any pt w)
    rw [hev, hmay] at HPL
    unfold evV at HPL
    clear hev hmay
    go_enter Tryz.func283, Tryz.ntmps283
    go_wp2_with fail
    refine (unhide HPL).mono ?_
    rintro e w1 ⟨rfl, hb1⟩
    have kw := h.below hb1
    have kc0 := kw.2.1.cellv 0 _ rfl
    have kc1 := kw.2.1.cellv 1 _ rfl
    have kpl := kw.2.1.lt
    clear HPL
    have g0 := (hb1.cell (p := ⟨g, off + n * 3, none⟩) hgl).trans d0
    have g1 := (hb1.cell (p := ⟨g, off + n * 3 + 1, none⟩) hgl).trans d1
    have g2 := (hb1.cell (p := ⟨g, off + n * 3 + 2, none⟩) hgl).trans d2
    have hg1 : g < w1.heap.size := Nat.lt_of_lt_of_le hgl hb1.size
    clear d0 d1 d2
    have KW := hide kw
    clear kw
    have H := fun W => HF W false hf.symm
    have x0 := (Blk.new ((w1.alloc (.cells #[.int .i64 k5, .bool y5, .int .u64 m5, .string (S l5), .int .i64 c5] 139)).alloc (.cells #[] 246)) 351 #[.bool c.pairs, .int .i64 c.count, .int .i64 c.parts]).cellv 0 _ rfl
    have x1 := (Blk.new ((w1.alloc (.cells #[.int .i64 k5, .bool y5, .int .u64 m5, .string (S l5), .int .i64 c5] 139)).alloc (.cells #[] 246)) 351 #[.bool c.pairs, .int .i64 c.count, .int .i64 c.parts]).cellv 1 _ rfl
    have x2 := (Blk.new ((w1.alloc (.cells #[.int .i64 k5, .bool y5, .int .u64 m5, .string (S l5), .int .i64 c5] 139)).alloc (.cells #[] 246)) 351 #[.bool c.pairs, .int .i64 c.count, .int .i64 c.parts]).cellv 2 _ rfl
    have X := hide (And.intro x0 (And.intro x1 x2))
    clear HF hf x0 x1 x2
    go_wp2_with fail
    (with_reducible refine (unhide (H _)).mono ?_)
    rintro e w3 ⟨rfl, hb3⟩
    clear H
    have hb13 : Below w1.heap.size w1 w3 := (Below.more (Below.more (Below.more (Below.refl _ _) (Nat.le_refl _) _) (Nat.le_refl _) _) (Nat.le_refl _) _).trans (hb3.mono (by simp; omega))
    have x0 : w3.cell? ⟨w1.heap.size + 1 + 1, 0, none⟩ = some (.bool c.pairs) := (hb3.cell (p := ⟨w1.heap.size + 1 + 1, 0, none⟩) (by simp)).trans (by simpa using X.out.1)
    have x1 : w3.cell? ⟨w1.heap.size + 1 + 1, 1, none⟩ = some (.int .i64 c.count) := (hb3.cell (p := ⟨w1.heap.size + 1 + 1, 1, none⟩) (by simp)).trans (by simpa using X.out.2.1)
    have x2 : w3.cell? ⟨w1.heap.size + 1 + 1, 2, none⟩ = some (.int .i64 c.parts) := (hb3.cell (p := ⟨w1.heap.size + 1 + 1, 2, none⟩) (by simp)).trans (by simpa using X.out.2.2)
    clear X hb3
    rw [HPR.out] at x0
    cases hbt : c.between with
    | true =>
      have H2 := HB w3 true hbt.symm
      rw [HPR.out] at H2
      clear hbt
      go_wp2_with fail
      (with_reducible refine (unhide H2).mono ?_)
      rintro e w4 ⟨rfl, hb4⟩
      have hbW := hb13.trans (hb4.mono hb13.size)
      go_wp2_with fail
      (with_reducible refine (unhide (HCP _)).mono ?_)
      rintro e w9 ⟨rfl, hb9⟩
      have hbX := hbW.trans (hb9.mono hbW.size)
      have HBW := hide (hb1.trans (hbX.mono hb1.size))
      clear hbX hb9 hbW hb13 HB g0 g1 g2 kc0 kc1
      go_wp2_with fail
      go_ret2
      exact ⟨rfl, Below.more HBW.out (Nat.le_refl _) _⟩
    | false =>
      have H2 := HB w3 false hbt.symm
      rw [HPR.out] at H2
      have hwd : isw = true := by have := HT.out; rw [hbt] at this; simpa using this
      subst hwd
      clear hbt
      go_wp2_with fail
      (with_reducible refine (unhide H2).mono ?_)
      rintro e w4 ⟨rfl, hb4⟩
      have hbW := hb13.trans (hb4.mono hb13.size)
      go_wp2_with fail
      (with_reducible refine (unhide (HCP _)).mono ?_)
      rintro e w9 ⟨rfl, hb9⟩
      have hbX := hbW.trans (hb9.mono hbW.size)
      have HBW := hide (hb1.trans (hbX.mono hb1.size))
      clear hbX hb9 hbW hb13 HB g0 g1 g2 kc0 kc1
      go_wp2_with fail
      go_ret2
      exact ⟨rfl, Below.more HBW.out (Nat.le_refl _) _⟩
end Go.Proofs.YtkccjfgkbkodiaaGreat
namespace Go.Proofs.YtkccjfgkbkodiaaGreat
open Go.RowKit
theorem info_cont : (Tryz.prog.info? 351).map (fun i => (i.zero, i.size, i.bytes)) = some (some (.agg #[.bool false, .int .i64 0, .int .i64 0]), 3, 24) := by kernel_rfl
section
variable {w : World} {B p : Nat} {v : Value} {L : List Cont} {d : Bool}
theorem Wr.put {W : World} {v' : Value} {L' : List Cont} (h : Wr w B p v L d) (ho : Only (slB v) w W) (hs : SlN W B 351 3 v' L'.length (contV L')) (hf : ∀ k ∈ slB v', k ∈ slB v ∨ w.heap.size ≤ k) :
    Wr (W.setCell ⟨p, 0, none⟩ v') B p v' L' d ∧ Only (p :: slB v) w (W.setCell ⟨p, 0, none⟩ v') := by
  have hp := ho.blk h.2.1 h.out
  have hpv : p ∉ slB v' := fun hk => by
    rcases hf p hk with h1 | h1
    · exact h.out h1
    · have := h.2.1.lt; omega
  exact ⟨⟨h.1, hp.set_ 0 v', hs.far (p := ⟨p, 0, none⟩) hpv v'⟩, (ho.mono (fun k hk => List.mem_cons_of_mem _ hk)).setCell (by simp) v'⟩
end
set_option maxRecDepth 100000 in
set_option maxHeartbeats 2000000 in
theorem step_begin_nil {w : World} {B p : Nat} {v : Value} (h : Wr w B p v [] false) (m : Bool) (n' : Int) (hn1 : -1 ≤ n') (r : List UInt8)
    (hplain : ∀ W, Calls Tryz.prog 286 #[(Part.begin_ m n').val] W fun e w' => e = .returned (.tuple #[.string (S [0xc0]), .int .i64 0]) ∧ Below W.heap.size W w')
    (hbegin : ∀ W, Calls Tryz.prog 287 #[.agg #[.bool m, .int .i64 n']] W fun e w' => e = .returned (.tuple #[.string (S r), .int .i64 0]) ∧ Below W.heap.size W w') :
    Calls Tryz.prog 283 #[.pointer (some ⟨p, 0, none⟩), (Part.begin_ m n').val] w fun e w' => e = .returned (.tuple #[.string (S r), .int .i64 0]) ∧ ∃ v', Wr w' B p v' ([] ++ [⟨m, n', 0⟩]) false ∧ Only (p :: slB v) w w' ∧ ∀ k ∈ slB v', k ∈ slB v ∨ w.heap.size ≤ k := by
  have t5 := fun W => ta_close (Part.begin_ m n') W
  have t3 := fun W => ta_word (Part.begin_ m n') W
  have t6 := fun W => ta_begin (Part.begin_ m n') W
  simp only [Part.isClose, Part.asWord, Part.isWord, Part.asBegin, Part.isBegin] at t5 t3 t6
  have hmay : (Part.begin_ m n').may = true := by simp only [Part.may]; exact decide_eq_true hn1
  have HCP := fun W => hide (hplain W)
  have HBG := fun W => hide (hbegin W)
  clear hplain hbegin
  obtain ⟨pt, hpt⟩ : ∃ pt, pt = Part.begin_ m n' := ⟨_, rfl⟩
  rw [← hpt] at hmay t5 t3 t6 HCP ⊢
  clear hpt
  obtain ⟨a9, c9, rfl⟩ := h.2.2.form
  obtain ⟨k5, y5, m5, l5, c5, hev⟩ := ev_form pt
  have HPL := hide (plain_any pt w)
  rw [hev, hmay] at HPL
  unfold evV at HPL
  clear hev hmay
  go_enter Tryz.func283, Tryz.ntmps283
  go_wp2_with fail
  refine (unhide HPL).mono ?_
  rintro e w1 ⟨rfl, hb1⟩
  have kw := h.below hb1
  have kc0 := kw.2.1.cellv 0 _ rfl
  have kc1 := kw.2.1.cellv 1 _ rfl
  have kpl := kw.2.1.lt
  clear HPL
  have KW := hide kw
  clear kw
  go_wp2_with fail
  (with_reducible refine (unhide (HCP _)).mono ?_)
  rintro e w3 ⟨rfl, hb3⟩
  have hbx : Below w1.heap.size w1 w3 := (Below.more (Below.more (Below.refl _ _) (Nat.le_refl _) _) (Nat.le_refl _) _).trans (hb3.mono (by simp; omega))
  go_wp2_with fail
  (with_reducible refine (unhide (HBG _)).mono ?_)
  rintro e w4 ⟨rfl, hb4⟩
  have hby : Below w1.heap.size w1 w4 := (Below.more hbx (Nat.le_refl _) _).trans (hb4.mono (by have := hbx.size; simp; omega))
  have kw4 := KW.out.below hby
  have hc0 := kw4.2.1.cellv 0 _ rfl
  have bgX := (Blk.new w3 243 #[.bool m, .int .i64 n']).below hb4 (by simp)
  have hln : ([] : List Cont).length + 1 ≤ 1000002 := by simp
  go_upto_region 28 with (fail)
  obtain ⟨vv, hvv⟩ : ∃ vv, vv = Value.slice a9 ([] : List Cont).length c9 := ⟨_, rfl⟩
  have hgv : w3.heap.size ∉ slB vv := fun hk => by
    rw [hvv] at hk
    have := (KW.out.2.2.lt _ hk).2
    have := hbx.size
    omega
  have hon : Only (p :: slB (Value.slice a9 ([] : List Cont).length c9)) w w4 := Only.ofBelow (hb1.trans (hby.mono hb1.size))
  rw [← hvv] at kw4 hon
  have hvv0 : vv = Value.slice a9 0 c9 := hvv
  rw [← hvv0]
  clear hvv0
  have HON := hide hon
  have KWZ := hide kw4
  have HVV := hide hvv
  clear hvv kw4 hon hc0 KW hb1 hbx hby hb3 hb4 h
  have kwX := KWZ.out
  refine wp_region_tree (fun W => W.cell? ⟨p, 0, none⟩ = some vv ∧ W.cell? ⟨w3.heap.size, 0, none⟩ = some (.bool m) ∧ W.cell? ⟨w3.heap.size, 1, none⟩ = some (.int .i64 n')) 14 (.take [0, 1, 2, 3, 4, 5, 6, 7, 8, 9] (.step 10 (.step 11 (.step 12 (.step 13 (.step 14 (.fin))))))) (by kernel_rfl) (by kernel_rfl) (by intro _ _ _ _ _ h; exact h) ?_
  refine wpTree_take (⟨kwX.2.1.cellv 0 _ rfl, bgX.cellv 0 _ rfl, bgX.cellv 1 _ rfl⟩) ?_
  simp only [opsAt, List.getElem?_cons_zero, List.getElem?_cons_succ]
  iterate 10 (first | (refine wpPureH_step (v := ?_) rfl (fun W hS => ?_) ?_; rotate_left; · (obtain ⟨s1, s2, s3⟩ := hS; (try simp only [Act.put, List.setIfInBounds_toArray, List.set_cons_zero, List.set_cons_succ]); go_simp; with_reducible rfl)) | (refine wpPureH_want (v := ?_) (by rfl) (fun W hS => ?_) ?_; rotate_left; · (obtain ⟨s1, s2, s3⟩ := hS; (try simp only [Act.put, List.setIfInBounds_toArray, List.set_cons_zero, List.set_cons_succ]); go_simp; with_reducible rfl)))
  refine wpPureH_nil ?_
  simp only [Act.put, List.setIfInBounds_toArray, List.set_cons_zero, List.set_cons_succ]
  have kw0 := (kwX.alloc (.cells #[.bool m, .int .i64 n', .int .i64 0] 351))
  have bg0 := (bgX.alloc (.cells #[.bool m, .int .i64 n', .int .i64 0] 351))
  have bb0 := Blk.new w4 351 #[.bool m, .int .i64 n', .int .i64 0]
  have hwz : B ≤ w4.heap.size + 1 := by have := kwX.1; have := kwX.2.1.lt; omega
  refine wpTree_step ?_
  simp only [opsAt, List.getElem?_cons_zero, List.getElem?_cons_succ]
  go_wp2_with fail
  refine ⟨.inr ⟨kw0.2.1.cellv 0 _ rfl, bg0.cellv 0 _ rfl, bg0.cellv 1 _ rfl⟩, ?_⟩
  refine wpTree_step ?_
  simp only [opsAt, List.getElem?_cons_zero, List.getElem?_cons_succ]
  refine wpList_append_slN rfl (.tmp 138) (.tmp 144) 174 rfl _ 24 Tryz.underlying174 info_cont rfl (by decide) kw0.2.2.drew (SlN.oneN (base := 0) (Nat.zero_le _) bb0.drew rfl).src rfl rfl rfl (by intro y hy; simp at hy; rcases hy with rfl | rfl | rfl <;> rfl) (by unfold maxLen; omega) (by omega) (by simp; omega) ?_
  intro v' w' hv' ho' hf'
  have hs1 : SlN w' B 351 3 v' (([] : List Cont) ++ [(⟨m, n', 0⟩ : Cont)]).length (contV (([] : List Cont) ++ [⟨m, n', 0⟩])) := by
    rw [contV_append, List.length_append]
    exact hv'
  have hlt1 : ∀ k ∈ slB vv, k < w4.heap.size := fun k hk => (kwX.2.2.lt k hk).2
  have ho1 : Only (slB vv) w4 w' := ((Only.refl _ w4).alloc _).drew.trans ho'
  have hf1 : ∀ k ∈ slB v', k ∈ slB vv ∨ w4.heap.size ≤ k := fun k hk => (hf' k hk).imp_right fun h => by simp at h; omega
  have bg1 := ho'.blk bg0.drew (fun hk => hgv hk)
  have pb1 := (ho'.blk kw0.2.1.drew kw0.out)
  obtain ⟨ln, hln2⟩ : ∃ ln, ln = (([] : List Cont) ++ [(⟨m, n', 0⟩ : Cont)]).length := ⟨_, rfl⟩
  obtain ⟨a', c', hvf⟩ := hs1.form
  rw [← hln2] at hvf
  clear hln2
  subst hvf
  have hput := kwX.put ho1 hs1 hf1
  have pf := pb1.frozen 0
  have HP := hide hput
  have HF := hide hf1
  clear hput hf1 hs1 hv' hf' ho' ho1 bb0 kw0 kwX bgX bg0 hln
  go_wp2_with fail
  refine ⟨.inr ⟨pb1.cellv 0 _ rfl, bg1.cellv 0 _ rfl, bg1.cellv 1 _ rfl⟩, ?_⟩
  refine wpTree_step ?_
  simp only [opsAt, List.getElem?_cons_zero, List.getElem?_cons_succ]
  go_wp2_with fail
  refine ⟨.inr (⟨pb1.cellv 0 _ rfl, bg1.cellv 0 _ rfl, bg1.cellv 1 _ rfl⟩), ?_⟩
  refine wpTree_step ?_
  simp only [opsAt, List.getElem?_cons_zero, List.getElem?_cons_succ]
  go_wp2_with fail
  refine ⟨.inr (⟨pb1.cellv 0 _ rfl, bg1.cellv 0 _ rfl, bg1.cellv 1 _ rfl⟩), ?_⟩
  have pc := pb1.cellv 0 _ rfl
  refine wpTree_step ?_
  simp only [opsAt, List.getElem?_cons_zero, List.getElem?_cons_succ]
  go_wp2_with fail
  refine ⟨.inl trivial, wpTree_fin ?_⟩
  clear pb1 bg1 pf pc hlt1
  go_wp2_with fail
  go_ret2
  have hvv9 := HVV.out
  subst hvv9
  exact ⟨rfl, _, HP.out.1, HON.out.trans HP.out.2, fun k hk => (HF.out k hk).imp_right (Nat.le_trans HON.out.size)⟩
end Go.Proofs.YtkccjfgkbkodiaaGreat
namespace Go.Proofs.YtkccjfgkbkodiaaGreat
open Go.RowKit
set_option maxRecDepth 100000 in
set_option maxHeartbeats 2000000 in
theorem step_berr_top {w : World} {B p : Nat} {v : Value} {M : List Cont} {c : Cont} (h : Wr w B p v (M ++ [c]) false) (hp : c.parts ≤ 1000000) (hML : M.length ≤ 1000000) (m : Bool) (n' : Int) (hn1 : -1 ≤ n') (hf : c.full = false) (ht : c.takes (Part.begin_ m n') = true)
    (hplain : ∀ W, Calls Tryz.prog 286 #[(Part.begin_ m n').val] W fun e w' => e = .returned (.tuple #[.string (S [0xc0]), .int .i64 0]) ∧ Below W.heap.size W w')
    (hbegin : ∀ W, Calls Tryz.prog 287 #[.agg #[.bool m, .int .i64 n']] W fun e w' => e = .returned (.tuple #[.string (S []), .int .i64 7]) ∧ Below W.heap.size W w') :
    Calls Tryz.prog 283 #[.pointer (some ⟨p, 0, none⟩), (Part.begin_ m n').val] w fun e w' => e = .returned (.tuple #[.string (S []), .int .i64 7]) ∧ Below w.heap.size w w' := by
  unfold Cont.takes at ht
  simp only [Part.isWord] at ht
  have t5 := fun W => ta_close (Part.begin_ m n') W
  have t3 := fun W => ta_word (Part.begin_ m n') W
  have t6 := fun W => ta_begin (Part.begin_ m n') W
  simp only [Part.isClose, Part.asWord, Part.isWord, Part.asBegin, Part.isBegin] at t5 t3 t6
  have hmay : (Part.begin_ m n').may = true := by simp only [Part.may]; exact decide_eq_true hn1
  have HCP := fun W => hide (hplain W)
  have HBG := fun W => hide (hbegin W)
  clear hplain hbegin
  obtain ⟨pt, hpt⟩ : ∃ pt, pt = Part.begin_ m n' := ⟨_, rfl⟩
  rw [← hpt] at hmay t5 t3 t6 HCP ⊢
  clear hpt
  cases hpr : c.pairs with
  | false =>
    have HPR := hide hpr
    clear hpr ht
    have hp20 : (c.parts : Int) ≤ 1000000 := by omega
    obtain ⟨n, hn⟩ : ∃ n, n = M.length := ⟨_, rfl⟩
    obtain ⟨g, off, cap, hv, hgl, d0, d1, d2, _, htop, hdrop⟩ := top_some h.2.2 n hn
    have hcap0 := h.2.2
    subst hv
    have hcap := hcap0.cap_le
    rw [List.length_append, List.length_singleton, ← hn] at hcap
    have hn20 : (n : Int) ≤ 1000000 := by omega
    have hn0 : decide ((n : Int) < 0) = false := by simp
    have HB := fun W r hr => hide (between_any c hp W r hr)
    have HF := fun W r hr => hide (full_any c hp W r hr)
    have HN := hide hn
    have HTOP := hide htop
    have HDROP := hide hdrop
    clear hn hML htop hdrop hcap0
    obtain ⟨k5, y5, m5, l5, c5, hev⟩ := ev_form pt
    have HPL := hide (plain_any pt w)
    rw [hev, hmay] at HPL
    unfold evV at HPL
    clear hev hmay
    go_enter Tryz.func283, Tryz.ntmps283
    go_wp2_with fail
    refine (unhide HPL).mono ?_
    rintro e w1 ⟨rfl, hb1⟩
    have kw := h.below hb1
    have kc0 := kw.2.1.cellv 0 _ rfl
    have kc1 := kw.2.1.cellv 1 _ rfl
    have kpl := kw.2.1.lt
    clear HPL
    have g0 := (hb1.cell (p := ⟨g, off + n * 3, none⟩) hgl).trans d0
    have g1 := (hb1.cell (p := ⟨g, off + n * 3 + 1, none⟩) hgl).trans d1
    have g2 := (hb1.cell (p := ⟨g, off + n * 3 + 2, none⟩) hgl).trans d2
    have hg1 : g < w1.heap.size := Nat.lt_of_lt_of_le hgl hb1.size
    clear d0 d1 d2
    have KW := hide kw
    clear kw
    have H := fun W => HF W false hf.symm
    have x0 := (Blk.new ((w1.alloc (.cells #[.int .i64 k5, .bool y5, .int .u64 m5, .string (S l5), .int .i64 c5] 139)).alloc (.cells #[] 246)) 351 #[.bool c.pairs, .int .i64 c.count, .int .i64 c.parts]).cellv 0 _ rfl
    have x1 := (Blk.new ((w1.alloc (.cells #[.int .i64 k5, .bool y5, .int .u64 m5, .string (S l5), .int .i64 c5] 139)).alloc (.cells #[] 246)) 351 #[.bool c.pairs, .int .i64 c.count, .int .i64 c.parts]).cellv 1 _ rfl
    have x2 := (Blk.new ((w1.alloc (.cells #[.int .i64 k5, .bool y5, .int .u64 m5, .string (S l5), .int .i64 c5] 139)).alloc (.cells #[] 246)) 351 #[.bool c.pairs, .int .i64 c.count, .int .i64 c.parts]).cellv 2 _ rfl
    have X := hide (And.intro x0 (And.intro x1 x2))
    clear HF hf x0 x1 x2
    go_wp2_with fail
    (with_reducible refine (unhide (H _)).mono ?_)
    rintro e w3 ⟨rfl, hb3⟩
    clear H
    have hb13 : Below w1.heap.size w1 w3 := (Below.more (Below.more (Below.more (Below.refl _ _) (Nat.le_refl _) _) (Nat.le_refl _) _) (Nat.le_refl _) _).trans (hb3.mono (by simp; omega))
    have x0 : w3.cell? ⟨w1.heap.size + 1 + 1, 0, none⟩ = some (.bool c.pairs) := (hb3.cell (p := ⟨w1.heap.size + 1 + 1, 0, none⟩) (by simp)).trans (by simpa using X.out.1)
    have x1 : w3.cell? ⟨w1.heap.size + 1 + 1, 1, none⟩ = some (.int .i64 c.count) := (hb3.cell (p := ⟨w1.heap.size + 1 + 1, 1, none⟩) (by simp)).trans (by simpa using X.out.2.1)
    have x2 : w3.cell? ⟨w1.heap.size + 1 + 1, 2, none⟩ = some (.int .i64 c.parts) := (hb3.cell (p := ⟨w1.heap.size + 1 + 1, 2, none⟩) (by simp)).trans (by simpa using X.out.2.2)
    clear X hb3
    rw [HPR.out] at x0
    have hbW := hb13
    go_wp2_with fail
    (with_reducible refine (unhide (HCP _)).mono ?_)
    rintro e w9 ⟨rfl, hb9⟩
    have hbX := hbW.trans (hb9.mono hbW.size)
    clear hb9 hbW hb13 HB g0 g1 g2 kc0 kc1
    go_wp2_with fail
    (with_reducible refine (unhide (HBG _)).mono ?_)
    rintro e w10 ⟨rfl, hb10⟩
    have hbY : Below w1.heap.size w1 w10 := (Below.more hbX (Nat.le_refl _) _).trans (hb10.mono (by have := hbX.size; simp; omega))
    have HBW := hide (hb1.trans (hbY.mono hb1.size))
    clear hbX hbY hb10
    go_wp2_with fail
    go_ret2
    exact ⟨rfl, HBW.out⟩
  | true =>
    rw [hpr] at ht
    have HPR := hide hpr
    have HT := hide ht
    clear hpr ht
    have hbt : c.between = true := by have := HT.out; simpa using this
    have hp20 : (c.parts : Int) ≤ 1000000 := by omega
    obtain ⟨n, hn⟩ : ∃ n, n = M.length := ⟨_, rfl⟩
    obtain ⟨g, off, cap, hv, hgl, d0, d1, d2, _, htop, hdrop⟩ := top_some h.2.2 n hn
    have hcap0 := h.2.2
    subst hv
    have hcap := hcap0.cap_le
    rw [List.length_append, List.length_singleton, ← hn] at hcap
    have hn20 : (n : Int) ≤ 1000000 := by omega
    have hn0 : decide ((n : Int) < 0) = false := by simp
    have HB := fun W r hr => hide (between_any c hp W r hr)
    have HF := fun W r hr => hide (full_any c hp W r hr)
    have HN := hide hn
    have HTOP := hide htop
    have HDROP := hide hdrop
    clear hn hML htop hdrop hcap0
    obtain ⟨k5, y5, m5, l5, c5, hev⟩ := ev_form pt
    have HPL := hide (plain_any pt w)
    rw [hev, hmay] at HPL
    unfold evV at HPL
    clear hev hmay
    go_enter Tryz.func283, Tryz.ntmps283
    go_wp2_with fail
    refine (unhide HPL).mono ?_
    rintro e w1 ⟨rfl, hb1⟩
    have kw := h.below hb1
    have kc0 := kw.2.1.cellv 0 _ rfl
    have kc1 := kw.2.1.cellv 1 _ rfl
    have kpl := kw.2.1.lt
    clear HPL
    have g0 := (hb1.cell (p := ⟨g, off + n * 3, none⟩) hgl).trans d0
    have g1 := (hb1.cell (p := ⟨g, off + n * 3 + 1, none⟩) hgl).trans d1
    have g2 := (hb1.cell (p := ⟨g, off + n * 3 + 2, none⟩) hgl).trans d2
    have hg1 : g < w1.heap.size := Nat.lt_of_lt_of_le hgl hb1.size
    clear d0 d1 d2
    have KW := hide kw
    clear kw
    have H := fun W => HF W false hf.symm
    have x0 := (Blk.new ((w1.alloc (.cells #[.int .i64 k5, .bool y5, .int .u64 m5, .string (S l5), .int .i64 c5] 139)).alloc (.cells #[] 246)) 351 #[.bool c.pairs, .int .i64 c.count, .int .i64 c.parts]).cellv 0 _ rfl
    have x1 := (Blk.new ((w1.alloc (.cells #[.int .i64 k5, .bool y5, .int .u64 m5, .string (S l5), .int .i64 c5] 139)).alloc (.cells #[] 246)) 351 #[.bool c.pairs, .int .i64 c.count, .int .i64 c.parts]).cellv 1 _ rfl
    have x2 := (Blk.new ((w1.alloc (.cells #[.int .i64 k5, .bool y5, .int .u64 m5, .string (S l5), .int .i64 c5] 139)).alloc (.cells #[] 246)) 351 #[.bool c.pairs, .int .i64 c.count, .int .i64 c.parts]).cellv 2 _ rfl
    have X := hide (And.intro x0 (And.intro x1 x2))
    clear HF hf x0 x1 x2
    go_wp2_with fail
    (with_reducible refine (unhide (H _)).mono ?_)
    rintro e w3 ⟨rfl, hb3⟩
    clear H
    have hb13 : Below w1.heap.size w1 w3 := (Below.more (Below.more (Below.more (Below.refl _ _) (Nat.le_refl _) _) (Nat.le_refl _) _) (Nat.le_refl _) _).trans (hb3.mono (by simp; omega))
    have x0 : w3.cell? ⟨w1.heap.size + 1 + 1, 0, none⟩ = some (.bool c.pairs) := (hb3.cell (p := ⟨w1.heap.size + 1 + 1, 0, none⟩) (by simp)).trans (by simpa using X.out.1)
    have x1 : w3.cell? ⟨w1.heap.size + 1 + 1, 1, none⟩ = some (.int .i64 c.count) := (hb3.cell (p := ⟨w1.heap.size + 1 + 1, 1, none⟩) (by simp)).trans (by simpa using X.out.2.1)
    have x2 : w3.cell? ⟨w1.heap.size + 1 + 1, 2, none⟩ = some (.int .i64 c.parts) := (hb3.cell (p := ⟨w1.heap.size + 1 + 1, 2, none⟩) (by simp)).trans (by simpa using X.out.2.2)
    clear X hb3
    rw [HPR.out] at x0
    have H2 := HB w3 true hbt.symm
    rw [HPR.out] at H2
    clear hbt
    go_wp2_with fail
    (with_reducible refine (unhide H2).mono ?_)
    rintro e w4 ⟨rfl, hb4⟩
    have hbW := hb13.trans (hb4.mono hb13.size)
    go_wp2_with fail
    (with_reducible refine (unhide (HCP _)).mono ?_)
    rintro e w9 ⟨rfl, hb9⟩
    have hbX := hbW.trans (hb9.mono hbW.size)
    clear hb9 hbW hb13 HB g0 g1 g2 kc0 kc1
    go_wp2_with fail
    (with_reducible refine (unhide (HBG _)).mono ?_)
    rintro e w10 ⟨rfl, hb10⟩
    have hbY : Below w1.heap.size w1 w10 := (Below.more hbX (Nat.le_refl _) _).trans (hb10.mono (by have := hbX.size; simp; omega))
    have HBW := hide (hb1.trans (hbY.mono hb1.size))
    clear hbX hbY hb10
    go_wp2_with fail
    go_ret2
    exact ⟨rfl, HBW.out⟩
end Go.Proofs.YtkccjfgkbkodiaaGreat
