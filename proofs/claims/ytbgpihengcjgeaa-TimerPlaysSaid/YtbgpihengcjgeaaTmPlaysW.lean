/-
  The walk of TimerPlays.
-/
import Derived.Test.YtbgpihengcjgeaaTmD
import Derived.Test.YtbgpihengcjgeaaTmF
import Derived.Test.YtbgpihengcjgeaaTmOps
import Derived.Deep.CutBlock
namespace Go.Proofs.Ytbgpihengcjgeaa
open Go.RowKit

set_option maxRecDepth 100000 in
theorem plays_no {w : World} {a : Option Addr} {len cap : Nat} (hl : len ≤ 9223372036854775807) (h : 100 < len) :
    Calls Try.prog 6 #[.slice a len cap] w fun e w' => e = .returned (.bool true) ∧ Below w.heap.size w w' := by
  have HA := fun W => hide (alive_any W)
  have h2 : (100 : Int) < len := by omega
  have hl2 := Lib.hid hl
  clear hl h
  go_enter Try.func6, Try.ntmps6
  go_wp2_with fail
  (with_reducible refine (unhide (HA _)).mono ?_)
  rintro e w1 ⟨rfl, hb⟩
  go_wp2_with fail
  go_ret
  exact ⟨rfl, hb⟩
theorem All4.new {w0 w : World} (hb : Below w0.heap.size w0 w) :
    All4 w0 (((w.alloc (.cells #[.int .i64 0, .map none] 27)).alloc (.map #[] 0)).alloc (.cells #[.slice none 0 0, .slice none 0 0, .slice none 0 0, .slice none 0 0, .slice none 0 0, .slice none 0 0] 41)) w0.heap.size w.heap.size (w.heap.size + 1) (w.heap.size + 1 + 1) 0 0 0 (fun _ => none) (fun _ => none) [w.heap.size] [w.heap.size + 1 + 1] [] := by
  have hs := hb.size
  have b1 := Blk.new w 27 #[.int .i64 0, .map none]
  have m1 := MapE.new oneE (w.alloc (.cells #[.int .i64 0, .map none] 27))
  have k1 := Blk.new ((w.alloc (.cells #[.int .i64 0, .map none] 27)).alloc (.map #[] 0)) 41 #[.slice none 0 0, .slice none 0 0, .slice none 0 0, .slice none 0 0, .slice none 0 0, .slice none 0 0]
  have s1 : ∀ (W : World) (o : Obj), (W.alloc o).heap.size = W.heap.size + 1 := fun W o => by simp
  simp only [s1] at m1 k1
  have t1 : Tm (w.alloc (.cells #[.int .i64 0, .map none] 27)) w0.heap.size w.heap.size 0 0 (fun _ => none) [w.heap.size] := Tm.new b1 hs
  have hv : hvF (fun _ => none) = fun _ => none := rfl
  refine ⟨(t1.below ((Below.refl _ _).alloc (Nat.le_refl _) _)).below ((Below.refl _ _).alloc (Nat.le_refl _) _), ?_, by omega, Bk.new k1 (by omega), fun k h1 h2 => by simp at h1 h2; omega, by simp, by simp, fun e he => (by cases he), ?_⟩
  · rw [hv]
    exact m1.below ((Below.refl _ _).alloc (Nat.le_refl _) _) (by simp)
  · exact ((hb.alloc hs _).alloc (by simp; omega) _).alloc (by simp; omega) _
set_option maxRecDepth 100000 in
set_option maxHeartbeats 4000000 in
theorem plays_yes {w : World} {a : Option Addr} {len cap : Nat} {z : List Row43} (hr : IsRows43 w a len cap z) (hl : len ≤ 100) :
    Calls Try.prog 6 #[.slice a len cap] w fun e w' => e = .returned (.bool true) ∧ Below w.heap.size w w' := by
  have HA := fun W => hide (alive_any W)
  have h2 : ¬ (100 : Int) < len := by omega
  have hl2 : (len : Int) ≤ 100 := by omega
  have hmm := @run_makeMap Try.prog
  obtain ⟨hzl, _, hz⟩ := hr
  have HZ := hide hz
  have HZL := hide hzl
  clear hz hzl hl
  go_enter Try.func6, Try.ntmps6
  go_wp2_with fail
  (with_reducible refine (unhide (HA _)).mono ?_)
  rintro e w1 ⟨rfl, hb1⟩
  have hall := All4.new hb1
  obtain ⟨p, hp⟩ : ∃ p, p = w1.heap.size := ⟨_, rfl⟩
  obtain ⟨hm, hhm⟩ : ∃ hm, hm = w1.heap.size + 1 := ⟨_, rfl⟩
  obtain ⟨pb, hpb⟩ : ∃ pb, pb = w1.heap.size + 1 + 1 := ⟨_, rfl⟩
  have HPB := hide hpb
  have HHM := hide hhm
  have HP := hide hp
  rw [← hpb, ← hhm, ← hp] at hall
  have HALL := hide hall
  clear HA hb1 hp hhm hpb hall
  go_wp2_with fail
  rw [← HPB.out, ← HHM.out, ← HP.out]
  clear HPB HHM HP hmm
  go_loopg [5, 46] len (fun g s5 s46 wr => ∃ (i n m : Nat) (now : Int) (f : Int → Option One) (FT FB : List Nat), s46 = .int .i64 i ∧ i + g = len ∧ s5 = .int .i64 now ∧ now ≤ 60 * (i : Int) ∧ n ≤ i ∧ m ≤ i ∧ Hid (All4 w wr w.heap.size p hm pb now n m f f FT FB []))
  case atStart => exact ⟨0, 0, 0, 0, _, _, _, rfl, by omega, rfl, by omega, by omega, by omega, HALL⟩
  case round =>
    clear HALL
    obtain ⟨i, n, m, now, f, FT, FB, rfl, hi, rfl, hnow, hni, hmi, h3⟩ := hrel
    by_cases hlt : i < len
    · have hiz : i < z.length := by rw [HZL.out]; exact hlt
      obtain ⟨g, off, ha, hg, hc⟩ := HZ.out (by omega)
      subst ha
      obtain ⟨x, hx⟩ : ∃ x, x = z[i] := ⟨_, rfl⟩
      have hci := hc i hiz
      rw [← hx] at hci
      have hbw := h3.out.below
      have z0 := (hbw.cell (p := ⟨g, off + i * 3, none⟩) hg).trans hci.1
      have z1 := (hbw.cell (p := ⟨g, off + i * 3 + 1, none⟩) hg).trans hci.2.1
      have z2 := (hbw.cell (p := ⟨g, off + i * 3 + 2, none⟩) hg).trans hci.2.2.1
      have hry := hci.2.2.2
      obtain ⟨xk, xi, xn⟩ := x
      simp only at z0 z1 z2 hry
      have hwi : Wf xi := hry.2.1
      have hxn : xn ≤ 9223372036854775807 := (wf_bounds hry.2.2).2
      have HWI := hide hwi
      have HXN := hide hxn
      have hn0 := h3.out.tm.n0
      clear hc hci hry hx hbw hwi hxn hiz
      have h4 := h3.out.push ((Below.refl _ _).alloc (Nat.le_refl _) (.cells #[.int .i64 xk, .int .i64 xi, .int .i64 xn] 43)) (Blk.new wr 43 #[.int .i64 xk, .int .i64 xi, .int .i64 xn]) (Nat.le_refl _)
      obtain ⟨W0, hW0⟩ : ∃ W0, W0 = wr.alloc (.cells #[.int .i64 xk, .int .i64 xi, .int .i64 xn] 43) := ⟨_, rfl⟩
      rw [← hW0] at h4
      have hlk : ∃ (iv l b a2 : Int) (isb : Bool), (Instr.lookup 35 (.map (some hm)) (.int .i64 xi) true).run Try.prog W0 = .ok (.tuple #[.agg #[.int .i64 iv, .int .i64 l, .int .i64 b, .int .i64 a2], .bool isb]) W0 ∧ ((isb = true ∧ f xi = some ⟨l, b, a2⟩ ∧ iv = xi) ∨ (isb = false ∧ f xi = none)) := by
        cases hfi : f xi with
        | none => exact ⟨0, 0, 0, 0, false, h4.look_none HWI.out hfi, .inr ⟨rfl, rfl⟩⟩
        | some o => exact ⟨xi, o.limit, o.begun, o.active, true, h4.look_some HWI.out hfi, .inl ⟨rfl, rfl, rfl⟩⟩
      obtain ⟨iv, l, b, a2, isb, hlook, hisb⟩ := hlk
      have h5 := h4.push ((Below.refl _ _).alloc (Nat.le_refl _) (.cells #[.int .i64 iv, .int .i64 l, .int .i64 b, .int .i64 a2] 45)) (Blk.new W0 45 #[.int .i64 iv, .int .i64 l, .int .i64 b, .int .i64 a2]) (Nat.le_refl _)
      obtain ⟨W1, hW1⟩ : ∃ W1, W1 = W0.alloc (.cells #[.int .i64 iv, .int .i64 l, .int .i64 b, .int .i64 a2] 45) := ⟨_, rfl⟩
      have hs0 : W0.heap.size = wr.heap.size + 1 := by rw [hW0]; simp
      obtain ⟨ob, hob⟩ : ∃ ob, ob = wr.heap.size := ⟨_, rfl⟩
      obtain ⟨xb, hxb⟩ : ∃ xb, xb = wr.heap.size + 1 := ⟨_, rfl⟩
      rw [← hW1, hs0, ← hxb, ← hob] at h5
      rw [hW0] at hlook hW1
      have H5 := hide h5
      have HOB := hide hob
      have HXB := hide hxb
      have HISB := hide hisb
      have HW1 := hide hW1
      clear h3 h4 hW0 hs0 hob hxb hisb hW1 h5
      go_upto_block 2 with fail
      rw [← HW1.out, ← HXB.out, ← HOB.out]
      have box := H5.out.blk (List.mem_cons_of_mem _ (List.mem_cons_self ..))
      have y1 : W1.cell? ⟨ob, 1, none⟩ = some (.int .i64 xi) := box.cellv 1 _ rfl
      have y2 : W1.cell? ⟨ob, 2, none⟩ = some (.int .i64 xn) := box.cellv 2 _ rfl
      clear z0 z1 z2 hlook HW1 HXB HOB box
      go_cut [5] (fun s5 wx => ∃ (n2 m2 : Nat) (now2 : Int) (f2 : Int → Option One) (FT2 FB2 : List Nat), s5 = .int .i64 now2 ∧ now2 ≤ 60 * ((i : Int) + 1) ∧ n2 ≤ i + 1 ∧ m2 ≤ i + 1 ∧ Hid (All4 w wx w.heap.size p hm pb now2 n2 m2 f2 f2 FT2 FB2 [(ob, 43, #[.int .i64 xk, .int .i64 xi, .int .i64 xn])]))
      case first =>
        by_cases hk1 : xk = 1
        · subst hk1
          as_aux_lemma =>
          rcases HISB.out with ⟨rfl, hfi, rfl⟩ | ⟨rfl, hfi⟩
          · have HST := hide (start_there (lim := xn) H5.out.tm hfi)
            clear hfi
            go_wp2_with fail
            (with_reducible refine (unhide HST).mono ?_)
            rintro e w4 ⟨rfl, hw4⟩
            subst hw4
            clear HST
            go_wp2_with fail
            go_meet
            exact ⟨n, m, now, f, FT, FB, rfl, by omega, by omega, by omega, hide (H5.out.less (fun e he => List.mem_cons_of_mem _ he))⟩
          · by_cases h0 : 0 ≤ xi
            · by_cases h1 : 0 ≤ xn
              · have HST := hide (start_yes H5.out.tm h0 HWI.out h1 HXN.out hfi (by omega))
                clear hfi
                go_wp2_with fail
                (with_reducible refine (unhide HST).mono ?_)
                rintro e w4 ⟨rfl, FT4, ht, ho, hf⟩
                have h6 := H5.out.timer ht ho hf
                obtain ⟨w5, hst, h7⟩ := h6.store (by omega) HWI.out ⟨xn, now, now⟩
                have box := h6.blk (List.mem_cons_of_mem _ (List.mem_cons_self ..))
                have y1 : w4.cell? ⟨ob, 1, none⟩ = some (.int .i64 xi) := box.cellv 1 _ rfl
                have y2 : w4.cell? ⟨ob, 2, none⟩ = some (.int .i64 xn) := box.cellv 2 _ rfl
                have H7 := hide h7
                simp only at hst
                clear HST ht ho hf h6 h7 box
                go_wp2_with fail
                go_meet
                exact ⟨n + 1, m + 1, now, _, _, _, rfl, by omega, by omega, by omega, hide (H7.out.less (fun e he => List.mem_cons_of_mem _ he))⟩
              · have HST := hide (start_less (w := W1) (id := xi) (lim := xn) p (.inr (by omega)))
                have d1 : decide (0 ≤ xn) = false := decide_eq_false h1
                clear hfi
                go_wp2_with fail
                (with_reducible refine (unhide HST).mono ?_)
                rintro e w4 ⟨rfl, hw4⟩
                subst hw4
                clear HST
                go_wp2_with fail
                go_meet
                exact ⟨n, m, now, f, FT, FB, rfl, by omega, by omega, by omega, hide (H5.out.less (fun e he => List.mem_cons_of_mem _ he))⟩
            · have HST := hide (start_less (w := W1) (id := xi) (lim := xn) p (.inl (by omega)))
              have d1 : decide (0 ≤ xi) = false := decide_eq_false h0
              clear hfi
              go_wp2_with fail
              (with_reducible refine (unhide HST).mono ?_)
              rintro e w4 ⟨rfl, hw4⟩
              subst hw4
              clear HST
              go_wp2_with fail
              go_meet
              exact ⟨n, m, now, f, FT, FB, rfl, by omega, by omega, by omega, hide (H5.out.less (fun e he => List.mem_cons_of_mem _ he))⟩
        have b1 : (xk == 1) = false := by simpa using hk1
        by_cases hk2 : xk = 2
        · subst hk2
          as_aux_lemma =>
          rcases HISB.out with ⟨rfl, hfi, rfl⟩ | ⟨rfl, hfi⟩
          · have HST := hide (touch_some H5.out.tm hfi)
            clear hfi
            go_wp2_with fail
            (with_reducible refine (unhide HST).mono ?_)
            rintro e w4 ⟨rfl, ht, ho⟩
            have h6 := H5.out.timer ht ho (fun k hk => .inl hk)
            have box := h6.blk (List.mem_cons_of_mem _ (List.mem_cons_self ..))
            have xbx := h6.blk (List.mem_cons_self ..)
            have y1 : w4.cell? ⟨ob, 1, none⟩ = some (.int .i64 iv) := box.cellv 1 _ rfl
            have y2 : w4.cell? ⟨ob, 2, none⟩ = some (.int .i64 xn) := box.cellv 2 _ rfl
            have x0 : w4.cell? ⟨xb, 0, none⟩ = some (.int .i64 iv) := xbx.cellv 0 _ rfl
            have x1 : w4.cell? ⟨xb, 1, none⟩ = some (.int .i64 l) := xbx.cellv 1 _ rfl
            have x2 : w4.cell? ⟨xb, 2, none⟩ = some (.int .i64 b) := xbx.cellv 2 _ rfl
            have x3 : w4.cell? ⟨xb, 3, none⟩ = some (.int .i64 a2) := xbx.cellv 3 _ rfl
            have xf := xbx.frozen 3
            have hobx : ob ≠ xb := box.ne_ xbx (by decide)
            have h7 := h6.set (by intro e he; rw [List.mem_singleton.1 he]; exact hobx) 3 (.int .i64 now)
            obtain ⟨w5, hst, h8⟩ := h7.store (by omega) HWI.out ⟨l, b, now⟩
            have H8 := hide h8
            simp only at hst
            clear HST ht ho h6 h7 h8 box xbx
            go_wp2_with fail
            go_meet
            exact ⟨n, m + 1, now, _, _, _, rfl, by omega, by omega, by omega, hide (H8.out.less (fun e he => List.mem_cons_of_mem _ he))⟩
          · have HST := hide (touch_none H5.out.tm HWI.out hfi)
            clear hfi
            go_wp2_with fail
            (with_reducible refine (unhide HST).mono ?_)
            rintro e w4 ⟨rfl, hw4⟩
            subst hw4
            clear HST
            go_wp2_with fail
            go_meet
            exact ⟨n, m, now, f, FT, FB, rfl, by omega, by omega, by omega, hide (H5.out.less (fun e he => List.mem_cons_of_mem _ he))⟩
        have b2 : (xk == 2) = false := by simpa using hk2
        by_cases hk3 : xk = 3
        · subst hk3
          as_aux_lemma =>
          rcases HISB.out with ⟨rfl, hfi, rfl⟩ | ⟨rfl, hfi⟩
          · by_cases h1 : 0 ≤ xn
            · have HST := hide (limit_some H5.out.tm hfi h1 HXN.out)
              clear hfi
              go_wp2_with fail
              (with_reducible refine (unhide HST).mono ?_)
              rintro e w4 ⟨rfl, ht, ho⟩
              have h6 := H5.out.timer ht ho (fun k hk => .inl hk)
              have box := h6.blk (List.mem_cons_of_mem _ (List.mem_cons_self ..))
              have xbx := h6.blk (List.mem_cons_self ..)
              have y1 : w4.cell? ⟨ob, 1, none⟩ = some (.int .i64 iv) := box.cellv 1 _ rfl
              have y2 : w4.cell? ⟨ob, 2, none⟩ = some (.int .i64 xn) := box.cellv 2 _ rfl
              have x0 : w4.cell? ⟨xb, 0, none⟩ = some (.int .i64 iv) := xbx.cellv 0 _ rfl
              have x1 : w4.cell? ⟨xb, 1, none⟩ = some (.int .i64 l) := xbx.cellv 1 _ rfl
              have x2 : w4.cell? ⟨xb, 2, none⟩ = some (.int .i64 b) := xbx.cellv 2 _ rfl
              have x3 : w4.cell? ⟨xb, 3, none⟩ = some (.int .i64 a2) := xbx.cellv 3 _ rfl
              have xf := xbx.frozen 1
              have hobx : ob ≠ xb := box.ne_ xbx (by decide)
              have h7 := h6.set (by intro e he; rw [List.mem_singleton.1 he]; exact hobx) 1 (.int .i64 xn)
              obtain ⟨w5, hst, h8⟩ := h7.store (by omega) HWI.out ⟨xn, b, a2⟩
              have H8 := hide h8
              simp only at hst
              clear HST ht ho h6 h7 h8 box xbx
              go_wp2_with fail
              go_meet
              exact ⟨n, m + 1, now, _, _, _, rfl, by omega, by omega, by omega, hide (H8.out.less (fun e he => List.mem_cons_of_mem _ he))⟩
            · have HST := hide (limit_less H5.out.tm hfi (show xn < 0 by omega))
              have d1 : decide (0 ≤ xn) = false := decide_eq_false h1
              clear hfi
              go_wp2_with fail
              (with_reducible refine (unhide HST).mono ?_)
              rintro e w4 ⟨rfl, hw4⟩
              subst hw4
              clear HST
              go_wp2_with fail
              go_meet
              exact ⟨n, m, now, f, FT, FB, rfl, by omega, by omega, by omega, hide (H5.out.less (fun e he => List.mem_cons_of_mem _ he))⟩
          · have HST := hide (limit_none H5.out.tm HWI.out hfi xn)
            clear hfi
            go_wp2_with fail
            (with_reducible refine (unhide HST).mono ?_)
            rintro e w4 ⟨rfl, hw4⟩
            subst hw4
            clear HST
            go_wp2_with fail
            go_meet
            exact ⟨n, m, now, f, FT, FB, rfl, by omega, by omega, by omega, hide (H5.out.less (fun e he => List.mem_cons_of_mem _ he))⟩
        have b3 : (xk == 3) = false := by simpa using hk3
        by_cases hk4 : xk = 4
        · subst hk4
          as_aux_lemma =>
          rcases HISB.out with ⟨rfl, hfi, rfl⟩ | ⟨rfl, hfi⟩
          · have HST := hide (stop_some H5.out.tm hfi)
            clear hfi
            go_wp2_with fail
            (with_reducible refine (unhide HST).mono ?_)
            rintro e w4 ⟨rfl, ht, ho⟩
            have h6 := H5.out.timer ht ho (fun k hk => .inl hk)
            obtain ⟨w5, hst, h7⟩ := h6.del HWI.out
            have box := h6.blk (List.mem_cons_of_mem _ (List.mem_cons_self ..))
            have y1 : w4.cell? ⟨ob, 1, none⟩ = some (.int .i64 iv) := box.cellv 1 _ rfl
            have H7 := hide h7
            clear HST ht ho h6 h7 box
            go_wp2_with fail
            go_meet
            exact ⟨n, m, now, _, _, _, rfl, by omega, by omega, by omega, hide (H7.out.less (fun e he => List.mem_cons_of_mem _ he))⟩
          · have HST := hide (stop_none H5.out.tm HWI.out hfi)
            obtain ⟨w5, hst, h7⟩ := H5.out.del HWI.out
            rw [upd_none_same hfi] at h7
            have H7 := hide h7
            clear hfi h7
            go_wp2_with fail
            (with_reducible refine (unhide HST).mono ?_)
            rintro e w4 ⟨rfl, hw4⟩
            subst hw4
            clear HST
            go_wp2_with fail
            go_meet
            exact ⟨n, m, now, _, _, _, rfl, by omega, by omega, by omega, hide (H7.out.less (fun e he => List.mem_cons_of_mem _ he))⟩
        have b4 : (xk == 4) = false := by simpa using hk4
        by_cases hk5 : xk = 5
        · subst hk5
          as_aux_lemma =>
          clear HISB y1 y2
          go_wp2_with fail
          go_loopg [5, 13] 60 (fun g s5 s13 wr => ∃ (k : Nat) (now2 : Int) (f2 : Int → Option One) (FT2 FB2 : List Nat), s13 = .int .i64 k ∧ k + g = 60 ∧ s5 = .int .i64 now2 ∧ now2 ≤ 60 * (i : Int) + k ∧ Hid (All4 w wr w.heap.size p hm pb now2 n m f2 f2 FT2 FB2 [(ob, 43, #[.int .i64 5, .int .i64 xi, .int .i64 xn])]))
          case atStart => exact ⟨0, now, f, FT, FB, rfl, by omega, rfl, by omega, hide (H5.out.less (fun e he => List.mem_cons_of_mem _ he))⟩
          case round =>
            clear H5
            obtain ⟨k, now2, f2, FT2, FB2, rfl, hk, rfl, hn2, h6⟩ := hrel
            have box := h6.out.blk (List.mem_cons_self ..)
            have y2 : wr.cell? ⟨ob, 2, none⟩ = some (.int .i64 xn) := box.cellv 2 _ rfl
            clear box
            have hn0 := h6.out.tm.n0
            by_cases hkx : (k : Int) < xn
            · by_cases hk60 : k < 60
              · obtain ⟨gk0, hgk0⟩ : ∃ gk0, gk0 = gk - 1 := ⟨_, rfl⟩
                have hk1 : k + 1 + gk0 = 60 := by omega
                have hgg : gk0 < gk := by omega
                have HT := hide (tick_any h6.out.tm (by omega) (by omega))
                clear hgk0
                go_wp2_with fail
                (with_reducible refine (unhide HT).mono ?_)
                rintro e w4 ⟨v, zs, rfl, hv, hst, hmem, hzn, ht, ho⟩
                have h7 := h6.out.timer ht ho (fun k hk => .inl hk)
                have hs4 := ho.size
                have hlow : ∀ k ∈ slB v, wr.heap.size ≤ k := fun k hk => (hv.lt k hk).1
                have hFB : ∀ k ∈ FB2, k < wr.heap.size := fun k hk => (h6.out.bk.lt k hk).2
                have HIN := hide (ints_Bk h7.bk (SlN.mono hv (by have := h6.out.blt; omega)) (by omega) (fun k hk hk2 => by have := hlow k hk; have := hFB k hk2; omega))
                have HV := hide hv
                have HST := hide hst
                have HMEM := hide hmem
                have HZN := hide hzn
                have HLOW := hide hlow
                have HFB := hide hFB
                have H7 := hide h7
                have HS4 := hide hs4
                clear HT hv hst hmem hzn ht ho h7 hs4 hlow hFB y2
                go_wp2_with fail
                (with_reducible refine (unhide HIN).mono ?_)
                rintro e w5 ⟨rfl, FB3, hbk, hob, hfb⟩
                have h8 := H7.out.book (T := wr.heap.size) hbk hob (fun k hk => by
                  rcases hfb k hk with h9 | h9 | h9
                  · exact .inl h9
                  · exact .inr (HLOW.out k h9)
                  · have := HS4.out; exact .inr (by omega)) (fun k hk => (h6.out.tm.lt k hk).2) h6.out.hv.lt (fun e he => (h6.out.loc e he).1.lt)
                have hv5 := SlN.keep HV.out hob (fun k hk hk2 => by have := HLOW.out k hk; have := HFB.out k hk2; omega)
                have hs5 := hob.size
                obtain ⟨w6, hrg, ⟨cnt, hcn, hR⟩, hb6, hs6⟩ := h8.hv.range (t := 35) Try.underlying35
                obtain ⟨r, hr⟩ : ∃ r, r = w5.heap.size := ⟨_, rfl⟩
                obtain ⟨b5, hb5⟩ : ∃ b5, b5 = wr.heap.size := ⟨_, rfl⟩
                rw [← hr] at hrg hR
                obtain ⟨q, hq⟩ : ∃ q, q = zs.length := ⟨_, rfl⟩
                obtain ⟨av, cv, hvf⟩ := hv5.form
                rw [← hq] at hvf hv5
                have hqn : q ≤ n := by rw [hq]; exact HZN.out
                have hv6 : SlN w6 b5 3 1 v q (intsL zs) := hb5 ▸ SlN.below hv5 hb6 (fun k hk => (SlN.lt hv5 k hk).2)
                subst hvf
                have hrw : wr.heap.size ≤ r := by rw [hr]; have := HS4.out; omega
                have hrv : r ∉ slB (.slice av q cv) := fun hk => by have := (SlN.lt hv5 r hk).2; omega
                have hhv : hm ∉ slB (.slice av q cv) := fun hk => by have := HLOW.out hm hk; have := h6.out.hv.lt; omega
                have H8 := hide h8
                have HV6 := hide hv6
                have HR := hide hR
                have HB6 := hide hb6
                have HRR := hide hr
                have HRV := hide hrv
                have HHV := hide hhv
                have HQ := hide hq
                have hfits : ∀ x o, f2 x = some o → Fits (now2 + 1) o := fun x o hx => (h6.out.tm.fits x o hx).later
                have HFITS := hide hfits
                have HWF := hide (fun x o (hx : f2 x = some o) => h6.out.tm.wf hx)
                have HCN : Hid (0 + cnt ≤ m) := hide (by omega)
                have HPK : Hid (Picked [] (fun x => (hvF f2 x).isSome) f2 (now2 + 1)) := hide (Picked.start f2 _ (fun x hx => by unfold hvF; rw [Option.isSome_map]; exact hx) _)
                have hO0 : Hid (Only [hm, r] w6 w6) := hide (Only.refl _ _)
                clear hb5 HIN hbk hob hfb h8 hv5 hs5 hR hb6 hs6 hr hq hv6 hrw hrv hhv hfits h6 H7 HV HLOW HFB HS4 hcn
                go_wp2_with fail
                clear hrg
                go_loopg [15, 16, 17, 18] cnt (fun g s15 s16 s17 s18 wr => ∃ (c : Nat) (ds : List Int) (lf : Int → Bool), s15 = .int .i64 (c : Nat) ∧ Hid (c = ds.length) ∧ Hid (RangeE oneE wr hm r m (hvF (minus f2 ds)) lf g) ∧ Hid (Picked ds lf f2 (now2 + 1)) ∧ Hid (Only [hm, r] w6 wr) ∧ c + g ≤ m)
                case atStart => exact ⟨0, [], _, rfl, hide rfl, hide (by rw [minus_nil]; exact HR.out), HPK, hO0, HCN.out⟩
                case round =>
                  as_aux_lemma =>
                  clear HR HPK hO0 HCN
                  obtain ⟨c, ds, lf, rfl, hcd, hR, hP, hO, hdm⟩ := hrel
                  rcases hR.out.next 0 with ⟨h0, hnx⟩ | ⟨x, a, w7, cnt', hlx, hPx, hnx, hR3, hlt, ho3, hs3, hen⟩
                  · have hdone := hP.out.done (fun x o hx => h0 x (HWF.out x o hx))
                    have hdz : ∀ x, x ∈ ds ↔ x ∈ zs := fun x => (hdone x).trans (HMEM.out x).symm
                    have hperm : ds.Perm zs := (List.perm_ext_iff_of_nodup hP.out.nodup (HST.out.imp fun h e => by omega)).2 hdz
                    obtain rfl : q = c := by rw [HQ.out, hcd.out, hperm.length_eq]
                    have hmin : minus f2 ds = minus f2 zs := funext fun y => by
                      unfold minus
                      by_cases hy : y ∈ ds
                      · rw [if_pos hy, if_pos ((hdz y).1 hy)]
                      · rw [if_neg hy, if_neg (fun h => hy ((hdz y).2 h))]
                    have hmap := hR.out.map
                    rw [hmin] at hmap
                    have hoM : Only [hm] w5 wr := ⟨hO.out.os.trans HB6.out.os, hO.out.tape.trans HB6.out.tape, hO.out.output.trans HB6.out.output, Nat.le_trans HB6.out.size hO.out.size, fun k hk hn => (hO.out.block k (by have := HB6.out.size; omega) (fun hk2 => by
                      rcases List.mem_cons.1 hk2 with rfl | hk2
                      · exact hn (List.mem_singleton.2 rfl)
                      · rw [List.mem_singleton.1 hk2, HRR.out] at hk; omega)).trans (HB6.out.block k hk)⟩
                    have h9 := H8.out.map hmap hoM
                    have hv9 := SlN.keep HV6.out hO.out (fun k hk hk2 => by
                      rcases List.mem_cons.1 hk2 with rfl | hk2
                      · exact HHV.out hk
                      · rw [List.mem_singleton.1 hk2] at hk; exact HRV.out hk)
                    have H9 := hide h9
                    have HV9 := hide hv9
                    clear hdone hdz hperm hmin hmap hoM h9 hv9 hcd hP hO hR h0 HB6 HRR HV6 H8 HRV HHV HMEM HFITS HWF
                    go_wp2_with fail
                    clear hnx
                    go_loopg [21] q (fun g s21 wr => ∃ j : Nat, s21 = .int .i64 (j + 1 : Nat) ∧ j + g = q ∧ Hid (All4 w wr w.heap.size p hm pb (now2 + 1) n m (minus f2 zs) (minus f2 zs) FT2 FB3 [(ob, 43, #[.int .i64 5, .int .i64 xi, .int .i64 xn])]) ∧ Hid (SlN wr b5 3 1 (.slice av q cv) q (intsL zs)))
                    case atStart => exact ⟨0, rfl, by omega, H9, HV9⟩
                    case round =>
                      clear H9 HV9
                      obtain ⟨j, rfl, hj, h9, hv9⟩ := hrel
                      by_cases hjq : j + 1 < q
                      · have hjz : j + 1 < zs.length := by rw [← HQ.out]; exact hjq
                        obtain ⟨gv, ov, cap2, hvv, hcv, _⟩ := hv9.out.cell j (by rw [intsL_length]; omega)
                        obtain ⟨gv2, ov2, cap3, hvv2, hcv2, _⟩ := hv9.out.cell (j + 1) (by rw [intsL_length]; omega)
                        injection hvv with e1 e2 e3
                        subst e1
                        injection hvv2 with e4 e5 e6
                        injection e4 with e4
                        injection e4 with e4 e7
                        subst e4 e7
                        obtain ⟨y1, hy1⟩ : ∃ y, y = zs[j] := ⟨_, rfl⟩
                        obtain ⟨y2, hy2⟩ : ∃ y, y = zs[j + 1] := ⟨_, rfl⟩
                        have hc1 : wr.cell? ⟨gv, ov + j, none⟩ = some (.int .i64 y1) := by rw [hcv]; simp [intsL, hy1]
                        have hc2 : wr.cell? ⟨gv, ov + (j + 1), none⟩ = some (.int .i64 y2) := by rw [hcv2]; simp [intsL, hy2]
                        have hlt12 : y1 < y2 := by rw [hy1, hy2]; exact List.pairwise_iff_getElem.1 HST.out j (j + 1) (by omega) hjz (by omega)
                        have d12 : decide (y2 ≤ y1) = false := decide_eq_false (by omega)
                        have ew : IntKind.i64.wrap ((j : Int) + 1 - 1) = j := by rw [IntKind.wrap_i64]; omega
                        have ew2 : (j : Int) + 1 - 1 = j := by omega
                        have et : ((j : Int) + 1).toNat = j + 1 := by omega
                        have ej0 : (0 : Int) ≤ j := by omega
                        have ej1 : (j : Int) < q := by omega
                        have ej2 : (0 : Int) ≤ (j : Int) + 1 := by omega
                        have ej3 : (j : Int) + 1 < q := by omega
                        clear hjz e2 e3 e5 e6 hcv hcv2 hy1 hy2
                        go_wp2_with fail
                        go_quiet (fail)
                        go_wp2_with fail
                        go_roundg (gk - 1)
                        case measure => omega
                        case rel => exact ⟨j + 1, by go_num, by omega, hide (h9.out.drewN _), hide (SlN.drewN hv9.out _)⟩
                      · have hjq2 : ¬ (j : Int) + 1 < q := by omega
                        go_wp2_with fail
                        go_roundg gk0
                        case measure => omega
                        case rel => exact ⟨k + 1, now2 + 1, minus f2 zs, FT2, FB3, by go_num, by omega, rfl, by push_cast; omega, h9⟩
                  · obtain ⟨o, hfo, hax, hxd⟩ : ∃ o, f2 x = some o ∧ a = (x, o) ∧ x ∉ ds := by
                      unfold hvF minus at hPx
                      by_cases hxd : x ∈ ds
                      · rw [if_pos hxd] at hPx; cases hPx
                      · rw [if_neg hxd] at hPx
                        cases hf : f2 x with
                        | none => rw [hf] at hPx; cases hPx
                        | some o => rw [hf] at hPx; exact ⟨o, rfl, (Option.some.inj hPx).symm, hxd⟩
                    subst hax
                    obtain ⟨l0, l1, b0, bb1, a0, a1⟩ := HFITS.out x o hfo
                    have HLA : Hid (late (now2 + 1) o = (decide (30 < now2 + 1 - o.active) || (decide (0 < o.limit) && decide (o.limit < now2 + 1 - o.begun)))) := hide rfl
                    have HSK := hide (fun hl => hP.out.skip (x := x) (o := o) hfo hl)
                    have HTK := hide (fun hl => hP.out.take (x := x) (o := o) hfo hlx hl)
                    have HXM := hide (fun hl => (HMEM.out x).2 ⟨o, hfo, hl⟩)
                    obtain ⟨la, hla⟩ : ∃ la, la = late (now2 + 1) o := ⟨_, rfl⟩
                    rw [← hla] at HLA HSK HTK HXM
                    have hxw := hR3.map.wf hPx
                    obtain ⟨ol, obg, oa⟩ := o
                    simp only [oneE] at hnx hen
                    simp only at l0 l1 b0 bb1 a0 a1 HLA
                    have hO7 := hO.out.trans (ho3.mono (T := [hm, r]) (by simp))
                    have hR7 := hR3.keep ((Only.refl [] w7).alloc (.cells #[.int .i64 x, .int .i64 ol, .int .i64 obg, .int .i64 oa] 45)) (by simp) (by simp)
                    have hO8 := hO7.alloc (.cells #[.int .i64 x, .int .i64 ol, .int .i64 obg, .int .i64 oa] 45)
                    obtain ⟨w9, cnt9, hdel, hR9, hc9, ht9⟩ := hR7.drop (t := 35) Try.underlying35 hxw 0
                    have hO9 := hO8.trans ((turned_only ht9).mono (T := [hm, r]) (by simp))
                    rw [hvF_del, minus_snoc] at hR9
                    have HR8 := hide hR7
                    have HO8 := hide hO8
                    have HR9 := hide hR9
                    have HO9 := hide hO9
                    have w1 : wrap64 (now2 + 1 - obg) = now2 + 1 - obg := by unfold wrap64; omega
                    have w2 : wrap64 (now2 + 1 - oa) = now2 + 1 - oa := by unfold wrap64; omega
                    have hdl : (c : Int) ≤ 100 := by omega
                    have HCD9 : Hid (c + 1 = (ds ++ [x]).length) := hide (by rw [List.length_append, ← hcd.out]; rfl)
                    have hv9 := SlN.keep HV6.out HO9.out (fun k hk hk2 => by
                      rcases List.mem_cons.1 hk2 with rfl | hk2
                      · exact HHV.out hk
                      · rw [List.mem_singleton.1 hk2] at hk; exact HRV.out hk)
                    have HV9 := hide hv9
                    clear hla hPx hlx hR3 hfo hR hP hO hxd hxw hO7 hR7 hO8 hR9 hO9 ht9 ho3 hs3 hv9
                    by_cases d1 : 30 < now2 + 1 - oa
                    · have d1' : decide (30 < now2 + 1 - oa) = true := decide_eq_true d1
                      have HLF : Hid (la = true) := hide (by rw [HLA.out]; rw [d1']; rfl)
                      clear HLA HSK HR8 HO8
                      go_wp2_with fail
                      clear hnx hen hdel
                      go_loopg [18, 20, 193] q (fun g s18 s20 s193 wr => ∃ (j : Nat) (bj : Bool), s193 = .int .i64 j ∧ j + g = q ∧ s18 = .bool bj ∧ Hid (bj = decide (x ∈ zs.take j)) ∧ w9 = wr)
                      case atStart => exact ⟨0, false, rfl, by omega, rfl, hide (by simp), rfl⟩
                      case round =>
                        obtain ⟨j, bj, rfl, hj, rfl, hbj, hwr⟩ := hrel
                        subst hwr
                        by_cases hjq : j < q
                        · have hjz : j < zs.length := by rw [← HQ.out]; exact hjq
                          obtain ⟨gv, ov, cap2, hvv, hcv, _⟩ := HV9.out.cell j (by rw [intsL_length]; exact hjz)
                          injection hvv with e1 e2 e3
                          obtain ⟨y, hy⟩ : ∃ y, y = zs[j] := ⟨_, rfl⟩
                          have hcy : w9.cell? ⟨gv, ov + j, none⟩ = some (.int .i64 y) := by rw [hcv]; simp [intsL, hy]
                          have hts : zs.take (j + 1) = zs.take j ++ [y] := by rw [hy]; exact take_snoc zs j hjz
                          have HTS := hide hts
                          subst e1
                          clear hjz e2 e3 hcv hts hy
                          cases bj with
                          | true =>
                            have HB2 : Hid (true = decide (x ∈ zs.take (j + 1))) := hide (by
                              rw [eq_comm, decide_eq_true_eq, HTS.out, List.mem_append]
                              exact .inl (of_decide_eq_true hbj.out.symm))
                            clear hbj HTS
                            go_wp2_with fail
                            go_roundg (gk - 1)
                            case measure => omega
                            case rel => exact ⟨j + 1, true, by go_num, by omega, rfl, HB2, rfl⟩
                          | false =>
                            by_cases hyx : y = x
                            · have eyx : (y == x) = true := by simp [hyx]
                              have HB2 : Hid (true = decide (x ∈ zs.take (j + 1))) := hide (by
                                rw [eq_comm, decide_eq_true_eq, HTS.out, List.mem_append]
                                exact .inr (by rw [hyx]; exact List.mem_singleton.2 rfl))
                              clear hbj HTS hyx
                              go_wp2_with fail
                              go_roundg (gk - 1)
                              case measure => omega
                              case rel => exact ⟨j + 1, true, by go_num, by omega, rfl, HB2, rfl⟩
                            · have eyx : (y == x) = false := by simp [hyx]
                              have HB2 : Hid (false = decide (x ∈ zs.take (j + 1))) := hide (by
                                rw [eq_comm, decide_eq_false_iff_not, HTS.out, List.mem_append]
                                rintro (h9 | h9)
                                · exact of_decide_eq_false hbj.out.symm h9
                                · exact hyx (List.mem_singleton.1 h9).symm)
                              clear hbj HTS hyx
                              go_wp2_with fail
                              go_roundg (gk - 1)
                              case measure => omega
                              case rel => exact ⟨j + 1, false, by go_num, by omega, rfl, HB2, rfl⟩
                        · obtain rfl : q = j := by omega
                          have hbt : bj = true := by
                            rw [hbj.out, decide_eq_true_eq, List.take_of_length_le (by rw [← HQ.out]; omega)]
                            exact HXM.out HLF.out
                          subst hbt
                          clear hbj
                          go_wp2_with fail
                          go_roundg cnt9
                          case measure => omega
                          case rel => exact ⟨c + 1, ds ++ [x], _, by go_num, HCD9, HR9, hide (HTK.out HLF.out), HO9, by omega⟩
                    · have d1' : decide (30 < now2 + 1 - oa) = false := decide_eq_false d1
                      by_cases d2 : 0 < ol
                      · have d2' : decide (0 < ol) = true := decide_eq_true d2
                        by_cases d3 : ol < now2 + 1 - obg
                        · have d3' : decide (ol < now2 + 1 - obg) = true := decide_eq_true d3
                          have HLF : Hid (la = true) := hide (by rw [HLA.out]; rw [d1', d2', d3']; rfl)
                          clear HLA HSK HR8 HO8
                          go_wp2_with fail
                          clear hnx hen hdel
                          go_loopg [18, 20, 193] q (fun g s18 s20 s193 wr => ∃ (j : Nat) (bj : Bool), s193 = .int .i64 j ∧ j + g = q ∧ s18 = .bool bj ∧ Hid (bj = decide (x ∈ zs.take j)) ∧ w9 = wr)
                          case atStart => exact ⟨0, false, rfl, by omega, rfl, hide (by simp), rfl⟩
                          case round =>
                            obtain ⟨j, bj, rfl, hj, rfl, hbj, hwr⟩ := hrel
                            subst hwr
                            by_cases hjq : j < q
                            · have hjz : j < zs.length := by rw [← HQ.out]; exact hjq
                              obtain ⟨gv, ov, cap2, hvv, hcv, _⟩ := HV9.out.cell j (by rw [intsL_length]; exact hjz)
                              injection hvv with e1 e2 e3
                              obtain ⟨y, hy⟩ : ∃ y, y = zs[j] := ⟨_, rfl⟩
                              have hcy : w9.cell? ⟨gv, ov + j, none⟩ = some (.int .i64 y) := by rw [hcv]; simp [intsL, hy]
                              have hts : zs.take (j + 1) = zs.take j ++ [y] := by rw [hy]; exact take_snoc zs j hjz
                              have HTS := hide hts
                              subst e1
                              clear hjz e2 e3 hcv hts hy
                              cases bj with
                              | true =>
                                have HB2 : Hid (true = decide (x ∈ zs.take (j + 1))) := hide (by
                                  rw [eq_comm, decide_eq_true_eq, HTS.out, List.mem_append]
                                  exact .inl (of_decide_eq_true hbj.out.symm))
                                clear hbj HTS
                                go_wp2_with fail
                                go_roundg (gk - 1)
                                case measure => omega
                                case rel => exact ⟨j + 1, true, by go_num, by omega, rfl, HB2, rfl⟩
                              | false =>
                                by_cases hyx : y = x
                                · have eyx : (y == x) = true := by simp [hyx]
                                  have HB2 : Hid (true = decide (x ∈ zs.take (j + 1))) := hide (by
                                    rw [eq_comm, decide_eq_true_eq, HTS.out, List.mem_append]
                                    exact .inr (by rw [hyx]; exact List.mem_singleton.2 rfl))
                                  clear hbj HTS hyx
                                  go_wp2_with fail
                                  go_roundg (gk - 1)
                                  case measure => omega
                                  case rel => exact ⟨j + 1, true, by go_num, by omega, rfl, HB2, rfl⟩
                                · have eyx : (y == x) = false := by simp [hyx]
                                  have HB2 : Hid (false = decide (x ∈ zs.take (j + 1))) := hide (by
                                    rw [eq_comm, decide_eq_false_iff_not, HTS.out, List.mem_append]
                                    rintro (h9 | h9)
                                    · exact of_decide_eq_false hbj.out.symm h9
                                    · exact hyx (List.mem_singleton.1 h9).symm)
                                  clear hbj HTS hyx
                                  go_wp2_with fail
                                  go_roundg (gk - 1)
                                  case measure => omega
                                  case rel => exact ⟨j + 1, false, by go_num, by omega, rfl, HB2, rfl⟩
                            · obtain rfl : q = j := by omega
                              have hbt : bj = true := by
                                rw [hbj.out, decide_eq_true_eq, List.take_of_length_le (by rw [← HQ.out]; omega)]
                                exact HXM.out HLF.out
                              subst hbt
                              clear hbj
                              go_wp2_with fail
                              go_roundg cnt9
                              case measure => omega
                              case rel => exact ⟨c + 1, ds ++ [x], _, by go_num, HCD9, HR9, hide (HTK.out HLF.out), HO9, by omega⟩
                        · have d3' : decide (ol < now2 + 1 - obg) = false := decide_eq_false d3
                          have HLF : Hid (la = false) := hide (by rw [HLA.out]; rw [d1', d2', d3']; rfl)
                          clear HLA HTK HXM hdel HR9 HO9 HV9 HCD9
                          go_wp2_with fail
                          go_roundg cnt'
                          case measure => omega
                          case rel => exact ⟨c, ds, _, rfl, hcd, HR8, hide (HSK.out HLF.out), HO8, by omega⟩
                      · have d2' : decide (0 < ol) = false := decide_eq_false d2
                        have HLF : Hid (la = false) := hide (by rw [HLA.out]; rw [d1', d2']; rfl)
                        clear HLA HTK HXM hdel HR9 HO9 HV9 HCD9
                        go_wp2_with fail
                        go_roundg cnt'
                        case measure => omega
                        case rel => exact ⟨c, ds, _, rfl, hcd, HR8, hide (HSK.out HLF.out), HO8, by omega⟩
              · have d1 : ¬ (k : Int) < 60 := by omega
                go_wp2_with fail
                go_meet
                exact ⟨n, m, now2, f2, FT2, FB2, rfl, by omega, by omega, by omega, h6⟩
            · go_wp2_with fail
              go_meet
              exact ⟨n, m, now2, f2, FT2, FB2, rfl, by omega, by omega, by omega, h6⟩
        have b5 : (xk == 5) = false := by simpa using hk5
        go_wp2_with fail
        go_meet
        exact ⟨n, m, now, f, FT, FB, rfl, by omega, by omega, by omega, hide (H5.out.less (fun e he => List.mem_cons_of_mem _ he))⟩
      case rest =>
        as_aux_lemma =>
        obtain ⟨n2, m2, now2, f2, FT2, FB2, rfl, hn2, hnn2, hmm2, h6⟩ := hcut
        clear H5 y1 y2
        have box := h6.out.blk (List.mem_cons_self ..)
        have y1 : wc.cell? ⟨ob, 1, none⟩ = some (.int .i64 xi) := box.cellv 1 _ rfl
        clear box
        have hn0 := h6.out.tm.n0
        cases hfi : f2 xi with
        | none =>
          have HAG := hide (ages_none h6.out.tm HWI.out hfi)
          have hlook := h6.out.look_none HWI.out hfi
          have HNW := hide (now_any (h6.out.to ((Below.refl _ _).alloc (Nat.le_refl _) (.cells #[.int .i64 0, .int .i64 0, .int .i64 0, .int .i64 0] 45))).tm)
          clear hfi
          go_wp2_with fail
          (with_reducible refine (unhide HAG).mono ?_)
          rintro e w4 ⟨rfl, hw4⟩
          subst hw4
          clear HAG
          go_wp2_with fail
          (with_reducible refine (unhide HNW).mono ?_)
          rintro e w5 ⟨rfl, hw5⟩
          subst hw5
          clear HNW
          go_wp2_with fail
          go_roundg (gk - 1)
          case measure => omega
          case rel => exact ⟨i + 1, n2, m2, now2, f2, FT2, FB2, by go_num, by omega, rfl, by push_cast; omega, by omega, by omega, hide ((h6.out.to ((Below.refl _ _).alloc (Nat.le_refl _) _)).less (fun e he => (by cases he)))⟩
        | some o =>
          have hfit := h6.out.tm.fits xi o hfi
          have hn1 := h6.out.tm.n1
          have HAG := hide (ages_some h6.out.tm hfi)
          obtain ⟨ol, obg, oa⟩ := o
          obtain ⟨l0, l1, b0, bb1, a0, a1⟩ := hfit
          simp only at b0 bb1 a0 a1 HAG
          have HFI := hide hfi
          have HLK := fun W (h : All4 w W w.heap.size p hm pb now2 n2 m2 f2 f2 FT2 FB2 [(ob, 43, #[.int .i64 xk, .int .i64 xi, .int .i64 xn])]) => h.look_some HWI.out HFI.out
          have HNW := fun W (h : All4 w W w.heap.size p hm pb now2 n2 m2 f2 f2 FT2 FB2 [(ob, 43, #[.int .i64 xk, .int .i64 xi, .int .i64 xn])]) => hide (now_any h.tm)
          have HK := hide HLK
          clear hfi l0 l1 HLK
          go_wp2_with fail
          (with_reducible refine (unhide HAG).mono ?_)
          rintro e w4 ⟨rfl, kk, rfl⟩
          have h7 := h6.out.drewN kk
          obtain ⟨W9, hW9⟩ : ∃ W9, W9 = wc.drewN kk := ⟨_, rfl⟩
          rw [← hW9] at h7 ⊢
          have h8 := h7.to ((Below.refl _ _).alloc (Nat.le_refl _) (.cells #[.int .i64 xi, .int .i64 ol, .int .i64 obg, .int .i64 oa] 45))
          have hlook := HK.out _ h7
          have HN2 := HNW _ h8
          have H8 := hide h8
          have y1' : W9.cell? ⟨ob, 1, none⟩ = some (.int .i64 xi) := by rw [hW9]; exact y1
          clear hW9
          have w1 : wrap64 (now2 - obg) = now2 - obg := by unfold wrap64; omega
          have w2 : wrap64 (now2 - oa) = now2 - oa := by unfold wrap64; omega
          clear HAG h6 h7 h8 HNW HK
          go_wp2_with fail
          (with_reducible refine (unhide HN2).mono ?_)
          rintro e w5 ⟨rfl, hw5⟩
          subst hw5
          clear HN2
          go_wp2_with fail
          go_roundg (gk - 1)
          case measure => omega
          case rel => exact ⟨i + 1, n2, m2, now2, f2, FT2, FB2, by go_num, by omega, rfl, by push_cast; omega, by omega, by omega, hide (H8.out.less (fun e he => (by cases he)))⟩
    · obtain rfl : i = len := by omega
      as_aux_lemma =>
      have HAG := fun W => hide (ages_nil W 1)
      have HSN := fun W => hide (start_nil W 1 1)
      have HTN := fun W => hide (touch_nil W 1)
      have HLN := fun W => hide (limit_nil W 1 1)
      have HPN := fun W => hide (stop_nil W 1)
      have HKN := fun W => hide (tick_nil W)
      have HNN := fun W => hide (now_nil W)
      have HAP := hide (apart_Bk h3.out.bk)
      have HB := hide h3.out.below
      clear h3 HZ HZL
      go_wp2_with fail
      (with_reducible refine (unhide (HAG _)).mono ?_)
      rintro e w4 ⟨rfl, rfl⟩
      clear HAG
      go_wp2_with fail
      (with_reducible refine (unhide (HSN _)).mono ?_)
      rintro e w4 ⟨rfl, rfl⟩
      clear HSN
      go_wp2_with fail
      (with_reducible refine (unhide (HTN _)).mono ?_)
      rintro e w4 ⟨rfl, rfl⟩
      clear HTN
      go_wp2_with fail
      (with_reducible refine (unhide (HLN _)).mono ?_)
      rintro e w4 ⟨rfl, rfl⟩
      clear HLN
      go_wp2_with fail
      (with_reducible refine (unhide (HPN _)).mono ?_)
      rintro e w4 ⟨rfl, rfl⟩
      clear HPN
      go_wp2_with fail
      (with_reducible refine (unhide (HKN _)).mono ?_)
      rintro e w4 ⟨rfl, rfl⟩
      clear HKN
      go_wp2_with fail
      (with_reducible refine (unhide (HNN _)).mono ?_)
      rintro e w4 ⟨rfl, rfl⟩
      clear HNN
      go_wp2_with fail
      (with_reducible refine (unhide HAP).mono ?_)
      rintro e w8 ⟨rfl, hb8⟩
      have HEND := hide (HB.out.trans hb8)
      clear HAP hb8 HB
      go_wp2_with fail
      go_ret
      exact ⟨rfl, HEND.out⟩
end Go.Proofs.Ytbgpihengcjgeaa
