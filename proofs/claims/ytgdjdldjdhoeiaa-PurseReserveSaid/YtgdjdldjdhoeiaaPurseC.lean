/-
  The walks of PurseSums and PurseReserve.
-/
import Derived.Test.YtgdjdldjdhoeiaaPurseB
namespace Go.Proofs.Ytgdjdldjdhoeiaa
open Go.RowKit

theorem purseSums_no (b n : Int) (a2 : Option Addr) (len2 cap2 : Nat) (w : World) (hl : len2 ≤ 9223372036854775807) (h : n < 1 ∨ 8 < n ∨ 8 < len2) :
    Calls Try.prog 3 #[.int .i64 b, .int .i64 n, .slice a2 len2 cap2] w fun e w' => e = .returned (.bool true) ∧ Below w.heap.size w w' := by
  by_cases h1 : n < 1
  · go_enter Try.func3, Try.ntmps3
    go_wp2_with (go_at_call 9; refine (alive_any _).mono ?_; rintro e w' ⟨rfl, hb⟩)
    go_ret
    exact ⟨rfl, by assumption⟩
  by_cases h2 : 8 < n
  · go_enter Try.func3, Try.ntmps3
    go_wp2_with (go_at_call 9; refine (alive_any _).mono ?_; rintro e w' ⟨rfl, hb⟩)
    go_ret
    exact ⟨rfl, by assumption⟩
  have h3 : 8 < len2 := by omega
  go_enter Try.func3, Try.ntmps3
  go_wp2_with (go_at_call 9; refine (alive_any _).mono ?_; rintro e w' ⟨rfl, hb⟩)
  go_ret
  exact ⟨rfl, by assumption⟩

theorem purseSums_nil (b : Int) (n : Nat) (a2 : Option Addr) (len2 cap2 : Nat) (w : World) (h1 : 1 ≤ n) (h2 : n ≤ 8) (hl : len2 ≤ 8) (h : b < (n : Int) * 700 ∨ 40000 < b) :
    Calls Try.prog 3 #[.int .i64 b, .int .i64 (n : Int), .slice a2 len2 cap2] w fun e w' => e = .returned (.bool true) ∧ Below w.heap.size w w' := by
  have HA := hide (alive_any w)
  have HN := fun W => hide (new_no b n W (by omega))
  go_enter Try.func3, Try.ntmps3
  go_wp2_with fail
  (with_reducible refine (unhide HA).mono ?_)
  rintro e w1 ⟨rfl, hb⟩
  go_wp2_with fail
  (with_reducible refine (unhide (HN _)).mono ?_)
  rintro e w8 ⟨rfl, rfl⟩
  go_wp2_with fail
  go_ret
  exact ⟨rfl, hb⟩

set_option maxRecDepth 100000 in
set_option maxHeartbeats 1600000 in
theorem purseSums_yes (b : Int) (n : Nat) (a2 : Option Addr) (len2 cap2 : Nat) (z : List Int) (w : World) (h1 : 1 ≤ n) (h2 : n ≤ 8) (h3 : (n : Int) * 700 ≤ b) (h4 : b ≤ 40000) (hl : len2 ≤ 8) (hz : IsRow .i64 w a2 len2 cap2 z) :
    Calls Try.prog 3 #[.int .i64 b, .int .i64 (n : Int), .slice a2 len2 cap2] w fun e w' => e = .returned (.bool true) ∧ Below w.heap.size w w' := by
  have HA := hide (alive_any w)
  obtain ⟨rest, hr⟩ : ∃ rest, rest = b - (n : Int) * 700 := ⟨_, rfl⟩
  have Hr := hide hr
  have Hz := hide hz
  clear hr hz
  go_enter Try.func3, Try.ntmps3
  go_wp2_with fail
  (with_reducible refine (unhide HA).mono ?_)
  rintro e w1 ⟨rfl, hb⟩
  have HN := hide (new_at b n n w1 rfl h1 h2 h3 h4 rest Hr.out)
  have hs1 := hb.size
  clear HA
  go_wp2_with fail
  (with_reducible refine (unhide HN).mono ?_)
  rintro e w2 ⟨p, qh, qo, rfl, hp, q1, q2, q3, hb2⟩
  have hb := hb.trans (hb2.mono hb.size)
  clear HN hb2
  go_wp2_with fail
  go_loopg [8, 9, 10] n (fun g sv ov i wr => ∃ (j : Nat) (H : List Int) (O : List Bool), i = .int .i64 j ∧ j + g = n ∧ sv = .int .i64 (total H) ∧ ov = .int .i64 (overs H) ∧ H.length = n ∧ Purse wr p qh qo rest H O ∧
    (∀ k, j ≤ k → k < n → O[k]? = some false ∧ H[k]? = some 0) ∧ Below w.heap.size w wr)
  case atStart => exact ⟨0, _, _, rfl, by omega, by rw [total_zero], by rw [overs_zero], by simp, hp, fun k _ hk => by simp [hk], hb⟩
  case round =>
    clear hp hb
    obtain ⟨j, H, O, rfl, hj, rfl, rfl, hH, hp, hno, hb⟩ := hrel
    have t1 := total_le H
    have t2 := total_nonneg H hp.nonneg
    have t3 := hp.fits
    have t4 := hp.most
    have t5 := overs_nonneg H
    by_cases hlt : j < n
    · obtain ⟨hoj, hHj⟩ := hno j (Nat.le_refl _) hlt
      have hjl : j < H.length := by omega
      have hj0 : H[j] = 0 := by rw [List.getElem?_eq_getElem hjl] at hHj; simpa using hHj
      have hol : O.length = n := by rw [hp.len, hH]
      have hop : opn (O.set j true) j = true := opn_set_true O j (by omega)
      have HO := hide (open_yes hp j hoj)
      obtain ⟨T, hT⟩ : ∃ T, T = total H := ⟨_, rfl⟩
      obtain ⟨V, hV⟩ : ∃ V, V = overs H := ⟨_, rfl⟩
      rw [← hT, ← hV]
      rw [← hT] at t1 t2
      rw [← hV] at t1 t3 t5
      rw [hH] at t1
      have HX := hide (And.intro hT (And.intro hV (And.intro hj0 (And.intro hop (And.intro hH hol)))))
      have Hno := hide hno
      clear hp hT hV hj0 hoj hHj hop hno hH hol
      go_wp2_with fail
      (with_reducible refine (unhide HO).mono ?_)
      rintro e w3 ⟨rfl, hp, ho⟩
      have hb := hb.trans (ho.below hb.size (by simp; omega))
      have HO2 := hide (open_no hp j (.inr (.inr HX.out.2.2.2.1)))
      clear HO ho
      go_wp2_with fail
      (with_reducible refine (unhide HO2).mono ?_)
      rintro e w4 ⟨rfl, rfl⟩
      clear HO2
      by_cases hlen : j < len2
      · obtain ⟨b2, off2, rfl, hb2, hl2, _, hz2, hc2, _⟩ := isRow_at Hz.out (by omega)
        have cz : w4.cell? ⟨b2, off2 + j, none⟩ = some (.int .i64 (z.getD j 0)) := (hb.cell (p := ⟨b2, off2 + j, none⟩) hb2).trans (hc2 j (by omega))
        obtain ⟨zj, hzj⟩ : ∃ zj, zj = z.getD j 0 := ⟨_, rfl⟩
        rw [← hzj] at cz
        obtain ⟨m, hm, hbits⟩ := i64_and_mask zj 1023 (by omega)
        have hbits' : bits BinOp.and IntKind.i64 zj 1023 = (m : Int) := hbits
        obtain ⟨X, hX⟩ : ∃ X : Int, X = 700 + m := ⟨_, rfl⟩
        clear hbits hzj hc2 hz2
        have hXb1 : 0 ≤ X := by omega
        have hXb2 : X ≤ 1723 := by omega
        have hXX : 700 + (m : Int) = X := hX.symm
        clear hX
        cases hc : canSet rest H (O.set j true) j X with
        | true =>
          have HS := hide (set_yes hp j X (by omega) hc)
          obtain ⟨y, hy⟩ : ∃ y : Int, y = max (X - 700) 0 := ⟨_, rfl⟩
          have hmax := max_i64 (P := Try.prog) #[3, 3] 3 (X - 700) 0 y (by omega)
          have hyb : 0 ≤ y ∧ y ≤ 2000 := by omega
          obtain ⟨hyb1, hyb2⟩ := hyb
          have Hy := hide hy
          clear hc hy hp
          go_wp2_with fail
          (with_reducible refine (unhide HS).mono ?_)
          rintro e w5 ⟨rfl, hp, ho⟩
          have hb := hb.trans (ho.below hb.size (by simp; omega))
          clear HS ho
          go_wp2_with fail
          go_roundg (gk - 1)
          case measure => omega
          case rel =>
            obtain ⟨hT, hV, hj0, hop, hH, hol⟩ := HX.out
            rw [Int.toNat_natCast] at hp
            refine ⟨j + 1, H.set j ((X : Int)), O.set j true, by go_num, by omega, ?_, ?_, by rw [List.length_set]; exact hH, hp, ?_, hb⟩
            · rw [total_set H j _ hjl, hj0, ← hT]; congr 1; omega
            · rw [overs_set H j _ hjl, hj0, ← hV]; have hy := Hy.out; congr 1; omega
            · intro k hk1 hk2
              rw [List.getElem?_set_ne (by omega), List.getElem?_set_ne (by omega)]
              exact Hno.out k (by omega) hk2
        | false =>
          have HS := hide (set_no_o hp j X (by omega) hc)
          have hmax := max_i64 (P := Try.prog) #[3, 3] 3 (-700) 0 0 rfl
          clear hc hp
          go_wp2_with fail
          (with_reducible refine (unhide HS).mono ?_)
          rintro e w5 ⟨rfl, hp, ho⟩
          have hb := hb.trans (ho.below hb.size (by simp))
          clear HS ho
          go_wp2_with fail
          go_roundg (gk - 1)
          case measure => omega
          case rel =>
            obtain ⟨hT, hV, hj0, hop, hH, hol⟩ := HX.out
            refine ⟨j + 1, H, O.set j true, by go_num, by omega, ?_, ?_, hH, hp, ?_, hb⟩
            · rw [← hT]
            · rw [← hV]
            · intro k hk1 hk2
              rw [List.getElem?_set_ne (by omega)]
              exact Hno.out k (by omega) hk2
      · have hlen' : len2 ≤ j := by omega
        cases hc : canSet rest H (O.set j true) j 700 with
        | true =>
          have HS := hide (set_yes hp j 700 (by omega) hc)
          obtain ⟨y, hy⟩ : ∃ y : Int, y = max (700 - 700) 0 := ⟨_, rfl⟩
          have hmax := max_i64 (P := Try.prog) #[3, 3] 3 (0) 0 y (by omega)
          have hyb : 0 ≤ y ∧ y ≤ 2000 := by omega
          obtain ⟨hyb1, hyb2⟩ := hyb
          have Hy := hide hy
          clear hc hy hp
          go_wp2_with fail
          (with_reducible refine (unhide HS).mono ?_)
          rintro e w5 ⟨rfl, hp, ho⟩
          have hb := hb.trans (ho.below hb.size (by simp; omega))
          clear HS ho
          go_wp2_with fail
          go_roundg (gk - 1)
          case measure => omega
          case rel =>
            obtain ⟨hT, hV, hj0, hop, hH, hol⟩ := HX.out
            rw [Int.toNat_natCast] at hp
            refine ⟨j + 1, H.set j ((700 : Int)), O.set j true, by go_num, by omega, ?_, ?_, by rw [List.length_set]; exact hH, hp, ?_, hb⟩
            · rw [total_set H j _ hjl, hj0, ← hT]; congr 1; omega
            · rw [overs_set H j _ hjl, hj0, ← hV]; have hy := Hy.out; congr 1; omega
            · intro k hk1 hk2
              rw [List.getElem?_set_ne (by omega), List.getElem?_set_ne (by omega)]
              exact Hno.out k (by omega) hk2
        | false =>
          have HS := hide (set_no_o hp j 700 (by omega) hc)
          have hmax := max_i64 (P := Try.prog) #[3, 3] 3 (-700) 0 0 rfl
          clear hc hp
          go_wp2_with fail
          (with_reducible refine (unhide HS).mono ?_)
          rintro e w5 ⟨rfl, hp, ho⟩
          have hb := hb.trans (ho.below hb.size (by simp))
          clear HS ho
          go_wp2_with fail
          go_roundg (gk - 1)
          case measure => omega
          case rel =>
            obtain ⟨hT, hV, hj0, hop, hH, hol⟩ := HX.out
            refine ⟨j + 1, H, O.set j true, by go_num, by omega, ?_, ?_, hH, hp, ?_, hb⟩
            · rw [← hT]
            · rw [← hV]
            · intro k hk1 hk2
              rw [List.getElem?_set_ne (by omega)]
              exact Hno.out k (by omega) hk2
    · have HT := hide (total_any hp _ rfl)
      have HS := hide (shared_any hp (b - (n : Int) * 700 - overs H) (by rw [Hr.out]))
      have hr := Hr.out
      obtain ⟨T, hT⟩ : ∃ T, T = total H := ⟨_, rfl⟩
      obtain ⟨V, hV⟩ : ∃ V, V = overs H := ⟨_, rfl⟩
      rw [← hT] at HT t1 t2 ⊢
      rw [← hV] at HS t1 t3 t5 ⊢
      have t6 : V ≤ 40000 := by omega
      clear hp hT hV hno hr t1 t3 hH
      go_wp2_with fail
      (with_reducible refine (unhide HT).mono ?_)
      rintro e w5 ⟨rfl, rfl⟩
      go_wp2_with fail
      (with_reducible refine (unhide HS).mono ?_)
      rintro e w6 ⟨rfl, rfl⟩
      go_wp2_with fail
      go_ret
      exact ⟨rfl, hb⟩

/-! ### PurseReserve -/
theorem purseReserve_no (b n : Int) (a2 : Option Addr) (len2 cap2 : Nat) (id x : Int) (w : World) (hl : len2 ≤ 9223372036854775807) (h : n < 1 ∨ 8 < n ∨ x < 0 ∨ 700 < x ∨ 60 < len2) :
    Calls Try.prog 4 #[.int .i64 b, .int .i64 n, .slice a2 len2 cap2, .int .i64 id, .int .i64 x] w fun e w' => e = .returned (.bool true) ∧ Below w.heap.size w w' := by
  by_cases h1 : n < 1
  · go_enter Try.func4, Try.ntmps4
    go_wp2_with (go_at_call 9; refine (alive_any _).mono ?_; rintro e w' ⟨rfl, hb⟩)
    go_ret
    exact ⟨rfl, by assumption⟩
  by_cases h2 : 8 < n
  · go_enter Try.func4, Try.ntmps4
    go_wp2_with (go_at_call 9; refine (alive_any _).mono ?_; rintro e w' ⟨rfl, hb⟩)
    go_ret
    exact ⟨rfl, by assumption⟩
  by_cases h3 : x < 0
  · go_enter Try.func4, Try.ntmps4
    go_wp2_with (go_at_call 9; refine (alive_any _).mono ?_; rintro e w' ⟨rfl, hb⟩)
    go_ret
    exact ⟨rfl, by assumption⟩
  by_cases h4 : 700 < x
  · go_enter Try.func4, Try.ntmps4
    go_wp2_with (go_at_call 9; refine (alive_any _).mono ?_; rintro e w' ⟨rfl, hb⟩)
    go_ret
    exact ⟨rfl, by assumption⟩
  have h5 : 60 < len2 := by omega
  go_enter Try.func4, Try.ntmps4
  go_wp2_with (go_at_call 9; refine (alive_any _).mono ?_; rintro e w' ⟨rfl, hb⟩)
  go_ret
  exact ⟨rfl, by assumption⟩

theorem purseReserve_nil (b : Int) (n : Nat) (a2 : Option Addr) (len2 cap2 : Nat) (id x : Int) (w : World) (h1 : 1 ≤ n) (h2 : n ≤ 8) (hx1 : 0 ≤ x) (hx2 : x ≤ 700) (hl : len2 ≤ 60) (h : b < (n : Int) * 700 ∨ 40000 < b) :
    Calls Try.prog 4 #[.int .i64 b, .int .i64 (n : Int), .slice a2 len2 cap2, .int .i64 id, .int .i64 x] w fun e w' => e = .returned (.bool true) ∧ Below w.heap.size w w' := by
  have HA := hide (alive_any w)
  have HN := fun W => hide (new_no b n W (by omega))
  by_cases hb1 : b < (n : Int) * 700
  · go_enter Try.func4, Try.ntmps4
    go_wp2_with fail
    (with_reducible refine (unhide HA).mono ?_)
    rintro e w1 ⟨rfl, hb⟩
    go_wp2_with fail
    (with_reducible refine (unhide (HN _)).mono ?_)
    rintro e w8 ⟨rfl, rfl⟩
    go_wp2_with fail
    go_ret
    exact ⟨rfl, hb⟩
  · have hb2 : 40000 < b := by omega
    go_enter Try.func4, Try.ntmps4
    go_wp2_with fail
    (with_reducible refine (unhide HA).mono ?_)
    rintro e w1 ⟨rfl, hb⟩
    go_wp2_with fail
    (with_reducible refine (unhide (HN _)).mono ?_)
    rintro e w8 ⟨rfl, rfl⟩
    go_wp2_with fail
    go_ret
    exact ⟨rfl, hb⟩

set_option maxRecDepth 100000 in
set_option maxHeartbeats 1600000 in
theorem purseReserve_yes (b : Int) (n : Nat) (a2 : Option Addr) (len2 cap2 : Nat) (z : List Int) (id x : Int) (w : World) (h1 : 1 ≤ n) (h2 : n ≤ 8) (h3 : (n : Int) * 700 ≤ b) (h4 : b ≤ 40000) (hx1 : 0 ≤ x) (hx2 : x ≤ 700) (hl : len2 ≤ 60) (hz : IsRow .i64 w a2 len2 cap2 z) :
    Calls Try.prog 4 #[.int .i64 b, .int .i64 (n : Int), .slice a2 len2 cap2, .int .i64 id, .int .i64 x] w fun e w' => e = .returned (.bool true) ∧ Below w.heap.size w w' := by
  have HA := hide (alive_any w)
  obtain ⟨m, k, hm, hm1, hm2, hk, ht, he⟩ := mod_mod id n h1
  obtain ⟨rest, hr⟩ : ∃ rest, rest = b - (n : Int) * 700 := ⟨_, rfl⟩
  have hnz : n ≠ 0 := by omega
  have Hr := hide hr
  have Hz := hide hz
  clear hr hz
  go_enter Try.func4, Try.ntmps4
  go_wp2_with fail
  (with_reducible refine (unhide HA).mono ?_)
  rintro e w1 ⟨rfl, hb⟩
  have HN := hide (new_at b n n w1 rfl h1 h2 h3 h4 rest Hr.out)
  have hs1 := hb.size
  clear HA
  go_wp2_with fail
  (with_reducible refine (unhide HN).mono ?_)
  rintro e w2 ⟨p, qh, qo, rfl, hp, q1, q2, q3, hb2⟩
  have hb := hb.trans (hb2.mono hb.size)
  clear HN hb2
  go_wp2_with fail
  go_loopg [13] n (fun g i wr => ∃ (j : Nat) (O : List Bool), i = .int .i64 j ∧ j + g = n ∧ Purse wr p qh qo rest (List.replicate n 0) O ∧
    (∀ k, k < n → O[k]? = some (decide (k < j))) ∧ Below w.heap.size w wr)
  case atStart => exact ⟨0, _, rfl, by omega, hp, fun k hk => by simp [hk], hb⟩
  case round =>
    clear hp hb
    obtain ⟨j, O, rfl, hj, hp, hO, hb⟩ := hrel
    have HOO := hide hO
    clear hO
    by_cases hlt : j < n
    · have HO := hide (open_yes hp j (by rw [HOO.out j hlt]; simp))
      have hol : O.length = n := by rw [hp.len]; simp
      have Hol := hide hol
      clear hp hol
      go_wp2_with fail
      (with_reducible refine (unhide HO).mono ?_)
      rintro e w3 ⟨rfl, hp, ho⟩
      have hb := hb.trans (ho.below hb.size (by simp; omega))
      go_wp2_with fail
      go_roundg (gk - 1)
      case measure => omega
      case rel =>
        refine ⟨j + 1, _, by go_num, by omega, hp, fun k hk => ?_, hb⟩
        have hol := Hol.out
        by_cases hkj : j = k
        · subst hkj; rw [List.getElem?_set_self (by omega)]; simp
        · rw [List.getElem?_set_ne hkj, HOO.out k hk]; congr 1; rw [decide_eq_decide]; omega
    · have hall : ∀ i, i < n → O[i]? = some true := fun i hi => by rw [HOO.out i hi]; simp; omega
      have Hall := hide hall
      have HP := hide hp
      have hb1 := hb
      clear hall HOO hp
      go_wp2_with fail
      go_loopg [71] len2 (fun g i wr => ∃ (j : Nat) (H : List Int), i = .int .i64 j ∧ j + g = len2 ∧ Purse wr p qh qo rest H O ∧ H.length = n ∧ H[k]? = some 0 ∧ Below w.heap.size w wr)
      case atStart => exact ⟨0, _, rfl, by omega, HP.out, by simp, by simp [hk], hb1⟩
      case round =>
        clear hb1 HP hb
        obtain ⟨j2, H, rfl, hj2, hp, hH, hHk, hb⟩ := hrel
        by_cases hlt2 : j2 < len2
        · obtain ⟨b2, off2, rfl, hb2, hl2, _, hz2, hc2, _⟩ := isRow_at Hz.out (by omega)
          have cz : wr.cell? ⟨b2, off2 + j2, none⟩ = some (.int .i64 (z.getD j2 0)) := (hb.cell (p := ⟨b2, off2 + j2, none⟩) hb2).trans (hc2 j2 (by omega))
          obtain ⟨zj, hzj⟩ : ∃ zj, zj = z.getD j2 0 := ⟨_, rfl⟩
          rw [← hzj] at cz
          obtain ⟨mm, hmm, hbits⟩ := i64_and_mask zj 65535 (by omega)
          have hbits' : bits BinOp.and IntKind.i64 zj 65535 = (mm : Int) := hbits
          obtain ⟨kk, hkk⟩ : ∃ kk : Nat, (j2 : Int) % n = (kk : Int) := ⟨((j2 : Int) % n).toNat, by have := Int.emod_nonneg (j2 : Int) (show (n : Int) ≠ 0 by omega); omega⟩
          have hkn : kk < n := by have := Int.emod_lt_of_pos (j2 : Int) (show (0 : Int) < n by omega); omega
          have htm2 : (j2 : Int).tmod n = (kk : Int) := by rw [Int.tmod_eq_emod_of_nonneg (by omega), hkk]
          have hHX := hide (And.intro hH hHk)
          clear hbits hzj hc2 hz2 hH hHk
          by_cases hek : kk = k
          · have hne : ((kk : Int) != (k : Int)) = false := by simp [hek]
            go_wp2_with fail
            go_roundg (gk - 1)
            case measure => omega
            case rel => exact ⟨j2 + 1, H, by go_num, by omega, hp, hHX.out.1, hHX.out.2, hb⟩
          · have hne : ((kk : Int) != (k : Int)) = true := by simp; omega
            cases hc : canSet rest H O kk mm with
            | true =>
              have HS := hide (set_yes hp kk mm (by omega) hc)
              clear hc hp
              go_wp2_with fail
              (with_reducible refine (unhide HS).mono ?_)
              rintro e w5 ⟨rfl, hp, ho⟩
              have hb := hb.trans (ho.below hb.size (by simp; omega))
              go_wp2_with fail
              go_roundg (gk - 1)
              case measure => omega
              case rel => exact ⟨j2 + 1, _, by go_num, by omega, hp, by rw [List.length_set]; exact hHX.out.1, by rw [Int.toNat_natCast, List.getElem?_set_ne hek]; exact hHX.out.2, hb⟩
            | false =>
              have HS := hide (set_no_o hp kk mm (by omega) hc)
              clear hc hp
              go_wp2_with fail
              (with_reducible refine (unhide HS).mono ?_)
              rintro e w5 ⟨rfl, hp, ho⟩
              have hb := hb.trans (ho.below hb.size (by simp))
              go_wp2_with fail
              go_roundg (gk - 1)
              case measure => omega
              case rel => exact ⟨j2 + 1, _, by go_num, by omega, hp, hHX.out.1, hHX.out.2, hb⟩
        · have hop : opn O k = true := by simp [opn, Hall.out k hk]
          have hkl : k < H.length := by omega
          have hHk0 : H[k] = 0 := by rw [List.getElem?_eq_getElem hkl] at hHk; simpa using hHk
          have HS := hide (set_yes hp k x (by omega) (by
            have := hp.fits
            simp only [canSet, hop, Bool.true_and, Bool.and_eq_true, decide_eq_true_eq, Int.toNat_natCast, List.getD, hHk, Option.getD_some]
            omega))
          have HX := hide (And.intro hH (And.intro hHk0 hop))
          clear hp hH hHk0 hHk hop
          go_wp2_with fail
          (with_reducible refine (unhide HS).mono ?_)
          rintro e w5 ⟨rfl, hp, ho⟩
          have hb := hb.trans (ho.below hb.size (by simp; omega))
          obtain ⟨hH, hHk0, hop⟩ := HX.out
          have hx0 : (H.set k x).getD k 0 = x := getD_set_self _ _ _ hkl
          rw [Int.toNat_natCast] at hp
          have t1 := total_le (H.set k x)
          have t2 := hp.fits
          have t3 := overs_nonneg (H.set k x)
          have hr := Hr.out
          rw [List.length_set, hH] at t1
          have HH := hide (has_any hp k x (by rw [hasOf, hop]; simp only [if_true, Int.toNat_natCast]; rw [hx0]))
          have HT := hide (total_any hp _ rfl)
          have HL := hide (left_o hp k (max (700 - x) 0 + (rest - overs (H.set k x))) (by rw [leftOf, hop]; simp only [if_true, Int.toNat_natCast]; rw [hx0]))
          obtain ⟨T, hT⟩ : ∃ T, T = total (H.set k x) := ⟨_, rfl⟩
          obtain ⟨L, hL⟩ : ∃ L, L = max (700 - x) 0 + (rest - overs (H.set k x)) := ⟨_, rfl⟩
          rw [← hT] at HT t1
          rw [← hL] at HL
          have hTb : T ≤ b := by omega
          have hLb : 700 - x ≤ L := by omega
          clear HS ho hH hHk0 hop hx0 t1 t2 t3 hr hT hL hp
          go_wp2_with fail
          (with_reducible refine (unhide HH).mono ?_)
          rintro e w6 ⟨rfl, rfl⟩
          go_wp2_with fail
          (with_reducible refine (unhide HT).mono ?_)
          rintro e w7 ⟨rfl, rfl⟩
          go_wp2_with fail
          (with_reducible refine (unhide HL).mono ?_)
          rintro e w8 ⟨rfl, hp, ho⟩
          have hb := hb.trans (ho.below hb.size (by simp))
          go_wp2_with fail
          go_ret
          exact ⟨rfl, hb⟩
end Go.Proofs.Ytgdjdldjdhoeiaa
