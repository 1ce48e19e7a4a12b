/-
  'alive', and the walks of PurseMay, PurseCloses, PurseShares.
-/
import Derived.Test.YtgdjdldjdhoeiaaPurseA
import Derived.Test.YtgdjdldjdhoeiaaArgs
namespace Go.Proofs.Ytgdjdldjdhoeiaa
open Go.RowKit

theorem set_no_o {w : World} {p qh qo : Nat} {rest : Int} {H : List Int} {O : List Bool} (h : Purse w p qh qo rest H O) (id n : Int) (hn : n ≤ 9223372036854775807) (hc : canSet rest H O id n = false) :
    Calls Try.prog 12 #[.pointer (some ⟨p, 0, none⟩), .int .i64 id, .int .i64 n] w fun e w' => e = .returned (.bool false) ∧ Purse w' p qh qo rest H O ∧ Only [] w w' :=
  (set_no h id n hn hc).mono fun _ _ ⟨he, k, hk⟩ => by subst hk; exact ⟨he, h.drewN k, (Only.refl _ _).drewN k⟩
theorem left_o {w : World} {p qh qo : Nat} {rest : Int} {H : List Int} {O : List Bool} (h : Purse w p qh qo rest H O) (id : Int) (x : Int) (hx : x = leftOf rest H O id) :
    Calls Try.prog 16 #[.pointer (some ⟨p, 0, none⟩), .int .i64 id] w fun e w' => e = .returned (.int .i64 x) ∧ Purse w' p qh qo rest H O ∧ Only [] w w' :=
  (left_any h id x hx).mono fun _ _ ⟨he, k, hk⟩ => by subst hk; exact ⟨he, h.drewN k, (Only.refl _ _).drewN k⟩
theorem new_at (b z : Int) (n : Nat) (w : World) (hz : z = n) (h1 : 1 ≤ n) (h2 : n ≤ 8) (h3 : z * 700 ≤ b) (h4 : b ≤ 40000) (rest : Int) (hr : rest = b - z * 700) :
    Calls Try.prog 10 #[.int .i64 b, .int .i64 z] w fun e w' => ∃ p qh qo, e = .returned (.pointer (some ⟨p, 0, none⟩)) ∧ Purse w' p qh qo rest (List.replicate n 0) (List.replicate n false) ∧
      w.heap.size ≤ p ∧ w.heap.size ≤ qh ∧ w.heap.size ≤ qo ∧ Below w.heap.size w w' := by subst hz; subst hr; exact new_yes b n w h1 h2 h3 h4
theorem open_at {w : World} {p qh qo : Nat} {rest : Int} {H : List Int} {O : List Bool} (h : Purse w p qh qo rest H O) (z : Int) (i : Nat) (hz : z = i) (hi : O[i]? = some false) :
    Calls Try.prog 11 #[.pointer (some ⟨p, 0, none⟩), .int .i64 z] w fun e w' => e = .returned (.bool true) ∧ Purse w' p qh qo rest H (O.set i true) ∧ Only [qo] w w' := by subst hz; exact open_yes h i hi

theorem Only.belowB {S : List Nat} {w w' : World} {B : Nat} (h : Only S w w') (hB : B ≤ w.heap.size) (hs : ∀ k ∈ S, B ≤ k) : Below B w w' := h.below hB hs
theorem below_drewN' {B : Nat} {a w : World} (h : Below B a w) (n : Nat) : Below B a (w.drewN n) := below_drewN h n

set_option maxHeartbeats 400000 in
theorem alive_any (w : World) : Calls Try.prog 9 #[] w fun e w' => e = .returned (.bool true) ∧ Below w.heap.size w w' := by
  have HN := hide (new_at 1500 2 2 w rfl (by omega) (by omega) (by omega) (by omega) 100 rfl)
  go_enter Try.func9, Try.ntmps9
  go_wp2_with fail
  (with_reducible refine (unhide HN).mono ?_)
  rintro e w1 ⟨p, qh, qo, rfl, hp, h1, h2, h3, hb⟩
  have hp : Purse w1 p qh qo 100 [0, 0] [false, false] := hp
  have HO := hide (open_at hp 0 0 rfl rfl)
  clear HN hp
  go_wp2_with fail
  (with_reducible refine (unhide HO).mono ?_)
  rintro e w2 ⟨rfl, hp, ho⟩
  have hb := hb.trans (ho.below hb.size (by simp; omega))
  have hp : Purse w2 p qh qo 100 [0, 0] [true, false] := hp
  have HS := hide (set_yes hp 0 800 (by omega) rfl)
  clear HO hp ho
  go_wp2_with fail
  (with_reducible refine (unhide HS).mono ?_)
  rintro e w3 ⟨rfl, hp, ho⟩
  have hb := hb.trans (ho.below hb.size (by simp; omega))
  have hp : Purse w3 p qh qo 100 [800, 0] [true, false] := hp
  have HS2 := hide (set_no_o hp 0 801 (by omega) rfl)
  clear HS ho
  go_wp2_with fail
  (with_reducible refine (unhide HS2).mono ?_)
  rintro e w4 ⟨rfl, hp, ho⟩
  have hb := hb.trans (ho.below hb.size (by simp))
  have HT := hide (total_any hp 800 rfl)
  clear HS2
  go_wp2_with fail
  (with_reducible refine (unhide HT).mono ?_)
  rintro e w5 ⟨rfl, rfl⟩
  have HH := hide (shared_any hp 0 rfl)
  clear HT
  go_wp2_with fail
  (with_reducible refine (unhide HH).mono ?_)
  rintro e w6 ⟨rfl, rfl⟩
  have HL := hide (left_o hp 0 0 rfl)
  clear HH hp
  go_wp2_with fail
  (with_reducible refine (unhide HL).mono ?_)
  rintro e w7 ⟨rfl, hp, ho⟩
  have hb := hb.trans (ho.below hb.size (by simp))
  have HN2 := fun W => hide (new_no 1399 2 W (by omega))
  clear HL
  go_wp2_with fail
  (with_reducible refine (unhide (HN2 _)).mono ?_)
  rintro e w8 ⟨rfl, rfl⟩
  go_wp2_with fail
  go_ret
  exact ⟨rfl, hb⟩

/-! ### PurseMay -/
theorem purseMay_no (b n id x : Int) (w : World) (h : n < 1 ∨ 8 < n ∨ b < n * 700 ∨ 40000 < b) :
    Calls Try.prog 8 #[.int .i64 b, .int .i64 n, .int .i64 id, .int .i64 x] w fun e w' => e = .returned (.bool true) ∧ Below w.heap.size w w' := by
  have HA := hide (alive_any w)
  have HN := fun W => hide (new_no b n W h)
  by_cases h1 : n < 1
  · go_enter Try.func8, Try.ntmps8
    go_wp2_with fail
    (with_reducible refine (unhide HA).mono ?_)
    rintro e w1 ⟨rfl, hb⟩
    go_wp2_with fail
    (with_reducible refine (unhide (HN _)).mono ?_)
    rintro e w8 ⟨rfl, rfl⟩
    go_wp2_with fail
    go_ret
    exact ⟨rfl, hb⟩
  by_cases h2 : 8 < n
  · go_enter Try.func8, Try.ntmps8
    go_wp2_with fail
    (with_reducible refine (unhide HA).mono ?_)
    rintro e w1 ⟨rfl, hb⟩
    go_wp2_with fail
    (with_reducible refine (unhide (HN _)).mono ?_)
    rintro e w8 ⟨rfl, rfl⟩
    go_wp2_with fail
    go_ret
    exact ⟨rfl, hb⟩
  by_cases h3 : b < n * 700
  · go_enter Try.func8, Try.ntmps8
    go_wp2_with fail
    (with_reducible refine (unhide HA).mono ?_)
    rintro e w1 ⟨rfl, hb⟩
    go_wp2_with fail
    (with_reducible refine (unhide (HN _)).mono ?_)
    rintro e w8 ⟨rfl, rfl⟩
    go_wp2_with fail
    go_ret
    exact ⟨rfl, hb⟩
  have h4 : 40000 < b := by omega
  go_enter Try.func8, Try.ntmps8
  go_wp2_with fail
  (with_reducible refine (unhide HA).mono ?_)
  rintro e w1 ⟨rfl, hb⟩
  go_wp2_with fail
  (with_reducible refine (unhide (HN _)).mono ?_)
  rintro e w8 ⟨rfl, rfl⟩
  go_wp2_with fail
  go_ret
  exact ⟨rfl, hb⟩

theorem opn_none (n : Nat) (id : Int) : opn (List.replicate n false) id = false := by
  simp only [opn, List.getElem?_replicate]
  split <;> simp

theorem purseMay_yes (b : Int) (n : Nat) (id x : Int) (w : World) (hx : x ≤ 9223372036854775807) (h1 : 1 ≤ n) (h2 : n ≤ 8) (h3 : (n : Int) * 700 ≤ b) (h4 : b ≤ 40000) :
    Calls Try.prog 8 #[.int .i64 b, .int .i64 (n : Int), .int .i64 id, .int .i64 x] w fun e w' => e = .returned (.bool true) ∧ Below w.heap.size w w' := by
  have HA := hide (alive_any w)
  have ho := opn_none n id
  have HO := hide ho
  clear ho
  go_enter Try.func8, Try.ntmps8
  go_wp2_with fail
  (with_reducible refine (unhide HA).mono ?_)
  rintro e w1 ⟨rfl, hb⟩
  have HN := hide (new_yes b n w1 h1 h2 h3 h4)
  clear HA
  go_wp2_with fail
  (with_reducible refine (unhide HN).mono ?_)
  rintro e w2 ⟨p, qh, qo, rfl, hp, _, _, _, hb2⟩
  have hb := hb.trans (hb2.mono hb.size)
  have HS := hide (set_no_o hp id x hx (by rw [canSet, HO.out]; rfl))
  clear HN hb2
  go_wp2_with fail
  (with_reducible refine (unhide HS).mono ?_)
  rintro e w3 ⟨rfl, hp, ho⟩
  have hb := hb.trans (ho.below hb.size (by simp))
  have HH := hide (has_any hp id 0 (by rw [hasOf, HO.out]; rfl))
  clear HS
  go_wp2_with fail
  (with_reducible refine (unhide HH).mono ?_)
  rintro e w4 ⟨rfl, rfl⟩
  have HL := hide (left_o hp id 0 (by rw [leftOf, HO.out]; rfl))
  clear HH
  go_wp2_with fail
  (with_reducible refine (unhide HL).mono ?_)
  rintro e w5 ⟨rfl, hp, ho⟩
  have hb := hb.trans (ho.below hb.size (by simp))
  have HC := hide (close_no hp id HO.out)
  clear HL
  go_wp2_with fail
  (with_reducible refine (unhide HC).mono ?_)
  rintro e w6 ⟨rfl, rfl⟩
  have HT := hide (total_any hp 0 (by rw [total_zero]))
  clear HC
  go_wp2_with fail
  (with_reducible refine (unhide HT).mono ?_)
  rintro e w7 ⟨rfl, rfl⟩
  have HD := hide (shared_any hp (b - (n : Int) * 700) (by rw [overs_zero]; omega))
  clear HT
  go_wp2_with fail
  (with_reducible refine (unhide HD).mono ?_)
  rintro e w8 ⟨rfl, rfl⟩
  go_wp2_with fail
  go_ret
  exact ⟨rfl, hb⟩

/-! ### Small facts on lists -/
theorem opn_set_true (O : List Bool) (i : Nat) (h : i < O.length) : opn (O.set i true) i = true := by simp [opn, h]
theorem opn_set_false (O : List Bool) (i : Nat) : opn (O.set i false) i = false := by
  simp only [opn, Int.toNat_natCast]
  rcases Nat.lt_or_ge i O.length with h | h
  · simp [h]
  · rw [List.getElem?_eq_none (by simpa using h)]; simp
theorem getD_set_self (H : List Int) (i : Nat) (x : Int) (h : i < H.length) : (H.set i x).getD i 0 = x := by simp [List.getD, h]
theorem set_rep {α : Type} (n i : Nat) (x : α) : (List.replicate n x).set i x = List.replicate n x := by
  apply List.ext_getElem?
  intro j
  by_cases hij : i = j
  · subst hij
    rcases Nat.lt_or_ge i n with h | h
    · rw [List.getElem?_set_self (by simpa using h)]; simp [h]
    · rw [List.set_eq_of_length_le (by simpa using h)]
  · rw [List.getElem?_set_ne hij]

/-! ### PurseCloses -/
theorem purseCloses_no (b n id x : Int) (w : World) (h : n < 1 ∨ 8 < n ∨ x < 0) :
    Calls Try.prog 7 #[.int .i64 b, .int .i64 n, .int .i64 id, .int .i64 x] w fun e w' => e = .returned (.bool true) ∧ Below w.heap.size w w' := by
  by_cases h1 : n < 1
  · go_enter Try.func7, Try.ntmps7
    go_wp2_with (go_at_call 9; refine (alive_any _).mono ?_; rintro e w' ⟨rfl, hb⟩)
    go_ret
    exact ⟨rfl, by assumption⟩
  by_cases h2 : 8 < n
  · go_enter Try.func7, Try.ntmps7
    go_wp2_with (go_at_call 9; refine (alive_any _).mono ?_; rintro e w' ⟨rfl, hb⟩)
    go_ret
    exact ⟨rfl, by assumption⟩
  have h3 : x < 0 := by omega
  go_enter Try.func7, Try.ntmps7
  go_wp2_with (go_at_call 9; refine (alive_any _).mono ?_; rintro e w' ⟨rfl, hb⟩)
  go_ret
  exact ⟨rfl, by assumption⟩

theorem purseCloses_nil (b : Int) (n : Nat) (id x : Int) (w : World) (h1 : 1 ≤ n) (h2 : n ≤ 8) (hx : 0 ≤ x) (h : b < (n : Int) * 700 ∨ 40000 < b) :
    Calls Try.prog 7 #[.int .i64 b, .int .i64 (n : Int), .int .i64 id, .int .i64 x] w fun e w' => e = .returned (.bool true) ∧ Below w.heap.size w w' := by
  have HA := hide (alive_any w)
  have HN := fun W => hide (new_no b n W (by omega))
  go_enter Try.func7, Try.ntmps7
  go_wp2_with fail
  (with_reducible refine (unhide HA).mono ?_)
  rintro e w1 ⟨rfl, hb⟩
  go_wp2_with fail
  (with_reducible refine (unhide (HN _)).mono ?_)
  rintro e w8 ⟨rfl, rfl⟩
  go_wp2_with fail
  go_ret
  exact ⟨rfl, hb⟩

theorem mod_mod (id : Int) (n : Nat) (h : 1 ≤ n) : ∃ (m : Int) (k : Nat), id.tmod n = m ∧ -(n : Int) < m ∧ m < n ∧ k < n ∧ (m + n).tmod n = (k : Int) ∧ (m + n) % (n : Int) = (k : Int) := by
  have h1 : id.tmod n < n := Int.tmod_lt_of_pos _ (by omega)
  have h2 : -(n : Int) < id.tmod n := Int.lt_tmod_of_pos _ (by omega)
  have h3 : 0 ≤ (id.tmod n + n) % (n : Int) := Int.emod_nonneg _ (by omega)
  have h4 : (id.tmod n + n) % (n : Int) < n := Int.emod_lt_of_pos _ (by omega)
  exact ⟨_, ((id.tmod n + n) % (n : Int)).toNat, rfl, h2, h1, by omega, by rw [Int.tmod_eq_emod_of_nonneg (by omega)]; omega, by omega⟩

set_option maxRecDepth 100000 in
set_option maxHeartbeats 800000 in
theorem purseCloses_yes (b : Int) (n : Nat) (id x : Int) (w : World) (h1 : 1 ≤ n) (h2 : n ≤ 8) (h3 : (n : Int) * 700 ≤ b) (h4 : b ≤ 40000) (hx : 0 ≤ x) (hx2 : x ≤ 9223372036854775807) :
    Calls Try.prog 7 #[.int .i64 b, .int .i64 (n : Int), .int .i64 id, .int .i64 x] w fun e w' => e = .returned (.bool true) ∧ Below w.heap.size w w' := by
  have HA := hide (alive_any w)
  obtain ⟨m, k, hm, hm1, hm2, hk, ht, he⟩ := mod_mod id n h1
  obtain ⟨rest, hr⟩ : ∃ rest, rest = b - (n : Int) * 700 := ⟨_, rfl⟩
  have hr0 : 0 ≤ rest := by omega
  have hr1 : rest ≤ 40000 := by omega
  have hnz : n ≠ 0 := by omega
  have Hr := hide hr
  clear hr
  go_enter Try.func7, Try.ntmps7
  go_wp2_with fail
  (with_reducible refine (unhide HA).mono ?_)
  rintro e w1 ⟨rfl, hb⟩
  have HN := hide (new_at b n n w1 rfl h1 h2 h3 h4 rest Hr.out)
  have hs1 := hb.size
  clear HA
  go_wp2_with fail
  (with_reducible refine (unhide HN).mono ?_)
  rintro e w2 ⟨p, qh, qo, rfl, hp, _, _, _, hb2⟩
  have hb := hb.trans (hb2.mono hb.size)
  have HS := hide (shared_any hp rest (by rw [overs_zero]; omega))
  clear HN hb2
  go_wp2_with fail
  (with_reducible refine (unhide HS).mono ?_)
  rintro e w3 ⟨rfl, rfl⟩
  have HO := hide (open_yes hp k (by simp [hk]))
  clear HS
  go_wp2_with fail
  (with_reducible refine (unhide HO).mono ?_)
  rintro e w4 ⟨rfl, hp, ho⟩
  have hb := hb.trans (ho.below hb.size (by simp; omega))
  have hoo : opn ((List.replicate n false).set k true) k = true := opn_set_true _ _ (by simpa using hk)
  have hz0 : (List.replicate n (0 : Int)).getD k 0 = 0 := by simp [List.getD, hk]
  have HL := hide (left_o hp k (700 + rest) (by rw [leftOf, hoo, overs_zero]; simp only [if_true, Int.toNat_natCast]; rw [hz0]; omega))
  have HC := hide (show canSet rest (List.replicate n 0) ((List.replicate n false).set k true) k x = decide (x ≤ 700 + rest) by
    simp only [canSet, hoo, overs_zero, Int.toNat_natCast, hz0, decide_eq_true hx, Bool.true_and]
    rw [decide_eq_decide]; omega)
  have Hoo := hide hoo
  have Hz0 := hide hz0
  clear HO ho hoo hz0
  go_wp2_with fail
  (with_reducible refine (unhide HL).mono ?_)
  rintro e w5 ⟨rfl, hp, ho⟩
  have hb := hb.trans (ho.below hb.size (by simp))
  clear HL ho
  by_cases hle : x ≤ 700 + rest
  · have HS := hide (set_yes hp k x hx2 (by rw [HC.out]; simpa using hle))
    go_wp2_with fail
    (with_reducible refine (unhide HS).mono ?_)
    rintro e w6 ⟨rfl, hp, ho⟩
    have hb := hb.trans (ho.below hb.size (by simp; omega))
    have HD := hide (close_yes hp k (Hoo.out) x (by rw [Int.toNat_natCast, getD_set_self _ _ _ (by simpa using hk)]))
    clear HS ho
    go_wp2_with fail
    (with_reducible refine (unhide HD).mono ?_)
    rintro e w7 ⟨rfl, hp, ho⟩
    have hb := hb.trans (ho.below hb.size (by simp; omega))
    have hp : Purse w7 p qh qo rest (List.replicate n 0) (List.replicate n false) := by
      simp only [Int.toNat_natCast, List.set_set, set_rep] at hp
      exact hp
    have HD2 := hide (close_no hp k (opn_none n k))
    clear HD ho
    go_wp2_with fail
    (with_reducible refine (unhide HD2).mono ?_)
    rintro e w8 ⟨rfl, rfl⟩
    have HT := hide (total_any hp 0 (by rw [total_zero]))
    clear HD2
    go_wp2_with fail
    (with_reducible refine (unhide HT).mono ?_)
    rintro e w9 ⟨rfl, rfl⟩
    have HS := hide (shared_any hp rest (by rw [overs_zero]; omega))
    clear HT
    go_wp2_with fail
    (with_reducible refine (unhide HS).mono ?_)
    rintro e w10 ⟨rfl, rfl⟩
    have HO := hide (open_yes hp k (by simp [hk]))
    clear HS
    go_wp2_with fail
    (with_reducible refine (unhide HO).mono ?_)
    rintro e w11 ⟨rfl, hp, ho⟩
    have hb := hb.trans (ho.below hb.size (by simp; omega))
    have HH := hide (has_any hp k 0 (by rw [hasOf, Hoo.out]; simp only [if_true, Int.toNat_natCast]; rw [Hz0.out]))
    clear HO ho
    go_wp2_with fail
    (with_reducible refine (unhide HH).mono ?_)
    rintro e w12 ⟨rfl, rfl⟩
    have HL := hide (left_o hp k (700 + rest) (by rw [leftOf, Hoo.out, overs_zero]; simp only [if_true, Int.toNat_natCast]; rw [Hz0.out]; omega))
    clear HH
    go_wp2_with fail
    (with_reducible refine (unhide HL).mono ?_)
    rintro e w13 ⟨rfl, hp, ho⟩
    have hb := hb.trans (ho.below hb.size (by simp))
    go_wp2_with fail
    go_ret
    exact ⟨rfl, hb⟩
  · have HS := hide (set_no_o hp k x hx2 (by rw [HC.out]; simpa using hle))
    go_wp2_with fail
    (with_reducible refine (unhide HS).mono ?_)
    rintro e w6 ⟨rfl, hp, ho⟩
    have hb := hb.trans (ho.below hb.size (by simp))
    have HD := hide (close_yes hp k (Hoo.out) 0 (by rw [Int.toNat_natCast, Hz0.out]))
    clear HS ho
    go_wp2_with fail
    (with_reducible refine (unhide HD).mono ?_)
    rintro e w7 ⟨rfl, hp, ho⟩
    have hb := hb.trans (ho.below hb.size (by simp; omega))
    have hp : Purse w7 p qh qo rest (List.replicate n 0) (List.replicate n false) := by
      simp only [Int.toNat_natCast, List.set_set, set_rep] at hp
      exact hp
    have HD2 := hide (close_no hp k (opn_none n k))
    clear HD ho
    go_wp2_with fail
    (with_reducible refine (unhide HD2).mono ?_)
    rintro e w8 ⟨rfl, rfl⟩
    have HT := hide (total_any hp 0 (by rw [total_zero]))
    clear HD2
    go_wp2_with fail
    (with_reducible refine (unhide HT).mono ?_)
    rintro e w9 ⟨rfl, rfl⟩
    have HS := hide (shared_any hp rest (by rw [overs_zero]; omega))
    clear HT
    go_wp2_with fail
    (with_reducible refine (unhide HS).mono ?_)
    rintro e w10 ⟨rfl, rfl⟩
    have HO := hide (open_yes hp k (by simp [hk]))
    clear HS
    go_wp2_with fail
    (with_reducible refine (unhide HO).mono ?_)
    rintro e w11 ⟨rfl, hp, ho⟩
    have hb := hb.trans (ho.below hb.size (by simp; omega))
    have HH := hide (has_any hp k 0 (by rw [hasOf, Hoo.out]; simp only [if_true, Int.toNat_natCast]; rw [Hz0.out]))
    clear HO ho
    go_wp2_with fail
    (with_reducible refine (unhide HH).mono ?_)
    rintro e w12 ⟨rfl, rfl⟩
    have HL := hide (left_o hp k (700 + rest) (by rw [leftOf, Hoo.out, overs_zero]; simp only [if_true, Int.toNat_natCast]; rw [Hz0.out]; omega))
    clear HH
    go_wp2_with fail
    (with_reducible refine (unhide HL).mono ?_)
    rintro e w13 ⟨rfl, hp, ho⟩
    have hb := hb.trans (ho.below hb.size (by simp))
    go_wp2_with fail
    go_ret
    exact ⟨rfl, hb⟩

/-! ### PurseShares -/
theorem purseShares_no (m a b : Int) (w : World) (h : m < 0 ∨ 5000 < m ∨ a < 0 ∨ b < 0 ∨ 6000 < a ∨ 6000 < b) :
    Calls Try.prog 5 #[.int .i64 m, .int .i64 a, .int .i64 b] w fun e w' => e = .returned (.bool true) ∧ Below w.heap.size w w' := by
  by_cases h1 : m < 0
  · go_enter Try.func5, Try.ntmps5
    go_wp2_with (go_at_call 9; refine (alive_any _).mono ?_; rintro e w' ⟨rfl, hb⟩)
    go_ret
    exact ⟨rfl, by assumption⟩
  by_cases h2 : 5000 < m
  · go_enter Try.func5, Try.ntmps5
    go_wp2_with (go_at_call 9; refine (alive_any _).mono ?_; rintro e w' ⟨rfl, hb⟩)
    go_ret
    exact ⟨rfl, by assumption⟩
  by_cases h3 : a < 0
  · go_enter Try.func5, Try.ntmps5
    go_wp2_with (go_at_call 9; refine (alive_any _).mono ?_; rintro e w' ⟨rfl, hb⟩)
    go_ret
    exact ⟨rfl, by assumption⟩
  by_cases h4 : b < 0
  · go_enter Try.func5, Try.ntmps5
    go_wp2_with (go_at_call 9; refine (alive_any _).mono ?_; rintro e w' ⟨rfl, hb⟩)
    go_ret
    exact ⟨rfl, by assumption⟩
  by_cases h5 : 6000 < a
  · go_enter Try.func5, Try.ntmps5
    go_wp2_with (go_at_call 9; refine (alive_any _).mono ?_; rintro e w' ⟨rfl, hb⟩)
    go_ret
    exact ⟨rfl, by assumption⟩
  have h6 : 6000 < b := by omega
  go_enter Try.func5, Try.ntmps5
  go_wp2_with (go_at_call 9; refine (alive_any _).mono ?_; rintro e w' ⟨rfl, hb⟩)
  go_ret
  exact ⟨rfl, by assumption⟩

set_option maxRecDepth 100000 in
set_option maxHeartbeats 800000 in
theorem purseShares_yes (m a b : Int) (w : World) (h0 : 0 ≤ m) (h1 : m ≤ 5000) (h2 : 0 ≤ a) (h3 : a ≤ 6000) (h4 : 0 ≤ b) (h5 : b ≤ 6000) :
    Calls Try.prog 5 #[.int .i64 m, .int .i64 a, .int .i64 b] w fun e w' => e = .returned (.bool true) ∧ Below w.heap.size w w' := by
  have HA := hide (alive_any w)
  obtain ⟨u, hu⟩ : ∃ u, u = max (a - 700) 0 := ⟨_, rfl⟩
  have hmax := max_i64 (P := Try.prog) #[3, 3] 3 (a - 700) 0 u hu
  have hu0 : 0 ≤ u := by omega
  have hu1 : u ≤ 6000 := by omega
  have Hu := hide hu
  clear hu
  go_enter Try.func5, Try.ntmps5
  go_wp2_with fail
  (with_reducible refine (unhide HA).mono ?_)
  rintro e w1 ⟨rfl, hb⟩
  have HN := hide (new_at (1400 + m) 2 2 w1 rfl (by omega) (by omega) (by omega) (by omega) m (by omega))
  have hs1 := hb.size
  clear HA
  go_wp2_with fail
  (with_reducible refine (unhide HN).mono ?_)
  rintro e w2 ⟨p, qh, qo, rfl, hp, _, _, _, hb2⟩
  have hb := hb.trans (hb2.mono hb.size)
  have hp : Purse w2 p qh qo m [0, 0] [false, false] := hp
  have HO := hide (open_at hp 0 0 rfl rfl)
  clear HN hb2
  go_wp2_with fail
  (with_reducible refine (unhide HO).mono ?_)
  rintro e w3 ⟨rfl, hp, ho⟩
  have hb := hb.trans (ho.below hb.size (by simp; omega))
  have hp : Purse w3 p qh qo m [0, 0] [true, false] := hp
  have HO2 := hide (open_at hp 1 1 rfl rfl)
  clear HO ho
  go_wp2_with fail
  (with_reducible refine (unhide HO2).mono ?_)
  rintro e w4 ⟨rfl, hp, ho⟩
  have hb := hb.trans (ho.below hb.size (by simp; omega))
  have hp : Purse w4 p qh qo m [0, 0] [true, true] := hp
  clear HO2 ho
  by_cases hla : a ≤ 700 + m
  · have HS := hide (set_yes hp 0 a (by omega) (by simp [canSet, opn, overs]; omega))
    go_wp2_with fail
    (with_reducible refine (unhide HS).mono ?_)
    rintro e w5 ⟨rfl, hp, ho⟩
    have hb := hb.trans (ho.below hb.size (by simp; omega))
    obtain ⟨x0, hx0⟩ : ∃ x0, x0 = a := ⟨_, rfl⟩
    have hp : Purse w5 p qh qo m [x0, 0] [true, true] := by rw [hx0]; exact hp
    have Hx0 := hide hx0
    clear HS ho hx0
    by_cases hlb : b ≤ 700 + m - u
    · have HS := hide (set_yes hp 1 b (by omega) (by have := Hu.out; have := Hx0.out; simp [canSet, opn, overs]; omega))
      go_wp2_with fail
      (with_reducible refine (unhide HS).mono ?_)
      rintro e w6 ⟨rfl, hp, ho⟩
      have hb := hb.trans (ho.below hb.size (by simp; omega))
      obtain ⟨x1, hx1⟩ : ∃ x1, x1 = b := ⟨_, rfl⟩
      have hp : Purse w6 p qh qo m [x0, x1] [true, true] := by rw [hx1]; exact hp
      clear HS ho hx1
      have HD := hide (shared_any hp _ rfl)
      have hsh := hp.fits
      have hsm := hp.most
      have hov := overs_nonneg [x0, x1]
      obtain ⟨y, hy⟩ : ∃ y, y = m - overs [x0, x1] := ⟨_, rfl⟩
      rw [← hy] at HD
      have hy0 : 0 ≤ y := by omega
      clear hy hsh hsm hov
      go_wp2_with fail
      (with_reducible refine (unhide HD).mono ?_)
      rintro e w7 ⟨rfl, rfl⟩
      have HC := hide (close_yes hp 0 rfl x0 rfl)
      clear HD
      go_wp2_with fail
      (with_reducible refine (unhide HC).mono ?_)
      rintro e w8 ⟨rfl, hp, ho⟩
      have hb := hb.trans (ho.below hb.size (by simp; omega))
      have hp : Purse w8 p qh qo m [0, x1] [false, true] := hp
      have HS := hide (set_yes hp 1 (700 + m) (by omega) (by simp [canSet, opn, overs]; omega))
      clear HC ho
      go_wp2_with fail
      (with_reducible refine (unhide HS).mono ?_)
      rintro e w9 ⟨rfl, hp, ho⟩
      have hb := hb.trans (ho.below hb.size (by simp; omega))
      have hp : Purse w9 p qh qo m [0, 700 + m] [false, true] := hp
      have HS2 := hide (set_no_o hp 1 (700 + m + 1) (by omega) (by simp [canSet, opn, overs]; omega))
      clear HS ho
      go_wp2_with fail
      (with_reducible refine (unhide HS2).mono ?_)
      rintro e w10 ⟨rfl, hp, ho⟩
      have hb := hb.trans (ho.below hb.size (by simp))
      go_wp2_with fail
      go_ret
      exact ⟨rfl, hb⟩
    · have HS := hide (set_no_o hp 1 b (by omega) (by have := Hu.out; have := Hx0.out; simp [canSet, opn, overs]; omega))
      go_wp2_with fail
      (with_reducible refine (unhide HS).mono ?_)
      rintro e w6 ⟨rfl, hp, ho⟩
      have hb := hb.trans (ho.below hb.size (by simp))
      obtain ⟨x1, hx1⟩ : ∃ x1 : Int, x1 = 0 := ⟨_, rfl⟩
      have hp : Purse w6 p qh qo m [x0, x1] [true, true] := by rw [hx1]; exact hp
      clear HS ho hx1
      have HD := hide (shared_any hp _ rfl)
      have hsh := hp.fits
      have hsm := hp.most
      have hov := overs_nonneg [x0, x1]
      obtain ⟨y, hy⟩ : ∃ y, y = m - overs [x0, x1] := ⟨_, rfl⟩
      rw [← hy] at HD
      have hy0 : 0 ≤ y := by omega
      clear hy hsh hsm hov
      go_wp2_with fail
      (with_reducible refine (unhide HD).mono ?_)
      rintro e w7 ⟨rfl, rfl⟩
      have HC := hide (close_yes hp 0 rfl x0 rfl)
      clear HD
      go_wp2_with fail
      (with_reducible refine (unhide HC).mono ?_)
      rintro e w8 ⟨rfl, hp, ho⟩
      have hb := hb.trans (ho.below hb.size (by simp; omega))
      have hp : Purse w8 p qh qo m [0, x1] [false, true] := hp
      have HS := hide (set_yes hp 1 (700 + m) (by omega) (by simp [canSet, opn, overs]; omega))
      clear HC ho
      go_wp2_with fail
      (with_reducible refine (unhide HS).mono ?_)
      rintro e w9 ⟨rfl, hp, ho⟩
      have hb := hb.trans (ho.below hb.size (by simp; omega))
      have hp : Purse w9 p qh qo m [0, 700 + m] [false, true] := hp
      have HS2 := hide (set_no_o hp 1 (700 + m + 1) (by omega) (by simp [canSet, opn, overs]; omega))
      clear HS ho
      go_wp2_with fail
      (with_reducible refine (unhide HS2).mono ?_)
      rintro e w10 ⟨rfl, hp, ho⟩
      have hb := hb.trans (ho.below hb.size (by simp))
      go_wp2_with fail
      go_ret
      exact ⟨rfl, hb⟩
  · have HS := hide (set_no_o hp 0 a (by omega) (by simp [canSet, opn, overs]; omega))
    go_wp2_with fail
    (with_reducible refine (unhide HS).mono ?_)
    rintro e w5 ⟨rfl, hp, ho⟩
    have hb := hb.trans (ho.below hb.size (by simp))
    obtain ⟨x0, hx0⟩ : ∃ x0 : Int, x0 = 0 := ⟨_, rfl⟩
    have hp : Purse w5 p qh qo m [x0, 0] [true, true] := by rw [hx0]; exact hp
    have Hx0 := hide hx0
    clear HS ho hx0
    by_cases hlb : b ≤ 700 + m - 0
    · have HS := hide (set_yes hp 1 b (by omega) (by have := Hu.out; have := Hx0.out; simp [canSet, opn, overs]; omega))
      go_wp2_with fail
      (with_reducible refine (unhide HS).mono ?_)
      rintro e w6 ⟨rfl, hp, ho⟩
      have hb := hb.trans (ho.below hb.size (by simp; omega))
      obtain ⟨x1, hx1⟩ : ∃ x1, x1 = b := ⟨_, rfl⟩
      have hp : Purse w6 p qh qo m [x0, x1] [true, true] := by rw [hx1]; exact hp
      clear HS ho hx1
      have HD := hide (shared_any hp _ rfl)
      have hsh := hp.fits
      have hsm := hp.most
      have hov := overs_nonneg [x0, x1]
      obtain ⟨y, hy⟩ : ∃ y, y = m - overs [x0, x1] := ⟨_, rfl⟩
      rw [← hy] at HD
      have hy0 : 0 ≤ y := by omega
      clear hy hsh hsm hov
      go_wp2_with fail
      (with_reducible refine (unhide HD).mono ?_)
      rintro e w7 ⟨rfl, rfl⟩
      have HC := hide (close_yes hp 0 rfl x0 rfl)
      clear HD
      go_wp2_with fail
      (with_reducible refine (unhide HC).mono ?_)
      rintro e w8 ⟨rfl, hp, ho⟩
      have hb := hb.trans (ho.below hb.size (by simp; omega))
      have hp : Purse w8 p qh qo m [0, x1] [false, true] := hp
      have HS := hide (set_yes hp 1 (700 + m) (by omega) (by simp [canSet, opn, overs]; omega))
      clear HC ho
      go_wp2_with fail
      (with_reducible refine (unhide HS).mono ?_)
      rintro e w9 ⟨rfl, hp, ho⟩
      have hb := hb.trans (ho.below hb.size (by simp; omega))
      have hp : Purse w9 p qh qo m [0, 700 + m] [false, true] := hp
      have HS2 := hide (set_no_o hp 1 (700 + m + 1) (by omega) (by simp [canSet, opn, overs]; omega))
      clear HS ho
      go_wp2_with fail
      (with_reducible refine (unhide HS2).mono ?_)
      rintro e w10 ⟨rfl, hp, ho⟩
      have hb := hb.trans (ho.below hb.size (by simp))
      go_wp2_with fail
      go_ret
      exact ⟨rfl, hb⟩
    · have HS := hide (set_no_o hp 1 b (by omega) (by have := Hu.out; have := Hx0.out; simp [canSet, opn, overs]; omega))
      go_wp2_with fail
      (with_reducible refine (unhide HS).mono ?_)
      rintro e w6 ⟨rfl, hp, ho⟩
      have hb := hb.trans (ho.below hb.size (by simp))
      obtain ⟨x1, hx1⟩ : ∃ x1 : Int, x1 = 0 := ⟨_, rfl⟩
      have hp : Purse w6 p qh qo m [x0, x1] [true, true] := by rw [hx1]; exact hp
      clear HS ho hx1
      have HD := hide (shared_any hp _ rfl)
      have hsh := hp.fits
      have hsm := hp.most
      have hov := overs_nonneg [x0, x1]
      obtain ⟨y, hy⟩ : ∃ y, y = m - overs [x0, x1] := ⟨_, rfl⟩
      rw [← hy] at HD
      have hy0 : 0 ≤ y := by omega
      clear hy hsh hsm hov
      go_wp2_with fail
      (with_reducible refine (unhide HD).mono ?_)
      rintro e w7 ⟨rfl, rfl⟩
      have HC := hide (close_yes hp 0 rfl x0 rfl)
      clear HD
      go_wp2_with fail
      (with_reducible refine (unhide HC).mono ?_)
      rintro e w8 ⟨rfl, hp, ho⟩
      have hb := hb.trans (ho.below hb.size (by simp; omega))
      have hp : Purse w8 p qh qo m [0, x1] [false, true] := hp
      have HS := hide (set_yes hp 1 (700 + m) (by omega) (by simp [canSet, opn, overs]; omega))
      clear HC ho
      go_wp2_with fail
      (with_reducible refine (unhide HS).mono ?_)
      rintro e w9 ⟨rfl, hp, ho⟩
      have hb := hb.trans (ho.below hb.size (by simp; omega))
      have hp : Purse w9 p qh qo m [0, 700 + m] [false, true] := hp
      have HS2 := hide (set_no_o hp 1 (700 + m + 1) (by omega) (by simp [canSet, opn, overs]; omega))
      clear HS ho
      go_wp2_with fail
      (with_reducible refine (unhide HS2).mono ?_)
      rintro e w10 ⟨rfl, hp, ho⟩
      have hb := hb.trans (ho.below hb.size (by simp))
      go_wp2_with fail
      go_ret
      exact ⟨rfl, hb⟩
end Go.Proofs.Ytgdjdldjdhoeiaa
