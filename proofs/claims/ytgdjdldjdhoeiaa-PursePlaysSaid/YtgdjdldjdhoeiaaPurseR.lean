/-
  The document's own purse (truchmanref17), over the same lists.
-/
import Derived.Test.YtgdjdldjdhoeiaaPurseB
namespace Go.Proofs.Ytgdjdldjdhoeiaa
open Go.RowKit

structure RPurse (w : World) (p qo qh : Nat) (b rest : Int) (H : List Int) (O : List Bool) : Prop where
  len : O.length = H.length
  few : H.length ≤ 8
  nonneg : ∀ x ∈ H, 0 ≤ x
  fits : overs H ≤ rest
  most : rest ≤ 40000
  bud : b = rest + H.length * 700
  bp : Blk w p 40 #[.int .i64 b, .int .i64 H.length, .slice (some ⟨qo, 0, none⟩) H.length H.length, .slice (some ⟨qh, 0, none⟩) H.length H.length]
  bo : Blk w qo 4 (boolsV O)
  bh : Blk w qh 3 (intsV H)

theorem RPurse.keep {w w' : World} {p qo qh : Nat} {b rest : Int} {H : List Int} {O : List Bool} (h : RPurse w p qo qh b rest H O) {S : List Nat} (ho : Only S w w') (h1 : p ∉ S) (h2 : qo ∉ S) (h3 : qh ∉ S) : RPurse w' p qo qh b rest H O :=
  ⟨h.len, h.few, h.nonneg, h.fits, h.most, h.bud, ho.blk h.bp h1, ho.blk h.bo h2, ho.blk h.bh h3⟩
theorem RPurse.drewN {w : World} {p qo qh : Nat} {b rest : Int} {H : List Int} {O : List Bool} (h : RPurse w p qo qh b rest H O) (n : Nat) : RPurse (w.drewN n) p qo qh b rest H O :=
  ⟨h.len, h.few, h.nonneg, h.fits, h.most, h.bud, h.bp, h.bo, h.bh⟩
theorem RPurse.at_ {w W : World} {p qo qh : Nat} {b rest : Int} {H : List Int} {O : List Bool} (h : RPurse w p qo qh b rest H O) (hW : W.heap = w.heap) : RPurse W p qo qh b rest H O :=
  ⟨h.len, h.few, h.nonneg, h.fits, h.most, h.bud, (by unfold Blk; rw [hW]; exact h.bp), (by unfold Blk; rw [hW]; exact h.bo), (by unfold Blk; rw [hW]; exact h.bh)⟩
theorem RPurse.apart {w : World} {p qo qh : Nat} {b rest : Int} {H : List Int} {O : List Bool} (h : RPurse w p qo qh b rest H O) : p ≠ qo ∧ p ≠ qh ∧ qo ≠ qh :=
  ⟨h.bp.ne_ h.bo (by decide), h.bp.ne_ h.bh (by decide), h.bo.ne_ h.bh (by decide)⟩
theorem RPurse.le {w : World} {p qo qh : Nat} {b rest : Int} {H : List Int} {O : List Bool} (h : RPurse w p qo qh b rest H O) (i : Nat) (hi : i < H.length) : 0 ≤ H[i] ∧ H[i] ≤ 40700 := by
  have h1 := h.nonneg _ (List.getElem_mem hi)
  have h2 := each_le H _ (List.getElem_mem hi)
  have := h.fits; have := h.most
  omega

theorem is_r {w : World} {p qo qh : Nat} {bud rest : Int} {H : List Int} {O : List Bool} (h : RPurse w p qo qh bud rest H O) (id : Int) (b : Bool) (hb : opn O id = b) :
    Calls Try.prog 19 #[.pointer (some ⟨p, 0, none⟩), .int .i64 id] w fun e w' => e = .returned (.bool b) ∧ w' = w := by
  have hl := h.len
  have hf := h.few
  have c1 := h.bp.cellv 1 _ rfl
  have c2 := h.bp.cellv 2 _ rfl
  have bo := h.bo
  clear h
  by_cases h0 : id < 0
  · have hbf : b = false := by rw [← hb]; simp [opn]; intro h; omega
    subst hbf
    clear hb
    go_enter Try.func19, Try.ntmps19
    go_wp2
    go_ret
    exact ⟨rfl, rfl⟩
  obtain ⟨i, rfl⟩ := Int.eq_ofNat_of_zero_le (show 0 ≤ id by omega)
  by_cases h1 : H.length ≤ i
  · have hbf : b = false := by rw [← hb]; simp [opn, List.getElem?_eq_none (show O.length ≤ i by omega)]
    subst hbf
    clear hb hl
    go_enter Try.func19, Try.ntmps19
    go_wp2
    go_ret
    exact ⟨rfl, rfl⟩
  have hbt : O[i]'(by omega) = b := by rw [← hb]; simp [opn, List.getElem?_eq_getElem (show i < O.length by omega)]
  have ci := bo.cellv i (.bool b) (by rw [boolsV_get, List.getElem?_eq_getElem (by omega)]; simp [hbt])
  have h2 : i < H.length := by omega
  clear hb hl hbt bo
  go_enter Try.func19, Try.ntmps19
  go_wp2
  go_ret
  exact ⟨rfl, rfl⟩

theorem shared_r {w : World} {p qo qh : Nat} {bud rest : Int} {H : List Int} {O : List Bool} (h : RPurse w p qo qh bud rest H O) (x : Int) (hx : x = rest - overs H) :
    Calls Try.prog 23 #[.pointer (some ⟨p, 0, none⟩)] w fun e w' => e = .returned (.int .i64 x) ∧ ∃ n, w' = w.drewN n := by
  have hf := h.few
  have c0 := h.bp.cellv 0 _ rfl
  have c1 := h.bp.cellv 1 _ rfl
  have c3 := h.bp.cellv 3 _ rfl
  have hfit := h.fits
  have hmost := h.most
  have h0 := overs_nonneg H
  have hle := h.le
  have bh := h.bh
  have hbud := h.bud
  have Hx := hide hx
  have hw1 : IntKind.i64.wrap ((H.length : Int) * 700) = H.length * 700 := IntWalk.i64_in _ ⟨by omega, by omega⟩
  have hw2 : IntKind.i64.wrap (bud - (H.length : Int) * 700) = rest := by rw [show bud - (H.length : Int) * 700 = rest by omega]; exact IntWalk.i64_in _ ⟨by omega, by omega⟩
  clear h hx hbud
  go_enter Try.func23, Try.ntmps23
  go_wp2_with fail
  go_quiet (fail)
  go_wp2_with fail
  go_loopg [3, 4] H.length (fun g v i wr => ∃ j : Nat, i = .int .i64 j ∧ j + g = H.length ∧ wr = w.drewN nq ∧ v = .int .i64 (rest - overs (H.take j)))
  case atStart => exact ⟨0, rfl, by omega, rfl, by simp [overs]⟩
  case round =>
    obtain ⟨j, rfl, hj, rfl, rfl⟩ := hrel
    have ht := overs_take_le H j
    have hn := overs_nonneg (H.take j)
    by_cases hlt : j < H.length
    · have ci := bh.cellv j (.int .i64 H[j]) (by rw [intsV_get, List.getElem?_eq_getElem hlt]; rfl)
      have hb := hle j hlt
      obtain ⟨a, ha⟩ : ∃ a, a = H[j] := ⟨_, rfl⟩
      obtain ⟨s, hs⟩ : ∃ s, s = overs (H.take j) := ⟨_, rfl⟩
      obtain ⟨u, hu⟩ : ∃ u, u = max (a - 700) 0 := ⟨_, rfl⟩
      have hsn : overs (H.take (j + 1)) = s + u := by rw [take_snoc _ _ hlt, overs_snoc, ← ha, ← hs, hu]
      have ht2 := overs_take_le H (j + 1)
      rw [hsn] at ht2
      rw [← ha] at ci hb
      rw [← hs] at ht hn ⊢
      have hmax := max_i64 (P := Try.prog) #[3, 3] 3 (a - 700) 0 u hu
      obtain ⟨hb1, hb2⟩ := hb
      have hu1 : 0 ≤ u := by omega
      have hu2 : u ≤ 40700 := by omega
      have hw3 : IntKind.i64.wrap (a - 700) = a - 700 := IntWalk.i64_in _ ⟨by omega, by omega⟩
      have hw4 : IntKind.i64.wrap (rest - s - u) = rest - (s + u) := by rw [show rest - s - u = rest - (s + u) by omega]; exact IntWalk.i64_in _ ⟨by omega, by omega⟩
      have hlt' : (j : Int) < H.length := by omega
      have Hs := hide hsn
      clear hsn ha hs hle hu
      go_wp2_with fail
      go_roundg (gk - 1)
      case measure => omega
      case rel => exact ⟨j + 1, by go_num, by omega, rfl, by rw [Hs.out]⟩
    · have hj2 : j = H.length := by omega
      subst hj2
      have hx := Hx.out
      rw [List.take_length] at *
      rw [← hx]
      clear hx Hx
      go_wp2_with fail
      go_ret
      exact ⟨rfl, _, rfl⟩

theorem total_r {w : World} {p qo qh : Nat} {bud rest : Int} {H : List Int} {O : List Bool} (h : RPurse w p qo qh bud rest H O) (x : Int) (hx : x = total H) :
    Calls Try.prog 22 #[.pointer (some ⟨p, 0, none⟩)] w fun e w' => e = .returned (.int .i64 x) ∧ w' = w := by
  have hf := h.few
  have c1 := h.bp.cellv 1 _ rfl
  have c3 := h.bp.cellv 3 _ rfl
  have hT := total_le H
  have hfit := h.fits
  have hmost := h.most
  have hle := h.le
  have bh := h.bh
  have hnn := h.nonneg
  have Hx := hide hx
  clear h hx
  go_enter Try.func22, Try.ntmps22
  go_wp2_with fail
  go_loopg [3, 4] H.length (fun g v i wr => ∃ j : Nat, i = .int .i64 j ∧ j + g = H.length ∧ wr = w ∧ v = .int .i64 (total (H.take j)))
  case atStart => exact ⟨0, rfl, by omega, rfl, rfl⟩
  case round =>
    obtain ⟨j, rfl, hj, rfl, rfl⟩ := hrel
    have ht := total_take_le H hnn j
    have hn := total_nonneg (H.take j) (fun x hx => hnn x (List.mem_of_mem_take hx))
    by_cases hlt : j < H.length
    · have ci := bh.cellv j (.int .i64 H[j]) (by rw [intsV_get, List.getElem?_eq_getElem hlt]; rfl)
      have hb := hle j hlt
      obtain ⟨a, ha⟩ : ∃ a, a = H[j] := ⟨_, rfl⟩
      obtain ⟨s, hs⟩ : ∃ s, s = total (H.take j) := ⟨_, rfl⟩
      have hsn : total (H.take (j + 1)) = s + a := by rw [take_snoc _ _ hlt, total_snoc, ← ha, ← hs]
      rw [← ha] at ci hb
      rw [← hs] at ht hn ⊢
      have hlt' : (j : Int) < H.length := by omega
      have Hs := hide hsn
      have Hn := hide hnn
      clear hsn ha hs hle hnn
      go_wp2_with fail
      go_roundg (gk - 1)
      case measure => omega
      case rel => exact ⟨j + 1, by go_num, by omega, rfl, by rw [Hs.out]⟩
    · have hj2 : j = H.length := by omega
      subst hj2
      have hx := Hx.out
      rw [List.take_length] at *
      rw [← hx]
      clear hx Hx hnn
      go_wp2_with fail
      go_ret
      exact ⟨rfl, rfl⟩

theorem left_r {w : World} {p qo qh : Nat} {bud rest : Int} {H : List Int} {O : List Bool} (h : RPurse w p qo qh bud rest H O) (id : Int) (x : Int) (hx : x = leftOf rest H O id) :
    Calls Try.prog 21 #[.pointer (some ⟨p, 0, none⟩), .int .i64 id] w fun e w' => e = .returned (.int .i64 x) ∧ ∃ n, w' = w.drewN n := by
  cases hb : opn O id with
  | false =>
    have hx0 : x = 0 := by rw [hx, leftOf, hb]; rfl
    subst hx0
    have HI := hide (is_r h id false hb)
    clear h hb hx
    go_enter Try.func21, Try.ntmps21
    go_wp2_with fail
    (with_reducible refine (unhide HI).mono ?_)
    rintro e w' ⟨rfl, rfl⟩
    go_wp2_with fail
    go_ret
    exact ⟨rfl, 0, rfl⟩
  | true =>
    obtain ⟨h0, h1⟩ := opn_lt hb
    have HI := hide (is_r h id true hb)
    obtain ⟨i, rfl⟩ := Int.eq_ofNat_of_zero_le h0
    rw [Int.toNat_natCast] at h1
    have h2 : i < H.length := by have := h.len; omega
    obtain ⟨a, ha⟩ : ∃ a, a = H[i] := ⟨_, rfl⟩
    have hab := h.le i h2
    rw [← ha] at hab
    have hx0 : x = max (700 - a) 0 + (rest - overs H) := by rw [hx, leftOf, hb]; simp [List.getD, List.getElem?_eq_getElem h2, ha]
    have hf := h.few
    have hfit := h.fits
    have hmost := h.most
    have hon := overs_nonneg H
    have c3 := h.bp.cellv 3 _ rfl
    have ci := h.bh.cellv i (.int .i64 a) (by rw [intsV_get, List.getElem?_eq_getElem h2, ha]; rfl)
    obtain ⟨y, hy⟩ : ∃ y, y = rest - overs H := ⟨_, rfl⟩
    have HS := fun W (hW : W.heap = w.heap) => shared_r (w := W) (h.at_ hW) y hy
    obtain ⟨m, hm⟩ : ∃ m, m = max (700 - a) 0 := ⟨_, rfl⟩
    have hmax := max_i64 (P := Try.prog) #[3, 3] 3 (700 - a) 0 m hm
    have hxy : x = m + y := by omega
    have hyb1 : 0 ≤ y := by omega
    have hyb2 : y ≤ 40000 := by omega
    have hmb1 : 0 ≤ m := by omega
    have hmb2 : m ≤ 700 := by omega
    obtain ⟨hab1, hab2⟩ := hab
    have hw1 : IntKind.i64.wrap (700 - a) = 700 - a := IntWalk.i64_in _ ⟨by omega, by omega⟩
    have hw2 : IntKind.i64.wrap (m + y) = m + y := IntWalk.i64_in _ ⟨by omega, by omega⟩
    have hil : (i : Int) < H.length := by omega
    subst hxy
    have HS := hide HS
    clear h hb hx hx0 h1 hy hm ha hfit hon
    go_enter Try.func21, Try.ntmps21
    go_wp2_with fail
    (with_reducible refine (unhide HI).mono ?_)
    rintro e w' ⟨rfl, rfl⟩
    go_wp2_with fail
    go_quiet ((go_at_call 23; exact Calls.quiet_of (unhide HS _ rfl)))
    go_wp2_with fail
    go_ret
    exact ⟨rfl, _, rfl⟩

theorem rpurse_set {w : World} {p qo qh : Nat} {b rest : Int} {H : List Int} {O : List Bool} (h : RPurse w p qo qh b rest H O) (i : Nat) (n : Int) (hi : i < H.length) (hn : 0 ≤ n)
    (hle : max (n - 700) 0 ≤ rest - overs H + max (H[i] - 700) 0) : RPurse (w.setCell ⟨qh, i, none⟩ (.int .i64 n)) p qo qh b rest (H.set i n) O := by
  have ha := h.apart
  refine ⟨by rw [List.length_set]; exact h.len, by rw [List.length_set]; exact h.few, fun x hx => ?_, by rw [overs_set H i n hi]; omega, h.most, by rw [List.length_set]; exact h.bud, ?_, h.bo.far ha.2.2 _, ?_⟩
  · rcases List.mem_or_eq_of_mem_set hx with hx | rfl
    · exact h.nonneg x hx
    · exact hn
  · rw [List.length_set]; exact h.bp.far ha.2.1 _
  · have := h.bh.set_ i (.int .i64 n); rw [intsV_set] at this; exact this

theorem rpurse_open {w : World} {p qo qh : Nat} {b rest : Int} {H : List Int} {O : List Bool} (h : RPurse w p qo qh b rest H O) (i : Nat) (x : Bool) :
    RPurse (w.setCell ⟨qo, i, none⟩ (.bool x)) p qo qh b rest H (O.set i x) := by
  have ha := h.apart
  refine ⟨by rw [List.length_set]; exact h.len, h.few, h.nonneg, h.fits, h.most, h.bud, h.bp.far ha.1 _, ?_, h.bh.far ha.2.2.symm _⟩
  have := h.bo.set_ i (.bool x); rw [boolsV_set] at this; exact this

theorem set_r_no {w : World} {p qo qh : Nat} {bud rest : Int} {H : List Int} {O : List Bool} (h : RPurse w p qo qh bud rest H O) (id n : Int) (hn : n ≤ 9223372036854775807) (hc : canSet rest H O id n = false) :
    Calls Try.prog 20 #[.pointer (some ⟨p, 0, none⟩), .int .i64 id, .int .i64 n] w fun e w' => e = .returned (.bool false) ∧ RPurse w' p qo qh bud rest H O ∧ Only [] w w' := by
  cases hb : opn O id with
  | false =>
    have HI := hide (fun W (hW : W.heap = w.heap) => is_r (w := W) (h.at_ hW) id false hb)
    have HF := hide h
    clear h hb hc
    go_enter Try.func20, Try.ntmps20
    go_wp2_with fail
    go_quiet ((go_at_call 19; exact Calls.quiet_of_same (unhide HI _ rfl)))
    go_wp2_with fail
    go_ret
    exact ⟨rfl, HF.out.drewN _, (Only.refl _ _).drewN _⟩
  | true =>
    have HI := hide (fun W (hW : W.heap = w.heap) => is_r (w := W) (h.at_ hW) id true hb)
    by_cases hneg : n < 0
    · have hneg' : decide (n < 0) = true := by simpa using hneg
      have HF := hide h
      clear h hb hc
      go_enter Try.func20, Try.ntmps20
      go_wp2_with fail
      go_quiet ((go_at_call 19; exact Calls.quiet_of_same (unhide HI _ rfl)))
      go_wp2_with fail
      go_ret
      exact ⟨rfl, HF.out.drewN _, (Only.refl _ _).drewN _⟩
    · have HF := hide h
      obtain ⟨h0, h1⟩ := opn_lt hb
      obtain ⟨i, rfl⟩ := Int.eq_ofNat_of_zero_le h0
      rw [Int.toNat_natCast] at h1
      have h2 : i < H.length := by have := h.len; omega
      obtain ⟨a, ha⟩ : ∃ a, a = H[i] := ⟨_, rfl⟩
      have hab := h.le i h2
      rw [← ha] at hab
      obtain ⟨hab1, hab2⟩ := hab
      have hf := h.few
      have hfit := h.fits
      have hmost := h.most
      have hon := overs_nonneg H
      have c3 := h.bp.cellv 3 _ rfl
      have ci := h.bh.cellv i (.int .i64 a) (by rw [intsV_get, List.getElem?_eq_getElem h2, ha]; rfl)
      have fi := h.bh.frozen i
      obtain ⟨y, hy⟩ : ∃ y, y = rest - overs H := ⟨_, rfl⟩
      obtain ⟨m, hm⟩ : ∃ m, m = max (700 - a) 0 + y := ⟨_, rfl⟩
      have HS := hide (fun W (hW : W.heap = w.heap) => left_r (w := W) (h.at_ hW) i m (by rw [leftOf, hb]; simp [List.getD, List.getElem?_eq_getElem h2, ← ha, ← hy, hm]))
      have hcs : canSet rest H O i n = decide (0 ≤ n ∧ max (n - 700) 0 ≤ y + max (a - 700) 0) := by
        simp only [canSet, hb, Bool.true_and, Int.toNat_natCast, List.getD, List.getElem?_eq_getElem h2, Option.getD_some, ← ha, ← hy, Bool.decide_and]
      have hmb1 : 0 ≤ m := by omega
      have hmb2 : m ≤ 40700 := by omega
      have hw2 : IntKind.i64.wrap (a + m) = a + m := IntWalk.i64_in _ ⟨by omega, by omega⟩
      have hil : (i : Int) < H.length := by omega
      have hneg' : decide (n < 0) = false := by simpa using hneg
      have hcc' : decide (a + m < n) = true := by
        rw [hcs] at hc
        simp only [decide_eq_false_iff_not] at hc
        simp only [decide_eq_true_eq]
        omega
      clear h hb hc hy h1 ha hfit hon hcs fi hm
      go_enter Try.func20, Try.ntmps20
      go_wp2_with fail
      go_quiet ((first | (go_at_call 19; exact Calls.quiet_of_same (unhide HI _ rfl)) | (go_at_call 21; exact Calls.quiet_of (unhide HS _ rfl))))
      go_wp2_with fail
      go_ret
      exact ⟨rfl, HF.out.drewN _, (Only.refl _ _).drewN _⟩

theorem set_r_yes {w : World} {p qo qh : Nat} {bud rest : Int} {H : List Int} {O : List Bool} (h : RPurse w p qo qh bud rest H O) (id n : Int) (hn : n ≤ 9223372036854775807) (hc : canSet rest H O id n = true) :
    Calls Try.prog 20 #[.pointer (some ⟨p, 0, none⟩), .int .i64 id, .int .i64 n] w fun e w' => e = .returned (.bool true) ∧ RPurse w' p qo qh bud rest (H.set id.toNat n) O ∧ Only [qh] w w' := by
  have hb : opn O id = true := by simp only [canSet, Bool.and_eq_true] at hc; exact hc.1.1
  have HI := hide (fun W (hW : W.heap = w.heap) => is_r (w := W) (h.at_ hW) id true hb)
  have HF := hide h
  obtain ⟨h0, h1⟩ := opn_lt hb
  obtain ⟨i, rfl⟩ := Int.eq_ofNat_of_zero_le h0
  rw [Int.toNat_natCast] at h1
  have h2 : i < H.length := by have := h.len; omega
  obtain ⟨a, ha⟩ : ∃ a, a = H[i] := ⟨_, rfl⟩
  have hab := h.le i h2
  rw [← ha] at hab
  obtain ⟨hab1, hab2⟩ := hab
  have hf := h.few
  have hfit := h.fits
  have hmost := h.most
  have hon := overs_nonneg H
  have c3 := h.bp.cellv 3 _ rfl
  have ci := h.bh.cellv i (.int .i64 a) (by rw [intsV_get, List.getElem?_eq_getElem h2, ha]; rfl)
  have fi := h.bh.frozen i
  obtain ⟨y, hy⟩ : ∃ y, y = rest - overs H := ⟨_, rfl⟩
  obtain ⟨m, hm⟩ : ∃ m, m = max (700 - a) 0 + y := ⟨_, rfl⟩
  have HS := hide (fun W (hW : W.heap = w.heap) => left_r (w := W) (h.at_ hW) i m (by rw [leftOf, hb]; simp [List.getD, List.getElem?_eq_getElem h2, ← ha, ← hy, hm]))
  have hcs : canSet rest H O i n = decide (0 ≤ n ∧ max (n - 700) 0 ≤ y + max (a - 700) 0) := by
    simp only [canSet, hb, Bool.true_and, Int.toNat_natCast, List.getD, List.getElem?_eq_getElem h2, Option.getD_some, ← ha, ← hy, Bool.decide_and]
  have hmb1 : 0 ≤ m := by omega
  have hmb2 : m ≤ 40700 := by omega
  have hw2 : IntKind.i64.wrap (a + m) = a + m := IntWalk.i64_in _ ⟨by omega, by omega⟩
  have hil : (i : Int) < H.length := by omega
  rw [hcs] at hc
  simp only [decide_eq_true_eq] at hc
  obtain ⟨hc1, hc2⟩ := hc
  have hneg' : decide (n < 0) = false := by simp; omega
  have hcc' : decide (a + m < n) = false := by
    simp only [decide_eq_false_iff_not]
    omega
  have HF := hide (rpurse_set h i n h2 hc1 (by rw [← ha, ← hy]; exact hc2))
  clear h hb hc1 hc2 hy h1 ha hfit hon hcs hm
  rw [Int.toNat_natCast]
  go_enter Try.func20, Try.ntmps20
  go_wp2_with fail
  go_quiet ((first | (go_at_call 19; exact Calls.quiet_of_same (unhide HI _ rfl)) | (go_at_call 21; exact Calls.quiet_of (unhide HS _ rfl))))
  go_wp2_with fail
  go_ret
  exact ⟨rfl, HF.out.drewN _, ((Only.refl _ _).setCell (by simp) _).drewN _⟩

theorem purses_no (b n : Int) (w : World) (h : n < 1 ∨ 8 < n ∨ b < n * 700 ∨ 40000 < b) :
    Calls Try.prog 18 #[.int .i64 b, .int .i64 n] w fun e w' => e = .returned (.pointer none) ∧ w' = w := by
  by_cases h1 : n < 1
  · go_enter Try.func18, Try.ntmps18
    go_wp2
    go_ret
    exact ⟨rfl, rfl⟩
  by_cases h2 : 8 < n
  · go_enter Try.func18, Try.ntmps18
    go_wp2
    go_ret
    exact ⟨rfl, rfl⟩
  by_cases h3 : b < n * 700
  · go_enter Try.func18, Try.ntmps18
    go_wp2
    go_ret
    exact ⟨rfl, rfl⟩
  have h4 : 40000 < b := by omega
  go_enter Try.func18, Try.ntmps18
  go_wp2
  go_ret
  exact ⟨rfl, rfl⟩

theorem rpurse_new {w : World} {p qo qh n : Nat} {b rest : Int} (h1 : n ≤ 8) (h2 : 0 ≤ rest) (h3 : rest ≤ 40000) (h4 : b = rest + n * 700)
    (hp : Blk w p 40 #[.int .i64 b, .int .i64 n, .slice (some ⟨qo, 0, none⟩) n n, .slice (some ⟨qh, 0, none⟩) n n]) (ho : Blk w qo 4 (List.replicate n (Value.bool false)).toArray) (hh : Blk w qh 3 (List.replicate n (Value.int .i64 0)).toArray) :
    RPurse w p qo qh b rest (List.replicate n 0) (List.replicate n false) := by
  refine ⟨by simp, by simpa using h1, fun x hx => ?_, by rw [overs_zero]; exact h2, h3, by simpa using h4, by simpa using hp, ?_, ?_⟩
  · rw [List.eq_of_mem_replicate hx]; omega
  · have e : boolsV (List.replicate n false) = (List.replicate n (Value.bool false)).toArray := by simp [boolsV]
    rw [e]; exact ho
  · have e : intsV (List.replicate n 0) = (List.replicate n (Value.int .i64 0)).toArray := by simp [intsV]
    rw [e]; exact hh

theorem purses_yes (b : Int) (n : Nat) (w : World) (h1 : 1 ≤ n) (h2 : n ≤ 8) (h3 : (n : Int) * 700 ≤ b) (h4 : b ≤ 40000) (rest : Int) (hrest : b = rest + n * 700) :
    Calls Try.prog 18 #[.int .i64 b, .int .i64 (n : Int)] w fun e w' => ∃ p qo qh, e = .returned (.pointer (some ⟨p, 0, none⟩)) ∧ RPurse w' p qo qh b rest (List.replicate n 0) (List.replicate n false) ∧
      w.heap.size ≤ p ∧ w.heap.size ≤ qo ∧ w.heap.size ≤ qh ∧ Below w.heap.size w w' := by
  obtain ⟨ci, hci⟩ : ∃ ci, ci = (List.replicate n (Value.int .i64 0)).toArray := ⟨_, rfl⟩
  obtain ⟨cb, hcb⟩ : ∃ cb, cb = (List.replicate n (Value.bool false)).toArray := ⟨_, rfl⟩
  have hm1 := run_make_cells (P := Try.prog) Try.underlying22 (.int .i64 0) 8 info_int rfl n n rfl (by omega) (by omega)
  have hm2 := run_make_cells (P := Try.prog) Try.underlying38 (.bool false) 1 info_bool rfl n n rfl (by omega) (by omega)
  rw [← hci] at hm1
  rw [← hcb] at hm2
  have hw1 : IntKind.i64.wrap ((n : Int) * 700) = n * 700 := IntWalk.i64_in _ ⟨by omega, by omega⟩
  have F1 : ∀ W : World, W.heap.size = w.heap.size → RPurse (((W.alloc (.cells cb 4)).alloc (.cells ci 3)).alloc (.cells #[.int .i64 b, .int .i64 n, .slice (some ⟨w.heap.size, 0, none⟩) n n, .slice (some ⟨w.heap.size + 1, 0, none⟩) n n] 40)) (w.heap.size + 2) w.heap.size (w.heap.size + 1) b rest (List.replicate n 0) (List.replicate n false) := by
    intro W hW
    subst hci; subst hcb
    refine rpurse_new h2 (by omega) (by omega) hrest ?_ ?_ ?_
    · have := Blk.new ((W.alloc (.cells (List.replicate n (Value.bool false)).toArray 4)).alloc (.cells (List.replicate n (Value.int .i64 0)).toArray 3)) 40 #[.int .i64 b, .int .i64 n, .slice (some ⟨w.heap.size, 0, none⟩) n n, .slice (some ⟨w.heap.size + 1, 0, none⟩) n n]
      simpa [hW] using this
    · have := ((Blk.new W 4 (List.replicate n (Value.bool false)).toArray).alloc (.cells (List.replicate n (Value.int .i64 0)).toArray 3)).alloc (.cells #[.int .i64 b, .int .i64 n, .slice (some ⟨w.heap.size, 0, none⟩) n n, .slice (some ⟨w.heap.size + 1, 0, none⟩) n n] 40)
      simpa [hW] using this
    · have := ((Blk.new (W.alloc (.cells (List.replicate n (Value.bool false)).toArray 4)) 3 (List.replicate n (Value.int .i64 0)).toArray)).alloc (.cells #[.int .i64 b, .int .i64 n, .slice (some ⟨w.heap.size, 0, none⟩) n n, .slice (some ⟨w.heap.size + 1, 0, none⟩) n n] 40)
      simpa [hW] using this
  have F2 : ∀ W : World, W.heap.size = w.heap.size → RPurse (((W.alloc (.cells ci 3)).alloc (.cells cb 4)).alloc (.cells #[.int .i64 b, .int .i64 n, .slice (some ⟨w.heap.size + 1, 0, none⟩) n n, .slice (some ⟨w.heap.size, 0, none⟩) n n] 40)) (w.heap.size + 2) (w.heap.size + 1) w.heap.size b rest (List.replicate n 0) (List.replicate n false) := by
    intro W hW
    subst hci; subst hcb
    refine rpurse_new h2 (by omega) (by omega) hrest ?_ ?_ ?_
    · have := Blk.new ((W.alloc (.cells (List.replicate n (Value.int .i64 0)).toArray 3)).alloc (.cells (List.replicate n (Value.bool false)).toArray 4)) 40 #[.int .i64 b, .int .i64 n, .slice (some ⟨w.heap.size + 1, 0, none⟩) n n, .slice (some ⟨w.heap.size, 0, none⟩) n n]
      simpa [hW] using this
    · have := ((Blk.new (W.alloc (.cells (List.replicate n (Value.int .i64 0)).toArray 3)) 4 (List.replicate n (Value.bool false)).toArray)).alloc (.cells #[.int .i64 b, .int .i64 n, .slice (some ⟨w.heap.size + 1, 0, none⟩) n n, .slice (some ⟨w.heap.size, 0, none⟩) n n] 40)
      simpa [hW] using this
    · have := ((Blk.new W 3 (List.replicate n (Value.int .i64 0)).toArray).alloc (.cells (List.replicate n (Value.bool false)).toArray 4)).alloc (.cells #[.int .i64 b, .int .i64 n, .slice (some ⟨w.heap.size + 1, 0, none⟩) n n, .slice (some ⟨w.heap.size, 0, none⟩) n n] 40)
      simpa [hW] using this
  have HF1 := hide F1
  have HF2 := hide F2
  clear F1 F2 hci hcb hrest
  go_enter Try.func18, Try.ntmps18
  go_wp2
  go_region
  all_goals go_wp2
  all_goals go_ret
  all_goals
    first
      | exact ⟨_, _, _, rfl, (HF1.out w rfl).drewN 1, by omega, by omega, by omega, ((((Below.refl _ _).alloc (Nat.le_refl _) _).alloc (by simp) _).alloc (by simp; omega) _).drew⟩
      | exact ⟨_, _, _, rfl, (HF2.out w rfl).drewN 1, by omega, by omega, by omega, ((((Below.refl _ _).alloc (Nat.le_refl _) _).alloc (by simp) _).alloc (by simp; omega) _).drew⟩
end Go.Proofs.Ytgdjdldjdhoeiaa
