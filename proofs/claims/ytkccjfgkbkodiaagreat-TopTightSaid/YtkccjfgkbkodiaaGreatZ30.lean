/-
  PurseA · Stage: parts of the walk of TopTight, under no condition.
-/
import Derived.Test.YtkccjfgkbkodiaaGreatZ02
import Derived.Test.YtkccjfgkbkodiaaGreatZ29
namespace Go.Proofs.YtkccjfgkbkodiaaGreat.Pu
open Go.RowKit
set_option maxRecDepth 100000
/-- What is above the reserve, of all. -/
def overs : List Int → Int
  | [] => 0
  | h :: r => max (h - 700) 0 + overs r
def total : List Int → Int
  | [] => 0
  | h :: r => h + total r
theorem overs_snoc (l : List Int) (h : Int) : overs (l ++ [h]) = overs l + max (h - 700) 0 := by
  induction l with
  | nil => simp [overs]
  | cons a l ih => simp only [List.cons_append, overs, ih]; omega
theorem total_snoc (l : List Int) (h : Int) : total (l ++ [h]) = total l + h := by
  induction l with
  | nil => simp [total]
  | cons a l ih => simp only [List.cons_append, total, ih]; omega
theorem overs_append (l m : List Int) : overs (l ++ m) = overs l + overs m := by
  induction l with
  | nil => simp [overs]
  | cons a l ih => simp only [List.cons_append, overs, ih]; omega
theorem total_append (l m : List Int) : total (l ++ m) = total l + total m := by
  induction l with
  | nil => simp [total]
  | cons a l ih => simp only [List.cons_append, total, ih]; omega
theorem overs_nonneg (l : List Int) : 0 ≤ overs l := by
  induction l with
  | nil => simp [overs]
  | cons a l ih => simp only [overs]; omega
theorem overs_take_le (l : List Int) (k : Nat) : overs (l.take k) ≤ overs l := by
  have h1 := List.take_append_drop k l
  have h2 := overs_append (l.take k) (l.drop k)
  rw [h1] at h2
  have := overs_nonneg (l.drop k)
  omega
theorem total_nonneg (l : List Int) (h : ∀ x ∈ l, 0 ≤ x) : 0 ≤ total l := by
  induction l with
  | nil => simp [total]
  | cons a l ih => simp only [total]; have h1 := h a (by simp); have h2 := ih (fun x hx => h x (by simp [hx])); omega
theorem total_take_le (l : List Int) (h : ∀ x ∈ l, 0 ≤ x) (k : Nat) : total (l.take k) ≤ total l := by
  have h1 := List.take_append_drop k l
  have h2 := total_append (l.take k) (l.drop k)
  rw [h1] at h2
  have := total_nonneg (l.drop k) (fun x hx => h x (List.mem_of_mem_drop hx))
  omega
/-- Each has at most its reserve and what all have above theirs. -/
theorem total_le (l : List Int) : total l ≤ 700 * l.length + overs l := by
  induction l with
  | nil => simp [total, overs]
  | cons a l ih => simp only [total, overs, List.length_cons]; omega
theorem each_le (l : List Int) (x : Int) (h : x ∈ l) : max (x - 700) 0 ≤ overs l := by
  induction l with
  | nil => cases h
  | cons a l ih =>
    simp only [overs]
    have := overs_nonneg l
    rcases List.mem_cons.1 h with rfl | h
    · omega
    · have := ih h; omega
theorem overs_set (l : List Int) (i : Nat) (n : Int) (h : i < l.length) : overs (l.set i n) = overs l - max (l[i] - 700) 0 + max (n - 700) 0 := by
  induction l generalizing i with
  | nil => simp at h
  | cons a l ih =>
    cases i with
    | zero => simp only [List.set_cons_zero, overs, List.getElem_cons_zero]; omega
    | succ i => simp only [List.set_cons_succ, overs, List.getElem_cons_succ]; have := ih i (by simpa using h); omega
theorem total_set (l : List Int) (i : Nat) (n : Int) (h : i < l.length) : total (l.set i n) = total l - l[i] + n := by
  induction l generalizing i with
  | nil => simp at h
  | cons a l ih =>
    cases i with
    | zero => simp only [List.set_cons_zero, total, List.getElem_cons_zero]; omega
    | succ i => simp only [List.set_cons_succ, total, List.getElem_cons_succ]; have := ih i (by simpa using h); omega
/-- The purse at block p: 'rest' beside the reserves; what each has (block qh), which are open (block qo). -/
structure Purse (w : World) (p qh qo : Nat) (rest : Int) (H : List Int) (O : List Bool) : Prop where
  len : O.length = H.length
  few : H.length ≤ 8
  nonneg : ∀ x ∈ H, 0 ≤ x
  fits : overs H ≤ rest
  most : rest ≤ 40000
  shut : ∀ i : Nat, O[i]? = some false → H[i]? = some 0
  bp : Blk w p 87 #[.int .i64 rest, .slice (some ⟨qh, 0, none⟩) H.length H.length, .slice (some ⟨qo, 0, none⟩) H.length H.length]
  bh : Blk w qh 3 (intsV H)
  bo : Blk w qo 4 (boolsV O)
theorem Purse.keep {w w' : World} {p qh qo : Nat} {rest : Int} {H : List Int} {O : List Bool} (h : Purse w p qh qo rest H O) {S : List Nat} (ho : Only S w w') (h1 : p ∉ S) (h2 : qh ∉ S) (h3 : qo ∉ S) : Purse w' p qh qo rest H O :=
  ⟨h.len, h.few, h.nonneg, h.fits, h.most, h.shut, ho.blk h.bp h1, ho.blk h.bh h2, ho.blk h.bo h3⟩
theorem Purse.drewN {w : World} {p qh qo : Nat} {rest : Int} {H : List Int} {O : List Bool} (h : Purse w p qh qo rest H O) (n : Nat) : Purse (w.drewN n) p qh qo rest H O :=
  ⟨h.len, h.few, h.nonneg, h.fits, h.most, h.shut, h.bp, h.bh, h.bo⟩
theorem Purse.apart {w : World} {p qh qo : Nat} {rest : Int} {H : List Int} {O : List Bool} (h : Purse w p qh qo rest H O) : p ≠ qh ∧ p ≠ qo ∧ qh ≠ qo :=
  ⟨h.bp.ne_ h.bh (by decide), h.bp.ne_ h.bo (by decide), h.bh.ne_ h.bo (by decide)⟩
theorem Purse.le {w : World} {p qh qo : Nat} {rest : Int} {H : List Int} {O : List Bool} (h : Purse w p qh qo rest H O) (i : Nat) (hi : i < H.length) : 0 ≤ H[i] ∧ H[i] ≤ 40700 := by
  have h1 := h.nonneg _ (List.getElem_mem hi)
  have h2 := each_le H _ (List.getElem_mem hi)
  have := h.fits; have := h.most
  omega
/-- Is it open? -/
def opn (O : List Bool) (id : Int) : Bool := decide (0 ≤ id) && (O[id.toNat]?.getD false)
theorem over_any (n : Int) (w : World) (h1 : -1000000 ≤ n) (h2 : n ≤ 9223372036854775807) : Calls Tryz.prog 70 #[.int .i64 n] w fun e w' => e = .returned (.int .i64 (max (n - 700) 0)) ∧ w' = w := by
  have hmax := max_i64 (P := Tryz.prog) #[3, 3] 3 (n - 700) 0 _ rfl
  go_enter Tryz.func70, Tryz.ntmps70
  go_wp2
  go_ret
  exact ⟨rfl, rfl⟩
theorem is_any {w : World} {p qh qo : Nat} {rest : Int} {H : List Int} {O : List Bool} (h : Purse w p qh qo rest H O) (id : Int) (b : Bool) (hb : opn O id = b) :
    Calls Tryz.prog 62 #[.pointer (some ⟨p, 0, none⟩), .int .i64 id] w fun e w' => e = .returned (.bool b) ∧ w' = w := by
  have hl := h.len
  have hf := h.few
  have c2 := h.bp.cellv 2 _ rfl
  have bo := h.bo
  clear h
  by_cases h0 : id < 0
  · have hbf : b = false := by rw [← hb]; simp [opn]; intro h; omega
    subst hbf
    clear hb
    go_enter Tryz.func62, Tryz.ntmps62
    go_wp2
    go_ret
    exact ⟨rfl, rfl⟩
  obtain ⟨i, rfl⟩ := Int.eq_ofNat_of_zero_le (show 0 ≤ id by omega)
  by_cases h1 : H.length ≤ i
  · have hbf : b = false := by rw [← hb]; simp [opn, List.getElem?_eq_none (show O.length ≤ i by omega)]
    subst hbf
    clear hb hl
    go_enter Tryz.func62, Tryz.ntmps62
    go_wp2
    go_ret
    exact ⟨rfl, rfl⟩
  have hbt : O[i]'(by omega) = b := by rw [← hb]; simp [opn, List.getElem?_eq_getElem (show i < O.length by omega)]
  have ci := bo.cellv i (.bool b) (by rw [boolsV_get, List.getElem?_eq_getElem (by omega)]; simp [hbt])
  have h2 : i < H.length := by omega
  clear hb hl hbt bo
  go_enter Tryz.func62, Tryz.ntmps62
  go_wp2
  go_ret
  exact ⟨rfl, rfl⟩
theorem shared_any {w : World} {p qh qo : Nat} {rest : Int} {H : List Int} {O : List Bool} (h : Purse w p qh qo rest H O) (x : Int) (hx : x = rest - overs H) :
    Calls Tryz.prog 63 #[.pointer (some ⟨p, 0, none⟩)] w fun e w' => e = .returned (.int .i64 x) ∧ w' = w := by
  have hf := h.few
  have c0 := h.bp.cellv 0 _ rfl
  have c1 := h.bp.cellv 1 _ rfl
  have hfit := h.fits
  have hmost := h.most
  have h0 := overs_nonneg H
  have hle := h.le
  have bh := h.bh
  have Hx := hide hx
  clear h hx
  go_enter Tryz.func63, Tryz.ntmps63
  go_wp2
  go_loopg [3, 17] H.length (fun g v i wr => ∃ j : Nat, i = .int .i64 j ∧ j + g = H.length ∧ wr = w ∧ v = .int .i64 (rest - overs (H.take j)))
  case atStart => exact ⟨0, rfl, by omega, rfl, by simp [overs]⟩
  case round =>
    obtain ⟨j, rfl, hj, rfl, rfl⟩ := hrel
    have ht := overs_take_le H j
    have hn := overs_nonneg (H.take j)
    by_cases hlt : j < H.length
    · have ci := bh.cellv j (.int .i64 H[j]) (by rw [intsV_get, List.getElem?_eq_getElem hlt]; rfl)
      have hb := hle j hlt
      obtain ⟨a, ha⟩ : ∃ a, a = H[j] := ⟨_, rfl⟩
      obtain ⟨s, hs⟩ : ∃ s, s = overs (H.take j) := ⟨_, rfl⟩
      have hsn : overs (H.take (j + 1)) = s + max (a - 700) 0 := by rw [take_snoc _ _ hlt, overs_snoc, ← ha, ← hs]
      have ht2 := overs_take_le H (j + 1)
      rw [hsn] at ht2
      rw [← ha] at ci hb
      rw [← hs] at ht hn ⊢
      have Hs := hide hsn
      clear hsn ha hs hle
      go_wp2_with (go_at_call 70; refine (over_any a _ (by omega) (by omega)).mono ?_; rintro e w' ⟨rfl, rfl⟩)
      go_roundg (gk - 1)
      case measure => omega
      case rel => exact ⟨j + 1, by go_num, by omega, rfl, by rw [Hs.out]; congr 1; omega⟩
    · have hj2 : j = H.length := by omega
      subst hj2
      have hx := Hx.out
      rw [List.take_length] at *
      rw [← hx]
      clear hx Hx
      go_wp2
      go_ret
      exact ⟨rfl, rfl⟩
theorem total_any {w : World} {p qh qo : Nat} {rest : Int} {H : List Int} {O : List Bool} (h : Purse w p qh qo rest H O) (x : Int) (hx : x = total H) :
    Calls Tryz.prog 43 #[.pointer (some ⟨p, 0, none⟩)] w fun e w' => e = .returned (.int .i64 x) ∧ w' = w := by
  have hf := h.few
  have c1 := h.bp.cellv 1 _ rfl
  have hT := total_le H
  have hfit := h.fits
  have hmost := h.most
  have hle := h.le
  have bh := h.bh
  have hnn := h.nonneg
  have Hx := hide hx
  clear h hx
  go_enter Tryz.func43, Tryz.ntmps43
  go_wp2
  go_loopg [3, 13] H.length (fun g v i wr => ∃ j : Nat, i = .int .i64 j ∧ j + g = H.length ∧ wr = w ∧ v = .int .i64 (total (H.take j)))
  case atStart => exact ⟨0, rfl, by omega, rfl, rfl⟩
  case round =>
    obtain ⟨j, rfl, hj, rfl, rfl⟩ := hrel
    have ht := total_take_le H hnn j
    have hn := total_nonneg (H.take j) (fun x hx => hnn x (List.mem_of_mem_take hx))
    by_cases hlt : j < H.length
    · have ci := bh.cellv j (.int .i64 H[j]) (by rw [intsV_get, List.getElem?_eq_getElem hlt]; rfl)
      have hb := hle j hlt
      obtain ⟨a, ha⟩ : ∃ a, a = H[j] := ⟨_, rfl⟩
      obtain ⟨s, hs⟩ : ∃ s, s = total (H.take j) := ⟨_, rfl⟩
      have hsn : total (H.take (j + 1)) = s + a := by rw [take_snoc _ _ hlt, total_snoc, ← ha, ← hs]
      rw [← ha] at ci hb
      rw [← hs] at ht hn ⊢
      have Hs := hide hsn
      have Hn := hide hnn
      clear hsn ha hs hle hnn
      go_wp2
      go_roundg (gk - 1)
      case measure => omega
      case rel => exact ⟨j + 1, by go_num, by omega, rfl, by rw [Hs.out]⟩
    · have hj2 : j = H.length := by omega
      subst hj2
      have hx := Hx.out
      rw [List.take_length] at *
      rw [← hx]
      clear hx Hx hnn
      go_wp2
      go_ret
      exact ⟨rfl, rfl⟩
theorem opn_lt {O : List Bool} {id : Int} (h : opn O id = true) : 0 ≤ id ∧ id.toNat < O.length := by
  simp only [opn, Bool.and_eq_true, decide_eq_true_eq] at h
  refine ⟨h.1, ?_⟩
  rcases Nat.lt_or_ge id.toNat O.length with h1 | h1
  · exact h1
  · rw [List.getElem?_eq_none h1] at h; simp at h
/-- What a session has. -/
def hasOf (H : List Int) (O : List Bool) (id : Int) : Int := if opn O id then H.getD id.toNat 0 else 0
/-- How much more it may have. -/
def leftOf (rest : Int) (H : List Int) (O : List Bool) (id : Int) : Int := if opn O id then max (700 - H.getD id.toNat 0) 0 + (rest - overs H) else 0
theorem left_any {w : World} {p qh qo : Nat} {rest : Int} {H : List Int} {O : List Bool} (h : Purse w p qh qo rest H O) (id : Int) (x : Int) (hx : x = leftOf rest H O id) :
    Calls Tryz.prog 34 #[.pointer (some ⟨p, 0, none⟩), .int .i64 id] w fun e w' => e = .returned (.int .i64 x) ∧ ∃ n, w' = w.drewN n := by
  cases hb : opn O id with
  | false =>
    have hx0 : x = 0 := by rw [hx, leftOf, hb]; rfl
    subst hx0
    have HI := hide (is_any h id false hb)
    clear h hb hx
    go_enter Tryz.func34, Tryz.ntmps34
    go_wp2_with fail
    (with_reducible refine (unhide HI).mono ?_)
    rintro e w' ⟨rfl, rfl⟩
    go_wp2_with fail
    go_ret
    exact ⟨rfl, 0, rfl⟩
  | true =>
    obtain ⟨h0, h1⟩ := opn_lt hb
    have HI := hide (is_any h id true hb)
    obtain ⟨i, rfl⟩ := Int.eq_ofNat_of_zero_le h0
    rw [Int.toNat_natCast] at h1
    have h2 : i < H.length := by have := h.len; omega
    obtain ⟨a, ha⟩ : ∃ a, a = H[i] := ⟨_, rfl⟩
    have hab := h.le i h2
    rw [← ha] at hab
    have hx0 : x = max (700 - a) 0 + (rest - overs H) := by rw [hx, leftOf, hb]; simp [List.getD, List.getElem?_eq_getElem h2, ha]
    have hf := h.few
    have hfit := h.fits
    have hmost := h.most
    have hon := overs_nonneg H
    have c1 := h.bp.cellv 1 _ rfl
    have ci := h.bh.cellv i (.int .i64 a) (by rw [intsV_get, List.getElem?_eq_getElem h2, ha]; rfl)
    obtain ⟨y, hy⟩ : ∃ y, y = rest - overs H := ⟨_, rfl⟩
    have HS := fun W (hW : W.heap = w.heap) => shared_any (w := W) ⟨h.len, h.few, h.nonneg, h.fits, h.most, h.shut, (by unfold Blk; rw [hW]; exact h.bp), (by unfold Blk; rw [hW]; exact h.bh), (by unfold Blk; rw [hW]; exact h.bo)⟩ y hy
    obtain ⟨m, hm⟩ : ∃ m, m = max (700 - a) 0 := ⟨_, rfl⟩
    have hmax := max_i64 (P := Tryz.prog) #[3, 3] 3 (700 - a) 0 m hm
    have hxy : x = m + y := by omega
    have hyb : 0 ≤ y ∧ y ≤ 40000 := by omega
    have hmb : 0 ≤ m ∧ m ≤ 700 := by omega
    obtain ⟨hyb1, hyb2⟩ := hyb
    obtain ⟨hmb1, hmb2⟩ := hmb
    obtain ⟨hab1, hab2⟩ := hab
    have hw1 : IntKind.i64.wrap (700 - a) = 700 - a := IntWalk.i64_in _ ⟨by omega, by omega⟩
    have hw2 : IntKind.i64.wrap (m + y) = m + y := IntWalk.i64_in _ ⟨by omega, by omega⟩
    have hil : (i : Int) < H.length := by omega
    subst hxy
    have HS := hide HS
    clear h hb hx hx0 h1 hy hm ha hfit hon
    go_enter Tryz.func34, Tryz.ntmps34
    go_wp2_with fail
    (with_reducible refine (unhide HI).mono ?_)
    rintro e w' ⟨rfl, rfl⟩
    go_wp2_with fail
    go_quiet ((go_at_call 63; exact Calls.quiet_of_same (unhide HS _ rfl)))
    go_wp2_with fail
    go_ret
    exact ⟨rfl, _, rfl⟩
theorem open_yes {w : World} {p qh qo : Nat} {rest : Int} {H : List Int} {O : List Bool} (h : Purse w p qh qo rest H O) (i : Nat) (hi : O[i]? = some false) :
    Calls Tryz.prog 27 #[.pointer (some ⟨p, 0, none⟩), .int .i64 (i : Int)] w fun e w' => e = .returned (.bool true) ∧ Purse w' p qh qo rest H (O.set i true) ∧ Only [qo] w w' := by
  have hio : i < O.length := (List.getElem?_eq_some_iff.1 hi).1
  have h2 : i < H.length := by have := h.len; omega
  have hf := h.few
  have c2 := h.bp.cellv 2 _ rfl
  have ci := h.bo.cellv i (.bool false) (by rw [boolsV_get, hi]; rfl)
  have fi := h.bo.frozen i
  have ha := h.apart
  have fin : Purse (w.setCell ⟨qo, i, none⟩ (.bool true)) p qh qo rest H (O.set i true) :=
    ⟨by rw [List.length_set]; exact h.len, h.few, h.nonneg, h.fits, h.most, fun k hk => by
      by_cases hki : i = k
      · subst hki; rw [List.getElem?_set_self hio] at hk; simp at hk
      · rw [List.getElem?_set_ne hki] at hk; exact h.shut k hk,
     h.bp.far ha.2.1 _, h.bh.far ha.2.2 _, by have := h.bo.set_ i (.bool true); rw [boolsV_set] at this; exact this⟩
  have HF := hide fin
  clear h hi hio fin
  go_enter Tryz.func27, Tryz.ntmps27
  go_wp2
  go_ret
  exact ⟨rfl, HF.out, (Only.refl _ _).setCell (by simp) _⟩
theorem open_no {w : World} {p qh qo : Nat} {rest : Int} {H : List Int} {O : List Bool} (h : Purse w p qh qo rest H O) (id : Int) (hi : id < 0 ∨ H.length ≤ id ∨ opn O id = true) :
    Calls Tryz.prog 27 #[.pointer (some ⟨p, 0, none⟩), .int .i64 id] w fun e w' => e = .returned (.bool false) ∧ w' = w := by
  have hf := h.few
  have c2 := h.bp.cellv 2 _ rfl
  by_cases h0 : id < 0
  · clear h hi
    go_enter Tryz.func27, Tryz.ntmps27
    go_wp2
    go_ret
    exact ⟨rfl, rfl⟩
  by_cases h1 : (H.length : Int) ≤ id
  · clear h hi
    go_enter Tryz.func27, Tryz.ntmps27
    go_wp2
    go_ret
    exact ⟨rfl, rfl⟩
  have hb : opn O id = true := by rcases hi with hi | hi | hi <;> first | omega | exact hi
  obtain ⟨i, rfl⟩ := Int.eq_ofNat_of_zero_le (show 0 ≤ id by omega)
  have h2 : i < H.length := by omega
  have hio : i < O.length := by have := h.len; omega
  have hbt : O[i] = true := by simpa [opn, List.getElem?_eq_getElem hio] using hb
  have ci := h.bo.cellv i (.bool true) (by rw [boolsV_get, List.getElem?_eq_getElem hio, hbt]; rfl)
  clear h hi hbt hb
  go_enter Tryz.func27, Tryz.ntmps27
  go_wp2
  go_ret
  exact ⟨rfl, rfl⟩
theorem Purse.at_ {w W : World} {p qh qo : Nat} {rest : Int} {H : List Int} {O : List Bool} (h : Purse w p qh qo rest H O) (hW : W.heap = w.heap) : Purse W p qh qo rest H O :=
  ⟨h.len, h.few, h.nonneg, h.fits, h.most, h.shut, (by unfold Blk; rw [hW]; exact h.bp), (by unfold Blk; rw [hW]; exact h.bh), (by unfold Blk; rw [hW]; exact h.bo)⟩
/-- May a session have so much? -/
def canSet (rest : Int) (H : List Int) (O : List Bool) (id n : Int) : Bool :=
  opn O id && decide (0 ≤ n) && decide (max (n - 700) 0 ≤ rest - overs H + max (H.getD id.toNat 0 - 700) 0)
theorem set_no {w : World} {p qh qo : Nat} {rest : Int} {H : List Int} {O : List Bool} (h : Purse w p qh qo rest H O) (id n : Int) (hn : n ≤ 9223372036854775807) (hc : canSet rest H O id n = false) :
    Calls Tryz.prog 41 #[.pointer (some ⟨p, 0, none⟩), .int .i64 id, .int .i64 n] w fun e w' => e = .returned (.bool false) ∧ ∃ k, w' = w.drewN k := by
  cases hb : opn O id with
  | false =>
    have HI := hide (fun W (hW : W.heap = w.heap) => is_any (w := W) (h.at_ hW) id false hb)
    clear h hb hc
    go_enter Tryz.func41, Tryz.ntmps41
    go_wp2_with fail
    go_quiet ((go_at_call 62; exact Calls.quiet_of_same (unhide HI _ rfl)))
    go_wp2_with fail
    go_ret
    exact ⟨rfl, _, rfl⟩
  | true =>
    have HI := hide (fun W (hW : W.heap = w.heap) => is_any (w := W) (h.at_ hW) id true hb)
    by_cases hneg : n < 0
    · have hneg' : decide (n < 0) = true := by simpa using hneg
      clear h hb hc
      go_enter Tryz.func41, Tryz.ntmps41
      go_wp2_with fail
      go_quiet ((go_at_call 62; exact Calls.quiet_of_same (unhide HI _ rfl)))
      go_wp2_with fail
      go_ret
      exact ⟨rfl, _, rfl⟩
    · obtain ⟨h0, h1⟩ := opn_lt hb
      obtain ⟨i, rfl⟩ := Int.eq_ofNat_of_zero_le h0
      rw [Int.toNat_natCast] at h1
      have h2 : i < H.length := by have := h.len; omega
      obtain ⟨a, ha⟩ : ∃ a, a = H[i] := ⟨_, rfl⟩
      have hab := h.le i h2
      rw [← ha] at hab
      obtain ⟨hab1, hab2⟩ := hab
      have hf := h.few
      have hfit := h.fits
      have hmost := h.most
      have hon := overs_nonneg H
      have c1 := h.bp.cellv 1 _ rfl
      have ci := h.bh.cellv i (.int .i64 a) (by rw [intsV_get, List.getElem?_eq_getElem h2, ha]; rfl)
      obtain ⟨y, hy⟩ : ∃ y, y = rest - overs H := ⟨_, rfl⟩
      have HS := hide (fun W (hW : W.heap = w.heap) => shared_any (w := W) (h.at_ hW) y hy)
      have hcc : ¬ (max (n - 700) 0 ≤ y + max (a - 700) 0) := by
        intro hle
        simp only [canSet, hb, Bool.true_and, Bool.and_eq_false_iff, decide_eq_false_iff_not, Int.toNat_natCast, List.getD, List.getElem?_eq_getElem h2, Option.getD_some, ← ha] at hc
        rw [← hy] at hc
        omega
      obtain ⟨u, hu⟩ : ∃ u, u = max (n - 700) 0 := ⟨_, rfl⟩
      obtain ⟨v, hv⟩ : ∃ v, v = max (a - 700) 0 := ⟨_, rfl⟩
      have HO1 := hide (fun W : World => by have := over_any n W (by omega) hn; rw [← hu] at this; exact this)
      have HO2 := hide (fun W : World => by have := over_any a W (by omega) (by omega); rw [← hv] at this; exact this)
      rw [← hu, ← hv] at hcc
      have hyb1 : 0 ≤ y := by omega
      have hyb2 : y ≤ 40000 := by omega
      have hvb1 : 0 ≤ v := by omega
      have hvb2 : v ≤ 40000 := by omega
      have hw2 : IntKind.i64.wrap (y + v) = y + v := IntWalk.i64_in _ ⟨by omega, by omega⟩
      have hil : (i : Int) < H.length := by omega
      have hneg' : decide (n < 0) = false := by simpa using hneg
      have hcc' : decide (y + v < u) = true := by simp; omega
      clear h hb hc hy hu hv h1 hcc ha hfit hon
      go_enter Tryz.func41, Tryz.ntmps41
      go_wp2_with fail
      go_quiet ((first | (go_at_call 62; exact Calls.quiet_of_same (unhide HI _ rfl)) | (go_at_call 63; exact Calls.quiet_of_same (unhide HS _ rfl)) | (go_at_call_of 70 (n); exact Calls.quiet_of_same (unhide HO1 _)) | (go_at_call_of 70 (a); exact Calls.quiet_of_same (unhide HO2 _))))
      go_wp2_with fail
      go_ret
      exact ⟨rfl, _, rfl⟩
theorem purse_set {w : World} {p qh qo : Nat} {rest : Int} {H : List Int} {O : List Bool} (h : Purse w p qh qo rest H O) (i : Nat) (n : Int) (hi : i < H.length) (ho : O[i]? ≠ some false ∨ n = 0) (hn : 0 ≤ n)
    (hle : max (n - 700) 0 ≤ rest - overs H + max (H[i] - 700) 0) : Purse (w.setCell ⟨qh, i, none⟩ (.int .i64 n)) p qh qo rest (H.set i n) O := by
  have ha := h.apart
  refine ⟨by rw [List.length_set]; exact h.len, by rw [List.length_set]; exact h.few, fun x hx => ?_, by rw [overs_set H i n hi]; omega, h.most, fun k hk => ?_, ?_, ?_, h.bo.far (Ne.symm ha.2.2) _⟩
  · rcases List.mem_or_eq_of_mem_set hx with hx | rfl
    · exact h.nonneg x hx
    · exact hn
  · by_cases hki : i = k
    · subst hki
      rcases ho with ho | rfl
      · exact absurd hk ho
      · rw [List.getElem?_set_self hi]
    · rw [List.getElem?_set_ne hki]; exact h.shut k hk
  · rw [List.length_set]; exact h.bp.far ha.1 _
  · have := h.bh.set_ i (.int .i64 n); rw [intsV_set] at this; exact this
theorem set_yes {w : World} {p qh qo : Nat} {rest : Int} {H : List Int} {O : List Bool} (h : Purse w p qh qo rest H O) (id n : Int) (hn : n ≤ 9223372036854775807) (hc : canSet rest H O id n = true) :
    Calls Tryz.prog 41 #[.pointer (some ⟨p, 0, none⟩), .int .i64 id, .int .i64 n] w fun e w' => e = .returned (.bool true) ∧ Purse w' p qh qo rest (H.set id.toNat n) O ∧ Only [qh] w w' := by
  have hb : opn O id = true := by simp only [canSet, Bool.and_eq_true] at hc; exact hc.1.1
  have hneg : 0 ≤ n := by simp only [canSet, Bool.and_eq_true, decide_eq_true_eq] at hc; exact hc.1.2
  have HI := hide (fun W (hW : W.heap = w.heap) => is_any (w := W) (h.at_ hW) id true hb)
  obtain ⟨h0, h1⟩ := opn_lt hb
  obtain ⟨i, rfl⟩ := Int.eq_ofNat_of_zero_le h0
  rw [Int.toNat_natCast] at h1
  have h2 : i < H.length := by have := h.len; omega
  have hoi : O[i]? ≠ some false := by
    intro e
    simp [opn, e] at hb
  obtain ⟨a, ha⟩ : ∃ a, a = H[i] := ⟨_, rfl⟩
  have hab := h.le i h2
  rw [← ha] at hab
  obtain ⟨hab1, hab2⟩ := hab
  have hf := h.few
  have hfit := h.fits
  have hmost := h.most
  have hon := overs_nonneg H
  have c1 := h.bp.cellv 1 _ rfl
  have ci := h.bh.cellv i (.int .i64 a) (by rw [intsV_get, List.getElem?_eq_getElem h2, ha]; rfl)
  have fi := h.bh.frozen i
  obtain ⟨y, hy⟩ : ∃ y, y = rest - overs H := ⟨_, rfl⟩
  have HS := hide (fun W (hW : W.heap = w.heap) => shared_any (w := W) (h.at_ hW) y hy)
  have hcc : max (n - 700) 0 ≤ y + max (a - 700) 0 := by
    simp only [canSet, hb, Bool.true_and, Bool.and_eq_true, decide_eq_true_eq, Int.toNat_natCast, List.getD, List.getElem?_eq_getElem h2, Option.getD_some, ← ha] at hc
    rw [← hy] at hc
    exact hc.2
  have HF := hide (purse_set h i n h2 (.inl hoi) hneg (by rw [← ha, ← hy]; exact hcc))
  obtain ⟨u, hu⟩ : ∃ u, u = max (n - 700) 0 := ⟨_, rfl⟩
  obtain ⟨v, hv⟩ : ∃ v, v = max (a - 700) 0 := ⟨_, rfl⟩
  have HO1 := hide (fun W : World => by have := over_any n W (by omega) hn; rw [← hu] at this; exact this)
  have HO2 := hide (fun W : World => by have := over_any a W (by omega) (by omega); rw [← hv] at this; exact this)
  rw [← hu, ← hv] at hcc
  have hyb1 : 0 ≤ y := by omega
  have hyb2 : y ≤ 40000 := by omega
  have hvb1 : 0 ≤ v := by omega
  have hvb2 : v ≤ 40000 := by omega
  have hw2 : IntKind.i64.wrap (y + v) = y + v := IntWalk.i64_in _ ⟨by omega, by omega⟩
  have hil : (i : Int) < H.length := by omega
  have hneg' : decide (n < 0) = false := by simp; omega
  have hcc' : decide (y + v < u) = false := by simp; omega
  clear h hb hc hy hu hv h1 hcc ha hfit hon hoi
  rw [Int.toNat_natCast]
  go_enter Tryz.func41, Tryz.ntmps41
  go_wp2_with fail
  go_quiet ((first | (go_at_call 62; exact Calls.quiet_of_same (unhide HI _ rfl)) | (go_at_call 63; exact Calls.quiet_of_same (unhide HS _ rfl)) | (go_at_call_of 70 (n); exact Calls.quiet_of_same (unhide HO1 _)) | (go_at_call_of 70 (a); exact Calls.quiet_of_same (unhide HO2 _))))
  go_wp2_with fail
  go_ret
  exact ⟨rfl, HF.out.drewN _, ((Only.refl _ _).setCell (by simp) _).drewN _⟩
theorem close_no {w : World} {p qh qo : Nat} {rest : Int} {H : List Int} {O : List Bool} (h : Purse w p qh qo rest H O) (id : Int) (hb : opn O id = false) :
    Calls Tryz.prog 47 #[.pointer (some ⟨p, 0, none⟩), .int .i64 id] w fun e w' => e = .returned (.int .i64 0) ∧ w' = w := by
  have HI := hide (is_any h id false hb)
  clear h hb
  go_enter Tryz.func47, Tryz.ntmps47
  go_wp2_with fail
  (with_reducible refine (unhide HI).mono ?_)
  rintro e w' ⟨rfl, rfl⟩
  go_wp2_with fail
  go_ret
  exact ⟨rfl, rfl⟩
theorem close_yes {w : World} {p qh qo : Nat} {rest : Int} {H : List Int} {O : List Bool} (h : Purse w p qh qo rest H O) (id : Int) (hb : opn O id = true) (x : Int) (hx : x = H.getD id.toNat 0) :
    Calls Tryz.prog 47 #[.pointer (some ⟨p, 0, none⟩), .int .i64 id] w fun e w' => e = .returned (.int .i64 x) ∧ Purse w' p qh qo rest (H.set id.toNat 0) (O.set id.toNat false) ∧ Only [qh, qo] w w' := by
  have HI := hide (is_any h id true hb)
  obtain ⟨h0, h1⟩ := opn_lt hb
  obtain ⟨i, rfl⟩ := Int.eq_ofNat_of_zero_le h0
  rw [Int.toNat_natCast] at h1
  have h2 : i < H.length := by have := h.len; omega
  have hx0 : x = H[i] := by rw [hx]; simp [List.getD, List.getElem?_eq_getElem h2]
  have hab := h.le i h2
  have hap := h.apart
  have hf := h.few
  have hfit := h.fits
  have c1 := h.bp.cellv 1 _ rfl
  have c2 := h.bp.cellv 2 _ rfl
  have ci := h.bh.cellv i (.int .i64 x) (by rw [intsV_get, List.getElem?_eq_getElem h2, hx0]; rfl)
  have co := h.bo.cellv i (.bool O[i]) (by rw [boolsV_get, List.getElem?_eq_getElem h1]; rfl)
  have fi := h.bh.frozen i
  have fo := h.bo.frozen i
  have hne := hap.2.2
  have hs := purse_set h i 0 h2 (.inr rfl) (by omega) (by omega)
  have fin : Purse ((w.setCell ⟨qh, i, none⟩ (.int .i64 0)).setCell ⟨qo, i, none⟩ (.bool false)) p qh qo rest (H.set i 0) (O.set i false) :=
    ⟨by rw [List.length_set, List.length_set]; exact h.len, hs.few, hs.nonneg, hs.fits, hs.most, fun k hk => by
      by_cases hki : i = k
      · subst hki; rw [List.getElem?_set_self h2]
      · rw [List.getElem?_set_ne hki] at hk; exact hs.shut k hk,
     hs.bp.far hap.2.1 _, hs.bh.far hap.2.2 _, by have := hs.bo.set_ i (.bool false); rw [boolsV_set] at this; exact this⟩
  have HF := hide fin
  have hil : (i : Int) < H.length := by omega
  obtain ⟨ob, hob⟩ : ∃ ob, ob = O[i] := ⟨_, rfl⟩
  rw [← hob] at co
  clear h hb hx hx0 hs fin hap hfit hob
  rw [Int.toNat_natCast]
  go_enter Tryz.func47, Tryz.ntmps47
  go_wp2_with fail
  (with_reducible refine (unhide HI).mono ?_)
  rintro e w' ⟨rfl, rfl⟩
  go_wp2_with fail
  refine wp_region_tbs [9] [0, 1, 2, 3, 4, 5, 6, 7, 8, 10] [11, 12, 13] (by kernel_rfl) (by kernel_rfl) (by intro _ _ _ _ _ h; exact h) ?_
  simp only [opsAt, List.getElem?_cons_zero, List.getElem?_cons_succ]
  first | refine wpPure_move _ rfl rfl ?_ | (refine wpPure_step (v := ?_) rfl (fun w' => ?_) ?_; rotate_left; · (simp only [Act.put, List.setIfInBounds_toArray, List.set_cons_zero, List.set_cons_succ]; go_simp; with_reducible rfl))
  refine wpPure_nil ?_
  simp only [Act.put, Act.eval, List.setIfInBounds_toArray, List.set_cons_zero, List.set_cons_succ]
  repeat (refine wpStill_step (fun K hK => ?_); go_simp; (try go_bits); refine hK _ ?_; clear hK K)
  refine wpStill_nil ?_
  go_wp2_with fail
  go_ret
  exact ⟨rfl, HF.out.drewN 1, ((((Only.refl _ _).setCell (by simp) _).setCell (by simp) _).drew)⟩
theorem new_no (b n : Int) (w : World) (h : n < 1 ∨ 8 < n ∨ b < n * 700 ∨ 40000 < b) :
    Calls Tryz.prog 22 #[.int .i64 b, .int .i64 n] w fun e w' => e = .returned (.pointer none) ∧ w' = w := by
  by_cases h1 : n < 1
  · go_enter Tryz.func22, Tryz.ntmps22
    go_wp2
    go_ret
    exact ⟨rfl, rfl⟩
  by_cases h2 : 8 < n
  · go_enter Tryz.func22, Tryz.ntmps22
    go_wp2
    go_ret
    exact ⟨rfl, rfl⟩
  by_cases h3 : b < n * 700
  · go_enter Tryz.func22, Tryz.ntmps22
    go_wp2
    go_ret
    exact ⟨rfl, rfl⟩
  have h4 : 40000 < b := by omega
  go_enter Tryz.func22, Tryz.ntmps22
  go_wp2
  go_ret
  exact ⟨rfl, rfl⟩
theorem overs_zero (k : Nat) : overs (List.replicate k 0) = 0 := by
  induction k with
  | zero => rfl
  | succ k ih => simp only [List.replicate_succ, overs, ih]; omega
theorem total_zero (k : Nat) : total (List.replicate k 0) = 0 := by
  induction k with
  | zero => rfl
  | succ k ih => simp [List.replicate_succ, total, ih]
theorem info_int : (Tryz.prog.info? 3).map (fun i => (i.zero, i.size, i.bytes)) = some (some (.int .i64 0), 1, 8) := by kernel_rfl
theorem info_bool : (Tryz.prog.info? 4).map (fun i => (i.zero, i.size, i.bytes)) = some (some (.bool false), 1, 1) := by kernel_rfl
theorem purse_new {w : World} {p qh qo n : Nat} {rest : Int} (h1 : n ≤ 8) (h2 : 0 ≤ rest) (h3 : rest ≤ 40000)
    (hp : Blk w p 87 #[.int .i64 rest, .slice (some ⟨qh, 0, none⟩) n n, .slice (some ⟨qo, 0, none⟩) n n]) (hh : Blk w qh 3 (List.replicate n (Value.int .i64 0)).toArray) (ho : Blk w qo 4 (List.replicate n (Value.bool false)).toArray) :
    Purse w p qh qo rest (List.replicate n 0) (List.replicate n false) := by
  refine ⟨by simp, by simpa using h1, fun x hx => ?_, by rw [overs_zero]; exact h2, h3, fun i hi => ?_, by simpa using hp, ?_, ?_⟩
  · rw [List.eq_of_mem_replicate hx]; omega
  · rw [List.getElem?_replicate] at hi ⊢
    split at hi
    · rename_i h; simp [h]
    · cases hi
  · have e : intsV (List.replicate n 0) = (List.replicate n (Value.int .i64 0)).toArray := by simp [intsV]
    rw [e]; exact hh
  · have e : boolsV (List.replicate n false) = (List.replicate n (Value.bool false)).toArray := by simp [boolsV]
    rw [e]; exact ho
theorem new_yes (b : Int) (n : Nat) (w : World) (h1 : 1 ≤ n) (h2 : n ≤ 8) (h3 : (n : Int) * 700 ≤ b) (h4 : b ≤ 40000) :
    Calls Tryz.prog 22 #[.int .i64 b, .int .i64 (n : Int)] w fun e w' => ∃ p qh qo, e = .returned (.pointer (some ⟨p, 0, none⟩)) ∧ Purse w' p qh qo (b - n * 700) (List.replicate n 0) (List.replicate n false) ∧
      w.heap.size ≤ p ∧ w.heap.size ≤ qh ∧ w.heap.size ≤ qo ∧ Below w.heap.size w w' := by
  obtain ⟨ci, hci⟩ : ∃ ci, ci = (List.replicate n (Value.int .i64 0)).toArray := ⟨_, rfl⟩
  obtain ⟨cb, hcb⟩ : ∃ cb, cb = (List.replicate n (Value.bool false)).toArray := ⟨_, rfl⟩
  have hm1 := run_make_cells (P := Tryz.prog) Tryz.underlying30 (.int .i64 0) 8 info_int rfl n n rfl (by omega) (by omega)
  have hm2 := run_make_cells (P := Tryz.prog) Tryz.underlying75 (.bool false) 1 info_bool rfl n n rfl (by omega) (by omega)
  rw [← hci] at hm1
  rw [← hcb] at hm2
  have hw1 : IntKind.i64.wrap ((n : Int) * 700) = n * 700 := IntWalk.i64_in _ ⟨by omega, by omega⟩
  have hw2 : IntKind.i64.wrap (b - (n : Int) * 700) = b - n * 700 := IntWalk.i64_in _ ⟨by omega, by omega⟩
  obtain ⟨rest, hr⟩ : ∃ rest, rest = b - (n : Int) * 700 := ⟨_, rfl⟩
  have F1 : ∀ W : World, W.heap.size = w.heap.size → Purse (((W.alloc (.cells ci 3)).alloc (.cells cb 4)).alloc (.cells #[.int .i64 rest, .slice (some ⟨w.heap.size, 0, none⟩) n n, .slice (some ⟨w.heap.size + 1, 0, none⟩) n n] 87)) (w.heap.size + 2) w.heap.size (w.heap.size + 1) rest (List.replicate n 0) (List.replicate n false) := by
    intro W hW
    subst hci; subst hcb
    refine purse_new h2 (by omega) (by omega) ?_ ?_ ?_
    · have := Blk.new ((W.alloc (.cells (List.replicate n (Value.int .i64 0)).toArray 3)).alloc (.cells (List.replicate n (Value.bool false)).toArray 4)) 87 #[.int .i64 rest, .slice (some ⟨w.heap.size, 0, none⟩) n n, .slice (some ⟨w.heap.size + 1, 0, none⟩) n n]
      simpa [hW] using this
    · have := ((Blk.new W 3 (List.replicate n (Value.int .i64 0)).toArray).alloc (.cells (List.replicate n (Value.bool false)).toArray 4)).alloc (.cells #[.int .i64 rest, .slice (some ⟨w.heap.size, 0, none⟩) n n, .slice (some ⟨w.heap.size + 1, 0, none⟩) n n] 87)
      simpa [hW] using this
    · have := ((Blk.new (W.alloc (.cells (List.replicate n (Value.int .i64 0)).toArray 3)) 4 (List.replicate n (Value.bool false)).toArray)).alloc (.cells #[.int .i64 rest, .slice (some ⟨w.heap.size, 0, none⟩) n n, .slice (some ⟨w.heap.size + 1, 0, none⟩) n n] 87)
      simpa [hW] using this
  have F2 : ∀ W : World, W.heap.size = w.heap.size → Purse (((W.alloc (.cells cb 4)).alloc (.cells ci 3)).alloc (.cells #[.int .i64 rest, .slice (some ⟨w.heap.size + 1, 0, none⟩) n n, .slice (some ⟨w.heap.size, 0, none⟩) n n] 87)) (w.heap.size + 2) (w.heap.size + 1) w.heap.size rest (List.replicate n 0) (List.replicate n false) := by
    intro W hW
    subst hci; subst hcb
    refine purse_new h2 (by omega) (by omega) ?_ ?_ ?_
    · have := Blk.new ((W.alloc (.cells (List.replicate n (Value.bool false)).toArray 4)).alloc (.cells (List.replicate n (Value.int .i64 0)).toArray 3)) 87 #[.int .i64 rest, .slice (some ⟨w.heap.size + 1, 0, none⟩) n n, .slice (some ⟨w.heap.size, 0, none⟩) n n]
      simpa [hW] using this
    · have := ((Blk.new (W.alloc (.cells (List.replicate n (Value.bool false)).toArray 4)) 3 (List.replicate n (Value.int .i64 0)).toArray)).alloc (.cells #[.int .i64 rest, .slice (some ⟨w.heap.size + 1, 0, none⟩) n n, .slice (some ⟨w.heap.size, 0, none⟩) n n] 87)
      simpa [hW] using this
    · have := ((Blk.new W 4 (List.replicate n (Value.bool false)).toArray).alloc (.cells (List.replicate n (Value.int .i64 0)).toArray 3)).alloc (.cells #[.int .i64 rest, .slice (some ⟨w.heap.size + 1, 0, none⟩) n n, .slice (some ⟨w.heap.size, 0, none⟩) n n] 87)
      simpa [hW] using this
  have HF1 := hide F1
  have HF2 := hide F2
  rw [← hr] at hw2 ⊢
  have Hr := hide hr
  clear F1 F2 hci hcb hr
  go_enter Tryz.func22, Tryz.ntmps22
  go_wp2
  go_region
  all_goals go_wp2
  all_goals go_ret
  all_goals
    have hr := Hr.out
    subst hr
    first
      | exact ⟨_, _, _, rfl, (HF1.out w rfl).drewN 1, by omega, by omega, by omega, ((((Below.refl _ _).alloc (Nat.le_refl _) _).alloc (by simp) _).alloc (by simp; omega) _).drew⟩
      | exact ⟨_, _, _, rfl, (HF2.out w rfl).drewN 1, by omega, by omega, by omega, ((((Below.refl _ _).alloc (Nat.le_refl _) _).alloc (by simp) _).alloc (by simp; omega) _).drew⟩
end Go.Proofs.YtkccjfgkbkodiaaGreat.Pu
namespace Go.Proofs.YtkccjfgkbkodiaaGreat
open Go
section
variable {P : Program} {ops : Array Oper} {Q : Exit → Act → World → Prop} {md : Region.Mode} {w : World}
theorem upon_then {K K2 : Act → World → Prop} {o : Oper} {a : Act} (r : Result Next) (h : o.upon P a K (Exit.then K2 Q) r) : o.upon P a K Q r := by
  cases r with
  | ok n w =>
    cases n with
    | enter f args => exact Calls.mono h (fun e w' h' => by cases e <;> exact h')
    | _ => exact h
  | halt x w =>
    cases x <;> exact h
theorem wpOp_then {K K2 : Act → World → Prop} {i : Nat} {a : Act} (h : wpOp P ops (Exit.then K2 Q) i K a w) : wpOp P ops Q i K a w := by
  unfold wpOp at h ⊢
  cases hi : ops[i]? with
  | none => simpa only [hi] using h
  | some o =>
    simp only [hi] at h ⊢
    split
    · rename_i hw
      rw [if_pos hw] at h
      rcases h with h | h
      · exact .inl (upon_then _ h)
      · exact .inr h
    · rename_i hw
      rwa [if_neg hw] at h
def forcedK (md : Region.Mode) (ops : Array Oper) : Array Bool → List Nat → Bool
  | _, [] => true
  | listed, t :: ts => decide (Region.ready md ops listed = [t]) && (ops[t]?).isSome && forcedK md ops (listed.setIfInBounds t true) ts
theorem wpAny_forcedK {K : Act → World → Prop} : ∀ (ts : List Nat) (g : Nat) (listed : Array Bool) (a : Act) (w : World), forcedK md ops listed ts = true →
    (∀ a w, K a w → wpAny P md ops Q g (setAll listed ts) a w) → wpList P ops (Exit.then K Q) (opsAt ops.toList ts) a w → wpAny P md ops Q (ts.length + g) listed a w
  | [], g, listed, a, w, _, hK, h => by rw [List.length_nil, Nat.zero_add]; exact hK a w h
  | t :: ts, g, listed, a, w, hB, hK, h => by
    rw [List.length_cons, show ts.length + 1 + g = (ts.length + g) + 1 by omega]
    simp only [forcedK, Bool.and_eq_true, decide_eq_true_eq] at hB
    obtain ⟨⟨hr, ho⟩, hB⟩ := hB
    obtain ⟨o, ho⟩ := Option.isSome_iff_exists.1 ho
    have hlo : ops.toList[t]? = some o := by simpa using ho
    simp only [opsAt, hlo] at h
    refine ⟨fun h1 => (by rw [hr] at h1; cases h1), fun i hi => ?_⟩
    rw [hr] at hi
    have hit : i = t := by simpa using hi
    subst hit
    have hw : wpOp P ops (Exit.then K Q) i (wpList P ops (Exit.then K Q) (opsAt ops.toList ts)) a w := by unfold wpOp; simp only [ho]; exact h
    exact wpOp_mono (fun a' w' h' => wpAny_forcedK ts g _ a' w' hB hK h') (wpOp_then hw)
/-- All that is asked of the stages. -/
def stagesB (md : Region.Mode) (ops : Array Oper) : Array Bool → List (List Nat × List Nat × List Nat) → Bool
  | l0, [] => (Region.ready md ops l0).isEmpty
  | l0, (T, ks, ts) :: r =>
    let l1 := setAll l0 T
    let l2 := setAll l1 ks
    takesB md ops l0 T && closedB md ops l1 && chainTo md ops (ts.headD ops.size) ks && restB md ops l1 ks (ts.headD ops.size) &&
      (Region.ready md ops l2).all (fun j => !ks.contains j) && lexB md ops l1 ks && forcedK md ops l2 ts && stagesB md ops (setAll l2 ts) r
def stagesN : List (List Nat × List Nat × List Nat) → Nat
  | [] => 0
  | (T, ks, ts) :: r => ks.length + (ts.length + stagesN r) + T.length
def wpStages (P : Program) (l : List Oper) (Q : Exit → Act → World → Prop) : List (List Nat × List Nat × List Nat) → Act → World → Prop
  | [], a, w => Q .normal a w
  | (T, ks, ts) :: r, a, w => wpPure P l.toArray (fun a1 => wpStill P l.toArray w (fun a2 => wpList P l.toArray (Exit.then (wpStages P l Q r) Q) (opsAt l ts) a2 w) (opsAt l ks) a1) (opsAt l T) a
theorem wpStages_nil {l : List Oper} {Q : Exit → Act → World → Prop} {a : Act} (h : Q .normal a w) : wpStages P l Q [] a w := h
theorem wpStages_cons {l : List Oper} {Q : Exit → Act → World → Prop} {a : Act} {T ks ts : List Nat} {r : List (List Nat × List Nat × List Nat)}
    (h : wpPure P l.toArray (fun a1 => wpStill P l.toArray w (fun a2 => wpList P l.toArray (Exit.then (wpStages P l Q r) Q) (opsAt l ts) a2 w) (opsAt l ks) a1) (opsAt l T) a) : wpStages P l Q ((T, ks, ts) :: r) a w := h
/-- An operation that yields, guarded or not. -/
theorem wpPure_stage {Q : Act → Prop} {a : Act} {o : Oper} {rest : List Oper}
    (h : ∀ K : Act → Prop, (∀ a, wpPure P ops Q rest a → K a) → if Region.wanted o (yielded ops a.tmps) = true then ∃ v, (∀ w, (execOp a.eval o).run P w = .ok (.value v) w) ∧ K (a.put o.dst v) else K (a.put o.dst undef)) : wpPure P ops Q (o :: rest) a := by
  have h1 := h (wpPure P ops Q rest) (fun _ h => h)
  by_cases hw : Region.wanted o (yielded ops a.tmps) = true
  · rw [if_pos hw] at h1
    obtain ⟨v, hy, h1⟩ := h1
    exact ⟨v, .inl ⟨hw, hy⟩, h1⟩
  · rw [if_neg hw] at h1
    exact ⟨undef, .inr ⟨by simpa using hw, rfl⟩, h1⟩
theorem wpPure_mono : ∀ (is : List Oper) (a : Act) (R R' : Act → Prop), (∀ a, R a → R' a) → wpPure P ops R is a → wpPure P ops R' is a := by
  intro is
  induction is with
  | nil => intro a R R' hh h; exact hh a h
  | cons o is ih => intro a R R' hh h; obtain ⟨v, hy, h⟩ := h; exact ⟨v, hy, ih _ R R' hh h⟩
theorem wpAny_stages {l : List Oper} (hsel : Region.noSelect l.toArray = true) (hQ : ∀ c a w, ∀ (d : Tmp) v, Q (.panic c) (Act.put a (some d) v) w → Q (.panic c) a w) :
    ∀ (st : List (List Nat × List Nat × List Nat)) (l0 : Array Bool) (a : Act) (w : World), stagesB md l.toArray l0 st = true → wpStages P l Q st a w → wpAny P md l.toArray Q (stagesN st) l0 a w
  | [], l0, a, w, hB, h => wpAny_done (by simpa [stagesB] using hB) h _
  | (T, ks, ts) :: r, l0, a, w, hB, h => by
    simp only [stagesB, Bool.and_eq_true] at hB
    obtain ⟨⟨⟨⟨⟨⟨⟨htk, hcl⟩, hch⟩, hrest⟩, hfin⟩, hlex⟩, hforced⟩, hnext⟩ := hB
    refine wpAny_takes hsel hQ T (ks.length + (ts.length + stagesN r)) _ a w htk ?_
    refine wpPure_mono _ _ _ _ (fun a1 h1 => ?_) h
    refine wpAny_of_blk (ks := ks) (L := fun listed' a' => listed' = setAll (setAll l0 T) ks ∧ wpList P l.toArray (Exit.then (wpStages P l Q r) Q) (opsAt l ts) a' w) (fun listed a hL => ?_) ks.length _ a1 ?_
    · rw [hL.1]
      exact wpAny_forcedK ts (stagesN r) _ a w hforced (fun a w hK => wpAny_stages hsel hQ r _ a w hnext hK) hL.2
    · refine wpBlk_lex (m := ts.headD l.toArray.size) (listed0 := setAll l0 T) hsel hch hrest ?_ ks _ a1 (fun _ h => h) (closed_spec hcl) hlex rfl h1
      intro j hj hk
      have := List.all_eq_true.1 hfin j hj
      rw [List.contains_iff_mem.2 hk] at this
      cases this
theorem wp_region_stages {id : Nat} {a : Act} {l : List Oper} (st : List (List Nat × List Nat × List Nat)) (hm : P.follows .mixedOrders = true) (hsel : Region.noSelect l.toArray = true)
    (hB : stagesB .any l.toArray (Array.replicate l.toArray.size false) st = true) (hN : decide (stagesN st ≤ l.toArray.size) = true)
    (hQ : ∀ c a w, ∀ (d : Tmp) v, Q (.panic c) (Act.put a (some d) v) w → Q (.panic c) a w)
    (h : wpStages P l Q st a w.drew) : (Code.region id l.toArray true).wp P Q a w :=
  wp_region_any hm (wpAny_fuel _ _ _ _ _ (of_decide_eq_true hN) (wpAny_stages hsel hQ st _ a w.drew hB h))
end
end Go.Proofs.YtkccjfgkbkodiaaGreat
