/-
  The walk of HeadLong.
-/
import Derived.Test.YtogindldfpinjaaHeadD
import Derived.Deep.RegionHeld3
import Derived.Deep.DeepCutAuto
namespace Go.Proofs.Ytogindldfpinjaa
open Go.RowKit Instr

/-- string([]byte{x}), wherever it lies. -/
theorem run_string_one {P : Program} {src dst e : TypeId} (hs : P.underlying src = some (.slice e)) (he : P.underlying e = some (.int .u8)) (hd : P.underlying dst = some .string)
    (x : Nat) (hx : x < 256) (xi : Int) (hxi : xi = x) (W : World) (g : Nat) (h : W.cell? ⟨g, 0, none⟩ = some (.int .u8 xi)) :
    (convert src dst (.slice (some ⟨g, 0, none⟩) 1 1)).run P W = Result.ok (.string (S (bigL x 1))) W := by
  refine run_string_at hs he hd W ⟨g, 0, none⟩ 1 1 (bigL x 1) (by simp) (fun j u hu => ?_)
  cases j with
  | zero =>
    have e1 : (⟨g, 0, none⟩ : Addr).add 0 = ⟨g, 0, none⟩ := rfl
    rw [e1, h]
    simp [bigL, u8s] at hu
    rw [← hu, hxi]
    congr 2
    omega
  | succ j => simp [bigL, u8s] at hu

theorem form_long (m k v : Nat) (hm : m < 8) (hk : k < 4) (hv : v < 256 ^ (2 ^ k)) : Form (bigL (m * 32 + (24 + k)) 1 ++ bigL v (2 ^ k)) m (2 ^ k) v := by
  have hb1 : bigL (m * 32 + (24 + k)) 1 = [UInt8.ofNat (m * 32 + (24 + k))] := by simp [bigL]
  have h8 : 2 ^ k ≤ 8 := by
    have : k = 0 ∨ k = 1 ∨ k = 2 ∨ k = 3 := by omega
    rcases this with rfl | rfl | rfl | rfl <;> omega
  have hlt : 256 ^ (2 ^ k) ≤ 256 ^ 8 := Nat.pow_le_pow_right (by omega) h8
  refine ⟨⟨UInt8.ofNat (m * 32 + (24 + k)), by rw [hb1]; rfl, ?_⟩, h8, by omega, .inl hv⟩
  rw [show (UInt8.ofNat (m * 32 + (24 + k))).toNat = m * 32 + (24 + k) by rw [UInt8.toNat_ofNat']; omega]
  exact first_more m k v hk hv

set_option maxRecDepth 100000 in
theorem headLong_0 (major n : Int) (v m : Nat) (tm tn : Int) (ht0 : major.tmod 8 = tm) (ht1 : -8 < tm) (ht2 : tm < 8) (ht3 : (tm + 8).tmod 8 = (m : Int)) (hm8 : m < 8)
    (hn0 : n.tmod 4 = tn) (hn1 : -4 < tn) (hn2 : tn < 4) (hn3 : (tn + 4).tmod 4 = 0) (hv : v < 256) (w : World) :
    Calls Try.prog 5 #[.int .i64 major, .int .u64 v, .int .i64 n] w fun e w' => e = .returned (.bool true) ∧ Below w.heap.size w w' := by
  have HA := hide (alive_any w)
  obtain ⟨l2, hl2⟩ : ∃ l2, l2 = bigL v 1 := ⟨_, rfl⟩
  have HB := fun W => hide (big_at v 1 v 1 rfl rfl (by omega) (by omega) l2 hl2 W)
  have hvi : decide ((256 : Int) ≤ (v : Int)) = false := by simp; omega
  have hf := form_long m 0 v hm8 (by omega) (by simpa using hv)
  have hs1 : IntKind.u8.wrap ((m : Int) * 32 + 24) = m * 32 + 24 := by rw [IntKind.wrap_u8]; omega
  have hs2 : IntKind.u8.wrap (0 : Int) = 0 := rfl
  have hs3 : IntKind.u8.wrap ((m : Int) * 32 + 24 + 0) = m * 32 + 24 := by rw [IntKind.wrap_u8]; omega
  have hcv := run_string_one (P := Try.prog) Try.underlying36 Try.underlying5 Try.underlying9 (m * 32 + 24) (by omega) ((m : Int) * 32 + 24) (by push_cast; rfl)
  obtain ⟨l1, hl1⟩ : ∃ l1, l1 = bigL (m * 32 + 24) 1 := ⟨_, rfl⟩
  have hadd := run_add_S (P := Try.prog) l1 l2 (by rw [hl1, hl2, bigL_length, bigL_length]; omega)
  obtain ⟨L, hL⟩ : ∃ L, L = l1 ++ l2 := ⟨_, rfl⟩
  have HL2 : Hid (Form L m 1 v) := by rw [hL, hl1, hl2]; exact hf
  rw [← hL] at hadd
  rw [← hl1] at hcv
  have hlen : (L.length : Int) = 1 + 1 := by have := HL2.out.len; omega
  clear hv hl1 hl2 hL hf
  go_enter Try.func5, Try.ntmps5
  go_wp2_with fail
  (with_reducible refine (unhide HA).mono ?_)
  rintro e w1 ⟨rfl, hb⟩
  have h0 := head_new w1
  have hs := hb.size
  have hb := hb.alloc hb.size (.cells #[.bool false, .bool false, .bool false, .int .i64 0, .int .i64 0, .int .u64 0, .int .i64 0] 28)
  go_wp2_with fail
  go_cut [10] (fun s10 wx => s10 = .string (S L) ∧ Only [] (w1.alloc (.cells #[.bool false, .bool false, .bool false, .int .i64 0, .int .i64 0, .int .u64 0, .int .i64 0] 28)) wx)
  case first =>
    go_region_with (go_at_call 14; refine (unhide (HB _)).mono ?_; rintro e w' ⟨rfl, ho⟩; obtain ⟨hkc, hkf⟩ := Only.rules ho)
    all_goals (go_wp2_with fail; go_meet; exact ⟨rfl, by first | exact (((Only.refl _ _).alloc _).drew).trans ho | exact ((Only.refl _ _).drew.trans ho).alloc _⟩)
  case rest =>
    obtain ⟨rfl, ho⟩ := hcut
    have h1 := ho.blk h0 (by simp)
    have hb := hb.trans (ho.below (B := w.heap.size) (by simp; omega) (by simp))
    have hsz := h1.lt
    clear ho h0
    go_wp2_with fail
    go_loopg [11, 12, 13] (1 + 1) (fun g i s8 s9 wr => ∃ j : Nat, i = .int .i64 j ∧ j + g = 1 + 1 ∧ Head wr w1.heap.size (stI m 1 v j) ∧ Below w.heap.size w wr)
    case atStart => exact ⟨0, rfl, by omega, h1, hb⟩
    case round =>
      obtain ⟨j, rfl, hj, hh, hb⟩ := hrel
      clear h1
      by_cases hlt : j < 1 + 1
      · have hlt' : j < L.length := by omega
        obtain ⟨en, hen⟩ : ∃ en, en = decide (j = 1) := ⟨_, rfl⟩
        have HS := hide (step_in HL2.out j hlt' hh _ rfl en hen)
        have hjn : ((j : Int) == 1) = en := by rw [hen, Bool.eq_iff_iff]; simp; omega
        have hjl : (j : Int) < L.length := by omega
        clear hh hen
        go_wp2_with fail
        refine (unhide HS).mono ?_
        rintro e w5 ⟨rfl, hh, ho⟩
        have hb5 := hb.trans (ho.below hb.size (by simp; omega))
        clear ho HS
        go_wp2_with fail
        go_roundg (gk - 1)
        case measure => omega
        case rel => exact ⟨j + 1, by go_num, by omega, hh, hb5⟩
      · have hjn : j = 1 + 1 := by omega
        subst hjn
        rw [end_st] at hh
        have HV := hide (value_any hh v (by rfl))
        have HM := hide (major_any hh m (by rfl))
        clear hh
        go_wp2_with fail
        (with_reducible refine (unhide HV).mono ?_)
        rintro e w5 ⟨rfl, rfl⟩
        go_wp2_with fail
        (with_reducible refine (unhide HM).mono ?_)
        rintro e w6 ⟨rfl, rfl⟩
        go_wp2_with fail
        go_ret
        exact ⟨rfl, hb⟩
set_option maxRecDepth 100000 in
theorem headLong_1 (major n : Int) (v m : Nat) (tm tn : Int) (ht0 : major.tmod 8 = tm) (ht1 : -8 < tm) (ht2 : tm < 8) (ht3 : (tm + 8).tmod 8 = (m : Int)) (hm8 : m < 8)
    (hn0 : n.tmod 4 = tn) (hn1 : -4 < tn) (hn2 : tn < 4) (hn3 : (tn + 4).tmod 4 = 1) (hv : v < 65536) (w : World) :
    Calls Try.prog 5 #[.int .i64 major, .int .u64 v, .int .i64 n] w fun e w' => e = .returned (.bool true) ∧ Below w.heap.size w w' := by
  have HA := hide (alive_any w)
  obtain ⟨l2, hl2⟩ : ∃ l2, l2 = bigL v 2 := ⟨_, rfl⟩
  have HB := fun W => hide (big_at v 2 v 2 rfl rfl (by omega) (by omega) l2 hl2 W)
  have hvi : decide ((65536 : Int) ≤ (v : Int)) = false := by simp; omega
  have hf := form_long m 1 v hm8 (by omega) (by simpa using hv)
  have hs1 : IntKind.u8.wrap ((m : Int) * 32 + 24) = m * 32 + 24 := by rw [IntKind.wrap_u8]; omega
  have hs2 : IntKind.u8.wrap (1 : Int) = 1 := rfl
  have hs3 : IntKind.u8.wrap ((m : Int) * 32 + 24 + 1) = m * 32 + 25 := by rw [IntKind.wrap_u8]; omega
  have hcv := run_string_one (P := Try.prog) Try.underlying36 Try.underlying5 Try.underlying9 (m * 32 + 25) (by omega) ((m : Int) * 32 + 25) (by push_cast; rfl)
  obtain ⟨l1, hl1⟩ : ∃ l1, l1 = bigL (m * 32 + 25) 1 := ⟨_, rfl⟩
  have hadd := run_add_S (P := Try.prog) l1 l2 (by rw [hl1, hl2, bigL_length, bigL_length]; omega)
  obtain ⟨L, hL⟩ : ∃ L, L = l1 ++ l2 := ⟨_, rfl⟩
  have HL2 : Hid (Form L m 2 v) := by rw [hL, hl1, hl2]; exact hf
  rw [← hL] at hadd
  rw [← hl1] at hcv
  have hlen : (L.length : Int) = 2 + 1 := by have := HL2.out.len; omega
  clear hv hl1 hl2 hL hf
  go_enter Try.func5, Try.ntmps5
  go_wp2_with fail
  (with_reducible refine (unhide HA).mono ?_)
  rintro e w1 ⟨rfl, hb⟩
  have h0 := head_new w1
  have hs := hb.size
  have hb := hb.alloc hb.size (.cells #[.bool false, .bool false, .bool false, .int .i64 0, .int .i64 0, .int .u64 0, .int .i64 0] 28)
  go_wp2_with fail
  go_cut [10] (fun s10 wx => s10 = .string (S L) ∧ Only [] (w1.alloc (.cells #[.bool false, .bool false, .bool false, .int .i64 0, .int .i64 0, .int .u64 0, .int .i64 0] 28)) wx)
  case first =>
    go_region_with (go_at_call 14; refine (unhide (HB _)).mono ?_; rintro e w' ⟨rfl, ho⟩; obtain ⟨hkc, hkf⟩ := Only.rules ho)
    all_goals (go_wp2_with fail; go_meet; exact ⟨rfl, by first | exact (((Only.refl _ _).alloc _).drew).trans ho | exact ((Only.refl _ _).drew.trans ho).alloc _⟩)
  case rest =>
    obtain ⟨rfl, ho⟩ := hcut
    have h1 := ho.blk h0 (by simp)
    have hb := hb.trans (ho.below (B := w.heap.size) (by simp; omega) (by simp))
    have hsz := h1.lt
    clear ho h0
    go_wp2_with fail
    go_loopg [11, 12, 13] (2 + 1) (fun g i s8 s9 wr => ∃ j : Nat, i = .int .i64 j ∧ j + g = 2 + 1 ∧ Head wr w1.heap.size (stI m 2 v j) ∧ Below w.heap.size w wr)
    case atStart => exact ⟨0, rfl, by omega, h1, hb⟩
    case round =>
      obtain ⟨j, rfl, hj, hh, hb⟩ := hrel
      clear h1
      by_cases hlt : j < 2 + 1
      · have hlt' : j < L.length := by omega
        obtain ⟨en, hen⟩ : ∃ en, en = decide (j = 2) := ⟨_, rfl⟩
        have HS := hide (step_in HL2.out j hlt' hh _ rfl en hen)
        have hjn : ((j : Int) == 2) = en := by rw [hen, Bool.eq_iff_iff]; simp; omega
        have hjl : (j : Int) < L.length := by omega
        clear hh hen
        go_wp2_with fail
        refine (unhide HS).mono ?_
        rintro e w5 ⟨rfl, hh, ho⟩
        have hb5 := hb.trans (ho.below hb.size (by simp; omega))
        clear ho HS
        go_wp2_with fail
        go_roundg (gk - 1)
        case measure => omega
        case rel => exact ⟨j + 1, by go_num, by omega, hh, hb5⟩
      · have hjn : j = 2 + 1 := by omega
        subst hjn
        rw [end_st] at hh
        have HV := hide (value_any hh v (by rfl))
        have HM := hide (major_any hh m (by rfl))
        clear hh
        go_wp2_with fail
        (with_reducible refine (unhide HV).mono ?_)
        rintro e w5 ⟨rfl, rfl⟩
        go_wp2_with fail
        (with_reducible refine (unhide HM).mono ?_)
        rintro e w6 ⟨rfl, rfl⟩
        go_wp2_with fail
        go_ret
        exact ⟨rfl, hb⟩
set_option maxRecDepth 100000 in
theorem headLong_2 (major n : Int) (v m : Nat) (tm tn : Int) (ht0 : major.tmod 8 = tm) (ht1 : -8 < tm) (ht2 : tm < 8) (ht3 : (tm + 8).tmod 8 = (m : Int)) (hm8 : m < 8)
    (hn0 : n.tmod 4 = tn) (hn1 : -4 < tn) (hn2 : tn < 4) (hn3 : (tn + 4).tmod 4 = 2) (hv : v < 4294967296) (w : World) :
    Calls Try.prog 5 #[.int .i64 major, .int .u64 v, .int .i64 n] w fun e w' => e = .returned (.bool true) ∧ Below w.heap.size w w' := by
  have HA := hide (alive_any w)
  obtain ⟨l2, hl2⟩ : ∃ l2, l2 = bigL v 4 := ⟨_, rfl⟩
  have HB := fun W => hide (big_at v 4 v 4 rfl rfl (by omega) (by omega) l2 hl2 W)
  have hvi : decide ((4294967296 : Int) ≤ (v : Int)) = false := by simp; omega
  have hf := form_long m 2 v hm8 (by omega) (by simpa using hv)
  have hs1 : IntKind.u8.wrap ((m : Int) * 32 + 24) = m * 32 + 24 := by rw [IntKind.wrap_u8]; omega
  have hs2 : IntKind.u8.wrap (2 : Int) = 2 := rfl
  have hs3 : IntKind.u8.wrap ((m : Int) * 32 + 24 + 2) = m * 32 + 26 := by rw [IntKind.wrap_u8]; omega
  have hcv := run_string_one (P := Try.prog) Try.underlying36 Try.underlying5 Try.underlying9 (m * 32 + 26) (by omega) ((m : Int) * 32 + 26) (by push_cast; rfl)
  obtain ⟨l1, hl1⟩ : ∃ l1, l1 = bigL (m * 32 + 26) 1 := ⟨_, rfl⟩
  have hadd := run_add_S (P := Try.prog) l1 l2 (by rw [hl1, hl2, bigL_length, bigL_length]; omega)
  obtain ⟨L, hL⟩ : ∃ L, L = l1 ++ l2 := ⟨_, rfl⟩
  have HL2 : Hid (Form L m 4 v) := by rw [hL, hl1, hl2]; exact hf
  rw [← hL] at hadd
  rw [← hl1] at hcv
  have hlen : (L.length : Int) = 4 + 1 := by have := HL2.out.len; omega
  clear hv hl1 hl2 hL hf
  go_enter Try.func5, Try.ntmps5
  go_wp2_with fail
  (with_reducible refine (unhide HA).mono ?_)
  rintro e w1 ⟨rfl, hb⟩
  have h0 := head_new w1
  have hs := hb.size
  have hb := hb.alloc hb.size (.cells #[.bool false, .bool false, .bool false, .int .i64 0, .int .i64 0, .int .u64 0, .int .i64 0] 28)
  go_wp2_with fail
  go_cut [10] (fun s10 wx => s10 = .string (S L) ∧ Only [] (w1.alloc (.cells #[.bool false, .bool false, .bool false, .int .i64 0, .int .i64 0, .int .u64 0, .int .i64 0] 28)) wx)
  case first =>
    go_region_with (go_at_call 14; refine (unhide (HB _)).mono ?_; rintro e w' ⟨rfl, ho⟩; obtain ⟨hkc, hkf⟩ := Only.rules ho)
    all_goals (go_wp2_with fail; go_meet; exact ⟨rfl, by first | exact (((Only.refl _ _).alloc _).drew).trans ho | exact ((Only.refl _ _).drew.trans ho).alloc _⟩)
  case rest =>
    obtain ⟨rfl, ho⟩ := hcut
    have h1 := ho.blk h0 (by simp)
    have hb := hb.trans (ho.below (B := w.heap.size) (by simp; omega) (by simp))
    have hsz := h1.lt
    clear ho h0
    go_wp2_with fail
    go_loopg [11, 12, 13] (4 + 1) (fun g i s8 s9 wr => ∃ j : Nat, i = .int .i64 j ∧ j + g = 4 + 1 ∧ Head wr w1.heap.size (stI m 4 v j) ∧ Below w.heap.size w wr)
    case atStart => exact ⟨0, rfl, by omega, h1, hb⟩
    case round =>
      obtain ⟨j, rfl, hj, hh, hb⟩ := hrel
      clear h1
      by_cases hlt : j < 4 + 1
      · have hlt' : j < L.length := by omega
        obtain ⟨en, hen⟩ : ∃ en, en = decide (j = 4) := ⟨_, rfl⟩
        have HS := hide (step_in HL2.out j hlt' hh _ rfl en hen)
        have hjn : ((j : Int) == 4) = en := by rw [hen, Bool.eq_iff_iff]; simp; omega
        have hjl : (j : Int) < L.length := by omega
        clear hh hen
        go_wp2_with fail
        refine (unhide HS).mono ?_
        rintro e w5 ⟨rfl, hh, ho⟩
        have hb5 := hb.trans (ho.below hb.size (by simp; omega))
        clear ho HS
        go_wp2_with fail
        go_roundg (gk - 1)
        case measure => omega
        case rel => exact ⟨j + 1, by go_num, by omega, hh, hb5⟩
      · have hjn : j = 4 + 1 := by omega
        subst hjn
        rw [end_st] at hh
        have HV := hide (value_any hh v (by rfl))
        have HM := hide (major_any hh m (by rfl))
        clear hh
        go_wp2_with fail
        (with_reducible refine (unhide HV).mono ?_)
        rintro e w5 ⟨rfl, rfl⟩
        go_wp2_with fail
        (with_reducible refine (unhide HM).mono ?_)
        rintro e w6 ⟨rfl, rfl⟩
        go_wp2_with fail
        go_ret
        exact ⟨rfl, hb⟩
set_option maxRecDepth 100000 in
theorem headLong_3 (major n : Int) (v m : Nat) (tm tn : Int) (ht0 : major.tmod 8 = tm) (ht1 : -8 < tm) (ht2 : tm < 8) (ht3 : (tm + 8).tmod 8 = (m : Int)) (hm8 : m < 8)
    (hn0 : n.tmod 4 = tn) (hn1 : -4 < tn) (hn2 : tn < 4) (hn3 : (tn + 4).tmod 4 = 3) (hv : v < 18446744073709551616) (w : World) :
    Calls Try.prog 5 #[.int .i64 major, .int .u64 v, .int .i64 n] w fun e w' => e = .returned (.bool true) ∧ Below w.heap.size w w' := by
  have HA := hide (alive_any w)
  obtain ⟨l2, hl2⟩ : ∃ l2, l2 = bigL v 8 := ⟨_, rfl⟩
  have HB := fun W => hide (big_at v 8 v 8 rfl rfl (by omega) (by omega) l2 hl2 W)
  have hvi : True := trivial
  have hf := form_long m 3 v hm8 (by omega) (by simpa using hv)
  have hs1 : IntKind.u8.wrap ((m : Int) * 32 + 24) = m * 32 + 24 := by rw [IntKind.wrap_u8]; omega
  have hs2 : IntKind.u8.wrap (3 : Int) = 3 := rfl
  have hs3 : IntKind.u8.wrap ((m : Int) * 32 + 24 + 3) = m * 32 + 27 := by rw [IntKind.wrap_u8]; omega
  have hcv := run_string_one (P := Try.prog) Try.underlying36 Try.underlying5 Try.underlying9 (m * 32 + 27) (by omega) ((m : Int) * 32 + 27) (by push_cast; rfl)
  obtain ⟨l1, hl1⟩ : ∃ l1, l1 = bigL (m * 32 + 27) 1 := ⟨_, rfl⟩
  have hadd := run_add_S (P := Try.prog) l1 l2 (by rw [hl1, hl2, bigL_length, bigL_length]; omega)
  obtain ⟨L, hL⟩ : ∃ L, L = l1 ++ l2 := ⟨_, rfl⟩
  have HL2 : Hid (Form L m 8 v) := by rw [hL, hl1, hl2]; exact hf
  rw [← hL] at hadd
  rw [← hl1] at hcv
  have hlen : (L.length : Int) = 8 + 1 := by have := HL2.out.len; omega
  clear hv hl1 hl2 hL hf
  go_enter Try.func5, Try.ntmps5
  go_wp2_with fail
  (with_reducible refine (unhide HA).mono ?_)
  rintro e w1 ⟨rfl, hb⟩
  have h0 := head_new w1
  have hs := hb.size
  have hb := hb.alloc hb.size (.cells #[.bool false, .bool false, .bool false, .int .i64 0, .int .i64 0, .int .u64 0, .int .i64 0] 28)
  go_wp2_with fail
  go_cut [10] (fun s10 wx => s10 = .string (S L) ∧ Only [] (w1.alloc (.cells #[.bool false, .bool false, .bool false, .int .i64 0, .int .i64 0, .int .u64 0, .int .i64 0] 28)) wx)
  case first =>
    go_region_with (go_at_call 14; refine (unhide (HB _)).mono ?_; rintro e w' ⟨rfl, ho⟩; obtain ⟨hkc, hkf⟩ := Only.rules ho)
    all_goals (go_wp2_with fail; go_meet; exact ⟨rfl, by first | exact (((Only.refl _ _).alloc _).drew).trans ho | exact ((Only.refl _ _).drew.trans ho).alloc _⟩)
  case rest =>
    obtain ⟨rfl, ho⟩ := hcut
    have h1 := ho.blk h0 (by simp)
    have hb := hb.trans (ho.below (B := w.heap.size) (by simp; omega) (by simp))
    have hsz := h1.lt
    clear ho h0
    go_wp2_with fail
    go_loopg [11, 12, 13] (8 + 1) (fun g i s8 s9 wr => ∃ j : Nat, i = .int .i64 j ∧ j + g = 8 + 1 ∧ Head wr w1.heap.size (stI m 8 v j) ∧ Below w.heap.size w wr)
    case atStart => exact ⟨0, rfl, by omega, h1, hb⟩
    case round =>
      obtain ⟨j, rfl, hj, hh, hb⟩ := hrel
      clear h1
      by_cases hlt : j < 8 + 1
      · have hlt' : j < L.length := by omega
        obtain ⟨en, hen⟩ : ∃ en, en = decide (j = 8) := ⟨_, rfl⟩
        have HS := hide (step_in HL2.out j hlt' hh _ rfl en hen)
        have hjn : ((j : Int) == 8) = en := by rw [hen, Bool.eq_iff_iff]; simp; omega
        have hjl : (j : Int) < L.length := by omega
        clear hh hen
        go_wp2_with fail
        refine (unhide HS).mono ?_
        rintro e w5 ⟨rfl, hh, ho⟩
        have hb5 := hb.trans (ho.below hb.size (by simp; omega))
        clear ho HS
        go_wp2_with fail
        go_roundg (gk - 1)
        case measure => omega
        case rel => exact ⟨j + 1, by go_num, by omega, hh, hb5⟩
      · have hjn : j = 8 + 1 := by omega
        subst hjn
        rw [end_st] at hh
        have HV := hide (value_any hh v (by rfl))
        have HM := hide (major_any hh m (by rfl))
        clear hh
        go_wp2_with fail
        (with_reducible refine (unhide HV).mono ?_)
        rintro e w5 ⟨rfl, rfl⟩
        go_wp2_with fail
        (with_reducible refine (unhide HM).mono ?_)
        rintro e w6 ⟨rfl, rfl⟩
        go_wp2_with fail
        go_ret
        exact ⟨rfl, hb⟩
end Go.Proofs.Ytogindldfpinjaa
