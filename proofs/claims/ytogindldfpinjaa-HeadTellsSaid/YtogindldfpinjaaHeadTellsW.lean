/-
  The walk of HeadTells.
-/
import Derived.Test.YtogindldfpinjaaHeadE
import Derived.Test.YtogindldfpinjaaHeadR
import Derived.Test.YtogindldfpinjaaArgs2
import Derived.Test.YtogindldfpinjaaStr
import Derived.Deep.DeepCutAuto
namespace Go.Proofs.Ytogindldfpinjaa
open Go.RowKit

set_option maxRecDepth 100000 in
theorem headTells_no (ls : List UInt8) (a1 : Option Addr) (len1 cap1 : Nat) (major : Int) (v : Int) (n : Int) (w : World) (h1 : ls.length ≤ 9223372036854775807) (h2 : len1 ≤ 9223372036854775807) (h : 60 < ls.length ∨ 60 < len1) :
    Calls Try.prog 6 #[.string (S ls), .slice a1 len1 cap1, .int .i64 major, .int .u64 v, .int .i64 n] w fun e w' => e = .returned (.bool true) ∧ Below w.heap.size w w' := by
  have HA := hide (alive_any w)
  by_cases h60 : (60 : Int) < ls.length
  · clear h
    go_enter Try.func6, Try.ntmps6
    go_wp2_with fail
    (with_reducible refine (unhide HA).mono ?_)
    rintro e w1 ⟨rfl, hb⟩
    go_wp2_with fail
    go_ret
    exact ⟨rfl, hb⟩
  have h61 : (60 : Int) < len1 := by omega
  clear h
  go_enter Try.func6, Try.ntmps6
  go_wp2_with fail
  (with_reducible refine (unhide HA).mono ?_)
  rintro e w1 ⟨rfl, hb⟩
  go_wp2_with fail
  go_ret
  exact ⟨rfl, hb⟩

set_option maxRecDepth 100000 in
set_option maxHeartbeats 4000000 in
theorem headTells_yes (ls : List UInt8) (a1 : Option Addr) (len1 cap1 : Nat) (major : Int) (v : Nat) (n : Int) (w : World) (hls : ls.length ≤ 60) (hl1 : len1 ≤ 60) (hv : Hid (v < 18446744073709551616))
    (hc1 : ∀ i, i < len1 → ∃ (g off : Nat) (y : Bool), a1 = some ⟨g, off, none⟩ ∧ g < w.heap.size ∧ w.cell? ⟨g, off + i, none⟩ = some (.bool y)) :
    Calls Try.prog 6 #[.string (S ls), .slice a1 len1 cap1, .int .i64 major, .int .u64 v, .int .i64 n] w fun e w' => e = .returned (.bool true) ∧ Below w.heap.size w w' := by
  have HA := hide (alive_any w)
  have HC := hide hc1
  clear hc1
  go_enter Try.func6, Try.ntmps6
  go_wp2_with fail
  (with_reducible refine (unhide HA).mono ?_)
  rintro e w1 ⟨rfl, hb⟩
  have h1 := head_new w1
  have hs := hb.size
  have hb := hb.alloc hb.size (.cells #[.bool false, .bool false, .bool false, .int .i64 0, .int .i64 0, .int .u64 0, .int .i64 0] 28)
  go_wp2_with fail
  go_loopg [12, 13, 14, 15, 16, 17, 18, 19, 20, 21] ls.length (fun g s12 s13 s14 s15 s16 s17 s18 s19 s20 s21 wr => ∃ (i : Nat) (own : List UInt8) (done : Bool) (bad : Int) (st : HSt), s15 = .int .i64 i ∧ i + g = ls.length ∧
    s12 = .string (S own) ∧ s13 = .bool done ∧ s14 = .int .i64 bad ∧ own.length ≤ i ∧ Hid (Told st own done bad) ∧ Head wr w1.heap.size st ∧ Below w.heap.size w wr)
  case atStart => exact ⟨0, [], false, 0, _, rfl, by omega, rfl, rfl, rfl, by simp, told_zero, h1, hb⟩
  case round =>
    as_aux_lemma =>
    obtain ⟨i, own, done, bad, st, rfl, hi, rfl, rfl, rfl, hown, ht, hh, hb⟩ := hrel
    clear h1
    by_cases hlt : i < ls.length
    · have hil : (i : Int) < ls.length := by omega
      go_upto_region 9 with fail
      go_cut [55] (fun s55 wx => (∃ y : Bool, s55 = .bool y) ∧ wr = wx)
      case first =>
        as_aux_lemma =>
        by_cases hi1 : i < len1
        · obtain ⟨g, off, y0, rfl, hg, hc0⟩ := HC.out i hi1
          have cz : wr.cell? ⟨g, off + i, none⟩ = some (.bool y0) := (hb.cell (p := ⟨g, off + i, none⟩) hg).trans hc0
          clear hc0
          go_wp2_with fail
          go_meet
          exact ⟨⟨_, rfl⟩, rfl⟩
        · have hi1' : decide (i < len1) = false := by simpa using hi1
          go_wp2_with fail
          go_meet
          exact ⟨⟨_, rfl⟩, rfl⟩
      case rest =>
        as_aux_lemma =>
        obtain ⟨⟨y, rfl⟩, rfl⟩ := hcut
        go_upto_if 55 with fail
        go_cut [12, 13, 14] (fun s12 s13 s14 wx => ∃ (own : List UInt8) (done : Bool) (bad : Int) (st : HSt), s12 = .string (S own) ∧ s13 = .bool done ∧ s14 = .int .i64 bad ∧ own.length ≤ i ∧ Hid (Told st own done bad) ∧ Head wx w1.heap.size st ∧ Below w.heap.size w wx)
        case first =>
          as_aux_lemma =>
          cases y with
          | false =>
            go_wp2_with fail
            go_meet
            exact ⟨own, done, bad, st, rfl, rfl, rfl, hown, ht, hh, hb⟩
          | true =>
            have HX := hide (clear_any hh)
            go_wp2_with fail
            (with_reducible refine (unhide HX).mono ?_)
            rintro e w2 ⟨rfl, hh2, ho⟩
            have hb2 := hb.trans (ho.below hb.size (by simp; omega))
            clear ho hh hb HX
            go_wp2_with fail
            go_meet
            exact ⟨[], false, 0, _, rfl, rfl, rfl, by simp, told_zero, hh2, hb2⟩
        case rest =>
          as_aux_lemma =>
          clear hh hb ht hown
          obtain ⟨own, done, bad, st, rfl, rfl, rfl, hown, ht, hh, hb⟩ := hcut
          obtain ⟨b, hbv⟩ : ∃ b, b = ls[i] := ⟨_, rfl⟩
          have hix := index_S (P := Try.prog) Try.underlying9 ls i hlt i rfl (b.toNat : Int) (by rw [hbv])
          have hsl := slice_one (P := Try.prog) Try.underlying9 ls i hlt i (i + 1) rfl rfl b hbv
          have key := told_cases ht.out hh b (ls[i].toNat : Int) (by rw [hbv])
          have hdr : List.take 1 (List.drop i ls) = [b] := by rw [List.drop_eq_getElem_cons hlt, ← hbv]; rfl
          have HDR := hide hdr
          clear hbv hdr hsl hix
          rcases key with ⟨hb0, hst⟩ | ⟨rfl, rfl, he, hen⟩ | ⟨rfl, rfl, rfl, hlow, hS⟩ | ⟨rfl, rfl, c, l, how, hlow, hln, hS⟩
          · as_aux_lemma =>
            have HS := hide (step_bad_at hh (ls[i].toNat : Int) bad hst.symm hb0)
            have HM := fun nd => hide (major_any (hh.drewN nd) 0 (by simp [HSt.kind, hst, hb0]))
            have HV := fun nd => hide (value_any (hh.drewN nd) 0 (by simp [HSt.value, hst, hb0]))
            have HO := fun nd => hide (open_any (hh.drewN nd) false (by simp [HSt.isOpen, hst, hb0]))
            have Hst := hide (show Told st own done bad from .inl ⟨hb0, hst⟩)
            have hb1 : (bad == 0) = false := by simpa using hb0
            have hb2 : (bad != 0) = true := by simpa using hb0
            clear hb0 hst ht
            go_wp2_with fail
            refine (unhide HS).mono ?_
            rintro e w2 ⟨rfl, nd, rfl⟩
            have hh2 := hh.drewN nd
            have hb2 := below_drewN hb nd
            have HM1 := HM nd
            have HV1 := HV nd
            have HO1 := HO nd
            clear HM HV HO HS hh hb
            go_wp2_with fail
            (with_reducible refine (unhide HM1).mono ?_)
            rintro e w3 ⟨rfl, rfl⟩
            go_wp2_with fail
            (with_reducible refine (unhide HV1).mono ?_)
            rintro e w4 ⟨rfl, rfl⟩
            go_wp2_with fail
            (with_reducible refine (unhide HO1).mono ?_)
            rintro e w5 ⟨rfl, rfl⟩
            go_wp2_with fail
            go_roundg (gk - 1)
            case measure => omega
            case rel => exact ⟨i + 1, own, done, bad, st, by go_num, by omega, rfl, rfl, rfl, by omega, Hst, hh2, hb2⟩
          · as_aux_lemma =>
            have HS := hide (step_done hh (ls[i].toNat : Int) he hen)
            have Hst := hide (show Told { st with e := 14 } own true 14 from .inl ⟨by decide, rfl⟩)
            clear he hen ht
            go_wp2_with fail
            refine (unhide HS).mono ?_
            rintro e w2 ⟨rfl, hh2, ho⟩
            have hb2 := hb.trans (ho.below hb.size (by simp; omega))
            have HM1 := hide (major_any hh2 0 (by simp [HSt.kind]))
            have HV1 := hide (value_any hh2 0 (by simp [HSt.value]))
            have HO1 := hide (open_any hh2 false (by simp [HSt.isOpen]))
            clear hb ho hh HS
            go_wp2_with fail
            (with_reducible refine (unhide HM1).mono ?_)
            rintro e w3 ⟨rfl, rfl⟩
            go_wp2_with fail
            (with_reducible refine (unhide HV1).mono ?_)
            rintro e w4 ⟨rfl, rfl⟩
            go_wp2_with fail
            (with_reducible refine (unhide HO1).mono ?_)
            rintro e w5 ⟨rfl, rfl⟩
            go_wp2_with fail
            go_roundg (gk - 1)
            case measure => omega
            case rel => exact ⟨i + 1, own, true, 14, _, by go_num, by omega, rfl, rfl, rfl, by omega, Hst, hh2, hb2⟩
          · as_aux_lemma =>
            have HS := hide hS
            have Hst := hide (show Told ⟨true, false, false, ((b.toNat / 32 : Nat) : Int), 0, 0, 2⟩ [b] false 2 from .inl ⟨by decide, rfl⟩)
            obtain ⟨lw, hlw⟩ : ∃ lw, lw = b.toNat % 32 := ⟨_, rfl⟩
            have HAND := hide (show bits .and .u8 (b.toNat : Int) 31 = (lw : Int) by rw [hlw]; exact u8_and31 _)
            rw [← hlw] at hlow
            have hl1 : (28 : Int) ≤ lw := by omega
            have hl2 : (lw : Int) ≤ 30 := by omega
            have hadd : ∀ w, (Op.stringOp .add (S []) (S (List.take 1 (List.drop i ls)))).run Try.prog w = .ok (.string (S [b])) w := fun w => by
              rw [run_add_S [] (List.take 1 (List.drop i ls)) (by rw [HDR.out]; simp), HDR.out]; rfl
            clear ht hS hlw hlow
            go_wp2_with fail
            refine (unhide HS).mono ?_
            rintro e w2 ⟨rfl, hh2, ho⟩
            have hb2 := hb.trans (ho.below hb.size (by simp; omega))
            clear hb ho hh HS
            go_upto_region 19 with (fail)
            go_cut [18] (fun s18 wx => s18 = .int .u8 lw ∧ w2 = wx)
            case first =>
              as_aux_lemma =>
              go_wp2_with fail
              go_meet
              exact ⟨congrArg (Value.int .u8) HAND.out, rfl⟩
            case rest =>
              as_aux_lemma =>
              obtain ⟨rfl, rfl⟩ := hcut
              clear hadd
              go_wp2_with fail
              go_roundg (gk - 1)
              case measure => omega
              case rel => exact ⟨i + 1, [b], false, 2, _, by go_num, by omega, rfl, rfl, rfl, by simp, Hst, hh2, hb2⟩
          · as_aux_lemma =>
            obtain ⟨dn, hdn⟩ : ∃ dn, dn = decide (l.length + 1 = need c.toNat) := ⟨_, rfl⟩
            have HS := hide (hS dn hdn)
            have Hst := hide (told_stB c l hlow hln dn hdn)
            obtain ⟨lw, hlw⟩ : ∃ lw, lw = c.toNat % 32 := ⟨_, rfl⟩
            have HAND := hide (show bits .and .u8 (c.toNat : Int) 31 = (lw : Int) by rw [hlw]; exact u8_and31 _)
            have hol : own.length + 1 = l.length + 1 := by have := congrArg List.length how; simpa using this
            have hadd : ∀ w, (Op.stringOp .add (S own) (S (List.take 1 (List.drop i ls)))).run Try.prog w = .ok (.string (S (c :: l))) w := fun w => by
              rw [run_add_S own (List.take 1 (List.drop i ls)) (by rw [HDR.out]; simp; omega), HDR.out, how]
            have hll : l.length ≤ i := by omega
            have HLOW := hide hlow
            have HLN := hide hln
            have HDN := hide hdn
            have HLW := hide hlw
            clear ht hS hlow hln hdn hlw how hol
            go_wp2_with fail
            refine (unhide HS).mono ?_
            rintro e w2 ⟨rfl, hh2, ho⟩
            have hb2 := hb.trans (ho.below hb.size (by simp; omega))
            clear hb ho hh HS
            go_upto_region 19 with (fail)
            go_cut [18] (fun s18 wx => s18 = .int .u8 lw ∧ w2 = wx)
            case first =>
              as_aux_lemma =>
              go_wp2_with fail
              go_meet
              exact ⟨congrArg (Value.int .u8) HAND.out, rfl⟩
            case rest =>
              as_aux_lemma =>
              obtain ⟨rfl, rfl⟩ := hcut
              clear hadd
              obtain ⟨nd, hnd⟩ : ∃ nd, nd = need c.toNat := ⟨_, rfl⟩
              have hnd9 := need_le c.toNat
              have hl3 : lw < 28 ∨ lw = 31 := by have := HLOW.out; have := HLW.out; omega
              have HND := hide (show nd = if lw < 24 then 1 else if lw < 28 then 1 + 2 ^ (lw - 24) else 1 by rw [hnd, need, HLW.out])
              have HDN2 := hide (show dn = decide (l.length + 1 = nd) by rw [HDN.out, hnd])
              have hkind : (stB c.toNat l).kind = ((c.toNat / 32 : Nat) : Int) := rfl
              have hval : (stB c.toNat l).value = if dn = true then (if lw < 24 then lw else fold l) else 0 := by
                rw [HDN.out, HLW.out]
                simp [HSt.value, stB, valOf]
              have hop : (stB c.toNat l).isOpen = decide (lw = 31) := by rw [HLW.out]; rfl
              rw [← hnd] at hnd9
              have hln2 : l.length + 1 ≤ nd := by rw [hnd]; exact HLN.out
              obtain ⟨mj, hmj⟩ : ∃ mj : Nat, mj = c.toNat / 32 := ⟨_, rfl⟩
              rw [← hmj] at hkind
              have hdv : (c.toNat : Int) / 32 = (mj : Int) := by omega
              have hmj8 : mj < 8 := by have := c.toNat_lt; omega
              have HM := fun q => hide (major_any (hh2.drewN q) mj hkind.symm)
              have HKIND := hide hkind
              have HVAL := hide hval
              have HOP := hide hop
              have HDV := hide hdv
              have HMJ := hide hmj
              clear hnd hkind hval hop hdv hmj
              have hb24 : ∃ b24, b24 = (decide (24 ≤ (lw : Int)) && decide ((lw : Int) ≤ 27)) := ⟨_, rfl⟩
              obtain ⟨b24, hb24⟩ := hb24
              have HB24 := hide hb24
              have hn2 : b24 = true → nd = 1 + 2 ^ (lw - 24) := by
                intro h
                rw [hb24] at h
                simp at h
                rw [HND.out, if_neg (by omega), if_pos (by omega)]
              have hn1 : b24 = false → nd = 1 := by
                intro h
                rw [hb24] at h
                simp at h
                by_cases h24 : lw < 24
                · rw [HND.out, if_pos h24]
                · rw [HND.out, if_neg h24, if_neg (by omega)]
              have hl24 : b24 = true → lw = 24 ∨ lw = 25 ∨ lw = 26 ∨ lw = 27 := by
                intro h
                rw [hb24] at h
                simp at h
                omega
              have HN2 := hide hn2
              have HN1 := hide hn1
              have HL24 := hide hl24
              have HL3 := hide hl3
              clear hb24 hn2 hn1 hl24 hl3
              go_upto_region 20 with (fail)
              go_cut [108] (fun s108 wx => s108 = .bool false ∧ w2 = wx)
              case first =>
                as_aux_lemma =>
                by_cases h28 : lw < 28
                · have j1 : decide (28 ≤ (lw : Int)) = false := by simp; omega
                  go_wp2_with fail
                  go_meet
                  exact ⟨rfl, rfl⟩
                · have h31 : lw = 31 := by have := HL3.out; omega
                  subst h31
                  go_wp2_with fail
                  go_meet
                  exact ⟨rfl, rfl⟩
              case rest =>
              as_aux_lemma =>
              obtain ⟨rfl, rfl⟩ := hcut
              go_upto_region 25 with (fail)
              go_cut [120] (fun s120 wx => s120 = .bool b24 ∧ w2 = wx)
              case first =>
                as_aux_lemma =>
                have h1 := HB24.out
                by_cases h24 : lw < 24
                · have j1 : decide (24 ≤ (lw : Int)) = false := by simp; omega
                  rw [j1] at h1
                  simp at h1
                  subst h1
                  go_wp2_with fail
                  go_meet
                  exact ⟨rfl, rfl⟩
                · have j1 : decide (24 ≤ (lw : Int)) = true := by simp; omega
                  rw [j1] at h1
                  simp at h1
                  have h1' : decide ((lw : Int) ≤ 27) = b24 := by rw [h1]
                  clear h1
                  go_wp2_with fail
                  go_meet
                  exact ⟨rfl, rfl⟩
              case rest =>
              as_aux_lemma =>
              obtain ⟨rfl, rfl⟩ := hcut
              go_upto_if 120 with (fail)
              go_cut [19] (fun s19 wx => s19 = .int .i64 nd ∧ w2 = wx)
              case first =>
                as_aux_lemma =>
                cases b24 with
                | true =>
                  have hn2 := HN2.out rfl
                  rcases HL24.out rfl with rfl | rfl | rfl | rfl
                  all_goals
                    subst hn2
                    go_wp2_with fail
                    go_meet
                    exact ⟨rfl, rfl⟩
                | false =>
                  have hn1 := HN1.out rfl
                  subst hn1
                  go_wp2_with fail
                  go_meet
                  exact ⟨rfl, rfl⟩
              case rest =>
              as_aux_lemma =>
              obtain ⟨rfl, rfl⟩ := hcut
              have jd1 : ((l.length : Int) + 1 == (nd : Int)) = dn := by
                rw [HDN2.out, Bool.eq_iff_iff]
                simp
                try omega
              go_upto_region 28 with (fail)
              clear jd1
              obtain ⟨v0, hv0⟩ : ∃ v0 : Nat, v0 = if dn = true ∧ lw < 24 then lw else 0 := ⟨_, rfl⟩
              have HV0 := hide hv0
              clear hv0
              obtain ⟨b29, hb29⟩ : ∃ b29, b29 = (dn && decide ((lw : Int) < 24)) := ⟨_, rfl⟩
              have HB29 := hide hb29
              clear hb29
              go_upto_region 29 with (fail)
              go_cut [133] (fun s133 wx => s133 = .bool b29 ∧ w2 = wx)
              case first =>
                as_aux_lemma =>
                have h1 := HB29.out
                cases dn with
                | true =>
                  have h1' : decide ((lw : Int) < 24) = b29 := by rw [h1]; simp
                  clear h1
                  go_wp2_with fail
                  go_meet
                  exact ⟨rfl, rfl⟩
                | false =>
                  simp at h1
                  subst h1
                  go_wp2_with fail
                  go_meet
                  exact ⟨rfl, rfl⟩
              case rest =>
              as_aux_lemma =>
              obtain ⟨rfl, rfl⟩ := hcut
              go_upto_if 133 with (fail)
              go_cut [20] (fun s20 wx => s20 = .int .u64 v0 ∧ w2 = wx)
              case first =>
                as_aux_lemma =>
                have h1 := HB29.out
                have h2 := HV0.out
                cases b29 with
                | true =>
                  have h1a := Bool.and_eq_true_iff.1 h1.symm
                  have h1b : lw < 24 := by have := of_decide_eq_true h1a.2; omega
                  rw [if_pos ⟨h1a.1, h1b⟩] at h2
                  have j5 : IntKind.u64.wrap (lw : Int) = lw := by rw [IntKind.wrap_u64]; omega
                  clear h1 h1a h1b
                  subst h2
                  go_wp2_with fail
                  go_meet
                  exact ⟨rfl, rfl⟩
                | false =>
                  rw [if_neg (fun h => by
                    have h3 : decide ((lw : Int) < 24) = true := decide_eq_true (by have := h.2; omega)
                    rw [h.1, h3] at h1
                    cases h1)] at h2
                  clear h1
                  subst h2
                  go_wp2_with fail
                  go_meet
                  exact ⟨rfl, rfl⟩
              case rest =>
              as_aux_lemma =>
              obtain ⟨rfl, rfl⟩ := hcut
              obtain ⟨vx, hvx⟩ : ∃ vx, vx = (stB c.toNat l).value := ⟨_, rfl⟩
              have HVX := hide (show vx = if dn = true then (if lw < 24 then lw else fold l) else 0 by rw [hvx, HVAL.out])
              have HVX2 := hide hvx
              clear hvx
              obtain ⟨ob, hob⟩ : ∃ ob, ob = ((lw : Int) == 31) := ⟨_, rfl⟩
              have HOB := hide hob
              have hob2 : dn = false → ob = false := by
                intro h
                rw [hob]
                have h1 := HDN2.out
                rw [h] at h1
                have h2 : l.length + 1 ≠ nd := of_decide_eq_false h1.symm
                simp
                intro h31
                apply h2
                have h3 : nd = 1 := by rw [HND.out, if_neg (by omega), if_neg (by omega)]
                omega
              have HOB2 := hide hob2
              have hop2 : (stB c.toNat l).isOpen = ob := by
                rw [HOP.out, hob, Bool.eq_iff_iff]
                simp
                try omega
              have HO := fun q => hide (open_any (hh2.drewN q) ob hop2.symm)
              have HV := fun q => hide (value_any (hh2.drewN q) vx (by rw [HVX2.out]))
              have hl24 : 0 < l.length → ¬ lw < 24 := by
                intro h h24
                have h3 : nd = 1 := by rw [HND.out, if_pos h24]
                omega
              have HL24 := hide hl24
              clear hob hob2 hop2 hl24
              go_wp2_with fail
              go_loopg [20, 21] l.length (fun g s20 s21 wr => ∃ k x : Nat, Hid (x = if dn = true then (if lw < 24 then lw else fold (l.take k)) else 0) ∧ s20 = .int .u64 x ∧ s21 = .int .i64 (k + 1) ∧ k + g = l.length ∧ w2 = wr)
              case atStart => exact ⟨0, v0, by
                show v0 = _
                rw [HV0.out]
                by_cases h1 : dn = true
                · by_cases h2 : lw < 24
                  · simp [h1, h2]
                  · simp [h1, h2, fold]
                · simp [h1], rfl, rfl, by omega, rfl⟩
              case round =>
                as_aux_lemma =>
                obtain ⟨k, x, hx, rfl, rfl, hkl, rfl⟩ := hrel
                by_cases hgo : dn = true ∧ k < l.length
                · as_aux_lemma =>
                  obtain ⟨rfl, hlt5⟩ := hgo
                  have hln3 : l.length + 1 = nd := of_decide_eq_true HDN2.out.symm
                  have hkn : (k : Int) + 1 < nd := by omega
                  have hlw24 := HL24.out (by omega)
                  have hx1 : x = fold (l.take k) := by rw [hx.out, if_pos rfl, if_neg hlw24]
                  obtain ⟨bb, hbb⟩ : ∃ bb, bb = l[k] := ⟨_, rfl⟩
                  have hix1 := index_S (P := Try.prog) Try.underlying9 (c :: l) (k + 1) (by simp; omega) ((k : Int) + 1) (by push_cast; rfl) (bb.toNat : Int) (by rw [hbb]; rfl)
                  have hxs : x * 256 + bb.toNat = fold (l.take (k + 1)) := by
                    rw [take_snoc l k hlt5, fold_snoc, ← hx1, hbb]
                  have hxb : x * 256 + bb.toNat < 18446744073709551616 := by
                    rw [hxs]
                    have h1 := fold_lt (l.take (k + 1))
                    have h2 : 256 ^ (l.take (k + 1)).length ≤ 256 ^ 8 := Nat.pow_le_pow_right (by omega) (by rw [List.length_take]; omega)
                    omega
                  have hw1 : IntKind.u64.wrap ((x : Int) * 256) = (x : Int) * 256 := by rw [IntKind.wrap_u64]; omega
                  have hw2 : IntKind.u64.wrap (bb.toNat : Int) = (bb.toNat : Int) := by have := bb.toNat_lt; rw [IntKind.wrap_u64]; omega
                  have hw3 : IntKind.u64.wrap ((x : Int) * 256 + (bb.toNat : Int)) = ((x * 256 + bb.toNat : Nat) : Int) := by rw [IntKind.wrap_u64]; push_cast; omega
                  have hw4 : wrap64 ((k : Int) + 1 + 1) = (k : Int) + 1 + 1 := by unfold wrap64; omega
                  have HXS : Hid (x * 256 + bb.toNat = if true = true then (if lw < 24 then lw else fold (l.take (k + 1))) else 0) := by
                    show _ = _
                    rw [if_pos rfl, if_neg hlw24, hxs]
                  clear hbb hxb hxs hx1 hln3
                  go_wp2_with fail
                  go_roundg (gk - 1)
                  case measure => omega
                  case rel => exact ⟨k + 1, _, HXS, rfl, by go_num, by omega, rfl⟩
                · as_aux_lemma =>
                  have hxv : x = vx := by
                    rw [hx.out, HVX.out]
                    by_cases h1 : dn = true
                    · have h2 : k = l.length := by
                        have : ¬ k < l.length := fun h => hgo ⟨h1, h⟩
                        omega
                      rw [h2, List.take_length]
                    · simp [h1]
                  subst hxv
                  go_upto_region 32 with (fail)
                  go_cut [141] (fun s141 wx => s141 = .bool false ∧ w2 = wx)
                  case first =>
                    as_aux_lemma =>
                    cases dn with
                    | true =>
                      have hln3 : l.length + 1 = nd := of_decide_eq_true HDN2.out.symm
                      have hkn : decide ((k : Int) + 1 < nd) = false := by
                        have : ¬ k < l.length := fun h => hgo ⟨rfl, h⟩
                        simp
                        omega
                      clear hgo hln3
                      go_wp2_with fail
                      go_meet
                      exact ⟨rfl, rfl⟩
                    | false =>
                      clear hgo
                      go_wp2_with fail
                      go_meet
                      exact ⟨rfl, rfl⟩
                  case rest =>
                  as_aux_lemma =>
                  obtain ⟨rfl, rfl⟩ := hcut
                  clear hgo
                  have hdv := HDV.out
                  have hix0 := index_S (P := Try.prog) Try.underlying9 (c :: l) 0 (by simp) 0 rfl (c.toNat : Int) rfl
                  have hwj : wrap64 (mj : Int) = mj := by unfold wrap64; omega
                  have j4 := HOB.out.symm
                  have hoo := HOB2.out
                  go_upto_region 35 with (fail)
                  cases dn
                  all_goals
                    as_aux_lemma =>
                    (try (have hob0 := hoo rfl; subst hob0))
                    clear hoo
                    go_quiet ((first | (go_at_call 12; exact Calls.quiet_of_same (unhide (HM _))) | (go_at_call 11; exact Calls.quiet_of_same (unhide (HV _))) | (go_at_call 13; exact Calls.quiet_of_same (unhide (HO _)))))
                    go_wp2_with fail
                    go_roundg (ls.length - i - 1)
                    case measure => omega
                    case rel => exact ⟨i + 1, c :: l, _, 0, _, by go_num, by omega, rfl, rfl, rfl, by simp; omega, Hst, hh2.drewN _, below_drewN hb2 _⟩
    · as_aux_lemma =>
      have hil : i = ls.length := by omega
      subst hil
      clear hi hown
      obtain ⟨s, hs⟩ : ∃ s, s = S (putL major v) := ⟨_, rfl⟩
      have HP := fun W => hide (put_at major v v rfl s hs W)
      have HR := fun W => hide (refhead_any major v W s hs hv)
      have HC1 := hide (clear_nil wr)
      have HS1 := hide (step_nil 1 wr)
      clear hs ht hh
      by_cases hn : n < 1 ∨ 8 < n
      · obtain ⟨t, ht⟩ : ∃ t, t = S [] := ⟨_, rfl⟩
        have HB := fun W => hide ((big_no v n hn W).mono (R' := fun e w' => e = .returned (.string t) ∧ Only [] W w') fun e w' ⟨h1, h2⟩ => ⟨by rw [h1, ht], by rw [h2]; exact Only.refl _ _⟩)
        have HRB := fun W => hide ((refbig_no v n hn W).mono (R' := fun e w' => e = .returned (.string t) ∧ Only [] W w') fun e w' ⟨h1, h2⟩ => ⟨by rw [h1, ht], by rw [h2]; exact Only.refl _ _⟩)
        clear ht hn
        go_wp2_with fail
        (with_reducible refine (unhide HC1).mono ?_)
        rintro e w2 ⟨rfl, rfl⟩
        go_wp2_with fail
        (with_reducible refine (unhide HS1).mono ?_)
        rintro e w2 ⟨rfl, rfl⟩
        clear HC1 HS1
        go_wp2_with fail
        (with_reducible refine (unhide (HP _)).mono ?_)
        rintro e w3 ⟨rfl, ho⟩
        have hb := hb.trans (ho.below hb.size (by simp))
        clear ho
        go_wp2_with fail
        (with_reducible refine (unhide (HR _)).mono ?_)
        rintro e w4 ⟨rfl, ho⟩
        have hb := hb.trans (ho.below hb.size (by simp))
        clear ho
        go_wp2_with fail
        (with_reducible refine (unhide (HB _)).mono ?_)
        rintro e w5 ⟨rfl, ho⟩
        have hb := hb.trans (ho.below hb.size (by simp))
        clear ho
        go_wp2_with fail
        (with_reducible refine (unhide (HRB _)).mono ?_)
        rintro e w6 ⟨rfl, ho⟩
        have hb := hb.trans (ho.below hb.size (by simp))
        clear ho
        go_wp2_with (first | (go_at_call 12; refine (major_nil _).mono ?_; rintro e w' ⟨rfl, rfl⟩) | (go_at_call 11; refine (value_nil _).mono ?_; rintro e w' ⟨rfl, rfl⟩) | (go_at_call 13; refine (open_nil _).mono ?_; rintro e w' ⟨rfl, rfl⟩))
        go_ret
        exact ⟨rfl, hb⟩
      · obtain ⟨m, rfl⟩ := Int.eq_ofNat_of_zero_le (show 0 ≤ n by omega)
        obtain ⟨lb, hlb⟩ : ∃ lb, lb = bigL v m := ⟨_, rfl⟩
        have HB := fun W => hide (big_at v m v m rfl rfl (by omega) (by omega) lb hlb W)
        have HRB := fun W => hide (refbig_at v m v m rfl rfl (by omega) (by omega) hv lb hlb W)
        clear hlb hn
        go_wp2_with fail
        (with_reducible refine (unhide HC1).mono ?_)
        rintro e w2 ⟨rfl, rfl⟩
        go_wp2_with fail
        (with_reducible refine (unhide HS1).mono ?_)
        rintro e w2 ⟨rfl, rfl⟩
        clear HC1 HS1
        go_wp2_with fail
        (with_reducible refine (unhide (HP _)).mono ?_)
        rintro e w3 ⟨rfl, ho⟩
        have hb := hb.trans (ho.below hb.size (by simp))
        clear ho
        go_wp2_with fail
        (with_reducible refine (unhide (HR _)).mono ?_)
        rintro e w4 ⟨rfl, ho⟩
        have hb := hb.trans (ho.below hb.size (by simp))
        clear ho
        go_wp2_with fail
        (with_reducible refine (unhide (HB _)).mono ?_)
        rintro e w5 ⟨rfl, ho⟩
        have hb := hb.trans (ho.below hb.size (by simp))
        clear ho
        go_wp2_with fail
        (with_reducible refine (unhide (HRB _)).mono ?_)
        rintro e w6 ⟨rfl, ho⟩
        have hb := hb.trans (ho.below hb.size (by simp))
        clear ho
        go_wp2_with (first | (go_at_call 12; refine (major_nil _).mono ?_; rintro e w' ⟨rfl, rfl⟩) | (go_at_call 11; refine (value_nil _).mono ?_; rintro e w' ⟨rfl, rfl⟩) | (go_at_call 13; refine (open_nil _).mono ?_; rintro e w' ⟨rfl, rfl⟩))
        go_ret
        exact ⟨rfl, hb⟩
end Go.Proofs.Ytogindldfpinjaa
