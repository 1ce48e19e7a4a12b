/-
  ParC: parts of the walk of TopTight, under no condition.
-/
import Derived.Test.YtkccjfgkbkodiaaGreatZ13
namespace Go.Proofs.YtkccjfgkbkodiaaGreat
open Go.RowKit
theorem boolsL_top (m : Bool) (R : List Bool) : (boolsL (m :: R))[R.length]? = some (.bool m) := by
  simp [boolsL]
theorem ParM.top {w : World} {b d : Nat} {F : List Nat} {p : Par} {mv : Value} {m : Bool} {R : List Bool} (h : ParM w b F d p mv) (hR : p.maps = m :: R) :
    ∃ g off cap, mv = .slice (some ⟨g, off, none⟩) (R.length + 1) cap ∧ w.cell? ⟨g, off + R.length, none⟩ = some (.bool m) := by
  have hr := h.row
  rw [hR] at hr
  obtain ⟨g, off, cap, hv, hc, _⟩ := hr.cell R.length (by simp [boolsL])
  refine ⟨g, off, cap, hv, ?_⟩
  rw [hc]
  have h9 := boolsL_top m R
  rw [List.getElem?_eq_getElem (by simp [boolsL])] at h9
  exact h9
set_option maxRecDepth 100000 in
set_option maxHeartbeats 4000000 in
theorem par_token {w : World} {b d : Nat} {F : List Nat} {p : Par} {mv : Value} (h : ParM w b F d p mv) (hk : p.Ok d) (hd : d ≤ 100) (t : Tok) :
    Calls Tryz.prog 136 #[.pointer (some ⟨b, 0, none⟩), tokV t] w (ParPost w b F d (p.token d t)) := by
  have HV := fun (W : World) (ho : Only [] w W) => hide (par_value (h.new ho) hk hd t)
  obtain ⟨k, tx, ng, mg⟩ := t
  obtain ⟨R, hR⟩ : ∃ r, p.token d ⟨k, tx, ng, mg⟩ = r := ⟨_, rfl⟩
  rw [hR]
  unfold Par.token at hR
  unfold tokV at HV ⊢
  simp only at hR ⊢
  obtain ⟨pre, hm⟩ := h.mid
  obtain ⟨ma, mc, hmv⟩ := h.row.form
  obtain ⟨n, hn⟩ : ∃ n, n = p.maps.length := ⟨_, rfl⟩
  rw [← hn] at hmv
  have hnd : n ≤ d := hn ▸ hk.deep
  obtain ⟨nx, hnx⟩ : ∃ nx, nx = p.next := ⟨_, rfl⟩
  have c24 : w.cell? ⟨b, 24, none⟩ = some mv := hm.cell 1 _ rfl
  have c25 : w.cell? ⟨b, 25, none⟩ = some (.int .i64 p.next) := hm.cell 2 _ rfl
  have c26 : w.cell? ⟨b, 26, none⟩ = some (.int .i64 p.e) := hm.cell 3 _ rfl
  have f24 := hm.frozen 24
  have f25 := hm.frozen 25
  have f26 := hm.frozen 26
  have lb := hm.lt
  have lb2 : b ≠ w.heap.size := by omega
  rw [hmv] at c24
  rw [← hnx] at hR c25
  have h100 : (n : Int) ≤ 100 := by omega
  have H := hide h
  have HN := hide hn
  have HK := hide hk
  have HMV := hide hmv
  have HNX := hide hnx
  clear h hm hk hn hnd hd hmv hnx
  by_cases h58 : k = 58
  · subst h58
    by_cases h4 : nx = 4
    · subst h4
      rw [if_pos (by simp)] at hR
      have HR := hide hR
      clear HV hR
      go_enter Tryz.func136, Tryz.ntmps136
      go_wp2_with fail
      go_ret2
      rw [← HR.out]
      exact ParPost.of rfl ((H.out.setnext 0).new ((Only.refl [] _).alloc _)) (((Only.refl _ w).setCell (p := ⟨b, 25, none⟩) (by simp) _).alloc _) (fun k hk => .inl hk)
    · rw [if_neg (by simp [h4]), if_neg (by simp), if_neg (by simp), if_neg (by simp)] at hR
      have n4 : (nx == 4) = false := by simpa using h4
      by_cases h0 : nx = 0 ∨ nx = 1
      · rw [if_neg (by omega)] at hR
        rcases h0 with rfl | rfl
        · have HR := hide hR
          clear hR
          go_enter Tryz.func136, Tryz.ntmps136
          go_wp2_with fail
          (with_reducible refine (unhide (HV _ ((Only.refl [] w).alloc (.cells #[.int .u8 58, .string (S tx), .bool ng, .int .u64 mg] 237)))).mono ?_)
          rintro e w1 ⟨rfl, F', hp, ho, hf⟩
          have HP := hide hp
          have HO := hide ho
          have HF := hide hf
          clear HV hp ho hf c24 c25 c26 f24 f25 f26
          go_wp2_with fail
          go_ret2
          rw [← HR.out]
          exact ⟨rfl, F', HP.out, ((Only.refl _ w).alloc _).trans HO.out, fun k hk => (HF.out k hk).imp_right (fun h9 => by simp at h9; omega)⟩
        · have HR := hide hR
          clear hR
          go_enter Tryz.func136, Tryz.ntmps136
          go_wp2_with fail
          (with_reducible refine (unhide (HV _ ((Only.refl [] w).alloc (.cells #[.int .u8 58, .string (S tx), .bool ng, .int .u64 mg] 237)))).mono ?_)
          rintro e w1 ⟨rfl, F', hp, ho, hf⟩
          have HP := hide hp
          have HO := hide ho
          have HF := hide hf
          clear HV hp ho hf c24 c25 c26 f24 f25 f26
          go_wp2_with fail
          go_ret2
          rw [← HR.out]
          exact ⟨rfl, F', HP.out, ((Only.refl _ w).alloc _).trans HO.out, fun k hk => (HF.out k hk).imp_right (fun h9 => by simp at h9; omega)⟩
      · rw [if_pos (by omega)] at hR
        have HR := hide hR
        have n0 : (nx != 0) = true := by simp; omega
        have n1 : (nx != 1) = true := by simp; omega
        have n0' : (nx == 0) = false := by simp; omega
        have n1' : (nx == 1) = false := by simp; omega
        clear h0 HV hR
        go_enter Tryz.func136, Tryz.ntmps136
        go_wp2_with fail
        go_ret2
        rw [← HR.out, HNX.out]
        exact ParPost.of rfl ((H.out.seterr 2).new ((Only.refl [] _).alloc _)) (((Only.refl _ w).setCell (p := ⟨b, 26, none⟩) (by simp) _).alloc _) (fun k hk => .inl hk)
  have k58 : (k == 58) = false := by simpa using h58
  by_cases h44 : k = 44
  · subst h44
    clear h58 k58
    by_cases h5 : nx = 5
    · subst h5
      rw [if_neg (by simp), if_pos (by simp)] at hR
      have hne := HK.out.five HNX.out.symm
      obtain ⟨m, M, hM⟩ := List.exists_cons_of_ne_nil hne
      rw [show p.maps.head? = some m by rw [hM]; rfl] at hR
      have HR := hide hR
      clear hne HV hR
      obtain ⟨g, off, cap, hmv, hg⟩ := H.out.top hM
      have hnM : n = M.length + 1 := by rw [HN.out, hM]; rfl
      obtain ⟨j, hj⟩ : ∃ j, j = M.length := ⟨_, rfl⟩
      rw [← hj] at hg hnM
      have h9 := HMV.out.symm.trans hmv
      injection h9 with e1 e2 e3
      subst e1 e3
      have hi : (n : Int) - 1 = (j : Int) := by omega
      have hjn : j < n := by omega
      have gl : g < w.heap.size := (H.out.row.lt g (by rw [HMV.out]; simp [slB])).2
      have gb : g ≠ b := fun h9 => H.out.out (by rw [HMV.out]; simp [slB, h9])
      have HNM := hide hnM
      have HM := hide hM
      have HJ := hide hj
      clear e2 hmv hj hnM hM
      cases m with
      | false =>
        go_enter Tryz.func136, Tryz.ntmps136
        go_wp2_with fail
        go_ret2
        rw [← HR.out]
        exact ParPost.of rfl ((H.out.setnext 0).new ((Only.refl [] _).alloc _)) (((Only.refl _ w).setCell (p := ⟨b, 25, none⟩) (by simp) _).alloc _) (fun k hk => .inl hk)
      | true =>
        go_enter Tryz.func136, Tryz.ntmps136
        go_wp2_with fail
        go_ret2
        rw [← HR.out]
        exact ParPost.of rfl (((H.out.setnext 0).setnext 3).new ((Only.refl [] _).alloc _)) ((((Only.refl _ w).setCell (p := ⟨b, 25, none⟩) (by simp) _).setCell (p := ⟨b, 25, none⟩) (by simp) _).alloc _) (fun k hk => .inl hk)
    · rw [if_neg (by simp), if_neg (by simp [h5]), if_neg (by simp), if_neg (by simp)] at hR
      have n5 : (nx == 5) = false := by simpa using h5
      by_cases h0 : nx = 0 ∨ nx = 1
      · rw [if_neg (by omega)] at hR
        rcases h0 with rfl | rfl
        · have HR := hide hR
          clear hR
          go_enter Tryz.func136, Tryz.ntmps136
          go_wp2_with fail
          (with_reducible refine (unhide (HV _ ((Only.refl [] w).alloc (.cells #[.int .u8 44, .string (S tx), .bool ng, .int .u64 mg] 237)))).mono ?_)
          rintro e w1 ⟨rfl, F', hp, ho, hf⟩
          have HP := hide hp
          have HO := hide ho
          have HF := hide hf
          clear HV hp ho hf c24 c25 c26 f24 f25 f26
          go_wp2_with fail
          go_ret2
          rw [← HR.out]
          exact ⟨rfl, F', HP.out, ((Only.refl _ w).alloc _).trans HO.out, fun k hk => (HF.out k hk).imp_right (fun h9 => by simp at h9; omega)⟩
        · have HR := hide hR
          clear hR
          go_enter Tryz.func136, Tryz.ntmps136
          go_wp2_with fail
          (with_reducible refine (unhide (HV _ ((Only.refl [] w).alloc (.cells #[.int .u8 44, .string (S tx), .bool ng, .int .u64 mg] 237)))).mono ?_)
          rintro e w1 ⟨rfl, F', hp, ho, hf⟩
          have HP := hide hp
          have HO := hide ho
          have HF := hide hf
          clear HV hp ho hf c24 c25 c26 f24 f25 f26
          go_wp2_with fail
          go_ret2
          rw [← HR.out]
          exact ⟨rfl, F', HP.out, ((Only.refl _ w).alloc _).trans HO.out, fun k hk => (HF.out k hk).imp_right (fun h9 => by simp at h9; omega)⟩
      · rw [if_pos (by omega)] at hR
        have HR := hide hR
        have n0 : (nx != 0) = true := by simp; omega
        have n1 : (nx != 1) = true := by simp; omega
        have n0' : (nx == 0) = false := by simp; omega
        have n1' : (nx == 1) = false := by simp; omega
        clear h0 HV hR
        go_enter Tryz.func136, Tryz.ntmps136
        go_wp2_with fail
        go_ret2
        rw [← HR.out, HNX.out]
        exact ParPost.of rfl ((H.out.seterr 2).new ((Only.refl [] _).alloc _)) (((Only.refl _ w).setCell (p := ⟨b, 26, none⟩) (by simp) _).alloc _) (fun k hk => .inl hk)
  have k44 : (k == 44) = false := by simpa using h44
  by_cases h93 : k = 93
  · subst h93
    clear h58 k58 h44 k44
    rw [if_neg (by simp), if_neg (by simp)] at hR
    cases hM : p.maps with
    | nil =>
      have hn0 : n = 0 := by rw [HN.out, hM]; rfl
      rw [if_neg (by simp [hM]), if_neg (by simp)] at hR
      clear hM
      subst hn0
      by_cases h0 : nx = 0 ∨ nx = 1
      · rw [if_neg (by omega)] at hR
        rcases h0 with rfl | rfl
        · have HR := hide hR
          clear hR
          go_enter Tryz.func136, Tryz.ntmps136
          go_wp2_with fail
          (with_reducible refine (unhide (HV _ ((Only.refl [] w).alloc (.cells #[.int .u8 93, .string (S tx), .bool ng, .int .u64 mg] 237)))).mono ?_)
          rintro e w1 ⟨rfl, F', hp, ho, hf⟩
          have HP := hide hp
          have HO := hide ho
          have HF := hide hf
          clear HV hp ho hf c24 c25 c26 f24 f25 f26
          go_wp2_with fail
          go_ret2
          rw [← HR.out]
          exact ⟨rfl, F', HP.out, ((Only.refl _ w).alloc _).trans HO.out, fun k hk => (HF.out k hk).imp_right (fun h9 => by simp at h9; omega)⟩
        · have HR := hide hR
          clear hR
          go_enter Tryz.func136, Tryz.ntmps136
          go_wp2_with fail
          (with_reducible refine (unhide (HV _ ((Only.refl [] w).alloc (.cells #[.int .u8 93, .string (S tx), .bool ng, .int .u64 mg] 237)))).mono ?_)
          rintro e w1 ⟨rfl, F', hp, ho, hf⟩
          have HP := hide hp
          have HO := hide ho
          have HF := hide hf
          clear HV hp ho hf c24 c25 c26 f24 f25 f26
          go_wp2_with fail
          go_ret2
          rw [← HR.out]
          exact ⟨rfl, F', HP.out, ((Only.refl _ w).alloc _).trans HO.out, fun k hk => (HF.out k hk).imp_right (fun h9 => by simp at h9; omega)⟩
      · rw [if_pos (by omega)] at hR
        have HR := hide hR
        have n0 : (nx != 0) = true := by simp; omega
        have n1 : (nx != 1) = true := by simp; omega
        have n0' : (nx == 0) = false := by simp; omega
        have n1' : (nx == 1) = false := by simp; omega
        clear h0 HV hR
        go_enter Tryz.func136, Tryz.ntmps136
        go_wp2_with fail
        go_ret2
        rw [← HR.out, HNX.out]
        exact ParPost.of rfl ((H.out.seterr 2).new ((Only.refl [] _).alloc _)) (((Only.refl _ w).setCell (p := ⟨b, 26, none⟩) (by simp) _).alloc _) (fun k hk => .inl hk)
    | cons m M =>
      have hh : p.maps.head? = some m := by rw [hM]; rfl
      cases m with
      | true =>
        rw [if_neg (by simp [hh]), if_neg (by simp)] at hR
        obtain ⟨g, off, cap, hmv, hg⟩ := H.out.top hM
        have hnM : n = M.length + 1 := by rw [HN.out, hM]; rfl
        obtain ⟨j, hj⟩ : ∃ j, j = M.length := ⟨_, rfl⟩
        rw [← hj] at hg hnM
        have h9 := HMV.out.symm.trans hmv
        injection h9 with e1 e2 e3
        subst e1 e3
        have hi : (n : Int) - 1 = (j : Int) := by omega
        have hjn : j < n := by omega
        have gl : g < w.heap.size := (H.out.row.lt g (by rw [HMV.out]; simp [slB])).2
        have gb : g ≠ b := fun h9 => H.out.out (by rw [HMV.out]; simp [slB, h9])
        have HNM := hide hnM
        have HM := hide hM
        have HJ := hide hj
        clear e2 hmv hj hnM hM
        clear hh
        have hi2 : decide ((0 : Int) ≤ (n : Int) - 1) = true := by simp; omega
        by_cases h0 : nx = 0 ∨ nx = 1
        · rw [if_neg (by omega)] at hR
          rcases h0 with rfl | rfl
          · have HR := hide hR
            clear hR
            go_enter Tryz.func136, Tryz.ntmps136
            go_wp2_with fail
            (with_reducible refine (unhide (HV _ ((Only.refl [] w).alloc (.cells #[.int .u8 93, .string (S tx), .bool ng, .int .u64 mg] 237)))).mono ?_)
            rintro e w1 ⟨rfl, F', hp, ho, hf⟩
            have HP := hide hp
            have HO := hide ho
            have HF := hide hf
            clear HV hp ho hf c24 c25 c26 f24 f25 f26
            go_wp2_with fail
            go_ret2
            rw [← HR.out]
            exact ⟨rfl, F', HP.out, ((Only.refl _ w).alloc _).trans HO.out, fun k hk => (HF.out k hk).imp_right (fun h9 => by simp at h9; omega)⟩
          · have HR := hide hR
            clear hR
            go_enter Tryz.func136, Tryz.ntmps136
            go_wp2_with fail
            (with_reducible refine (unhide (HV _ ((Only.refl [] w).alloc (.cells #[.int .u8 93, .string (S tx), .bool ng, .int .u64 mg] 237)))).mono ?_)
            rintro e w1 ⟨rfl, F', hp, ho, hf⟩
            have HP := hide hp
            have HO := hide ho
            have HF := hide hf
            clear HV hp ho hf c24 c25 c26 f24 f25 f26
            go_wp2_with fail
            go_ret2
            rw [← HR.out]
            exact ⟨rfl, F', HP.out, ((Only.refl _ w).alloc _).trans HO.out, fun k hk => (HF.out k hk).imp_right (fun h9 => by simp at h9; omega)⟩
        · rw [if_pos (by omega)] at hR
          have HR := hide hR
          have n0 : (nx != 0) = true := by simp; omega
          have n1 : (nx != 1) = true := by simp; omega
          have n0' : (nx == 0) = false := by simp; omega
          have n1' : (nx == 1) = false := by simp; omega
          clear h0 HV hR
          go_enter Tryz.func136, Tryz.ntmps136
          go_wp2_with fail
          go_ret2
          rw [← HR.out, HNX.out]
          exact ParPost.of rfl ((H.out.seterr 2).new ((Only.refl [] _).alloc _)) (((Only.refl _ w).setCell (p := ⟨b, 26, none⟩) (by simp) _).alloc _) (fun k hk => .inl hk)
      | false =>
        by_cases h15 : nx = 1 ∨ nx = 5
        · rw [if_pos (by simp [hh, h15])] at hR
          obtain ⟨g, off, cap, hmv, hg⟩ := H.out.top hM
          have hnM : n = M.length + 1 := by rw [HN.out, hM]; rfl
          obtain ⟨j, hj⟩ : ∃ j, j = M.length := ⟨_, rfl⟩
          rw [← hj] at hg hnM
          have h9 := HMV.out.symm.trans hmv
          injection h9 with e1 e2 e3
          subst e1 e3
          have hi : (n : Int) - 1 = (j : Int) := by omega
          have hjn : j < n := by omega
          have gl : g < w.heap.size := (H.out.row.lt g (by rw [HMV.out]; simp [slB])).2
          have gb : g ≠ b := fun h9 => H.out.out (by rw [HMV.out]; simp [slB, h9])
          have HNM := hide hnM
          have HM := hide hM
          have HJ := hide hj
          clear e2 hmv hj hnM hM
          clear hh
          rcases h15 with rfl | rfl
          · have HR := hide hR
            have hrow := H.out.row
            rw [HM.out, HMV.out] at hrow
            have hcap := hrow.cap_le.2.1
            rw [show boolsL (false :: M) = boolsL M ++ [.bool false] by simp [boolsL], HNM.out, List.length_cons, ← HJ.out] at hrow
            have hr2 := hrow.init
            have HSL := fun (W : World) => slice_top (P := Tryz.prog) (t := 75) (z := 1) Tryz.underlying75 (by intro w; kernel_rfl) g off n j mc (by have := HJ.out; simp at hcap; omega) (j : Int) rfl W
            have hP0 := H.out.lex.setmaps (R := M) (mv' := .slice (some ⟨g, off, none⟩) j mc) (by rw [← HJ.out]; exact hr2)
            have HB := hide (par_behind (hP0.new ((Only.refl [] _).alloc (.cells #[.int .u8 93, .string (S tx), .bool ng, .int .u64 mg] 237))))
            have HO0 : Hid (Only (b :: F) w ((w.setCell ⟨b, 24, none⟩ (.slice (some ⟨g, off, none⟩) j mc)).alloc (.cells #[.int .u8 93, .string (S tx), .bool ng, .int .u64 mg] 237))) := hide (((Only.refl _ w).setCell (p := ⟨b, 24, none⟩) (List.mem_cons_self ..) _).alloc _)
            clear hR hrow hcap hr2 hP0 HV
            go_enter Tryz.func136, Tryz.ntmps136
            go_wp2_with fail
            (with_reducible refine (unhide HB).mono ?_)
            rintro e w1 ⟨rfl, hp1, ho1⟩
            have HP := hide hp1
            have HO := hide ho1
            clear HB hp1 ho1 c24 c25 c26 f24 f25 f26 hg HSL
            go_wp2_with fail
            go_ret2
            rw [← HR.out, show p.maps.tail = M by rw [HM.out]; rfl]
            refine ParPost.of rfl HP.out (HO0.out.trans (HO.out.mono fun k hk => by rw [List.mem_singleton.1 hk]; exact List.mem_cons_self ..)) (fun k hk => .inl ((List.mem_append.1 hk).elim (fun h9 => H.out.sub k (by rw [HMV.out]; exact h9)) id))
          · have HR := hide hR
            have hrow := H.out.row
            rw [HM.out, HMV.out] at hrow
            have hcap := hrow.cap_le.2.1
            rw [show boolsL (false :: M) = boolsL M ++ [.bool false] by simp [boolsL], HNM.out, List.length_cons, ← HJ.out] at hrow
            have hr2 := hrow.init
            have HSL := fun (W : World) => slice_top (P := Tryz.prog) (t := 75) (z := 1) Tryz.underlying75 (by intro w; kernel_rfl) g off n j mc (by have := HJ.out; simp at hcap; omega) (j : Int) rfl W
            have hP0 := H.out.lex.setmaps (R := M) (mv' := .slice (some ⟨g, off, none⟩) j mc) (by rw [← HJ.out]; exact hr2)
            have HB := hide (par_behind (hP0.new ((Only.refl [] _).alloc (.cells #[.int .u8 93, .string (S tx), .bool ng, .int .u64 mg] 237))))
            have HO0 : Hid (Only (b :: F) w ((w.setCell ⟨b, 24, none⟩ (.slice (some ⟨g, off, none⟩) j mc)).alloc (.cells #[.int .u8 93, .string (S tx), .bool ng, .int .u64 mg] 237))) := hide (((Only.refl _ w).setCell (p := ⟨b, 24, none⟩) (List.mem_cons_self ..) _).alloc _)
            clear hR hrow hcap hr2 hP0 HV
            go_enter Tryz.func136, Tryz.ntmps136
            go_wp2_with fail
            (with_reducible refine (unhide HB).mono ?_)
            rintro e w1 ⟨rfl, hp1, ho1⟩
            have HP := hide hp1
            have HO := hide ho1
            clear HB hp1 ho1 c24 c25 c26 f24 f25 f26 hg HSL
            go_wp2_with fail
            go_ret2
            rw [← HR.out, show p.maps.tail = M by rw [HM.out]; rfl]
            refine ParPost.of rfl HP.out (HO0.out.trans (HO.out.mono fun k hk => by rw [List.mem_singleton.1 hk]; exact List.mem_cons_self ..)) (fun k hk => .inl ((List.mem_append.1 hk).elim (fun h9 => H.out.sub k (by rw [HMV.out]; exact h9)) id))
        · rw [if_neg (by simp [hh]; omega), if_neg (by simp)] at hR
          have n1'' : (nx == 1) = false := by simp; omega
          have n5 : (nx == 5) = false := by simp; omega
          obtain ⟨g, off, cap, hmv, hg⟩ := H.out.top hM
          have hnM : n = M.length + 1 := by rw [HN.out, hM]; rfl
          obtain ⟨j, hj⟩ : ∃ j, j = M.length := ⟨_, rfl⟩
          rw [← hj] at hg hnM
          have h9 := HMV.out.symm.trans hmv
          injection h9 with e1 e2 e3
          subst e1 e3
          have hi : (n : Int) - 1 = (j : Int) := by omega
          have hjn : j < n := by omega
          have gl : g < w.heap.size := (H.out.row.lt g (by rw [HMV.out]; simp [slB])).2
          have gb : g ≠ b := fun h9 => H.out.out (by rw [HMV.out]; simp [slB, h9])
          have HNM := hide hnM
          have HM := hide hM
          have HJ := hide hj
          clear e2 hmv hj hnM hM
          clear hh
          by_cases h0 : nx = 0
          · rw [if_neg (by omega)] at hR
            subst h0
            clear n1''
            have HR := hide hR
            clear hR
            go_enter Tryz.func136, Tryz.ntmps136
            go_wp2_with fail
            (with_reducible refine (unhide (HV _ ((Only.refl [] w).alloc (.cells #[.int .u8 93, .string (S tx), .bool ng, .int .u64 mg] 237)))).mono ?_)
            rintro e w1 ⟨rfl, F', hp, ho, hf⟩
            have HP := hide hp
            have HO := hide ho
            have HF := hide hf
            clear HV hp ho hf c24 c25 c26 f24 f25 f26
            go_wp2_with fail
            go_ret2
            rw [← HR.out]
            exact ⟨rfl, F', HP.out, ((Only.refl _ w).alloc _).trans HO.out, fun k hk => (HF.out k hk).imp_right (fun h9 => by simp at h9; omega)⟩
          · rw [if_pos (by omega)] at hR
            have HR := hide hR
            have n0 : (nx != 0) = true := by simp; omega
            have n1 : (nx != 1) = true := by simp; omega
            have n0' : (nx == 0) = false := by simp; omega
            have n1' : (nx == 1) = false := by simp; omega
            clear h0 HV hR
            go_enter Tryz.func136, Tryz.ntmps136
            go_wp2_with fail
            go_ret2
            rw [← HR.out, HNX.out]
            exact ParPost.of rfl ((H.out.seterr 2).new ((Only.refl [] _).alloc _)) (((Only.refl _ w).setCell (p := ⟨b, 26, none⟩) (by simp) _).alloc _) (fun k hk => .inl hk)
  have k93 : (k == 93) = false := by simpa using h93
  by_cases h125 : k = 125
  · subst h125
    clear h58 k58 h44 k44 h93 k93
    rw [if_neg (by simp), if_neg (by simp)] at hR
    cases hM : p.maps with
    | nil =>
      have hn0 : n = 0 := by rw [HN.out, hM]; rfl
      rw [if_neg (by simp [hM]), if_neg (by simp)] at hR
      clear hM
      subst hn0
      by_cases h0 : nx = 0 ∨ nx = 1
      · rw [if_neg (by omega)] at hR
        rcases h0 with rfl | rfl
        · have HR := hide hR
          clear hR
          go_enter Tryz.func136, Tryz.ntmps136
          go_wp2_with fail
          (with_reducible refine (unhide (HV _ ((Only.refl [] w).alloc (.cells #[.int .u8 125, .string (S tx), .bool ng, .int .u64 mg] 237)))).mono ?_)
          rintro e w1 ⟨rfl, F', hp, ho, hf⟩
          have HP := hide hp
          have HO := hide ho
          have HF := hide hf
          clear HV hp ho hf c24 c25 c26 f24 f25 f26
          go_wp2_with fail
          go_ret2
          rw [← HR.out]
          exact ⟨rfl, F', HP.out, ((Only.refl _ w).alloc _).trans HO.out, fun k hk => (HF.out k hk).imp_right (fun h9 => by simp at h9; omega)⟩
        · have HR := hide hR
          clear hR
          go_enter Tryz.func136, Tryz.ntmps136
          go_wp2_with fail
          (with_reducible refine (unhide (HV _ ((Only.refl [] w).alloc (.cells #[.int .u8 125, .string (S tx), .bool ng, .int .u64 mg] 237)))).mono ?_)
          rintro e w1 ⟨rfl, F', hp, ho, hf⟩
          have HP := hide hp
          have HO := hide ho
          have HF := hide hf
          clear HV hp ho hf c24 c25 c26 f24 f25 f26
          go_wp2_with fail
          go_ret2
          rw [← HR.out]
          exact ⟨rfl, F', HP.out, ((Only.refl _ w).alloc _).trans HO.out, fun k hk => (HF.out k hk).imp_right (fun h9 => by simp at h9; omega)⟩
      · rw [if_pos (by omega)] at hR
        have HR := hide hR
        have n0 : (nx != 0) = true := by simp; omega
        have n1 : (nx != 1) = true := by simp; omega
        have n0' : (nx == 0) = false := by simp; omega
        have n1' : (nx == 1) = false := by simp; omega
        clear h0 HV hR
        go_enter Tryz.func136, Tryz.ntmps136
        go_wp2_with fail
        go_ret2
        rw [← HR.out, HNX.out]
        exact ParPost.of rfl ((H.out.seterr 2).new ((Only.refl [] _).alloc _)) (((Only.refl _ w).setCell (p := ⟨b, 26, none⟩) (by simp) _).alloc _) (fun k hk => .inl hk)
    | cons m M =>
      have hh : p.maps.head? = some m := by rw [hM]; rfl
      cases m with
      | false =>
        rw [if_neg (by simp [hh]), if_neg (by simp)] at hR
        obtain ⟨g, off, cap, hmv, hg⟩ := H.out.top hM
        have hnM : n = M.length + 1 := by rw [HN.out, hM]; rfl
        obtain ⟨j, hj⟩ : ∃ j, j = M.length := ⟨_, rfl⟩
        rw [← hj] at hg hnM
        have h9 := HMV.out.symm.trans hmv
        injection h9 with e1 e2 e3
        subst e1 e3
        have hi : (n : Int) - 1 = (j : Int) := by omega
        have hjn : j < n := by omega
        have gl : g < w.heap.size := (H.out.row.lt g (by rw [HMV.out]; simp [slB])).2
        have gb : g ≠ b := fun h9 => H.out.out (by rw [HMV.out]; simp [slB, h9])
        have HNM := hide hnM
        have HM := hide hM
        have HJ := hide hj
        clear e2 hmv hj hnM hM
        clear hh
        have hi2 : decide ((0 : Int) ≤ (n : Int) - 1) = true := by simp; omega
        by_cases h0 : nx = 0 ∨ nx = 1
        · rw [if_neg (by omega)] at hR
          rcases h0 with rfl | rfl
          · have HR := hide hR
            clear hR
            go_enter Tryz.func136, Tryz.ntmps136
            go_wp2_with fail
            (with_reducible refine (unhide (HV _ ((Only.refl [] w).alloc (.cells #[.int .u8 125, .string (S tx), .bool ng, .int .u64 mg] 237)))).mono ?_)
            rintro e w1 ⟨rfl, F', hp, ho, hf⟩
            have HP := hide hp
            have HO := hide ho
            have HF := hide hf
            clear HV hp ho hf c24 c25 c26 f24 f25 f26
            go_wp2_with fail
            go_ret2
            rw [← HR.out]
            exact ⟨rfl, F', HP.out, ((Only.refl _ w).alloc _).trans HO.out, fun k hk => (HF.out k hk).imp_right (fun h9 => by simp at h9; omega)⟩
          · have HR := hide hR
            clear hR
            go_enter Tryz.func136, Tryz.ntmps136
            go_wp2_with fail
            (with_reducible refine (unhide (HV _ ((Only.refl [] w).alloc (.cells #[.int .u8 125, .string (S tx), .bool ng, .int .u64 mg] 237)))).mono ?_)
            rintro e w1 ⟨rfl, F', hp, ho, hf⟩
            have HP := hide hp
            have HO := hide ho
            have HF := hide hf
            clear HV hp ho hf c24 c25 c26 f24 f25 f26
            go_wp2_with fail
            go_ret2
            rw [← HR.out]
            exact ⟨rfl, F', HP.out, ((Only.refl _ w).alloc _).trans HO.out, fun k hk => (HF.out k hk).imp_right (fun h9 => by simp at h9; omega)⟩
        · rw [if_pos (by omega)] at hR
          have HR := hide hR
          have n0 : (nx != 0) = true := by simp; omega
          have n1 : (nx != 1) = true := by simp; omega
          have n0' : (nx == 0) = false := by simp; omega
          have n1' : (nx == 1) = false := by simp; omega
          clear h0 HV hR
          go_enter Tryz.func136, Tryz.ntmps136
          go_wp2_with fail
          go_ret2
          rw [← HR.out, HNX.out]
          exact ParPost.of rfl ((H.out.seterr 2).new ((Only.refl [] _).alloc _)) (((Only.refl _ w).setCell (p := ⟨b, 26, none⟩) (by simp) _).alloc _) (fun k hk => .inl hk)
      | true =>
        by_cases h15 : nx = 2 ∨ nx = 5
        · rw [if_pos (by simp [hh, h15])] at hR
          obtain ⟨g, off, cap, hmv, hg⟩ := H.out.top hM
          have hnM : n = M.length + 1 := by rw [HN.out, hM]; rfl
          obtain ⟨j, hj⟩ : ∃ j, j = M.length := ⟨_, rfl⟩
          rw [← hj] at hg hnM
          have h9 := HMV.out.symm.trans hmv
          injection h9 with e1 e2 e3
          subst e1 e3
          have hi : (n : Int) - 1 = (j : Int) := by omega
          have hjn : j < n := by omega
          have gl : g < w.heap.size := (H.out.row.lt g (by rw [HMV.out]; simp [slB])).2
          have gb : g ≠ b := fun h9 => H.out.out (by rw [HMV.out]; simp [slB, h9])
          have HNM := hide hnM
          have HM := hide hM
          have HJ := hide hj
          clear e2 hmv hj hnM hM
          clear hh
          rcases h15 with rfl | rfl
          · have HR := hide hR
            have hrow := H.out.row
            rw [HM.out, HMV.out] at hrow
            have hcap := hrow.cap_le.2.1
            rw [show boolsL (true :: M) = boolsL M ++ [.bool true] by simp [boolsL], HNM.out, List.length_cons, ← HJ.out] at hrow
            have hr2 := hrow.init
            have HSL := fun (W : World) => slice_top (P := Tryz.prog) (t := 75) (z := 1) Tryz.underlying75 (by intro w; kernel_rfl) g off n j mc (by have := HJ.out; simp at hcap; omega) (j : Int) rfl W
            have hP0 := H.out.lex.setmaps (R := M) (mv' := .slice (some ⟨g, off, none⟩) j mc) (by rw [← HJ.out]; exact hr2)
            have HB := hide (par_behind (hP0.new ((Only.refl [] _).alloc (.cells #[.int .u8 125, .string (S tx), .bool ng, .int .u64 mg] 237))))
            have HO0 : Hid (Only (b :: F) w ((w.setCell ⟨b, 24, none⟩ (.slice (some ⟨g, off, none⟩) j mc)).alloc (.cells #[.int .u8 125, .string (S tx), .bool ng, .int .u64 mg] 237))) := hide (((Only.refl _ w).setCell (p := ⟨b, 24, none⟩) (List.mem_cons_self ..) _).alloc _)
            clear hR hrow hcap hr2 hP0 HV
            go_enter Tryz.func136, Tryz.ntmps136
            go_wp2_with fail
            (with_reducible refine (unhide HB).mono ?_)
            rintro e w1 ⟨rfl, hp1, ho1⟩
            have HP := hide hp1
            have HO := hide ho1
            clear HB hp1 ho1 c24 c25 c26 f24 f25 f26 hg HSL
            go_wp2_with fail
            go_ret2
            rw [← HR.out, show p.maps.tail = M by rw [HM.out]; rfl]
            refine ParPost.of rfl HP.out (HO0.out.trans (HO.out.mono fun k hk => by rw [List.mem_singleton.1 hk]; exact List.mem_cons_self ..)) (fun k hk => .inl ((List.mem_append.1 hk).elim (fun h9 => H.out.sub k (by rw [HMV.out]; exact h9)) id))
          · have HR := hide hR
            have hrow := H.out.row
            rw [HM.out, HMV.out] at hrow
            have hcap := hrow.cap_le.2.1
            rw [show boolsL (true :: M) = boolsL M ++ [.bool true] by simp [boolsL], HNM.out, List.length_cons, ← HJ.out] at hrow
            have hr2 := hrow.init
            have HSL := fun (W : World) => slice_top (P := Tryz.prog) (t := 75) (z := 1) Tryz.underlying75 (by intro w; kernel_rfl) g off n j mc (by have := HJ.out; simp at hcap; omega) (j : Int) rfl W
            have hP0 := H.out.lex.setmaps (R := M) (mv' := .slice (some ⟨g, off, none⟩) j mc) (by rw [← HJ.out]; exact hr2)
            have HB := hide (par_behind (hP0.new ((Only.refl [] _).alloc (.cells #[.int .u8 125, .string (S tx), .bool ng, .int .u64 mg] 237))))
            have HO0 : Hid (Only (b :: F) w ((w.setCell ⟨b, 24, none⟩ (.slice (some ⟨g, off, none⟩) j mc)).alloc (.cells #[.int .u8 125, .string (S tx), .bool ng, .int .u64 mg] 237))) := hide (((Only.refl _ w).setCell (p := ⟨b, 24, none⟩) (List.mem_cons_self ..) _).alloc _)
            clear hR hrow hcap hr2 hP0 HV
            go_enter Tryz.func136, Tryz.ntmps136
            go_wp2_with fail
            (with_reducible refine (unhide HB).mono ?_)
            rintro e w1 ⟨rfl, hp1, ho1⟩
            have HP := hide hp1
            have HO := hide ho1
            clear HB hp1 ho1 c24 c25 c26 f24 f25 f26 hg HSL
            go_wp2_with fail
            go_ret2
            rw [← HR.out, show p.maps.tail = M by rw [HM.out]; rfl]
            refine ParPost.of rfl HP.out (HO0.out.trans (HO.out.mono fun k hk => by rw [List.mem_singleton.1 hk]; exact List.mem_cons_self ..)) (fun k hk => .inl ((List.mem_append.1 hk).elim (fun h9 => H.out.sub k (by rw [HMV.out]; exact h9)) id))
        · rw [if_neg (by simp [hh]; omega), if_neg (by simp)] at hR
          have n1'' : (nx == 2) = false := by simp; omega
          have n5 : (nx == 5) = false := by simp; omega
          obtain ⟨g, off, cap, hmv, hg⟩ := H.out.top hM
          have hnM : n = M.length + 1 := by rw [HN.out, hM]; rfl
          obtain ⟨j, hj⟩ : ∃ j, j = M.length := ⟨_, rfl⟩
          rw [← hj] at hg hnM
          have h9 := HMV.out.symm.trans hmv
          injection h9 with e1 e2 e3
          subst e1 e3
          have hi : (n : Int) - 1 = (j : Int) := by omega
          have hjn : j < n := by omega
          have gl : g < w.heap.size := (H.out.row.lt g (by rw [HMV.out]; simp [slB])).2
          have gb : g ≠ b := fun h9 => H.out.out (by rw [HMV.out]; simp [slB, h9])
          have HNM := hide hnM
          have HM := hide hM
          have HJ := hide hj
          clear e2 hmv hj hnM hM
          clear hh
          by_cases h0 : nx = 0 ∨ nx = 1
          · rw [if_neg (by omega)] at hR
            rcases h0 with rfl | rfl
            · have HR := hide hR
              clear hR
              go_enter Tryz.func136, Tryz.ntmps136
              go_wp2_with fail
              (with_reducible refine (unhide (HV _ ((Only.refl [] w).alloc (.cells #[.int .u8 125, .string (S tx), .bool ng, .int .u64 mg] 237)))).mono ?_)
              rintro e w1 ⟨rfl, F', hp, ho, hf⟩
              have HP := hide hp
              have HO := hide ho
              have HF := hide hf
              clear HV hp ho hf c24 c25 c26 f24 f25 f26
              go_wp2_with fail
              go_ret2
              rw [← HR.out]
              exact ⟨rfl, F', HP.out, ((Only.refl _ w).alloc _).trans HO.out, fun k hk => (HF.out k hk).imp_right (fun h9 => by simp at h9; omega)⟩
            · have HR := hide hR
              clear hR
              go_enter Tryz.func136, Tryz.ntmps136
              go_wp2_with fail
              (with_reducible refine (unhide (HV _ ((Only.refl [] w).alloc (.cells #[.int .u8 125, .string (S tx), .bool ng, .int .u64 mg] 237)))).mono ?_)
              rintro e w1 ⟨rfl, F', hp, ho, hf⟩
              have HP := hide hp
              have HO := hide ho
              have HF := hide hf
              clear HV hp ho hf c24 c25 c26 f24 f25 f26
              go_wp2_with fail
              go_ret2
              rw [← HR.out]
              exact ⟨rfl, F', HP.out, ((Only.refl _ w).alloc _).trans HO.out, fun k hk => (HF.out k hk).imp_right (fun h9 => by simp at h9; omega)⟩
          · rw [if_pos (by omega)] at hR
            have HR := hide hR
            have n0 : (nx != 0) = true := by simp; omega
            have n1 : (nx != 1) = true := by simp; omega
            have n0' : (nx == 0) = false := by simp; omega
            have n1' : (nx == 1) = false := by simp; omega
            clear h0 HV hR
            go_enter Tryz.func136, Tryz.ntmps136
            go_wp2_with fail
            go_ret2
            rw [← HR.out, HNX.out]
            exact ParPost.of rfl ((H.out.seterr 2).new ((Only.refl [] _).alloc _)) (((Only.refl _ w).setCell (p := ⟨b, 26, none⟩) (by simp) _).alloc _) (fun k hk => .inl hk)
  have k125 : (k == 125) = false := by simpa using h125
  rw [if_neg (by omega), if_neg (by omega), if_neg (by omega)] at hR
  by_cases h115 : k = 115
  · subst h115
    clear h58 k58 h44 k44 h93 k93 h125 k125
    by_cases h23 : nx = 3 ∨ nx = 2
    · rw [if_pos (by simp [h23])] at hR
      have HR := hide hR
      clear hR HV
      rcases h23 with rfl | rfl
      · go_enter Tryz.func136, Tryz.ntmps136
        go_wp2_with fail
        go_ret2
        rw [← HR.out]
        exact ParPost.of rfl ((H.out.setnext 4).new ((Only.refl [] _).alloc _)) (((Only.refl _ w).setCell (p := ⟨b, 25, none⟩) (by simp) _).alloc _) (fun k hk => .inl hk)
      · go_enter Tryz.func136, Tryz.ntmps136
        go_wp2_with fail
        go_ret2
        rw [← HR.out]
        exact ParPost.of rfl ((H.out.setnext 4).new ((Only.refl [] _).alloc _)) (((Only.refl _ w).setCell (p := ⟨b, 25, none⟩) (by simp) _).alloc _) (fun k hk => .inl hk)
    · rw [if_neg (by simp [h23])] at hR
      have n3 : (nx == 3) = false := by simp; omega
      have n2 : (nx == 2) = false := by simp; omega
      by_cases h0 : nx = 0 ∨ nx = 1
      · rw [if_neg (by omega)] at hR
        rcases h0 with rfl | rfl
        · have HR := hide hR
          clear hR
          go_enter Tryz.func136, Tryz.ntmps136
          go_wp2_with fail
          (with_reducible refine (unhide (HV _ ((Only.refl [] w).alloc (.cells #[.int .u8 115, .string (S tx), .bool ng, .int .u64 mg] 237)))).mono ?_)
          rintro e w1 ⟨rfl, F', hp, ho, hf⟩
          have HP := hide hp
          have HO := hide ho
          have HF := hide hf
          clear HV hp ho hf c24 c25 c26 f24 f25 f26
          go_wp2_with fail
          go_ret2
          rw [← HR.out]
          exact ⟨rfl, F', HP.out, ((Only.refl _ w).alloc _).trans HO.out, fun k hk => (HF.out k hk).imp_right (fun h9 => by simp at h9; omega)⟩
        · have HR := hide hR
          clear hR
          go_enter Tryz.func136, Tryz.ntmps136
          go_wp2_with fail
          (with_reducible refine (unhide (HV _ ((Only.refl [] w).alloc (.cells #[.int .u8 115, .string (S tx), .bool ng, .int .u64 mg] 237)))).mono ?_)
          rintro e w1 ⟨rfl, F', hp, ho, hf⟩
          have HP := hide hp
          have HO := hide ho
          have HF := hide hf
          clear HV hp ho hf c24 c25 c26 f24 f25 f26
          go_wp2_with fail
          go_ret2
          rw [← HR.out]
          exact ⟨rfl, F', HP.out, ((Only.refl _ w).alloc _).trans HO.out, fun k hk => (HF.out k hk).imp_right (fun h9 => by simp at h9; omega)⟩
      · rw [if_pos (by omega)] at hR
        have HR := hide hR
        have n0 : (nx != 0) = true := by simp; omega
        have n1 : (nx != 1) = true := by simp; omega
        have n0' : (nx == 0) = false := by simp; omega
        have n1' : (nx == 1) = false := by simp; omega
        clear h0 HV hR
        go_enter Tryz.func136, Tryz.ntmps136
        go_wp2_with fail
        go_ret2
        rw [← HR.out, HNX.out]
        exact ParPost.of rfl ((H.out.seterr 2).new ((Only.refl [] _).alloc _)) (((Only.refl _ w).setCell (p := ⟨b, 26, none⟩) (by simp) _).alloc _) (fun k hk => .inl hk)
  have k115 : (k == 115) = false := by simpa using h115
  rw [if_neg (by omega)] at hR
  clear h58 h44 h93 h125 h115
  by_cases h0 : nx = 0 ∨ nx = 1
  · rw [if_neg (by omega)] at hR
    rcases h0 with rfl | rfl
    · have HR := hide hR
      clear hR
      go_enter Tryz.func136, Tryz.ntmps136
      go_wp2_with fail
      (with_reducible refine (unhide (HV _ ((Only.refl [] w).alloc (.cells #[.int .u8 k, .string (S tx), .bool ng, .int .u64 mg] 237)))).mono ?_)
      rintro e w1 ⟨rfl, F', hp, ho, hf⟩
      have HP := hide hp
      have HO := hide ho
      have HF := hide hf
      clear HV hp ho hf c24 c25 c26 f24 f25 f26
      go_wp2_with fail
      go_ret2
      rw [← HR.out]
      exact ⟨rfl, F', HP.out, ((Only.refl _ w).alloc _).trans HO.out, fun k hk => (HF.out k hk).imp_right (fun h9 => by simp at h9; omega)⟩
    · have HR := hide hR
      clear hR
      go_enter Tryz.func136, Tryz.ntmps136
      go_wp2_with fail
      (with_reducible refine (unhide (HV _ ((Only.refl [] w).alloc (.cells #[.int .u8 k, .string (S tx), .bool ng, .int .u64 mg] 237)))).mono ?_)
      rintro e w1 ⟨rfl, F', hp, ho, hf⟩
      have HP := hide hp
      have HO := hide ho
      have HF := hide hf
      clear HV hp ho hf c24 c25 c26 f24 f25 f26
      go_wp2_with fail
      go_ret2
      rw [← HR.out]
      exact ⟨rfl, F', HP.out, ((Only.refl _ w).alloc _).trans HO.out, fun k hk => (HF.out k hk).imp_right (fun h9 => by simp at h9; omega)⟩
  · rw [if_pos (by omega)] at hR
    have HR := hide hR
    have n0 : (nx != 0) = true := by simp; omega
    have n1 : (nx != 1) = true := by simp; omega
    have n0' : (nx == 0) = false := by simp; omega
    have n1' : (nx == 1) = false := by simp; omega
    clear h0 HV hR
    go_enter Tryz.func136, Tryz.ntmps136
    go_wp2_with fail
    go_ret2
    rw [← HR.out, HNX.out]
    exact ParPost.of rfl ((H.out.seterr 2).new ((Only.refl [] _).alloc _)) (((Only.refl _ w).setCell (p := ⟨b, 26, none⟩) (by simp) _).alloc _) (fun k hk => .inl hk)
end Go.Proofs.YtkccjfgkbkodiaaGreat
