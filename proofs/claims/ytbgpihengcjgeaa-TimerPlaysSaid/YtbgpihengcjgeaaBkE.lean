/-
  truchmanbook's Book of lists of integers: each is marked with marks of its own.
-/
import Derived.Test.YtbgpihengcjgeaaBkD
namespace Go.Proofs.Ytbgpihengcjgeaa
open Go.RowKit

def Marked (i : Nat) (L : List (Value × List Int)) : Prop := ∀ j (hj : j < L.length), j < i → L[j].2 = marks j 0 L[j].2.length
set_option maxRecDepth 100000 in
set_option maxHeartbeats 2000000 in
theorem put_ints {w : World} {B p : Nat} {vi vw : Value} {L : List (Value × List Int)} (h : ListsI w B p vi vw L) :
    Calls Try.prog 25 #[.pointer (some ⟨p, 0, none⟩)] w fun e w' => e = .returned (.tuple #[]) ∧ ∃ L', ListsI w' B p vi vw L' ∧ L'.length = L.length ∧ Marked L.length L' ∧ Below B w w' := by
  have H := hide h
  obtain ⟨n, hn⟩ : ∃ n, n = L.length := ⟨_, rfl⟩
  have HN := hide hn
  have hlen := h.len
  rw [← hn] at hlen ⊢
  have hn2 : (n : Int) ≤ 250 := by omega
  obtain ⟨ai, ci, hvi⟩ := h.si.form
  rw [← hn] at hvi
  subst hvi
  clear h hn
  go_enter Try.func25, Try.ntmps25
  go_wp2_with fail
  go_loopg [2, 3, 4] n (fun g s2 s3 s4 wr => ∃ (i : Nat) (L' : List (Value × List Int)), s2 = .int .i64 i ∧ i + g = n ∧ Hid (L'.length = n) ∧ Hid (ListsI wr B p (.slice ai n ci) vw L') ∧ Hid (Marked i L') ∧ Hid (Below B w wr))
  case atStart => exact ⟨0, L, rfl, by omega, hide HN.out.symm, H, hide (fun j hj h => by omega), hide (Below.refl _ _)⟩
  case round =>
    obtain ⟨i, L', rfl, hi, hL, hls, hmk, hb⟩ := hrel
    have c2 := hls.out.blk.cellv 2 _ rfl
    by_cases hlt : i < n
    · have hiL : i < L'.length := by rw [hL.out]; exact hlt
      have hsi := hls.out.si
      rw [hL.out] at hsi
      obtain ⟨g1, o1, k1, hv1, hc1⟩ := hsi.row1 (by omega)
      injection hv1 with e1 e2 e3
      subst e1 e3
      obtain ⟨⟨v, xs⟩, hx⟩ : ∃ x, x = L'[i] := ⟨_, rfl⟩
      have hx1 := (hc1 _ _ _ hsi i (by simpa using hiL)).1
      simp only [List.getElem_map, ← hx] at hx1
      have hxo := hls.out.own _ (List.getElem_mem hiL)
      rw [← hx] at hxo
      have ho1 : LIs wr B v xs := hxo.1
      have ho2 : xs.length ≤ 1000 := hxo.2
      obtain ⟨ln, hln⟩ : ∃ ln, ln = xs.length := ⟨_, rfl⟩
      obtain ⟨av, cv, hfv⟩ := SlN.form ho1
      rw [← hln] at ho2 hfv
      have HM := fun W => hide (mark_at i 0 ln i 0 ln rfl rfl rfl (by omega) (by omega) W)
      have hblt : B ≤ wr.heap.size := Nat.le_trans hls.out.pB (Nat.le_of_lt hls.out.blk.lt)
      have HVLT : Hid (∀ k ∈ slB v, k < wr.heap.size) := hide (fun k hk => (SlN.lt ho1 k hk).2)
      have HLN := hide hln
      have HX := hide hx
      have HC1 := hide hc1
      obtain ⟨gO, hgO⟩ : ∃ gO, gO = gk := ⟨_, rfl⟩
      obtain ⟨b1, hbb1⟩ : ∃ b1, b1 = wr.heap.size := ⟨_, rfl⟩
      rw [← hbb1] at HVLT
      subst hfv
      clear hx hxo ho1 hln hsi hc1 e2
      go_wp2_with fail
      (with_reducible refine (unhide (HM _)).mono ?_)
      rintro e w1 ⟨vm, rfl, hm, hb1⟩
      obtain ⟨am, cm, rfl⟩ := hm.form
      rw [← hbb1] at hm
      have HM1 := hide hm
      have HL1 := hide (hls.out.below hb1)
      have HB1 : Hid (Below B w w1) := hide (hb.out.trans (hb1.mono hblt))
      clear HM hm hb1 hx1 c2
      go_wp2_with fail
      go_loopg [4] ln (fun g s4 wx => ∃ (k : Nat) (L2 : List (Value × List Int)) (xs2 : List Int), s4 = .int .i64 k ∧ k + g = ln ∧ Hid (∃ h : i < L2.length, L2[i] = (.slice av ln cv, xs2)) ∧ Hid (L2.length = n ∧ xs2.length = ln) ∧ Hid (∀ j (hj : j < xs2.length), j < k → xs2[j] = markI i j) ∧ Hid (ListsI wx B p (.slice (some ⟨g1, o1, none⟩) n ci) vw L2) ∧ Hid (Marked i L2) ∧ Hid (SlN wx b1 3 1 (.slice am ln cm) ln (intsL (marks i 0 ln))) ∧ Hid (Below B w wx))
      case atStart => exact ⟨0, L', xs, rfl, by omega, hide ⟨hiL, HX.out.symm⟩, hide ⟨hL.out, HLN.out.symm⟩, hide (fun j hj h => by omega), HL1, hmk, HM1, HB1⟩
      case round =>
        clear HL1 HM1 HB1 hls hmk hb
        obtain ⟨k, L2, xs2, rfl, hk, hx2, hL2, hpre, hls2, hmk2, hvm, hb2⟩ := hrel
        have c2 := hls2.out.blk.cellv 2 _ rfl
        by_cases hkl : k < ln
        · obtain ⟨hiL2, hx2e⟩ := hx2.out
          have hxo := hls2.out.own _ (List.getElem_mem hiL2)
          rw [hx2e] at hxo
          have ho1 : SlN wr B 3 1 (.slice av ln cv) ln (intsL xs2) := by
            have := hxo.1
            unfold LIs at this
            simp only at this
            rwa [hL2.out.2] at this
          obtain ⟨gv, ov, kv, hv2, hcv⟩ := ho1.row1 (by omega)
          injection hv2 with e1 e2 e3
          subst e1 e3
          obtain ⟨gm, om, km, hm2, hcm⟩ := hvm.out.row1 (by omega)
          injection hm2 with e4 e5 e6
          subst e4 e6
          have hsi := hls2.out.si
          rw [hL2.out.1] at hsi
          have q1 := (HC1.out _ _ _ hsi i (by simpa using hiL2)).1
          simp only [List.getElem_map, hx2e] at q1
          obtain ⟨mk, hmk⟩ : ∃ mk, mk = markI i k := ⟨_, rfl⟩
          have q2 : wr.cell? ⟨gm, om + k, none⟩ = some (.int .i64 mk) := by
            have := (hcm _ _ _ hvm.out k (by rw [intsL_length, marks_length]; exact hkl)).1
            rw [this, hmk]
            simp [intsL, marks]
          have hkx : k < xs2.length := by rw [hL2.out.2]; exact hkl
          have q3 := (hcv _ _ _ ho1 k (by rw [intsL_length]; exact hkx))
          have q4 := q3.2.1
          have q5 := q3.1
          simp only [intsL, List.getElem_map] at q5
          obtain ⟨ox, hox⟩ : ∃ ox, ox = xs2[k] := ⟨_, rfl⟩
          rw [← hox] at q5
          have hput := hls2.out.drew.put i hiL2 hx2e k hkx mk (by rw [hL2.out.2])
          have hgb : gv < b1 := HVLT.out gv (by simp [slB])
          have hvm2 := SlN.far hvm.out.drew (p := ⟨gv, ov + k, none⟩) (fun hg => by have := (hvm.out.lt _ hg).1; simp only at this; omega) (.int .i64 mk)
          have hBgv : B ≤ gv := by
            have := (SlN.lt hxo.1 gv (by simp [slB])).1
            exact this
          have hmk3 : Hid (Marked i (L2.set i (.slice (some ⟨gv, ov, none⟩) ln cv, xs2.set k mk))) := hide (fun j hj hji => by
            rw [List.getElem_set_ne (by omega)]
            exact hmk2.out j (by simpa using hj) hji)
          have hpre3 : Hid (∀ j (hj : j < (xs2.set k mk).length), j < k + 1 → (xs2.set k mk)[j] = markI i j) := hide (fun j hj hjk => by
            rw [List.getElem_set]
            split
            · rename_i hkj; rw [hmk, hkj]
            · exact hpre.out j (by simpa using hj) (by omega))
          have HPUT := hide hput
          have HVM := hide hvm2
          have hlens : Hid ((L2.set i ((.slice (some ⟨gv, ov, none⟩) ln cv : Value), xs2.set k mk)).length = n ∧ (xs2.set k mk).length = ln) := hide ⟨by rw [List.length_set]; exact hL2.out.1, by rw [List.length_set]; exact hL2.out.2⟩
          have hxx : Hid (∃ h : i < (L2.set i ((.slice (some ⟨gv, ov, none⟩) ln cv : Value), xs2.set k mk)).length, (L2.set i ((.slice (some ⟨gv, ov, none⟩) ln cv : Value), xs2.set k mk))[i] = (.slice (some ⟨gv, ov, none⟩) ln cv, xs2.set k mk)) := hide ⟨by simpa using hiL2, by simp⟩
          have HB2 : Hid (Below B w (wr.drew.setCell ⟨gv, ov + k, none⟩ (.int .i64 mk))) := hide (hb2.out.drew.setCell hBgv _)
          clear hput hvm2 hxo ho1 hcv hcm hsi q3 hmk hox e2 e5 hx2 hx2e hL2 hpre hls2 hmk2 hvm hb2 hkx hiL2
          go_upto_region 7 with (fail)
          refine wp_region_tree (fun W => W.cell? ⟨p, 2, none⟩ = some (.slice (some ⟨g1, o1, none⟩) n ci) ∧ W.cell? ⟨g1, o1 + i, none⟩ = some (.slice (some ⟨gv, ov, none⟩) ln cv) ∧ W.cell? ⟨gm, om + k, none⟩ = some (.int .i64 mk)) 13 (.take [0, 1, 2, 3, 4, 5, 6, 7, 8, 9, 10, 11, 12] (.step 13 (.fin))) (by kernel_rfl) (by kernel_rfl) (by intro _ _ _ _ _ h; exact h) ?_
          refine wpTree_take (⟨c2, q1, q2⟩) ?_
          simp only [opsAt, List.getElem?_cons_zero, List.getElem?_cons_succ]
          first | (refine wpPureH_step (v := ?_) rfl (fun W hS => ?_) ?_; rotate_left; · (obtain ⟨s1, s2, s3⟩ := hS; (try simp only [Act.put, List.setIfInBounds_toArray, List.set_cons_zero, List.set_cons_succ]); go_simp; with_reducible rfl)) | (refine wpPureH_want (v := ?_) (by rfl) (fun W hS => ?_) ?_; rotate_left; · (obtain ⟨s1, s2, s3⟩ := hS; (try simp only [Act.put, List.setIfInBounds_toArray, List.set_cons_zero, List.set_cons_succ]); go_simp; with_reducible rfl))
          first | (refine wpPureH_step (v := ?_) rfl (fun W hS => ?_) ?_; rotate_left; · (obtain ⟨s1, s2, s3⟩ := hS; (try simp only [Act.put, List.setIfInBounds_toArray, List.set_cons_zero, List.set_cons_succ]); go_simp; with_reducible rfl)) | (refine wpPureH_want (v := ?_) (by rfl) (fun W hS => ?_) ?_; rotate_left; · (obtain ⟨s1, s2, s3⟩ := hS; (try simp only [Act.put, List.setIfInBounds_toArray, List.set_cons_zero, List.set_cons_succ]); go_simp; with_reducible rfl))
          first | (refine wpPureH_step (v := ?_) rfl (fun W hS => ?_) ?_; rotate_left; · (obtain ⟨s1, s2, s3⟩ := hS; (try simp only [Act.put, List.setIfInBounds_toArray, List.set_cons_zero, List.set_cons_succ]); go_simp; with_reducible rfl)) | (refine wpPureH_want (v := ?_) (by rfl) (fun W hS => ?_) ?_; rotate_left; · (obtain ⟨s1, s2, s3⟩ := hS; (try simp only [Act.put, List.setIfInBounds_toArray, List.set_cons_zero, List.set_cons_succ]); go_simp; with_reducible rfl))
          first | (refine wpPureH_step (v := ?_) rfl (fun W hS => ?_) ?_; rotate_left; · (obtain ⟨s1, s2, s3⟩ := hS; (try simp only [Act.put, List.setIfInBounds_toArray, List.set_cons_zero, List.set_cons_succ]); go_simp; with_reducible rfl)) | (refine wpPureH_want (v := ?_) (by rfl) (fun W hS => ?_) ?_; rotate_left; · (obtain ⟨s1, s2, s3⟩ := hS; (try simp only [Act.put, List.setIfInBounds_toArray, List.set_cons_zero, List.set_cons_succ]); go_simp; with_reducible rfl))
          first | (refine wpPureH_step (v := ?_) rfl (fun W hS => ?_) ?_; rotate_left; · (obtain ⟨s1, s2, s3⟩ := hS; (try simp only [Act.put, List.setIfInBounds_toArray, List.set_cons_zero, List.set_cons_succ]); go_simp; with_reducible rfl)) | (refine wpPureH_want (v := ?_) (by rfl) (fun W hS => ?_) ?_; rotate_left; · (obtain ⟨s1, s2, s3⟩ := hS; (try simp only [Act.put, List.setIfInBounds_toArray, List.set_cons_zero, List.set_cons_succ]); go_simp; with_reducible rfl))
          first | (refine wpPureH_step (v := ?_) rfl (fun W hS => ?_) ?_; rotate_left; · (obtain ⟨s1, s2, s3⟩ := hS; (try simp only [Act.put, List.setIfInBounds_toArray, List.set_cons_zero, List.set_cons_succ]); go_simp; with_reducible rfl)) | (refine wpPureH_want (v := ?_) (by rfl) (fun W hS => ?_) ?_; rotate_left; · (obtain ⟨s1, s2, s3⟩ := hS; (try simp only [Act.put, List.setIfInBounds_toArray, List.set_cons_zero, List.set_cons_succ]); go_simp; with_reducible rfl))
          first | (refine wpPureH_step (v := ?_) rfl (fun W hS => ?_) ?_; rotate_left; · (obtain ⟨s1, s2, s3⟩ := hS; (try simp only [Act.put, List.setIfInBounds_toArray, List.set_cons_zero, List.set_cons_succ]); go_simp; with_reducible rfl)) | (refine wpPureH_want (v := ?_) (by rfl) (fun W hS => ?_) ?_; rotate_left; · (obtain ⟨s1, s2, s3⟩ := hS; (try simp only [Act.put, List.setIfInBounds_toArray, List.set_cons_zero, List.set_cons_succ]); go_simp; with_reducible rfl))
          first | (refine wpPureH_step (v := ?_) rfl (fun W hS => ?_) ?_; rotate_left; · (obtain ⟨s1, s2, s3⟩ := hS; (try simp only [Act.put, List.setIfInBounds_toArray, List.set_cons_zero, List.set_cons_succ]); go_simp; with_reducible rfl)) | (refine wpPureH_want (v := ?_) (by rfl) (fun W hS => ?_) ?_; rotate_left; · (obtain ⟨s1, s2, s3⟩ := hS; (try simp only [Act.put, List.setIfInBounds_toArray, List.set_cons_zero, List.set_cons_succ]); go_simp; with_reducible rfl))
          first | (refine wpPureH_step (v := ?_) rfl (fun W hS => ?_) ?_; rotate_left; · (obtain ⟨s1, s2, s3⟩ := hS; (try simp only [Act.put, List.setIfInBounds_toArray, List.set_cons_zero, List.set_cons_succ]); go_simp; with_reducible rfl)) | (refine wpPureH_want (v := ?_) (by rfl) (fun W hS => ?_) ?_; rotate_left; · (obtain ⟨s1, s2, s3⟩ := hS; (try simp only [Act.put, List.setIfInBounds_toArray, List.set_cons_zero, List.set_cons_succ]); go_simp; with_reducible rfl))
          first | (refine wpPureH_step (v := ?_) rfl (fun W hS => ?_) ?_; rotate_left; · (obtain ⟨s1, s2, s3⟩ := hS; (try simp only [Act.put, List.setIfInBounds_toArray, List.set_cons_zero, List.set_cons_succ]); go_simp; with_reducible rfl)) | (refine wpPureH_want (v := ?_) (by rfl) (fun W hS => ?_) ?_; rotate_left; · (obtain ⟨s1, s2, s3⟩ := hS; (try simp only [Act.put, List.setIfInBounds_toArray, List.set_cons_zero, List.set_cons_succ]); go_simp; with_reducible rfl))
          first | (refine wpPureH_step (v := ?_) rfl (fun W hS => ?_) ?_; rotate_left; · (obtain ⟨s1, s2, s3⟩ := hS; (try simp only [Act.put, List.setIfInBounds_toArray, List.set_cons_zero, List.set_cons_succ]); go_simp; with_reducible rfl)) | (refine wpPureH_want (v := ?_) (by rfl) (fun W hS => ?_) ?_; rotate_left; · (obtain ⟨s1, s2, s3⟩ := hS; (try simp only [Act.put, List.setIfInBounds_toArray, List.set_cons_zero, List.set_cons_succ]); go_simp; with_reducible rfl))
          first | (refine wpPureH_step (v := ?_) rfl (fun W hS => ?_) ?_; rotate_left; · (obtain ⟨s1, s2, s3⟩ := hS; (try simp only [Act.put, List.setIfInBounds_toArray, List.set_cons_zero, List.set_cons_succ]); go_simp; with_reducible rfl)) | (refine wpPureH_want (v := ?_) (by rfl) (fun W hS => ?_) ?_; rotate_left; · (obtain ⟨s1, s2, s3⟩ := hS; (try simp only [Act.put, List.setIfInBounds_toArray, List.set_cons_zero, List.set_cons_succ]); go_simp; with_reducible rfl))
          first | (refine wpPureH_step (v := ?_) rfl (fun W hS => ?_) ?_; rotate_left; · (obtain ⟨s1, s2, s3⟩ := hS; (try simp only [Act.put, List.setIfInBounds_toArray, List.set_cons_zero, List.set_cons_succ]); go_simp; with_reducible rfl)) | (refine wpPureH_want (v := ?_) (by rfl) (fun W hS => ?_) ?_; rotate_left; · (obtain ⟨s1, s2, s3⟩ := hS; (try simp only [Act.put, List.setIfInBounds_toArray, List.set_cons_zero, List.set_cons_succ]); go_simp; with_reducible rfl))
          refine wpPureH_nil ?_
          simp only [Act.put, List.setIfInBounds_toArray, List.set_cons_zero, List.set_cons_succ]
          refine wpTree_step ?_
          simp only [opsAt, List.getElem?_cons_zero, List.getElem?_cons_succ]
          go_wp2_with fail
          refine ⟨.inl trivial, wpTree_fin ?_⟩
          go_wp2_with fail
          go_roundg (gk - 1)
          case measure => omega
          case rel => exact ⟨k + 1, _, _, by go_num, by omega, hxx, hlens, hpre3, HPUT.out |> hide, hmk3, hide HVM.out, HB2⟩
        · obtain rfl : k = ln := by omega
          obtain ⟨hiL2, hx2e⟩ := hx2.out
          have hmk3 : Hid (Marked (i + 1) L2) := hide (fun j hj hji => by
            by_cases hij : j = i
            · subst hij
              rw [hx2e]
              simp only
              apply List.ext_getElem (by rw [marks_length])
              intro j2 h1 h2
              rw [hpre.out j2 h1 (by rw [← hL2.out.2]; exact h1)]
              simp [marks]
            · exact hmk2.out j hj (by omega))
          have hL3 : Hid (L2.length = n) := hide hL2.out.1
          clear hx2 hx2e hpre hmk2 hvm hL2 hiL2
          go_wp2_with fail
          go_roundg (gO - 1)
          case measure => omega
          case rel => exact ⟨i + 1, L2, by go_num, by omega, hL3, hls2, hmk3, hb2⟩
    · obtain rfl : i = n := by omega
      go_wp2_with fail
      exact bodyPost_end (results_none rfl _ _ _) rfl ⟨rfl, L', hls.out, hL.out, hmk.out, hb.out⟩
end Go.Proofs.Ytbgpihengcjgeaa
