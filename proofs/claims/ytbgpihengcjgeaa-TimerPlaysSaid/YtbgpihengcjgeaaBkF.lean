/-
  truchmanbook's Book of lists of integers: each is grown; all are marked.
-/
import Derived.Test.YtbgpihengcjgeaaBkE
namespace Go.Proofs.Ytbgpihengcjgeaa
open Go.RowKit

/-- What a list of lists shows. -/
structure GrownI (w : World) (B b0 : Nat) (v : Value) (G : List (Value × List Int)) : Prop where
  s : SlN w b0 22 1 v G.length (G.map (·.1))
  own : ∀ x ∈ G, LIs w B x.1 x.2 ∧ x.2.length ≤ 1100
section
variable {w w' : World} {B b0 p : Nat} {vi vw v : Value} {G L : List (Value × List Int)}
theorem GrownI.keep {S : List Nat} (h : GrownI w B b0 v G) (ho : Only S w w') (hv : ∀ k ∈ slB v, k ∉ S) (hS : ∀ x ∈ G, ∀ k ∈ slB x.1, k ∉ S) : GrownI w' B b0 v G :=
  ⟨h.s.keep ho hv, fun x hx => ⟨SlN.keep (h.own x hx).1 ho (hS x hx), (h.own x hx).2⟩⟩
theorem GrownI.below (h : GrownI w B b0 v G) (hb : Below w.heap.size w w') : GrownI w' B b0 v G := h.keep (Only.of_below hb []) (fun k _ => by simp) (fun x _ k _ => by simp)
/-- One of the book's lists was appended to. -/
theorem ListsI.grow {S : List Nat} {i b1 : Nat} {x1 : Value} {xs : List Int} (h : ListsI w B p vi vw L) (hi : i < L.length) (hx : L[i] = (x1, xs)) (ho : Only S w w') (hS : ∀ k ∈ S, k ∈ slB x1 ∨ b1 ≤ k) (hp : p < b1) (hvi : ∀ k ∈ slB vi, k < b1) (hL : ∀ y ∈ L, ∀ k ∈ slB y.1, k < b1) (hk : LIs w' B x1 xs) : ListsI w' B p vi vw L := by
  have hxo := h.own _ (List.getElem_mem hi)
  rw [hx] at hxo
  refine ⟨h.pB, ho.blk h.blk (fun hk => ?_), h.si.keep ho (fun k hk hk2 => ?_), fun y hy => ?_, h.apart, h.len⟩
  · rcases hS p hk with h9 | h9
    · exact SlN.notBlk hxo.1 h.blk (by decide) h9
    · omega
  · rcases hS k hk2 with h9 | h9
    · exact SlN.apart_ h.si hxo.1 (by decide) k h9 hk
    · have := hvi k hk; omega
  · obtain ⟨j, hj, rfl⟩ := List.getElem_of_mem hy
    by_cases hij : j = i
    · subst hij
      rw [hx]
      exact ⟨hk, hxo.2⟩
    · have hyo := h.own _ (List.getElem_mem hj)
      refine ⟨SlN.keep hyo.1 ho (fun k hk hk2 => ?_), hyo.2⟩
      have hpw := List.pairwise_iff_getElem.1 h.apart
      rcases hS k hk2 with h9 | h9
      · rcases Nat.lt_or_ge i j with hlt | hge
        · have := hpw i j hi hj hlt
          rw [hx] at this
          exact this k h9 hk
        · have := hpw j i hj hi (by omega)
          rw [hx] at this
          exact this k hk h9
      · have := hL _ (List.getElem_mem hj) k hk; omega
end
set_option maxRecDepth 100000 in
set_option maxHeartbeats 2000000 in
theorem marked_ints {w : World} {B b0 : Nat} {v : Value} {G : List (Value × List Int)} (h : GrownI w B b0 v G) (hm : Marked G.length G) (hlen : G.length ≤ 250) :
    Calls Try.prog 31 #[v] w fun e w' => e = .returned (.bool true) ∧ Below w.heap.size w w' := by
  have H := hide h
  have HM := hide hm
  obtain ⟨n, hn⟩ : ∃ n, n = G.length := ⟨_, rfl⟩
  have HN := hide hn
  rw [← hn] at hlen
  have hn2 : (n : Int) ≤ 250 := by omega
  obtain ⟨ai, ci, hvi⟩ := h.s.form
  rw [← hn] at hvi
  subst hvi
  clear h hm hn
  go_enter Try.func31, Try.ntmps31
  go_wp2_with fail
  go_loopg [3] n (fun g s3 wr => ∃ (i : Nat), s3 = .int .i64 i ∧ i + g = n ∧ Hid (Below w.heap.size w wr))
  case atStart => exact ⟨0, rfl, by omega, hide (Below.refl _ _)⟩
  case round =>
    obtain ⟨i, rfl, hi, hb⟩ := hrel
    by_cases hlt : i < n
    · have hiL : i < G.length := by rw [← HN.out]; exact hlt
      have hgr := H.out.below hb.out
      have hsi := hgr.s
      rw [← HN.out] at hsi
      obtain ⟨g1, o1, k1, hv1, hc1⟩ := hsi.row1 (by omega)
      injection hv1 with e1 e2 e3
      subst e1 e3
      obtain ⟨⟨x1, xs⟩, hx⟩ : ∃ x, x = G[i] := ⟨_, rfl⟩
      have q1 := (hc1 _ _ _ hsi i (by simpa using hiL)).1
      simp only [List.getElem_map, ← hx] at q1
      have hmk := HM.out i hiL hiL
      rw [← hx] at hmk
      simp only at hmk
      have hxo := hgr.own _ (List.getElem_mem hiL)
      rw [← hx] at hxo
      have ho1 : LIs wr B x1 xs := hxo.1
      have ho2 : xs.length ≤ 1100 := hxo.2
      obtain ⟨ln, hln⟩ : ∃ ln, ln = xs.length := ⟨_, rfl⟩
      obtain ⟨av, cv, hfv⟩ := SlN.form ho1
      rw [← hln] at ho2 hfv hmk
      have HMK := fun W => hide (mark_at i 0 ln i 0 ln rfl rfl rfl (by omega) (by omega) W)
      subst hfv
      have HAT := hide (LIs.at ho1)
      have HXM := hide hmk
      have HLN := hide hln
      have glt := (hc1 _ _ _ hsi i (by simpa using hiL)).2.2
      clear hx hxo hln hsi hc1 e2 hgr hmk ho1
      go_upto_region 4 with (fail)
      refine wp_region_tree (fun W => W.cell? ⟨g1, o1 + i, none⟩ = some (.slice av ln cv)) 13 (.take [0, 1, 2, 3, 4, 5, 6, 7, 8, 9] (.step 10 (.step 11 (.step 12 (.fin))))) (by kernel_rfl) (by kernel_rfl) (by intro _ _ _ _ _ h; exact h) ?_
      refine wpTree_take (q1) ?_
      simp only [opsAt, List.getElem?_cons_zero, List.getElem?_cons_succ]
      first | (refine wpPureH_step (v := ?_) rfl (fun W hS => ?_) ?_; rotate_left; · (obtain s1 := hS; (try simp only [Act.put, List.setIfInBounds_toArray, List.set_cons_zero, List.set_cons_succ]); go_simp; with_reducible rfl)) | (refine wpPureH_want (v := ?_) (by rfl) (fun W hS => ?_) ?_; rotate_left; · (obtain s1 := hS; (try simp only [Act.put, List.setIfInBounds_toArray, List.set_cons_zero, List.set_cons_succ]); go_simp; with_reducible rfl))
      first | (refine wpPureH_step (v := ?_) rfl (fun W hS => ?_) ?_; rotate_left; · (obtain s1 := hS; (try simp only [Act.put, List.setIfInBounds_toArray, List.set_cons_zero, List.set_cons_succ]); go_simp; with_reducible rfl)) | (refine wpPureH_want (v := ?_) (by rfl) (fun W hS => ?_) ?_; rotate_left; · (obtain s1 := hS; (try simp only [Act.put, List.setIfInBounds_toArray, List.set_cons_zero, List.set_cons_succ]); go_simp; with_reducible rfl))
      first | (refine wpPureH_step (v := ?_) rfl (fun W hS => ?_) ?_; rotate_left; · (obtain s1 := hS; (try simp only [Act.put, List.setIfInBounds_toArray, List.set_cons_zero, List.set_cons_succ]); go_simp; with_reducible rfl)) | (refine wpPureH_want (v := ?_) (by rfl) (fun W hS => ?_) ?_; rotate_left; · (obtain s1 := hS; (try simp only [Act.put, List.setIfInBounds_toArray, List.set_cons_zero, List.set_cons_succ]); go_simp; with_reducible rfl))
      first | (refine wpPureH_step (v := ?_) rfl (fun W hS => ?_) ?_; rotate_left; · (obtain s1 := hS; (try simp only [Act.put, List.setIfInBounds_toArray, List.set_cons_zero, List.set_cons_succ]); go_simp; with_reducible rfl)) | (refine wpPureH_want (v := ?_) (by rfl) (fun W hS => ?_) ?_; rotate_left; · (obtain s1 := hS; (try simp only [Act.put, List.setIfInBounds_toArray, List.set_cons_zero, List.set_cons_succ]); go_simp; with_reducible rfl))
      first | (refine wpPureH_step (v := ?_) rfl (fun W hS => ?_) ?_; rotate_left; · (obtain s1 := hS; (try simp only [Act.put, List.setIfInBounds_toArray, List.set_cons_zero, List.set_cons_succ]); go_simp; with_reducible rfl)) | (refine wpPureH_want (v := ?_) (by rfl) (fun W hS => ?_) ?_; rotate_left; · (obtain s1 := hS; (try simp only [Act.put, List.setIfInBounds_toArray, List.set_cons_zero, List.set_cons_succ]); go_simp; with_reducible rfl))
      first | (refine wpPureH_step (v := ?_) rfl (fun W hS => ?_) ?_; rotate_left; · (obtain s1 := hS; (try simp only [Act.put, List.setIfInBounds_toArray, List.set_cons_zero, List.set_cons_succ]); go_simp; with_reducible rfl)) | (refine wpPureH_want (v := ?_) (by rfl) (fun W hS => ?_) ?_; rotate_left; · (obtain s1 := hS; (try simp only [Act.put, List.setIfInBounds_toArray, List.set_cons_zero, List.set_cons_succ]); go_simp; with_reducible rfl))
      first | (refine wpPureH_step (v := ?_) rfl (fun W hS => ?_) ?_; rotate_left; · (obtain s1 := hS; (try simp only [Act.put, List.setIfInBounds_toArray, List.set_cons_zero, List.set_cons_succ]); go_simp; with_reducible rfl)) | (refine wpPureH_want (v := ?_) (by rfl) (fun W hS => ?_) ?_; rotate_left; · (obtain s1 := hS; (try simp only [Act.put, List.setIfInBounds_toArray, List.set_cons_zero, List.set_cons_succ]); go_simp; with_reducible rfl))
      first | (refine wpPureH_step (v := ?_) rfl (fun W hS => ?_) ?_; rotate_left; · (obtain s1 := hS; (try simp only [Act.put, List.setIfInBounds_toArray, List.set_cons_zero, List.set_cons_succ]); go_simp; with_reducible rfl)) | (refine wpPureH_want (v := ?_) (by rfl) (fun W hS => ?_) ?_; rotate_left; · (obtain s1 := hS; (try simp only [Act.put, List.setIfInBounds_toArray, List.set_cons_zero, List.set_cons_succ]); go_simp; with_reducible rfl))
      first | (refine wpPureH_step (v := ?_) rfl (fun W hS => ?_) ?_; rotate_left; · (obtain s1 := hS; (try simp only [Act.put, List.setIfInBounds_toArray, List.set_cons_zero, List.set_cons_succ]); go_simp; with_reducible rfl)) | (refine wpPureH_want (v := ?_) (by rfl) (fun W hS => ?_) ?_; rotate_left; · (obtain s1 := hS; (try simp only [Act.put, List.setIfInBounds_toArray, List.set_cons_zero, List.set_cons_succ]); go_simp; with_reducible rfl))
      first | (refine wpPureH_step (v := ?_) rfl (fun W hS => ?_) ?_; rotate_left; · (obtain s1 := hS; (try simp only [Act.put, List.setIfInBounds_toArray, List.set_cons_zero, List.set_cons_succ]); go_simp; with_reducible rfl)) | (refine wpPureH_want (v := ?_) (by rfl) (fun W hS => ?_) ?_; rotate_left; · (obtain s1 := hS; (try simp only [Act.put, List.setIfInBounds_toArray, List.set_cons_zero, List.set_cons_succ]); go_simp; with_reducible rfl))
      refine wpPureH_nil ?_
      simp only [Act.put, List.setIfInBounds_toArray, List.set_cons_zero, List.set_cons_succ]
      refine wpTree_step ?_
      simp only [opsAt, List.getElem?_cons_zero, List.getElem?_cons_succ]
      go_wp2_with fail
      (with_reducible refine (unhide (HMK _)).mono ?_)
      rintro e w1 ⟨vm, rfl, hm, hb1⟩
      obtain ⟨am, cm, rfl⟩ := hm.form
      have q2 := (hb1.cell (p := ⟨g1, o1 + i, none⟩) glt).trans q1
      have hm2 : LIs w1 wr.drew.heap.size (.slice am ln cm) (marks i 0 ln) := by unfold LIs; rw [marks_length]; exact hm
      have HSM := hide (same_bk (IntsAt.below (HAT.out.below (Below.refl _ _).drew) hb1) (LIs.at hm2) (by rw [← HLN.out]; omega) (by rw [marks_length]; omega) true (by rw [HXM.out]; simp))
      have HB1 : Hid (Below w.heap.size w w1) := hide (hb.out.drew.trans (hb1.mono hb.out.size))
      clear HMK hm hm2 hb1 q1
      go_wp2_with fail
      refine ⟨.inr q2, ?_⟩
      refine wpTree_step ?_
      simp only [opsAt, List.getElem?_cons_zero, List.getElem?_cons_succ]
      go_wp2_with fail
      (with_reducible refine (unhide HSM).mono ?_)
      rintro e w2 ⟨rfl, nd, rfl⟩
      have q3 : (w1.drewN nd).cell? ⟨g1, o1 + i, none⟩ = some (.slice av ln cv) := q2
      clear HSM
      go_wp2_with fail
      refine ⟨.inr q3, ?_⟩
      refine wpTree_step ?_
      simp only [opsAt, List.getElem?_cons_zero, List.getElem?_cons_succ]
      go_wp2_with fail
      refine ⟨.inr q3, wpTree_fin ?_⟩
      go_wp2_with fail
      go_roundg (gk - 1)
      case measure => omega
      case rel => exact ⟨i + 1, by go_num, by omega, hide (below_drewN HB1.out _)⟩
    · obtain rfl : i = n := by omega
      go_wp2_with fail
      go_ret
      exact ⟨rfl, hb.out⟩
set_option maxRecDepth 100000 in
set_option maxHeartbeats 4000000 in
theorem grow_ints {w : World} {B p : Nat} {vi vw : Value} {L : List (Value × List Int)} (h : ListsI w B p vi vw L) (hmk : Marked L.length L) :
    Calls Try.prog 28 #[.pointer (some ⟨p, 0, none⟩)] w fun e w' => ∃ vg G, e = .returned vg ∧ ListsI w' B p vi vw L ∧ GrownI w' B w.heap.size vg G ∧ G.length = L.length ∧ Marked G.length G ∧ Below B w w' := by
  have H := hide h
  have HMK := hide hmk
  obtain ⟨n, hn⟩ : ∃ n, n = L.length := ⟨_, rfl⟩
  have HN := hide hn
  have hlen := h.len
  rw [← hn] at hlen ⊢
  have hn2 : (n : Int) ≤ 250 := by omega
  obtain ⟨ai, ci, hvi⟩ := h.si.form
  rw [← hn] at hvi
  subst hvi
  have hpl := h.blk.lt
  have hBw : B ≤ w.heap.size := Nat.le_trans h.pB (Nat.le_of_lt hpl)
  have HLW : Hid (∀ y ∈ L, ∀ k ∈ slB y.1, k < w.heap.size) := hide (fun y hy k hk => (SlN.lt (h.own y hy).1 k hk).2)
  have HVW : Hid (∀ k ∈ slB (.slice ai n ci), k < w.heap.size) := hide (fun k hk => (h.si.lt k hk).2)
  clear h hmk hn
  go_enter Try.func28, Try.ntmps28
  go_wp2_with fail
  go_loopg [3, 4, 5, 6] n (fun g s3 s4 s5 s6 wr => ∃ (i : Nat) (vo : Value) (G : List (Value × List Int)), s4 = .int .i64 i ∧ i + g = n ∧ s3 = vo ∧ Hid (G.length = i) ∧ Hid (GrownI wr B w.heap.size vo G) ∧ Hid (Marked i G) ∧ Hid (∀ j (h1 : j < G.length) (h2 : j < L.length), ∀ k ∈ slB G[j].1, k ∈ slB L[j].1 ∨ w.heap.size ≤ k) ∧ Hid (ListsI wr B p (.slice ai n ci) vw L) ∧ Hid (Below B w wr))
  case atStart => exact ⟨0, .slice none 0 0, [], rfl, by omega, rfl, hide rfl, hide ⟨SlN.nil _ _ _ _, fun x hx => by cases hx⟩, hide (fun j hj h => by omega), hide (fun j hj => by simp at hj), H, hide (Below.refl _ _)⟩
  case round =>
    obtain ⟨i, vo, G, rfl, hi, rfl, hGl, hG, hGm, hGf, hls, hb⟩ := hrel
    have c2 := hls.out.blk.cellv 2 _ rfl
    obtain ⟨ao, co, hvo⟩ := hG.out.s.form
    rw [hGl.out] at hvo
    subst hvo
    by_cases hlt : i < n
    · have hiL : i < L.length := by rw [← HN.out]; exact hlt
      have hsi := hls.out.si
      rw [← HN.out] at hsi
      obtain ⟨g1, o1, k1, hv1, hc1⟩ := hsi.row1 (by omega)
      injection hv1 with e1 e2 e3
      subst e1 e3
      obtain ⟨⟨v, xs⟩, hx⟩ : ∃ x, x = L[i] := ⟨_, rfl⟩
      have hx1 := (hc1 _ _ _ hsi i (by simpa using hiL)).1
      simp only [List.getElem_map, ← hx] at hx1
      have hxo := hls.out.own _ (List.getElem_mem hiL)
      rw [← hx] at hxo
      have ho1 : LIs wr B v xs := hxo.1
      have ho2 : xs.length ≤ 1000 := hxo.2
      have hxm := HMK.out i hiL hiL
      rw [← hx] at hxm
      simp only at hxm
      obtain ⟨ln, hln⟩ : ∃ ln, ln = xs.length := ⟨_, rfl⟩
      obtain ⟨av, cv, hfv⟩ := SlN.form ho1
      rw [← hln] at ho2 hfv hxm
      have ho3 : SlN wr B 3 1 v (ln + 0) (intsL (marks i 0 (ln + 0))) := by rw [Nat.add_zero, ← hxm, hln]; exact ho1
      have ho4 : SlN wr B 3 1 v ln (intsL xs) := by rw [hln]; exact ho1
      have hah := ahead_refl ho1
      have hvlt : ∀ k ∈ slB v, k < w.heap.size := HLW.out (v, xs) (by rw [hx]; exact List.getElem_mem hiL)
      have hwr := hb.out.size
      obtain ⟨b1, hbb1⟩ : ∃ b1, b1 = wr.heap.size := ⟨_, rfl⟩
      have hGlt : ∀ x ∈ G, ∀ k ∈ slB x.1, k < b1 := fun x hx k hk => by rw [hbb1]; exact (SlN.lt (hG.out.own x hx).1 k hk).2
      have hGv : ∀ x ∈ G, ∀ k ∈ slB x.1, k ∉ slB v := fun x hxG k hk hkv => by
        obtain ⟨j, hj, rfl⟩ := List.getElem_of_mem hxG
        have hji : j < i := by have := hGl.out; omega
        rcases hGf.out j hj (by omega) k hk with h9 | h9
        · have := List.pairwise_iff_getElem.1 hls.out.apart j i (by omega) hiL hji k h9
          rw [← hx] at this
          exact this hkv
        · have := hvlt k hkv; omega
      have HGLT := hide hGlt
      have HGV := hide hGv
      have HVLT := hide hvlt
      have HX := hide hx
      have HLN := hide hln
      have HO3 := hide ho3
      have HO4 := hide ho4
      have HAH := hide hah
      obtain ⟨gO, hgO⟩ : ∃ gO, gO = gk := ⟨_, rfl⟩
      subst hfv
      clear hx hxo ho1 hln hsi hc1 e2 hxm ho3 ho4 hah hvlt hGlt hGv
      go_wp2_with fail
      go_loopg [5, 6] 12 (fun g s5 s6 wx => ∃ (m : Nat) (l : Value), s6 = .int .i64 m ∧ m + g = 12 ∧ s5 = l ∧ Hid (SlN wx B 3 1 l (ln + m) (intsL (marks i 0 (ln + m)))) ∧ Hid (Ahead (.slice av ln cv) l) ∧ Hid (∀ k ∈ slB l, k ∈ slB (.slice av ln cv) ∨ b1 ≤ k) ∧ Hid (SlN wx B 3 1 (.slice av ln cv) ln (intsL xs)) ∧ Hid (ListsI wx B p (.slice (some ⟨g1, o1, none⟩) n ci) vw L) ∧ Hid (GrownI wx B w.heap.size (.slice ao i co) G) ∧ Hid (Below B w wx) ∧ b1 ≤ wx.heap.size)
      case atStart => exact ⟨0, .slice av ln cv, rfl, by omega, rfl, HO3, HAH, hide (fun k hk => .inl hk), HO4, hls, hG, hb, by omega⟩
      case round =>
        clear hls hG hb HO3 HAH HO4 hx1 c2
        obtain ⟨m, l, rfl, hm, rfl, hl, hah, hlf, hv, hls, hG, hb, hbx⟩ := hrel
        obtain ⟨al, cl, hfl⟩ := hl.out.form
        subst hfl
        obtain ⟨q, hq⟩ : ∃ q, q = ln + m := ⟨_, rfl⟩
        rw [← hq] at hl hah hlf ⊢
        have HQ := hide hq
        have hq3 : q ≤ 1012 := by omega
        clear hq
        have hBl : ∀ k ∈ slB (.slice al q cl), B ≤ k := fun k hk => (hl.out.lt k hk).1
        have hpb : p < b1 := by omega
        have hB1 : B ≤ b1 := by omega
        have hlk : ∀ (w1 w2 : World), ListsI w1 B p (.slice (some ⟨g1, o1, none⟩) n ci) vw L → Only (slB (.slice al q cl)) w1 w2 → SlN w2 B 3 1 (.slice av ln cv) ln (intsL xs) → ListsI w2 B p (.slice (some ⟨g1, o1, none⟩) n ci) vw L := fun w1 w2 h1 h2 h3 =>
          h1.grow (b1 := b1) hiL HX.out.symm h2 hlf.out hpb (fun k hk => by have := HVW.out k hk; omega) (fun y hy k hk => by have := HLW.out y hy k hk; omega) (by unfold LIs; rw [← HLN.out]; exact h3)
        have hgk : ∀ (w1 w2 : World), GrownI w1 B w.heap.size (.slice ao i co) G → SlN w1 B 3 1 (.slice al q cl) q (intsL (marks i 0 q)) → Only (slB (.slice al q cl)) w1 w2 → GrownI w2 B w.heap.size (.slice ao i co) G := fun w1 w2 h1 h2 h3 =>
          h1.keep h3 (fun k hk hk2 => SlN.apart_ h1.s h2 (by decide) k hk2 hk) (fun x hx k hk hk2 => by
            rcases hlf.out k hk2 with h9 | h9
            · exact HGV.out x hx k hk h9
            · have := HGLT.out x hx k hk; omega)
        have HLK := hide hlk
        have HGK := hide hgk
        have HBL := hide hBl
        clear hlk hgk hBl
        by_cases hm12 : m < 12
        · have hm13 : decide ((m : Int) < 12) = true := decide_eq_true (by omega)
          have HM := fun W => hide (mark_at i q 1 i q 1 rfl rfl rfl (by omega) (by omega) W)
          go_wp2_with fail
          (with_reducible refine (unhide (HM _)).mono ?_)
          rintro e w1 ⟨vm, rfl, hmm, hb1⟩
          have hl1 := hl.out.below hb1 (fun k hk => (hl.out.lt k hk).2)
          have hv1 := hv.out.below hb1 (fun k hk => (hv.out.lt k hk).2)
          have hls1 := hls.out.below hb1
          have hG1 := hG.out.below hb1
          have hbx1 : b1 ≤ w1.heap.size := Nat.le_trans hbx hb1.size
          have HB1 : Hid (Below B w w1) := hide (hb.out.trans (hb1.mono (by omega)))
          have HL1 := hide hl1
          have HV1 := hide hv1
          have HLS1 := hide hls1
          have HG1 := hide hG1
          have HMM := hide hmm
          clear HM hmm hb1 hl1 hv1 hls1 hG1 hl hv hls hG hb
          obtain ⟨am, cm, hfm⟩ := HMM.out.form
          subst hfm
          go_wp2_with (at_builtin; refine wpList_append_ahead rfl (.tmp 27) (.tmp 31) 22 rfl _ 8 Try.underlying22 info_int_ rfl (by decide) HL1.out HMM.out.src rfl rfl (by rw [intsL_length, marks_length]) (intsL_one _) (by unfold maxLen; omega) (by omega) (by omega) ?_; intro l2 w2 hs2 ho2 hf2 hk2)
          have hv2 := hk2 _ _ _ _ HV1.out hah.out
          have hq2 : q + 1 = ln + (m + 1) := by have := HQ.out; omega
          rw [← intsL_append, marks_append, hq2] at hs2
          have hll := HLK.out _ _ HLS1.out ho2 hv2.1
          have hgg := HGK.out _ _ HG1.out HL1.out ho2
          have hb3 : Below B w w2 := HB1.out.trans (ho2.below (by omega) HBL.out)
          go_roundg (gk - 1)
          case measure => omega
          case rel => exact ⟨m + 1, l2, by go_num, by omega, rfl, hide hs2, hide hv2.2, hide (fun k hk => by
            rcases hf2 k hk with h9 | h9
            · exact hlf.out k h9
            · exact .inr (by omega)), hide hv2.1, hide hll, hide hgg, hide hb3, by have := ho2.size; omega⟩
        · obtain rfl : m = 12 := by omega
          have HM := fun W => hide (mark_at i q 60 i q 60 rfl rfl rfl (by omega) (by omega) W)
          go_wp2_with fail
          (with_reducible refine (unhide (HM _)).mono ?_)
          rintro e w1 ⟨vm, rfl, hmm, hb1⟩
          have hl1 := hl.out.below hb1 (fun k hk => (hl.out.lt k hk).2)
          have hv1 := hv.out.below hb1 (fun k hk => (hv.out.lt k hk).2)
          have hls1 := hls.out.below hb1
          have hG1 := hG.out.below hb1
          have hbx1 : b1 ≤ w1.heap.size := Nat.le_trans hbx hb1.size
          have HB1 : Hid (Below B w w1) := hide (hb.out.trans (hb1.mono (by omega)))
          have HL1 := hide hl1
          have HV1 := hide hv1
          have HLS1 := hide hls1
          have HG1 := hide hG1
          have HMM := hide hmm
          clear HM hmm hb1 hl1 hv1 hls1 hG1 hl hv hls hG hb
          obtain ⟨am, cm, hfm⟩ := HMM.out.form
          subst hfm
          go_wp2_with (first
            | (at_builtin; refine wpList_append_ahead rfl (.tmp 34) (.tmp 38) 22 rfl _ 8 Try.underlying22 info_int_ rfl (by decide) HL1.out HMM.out.src rfl rfl (by rw [intsL_length, marks_length]) (intsL_one _) (by unfold maxLen; omega) (by omega) (by omega) ?_; intro l2 w2 hs2 ho2 hf2 hk2; obtain ⟨a2, c2, rfl⟩ := hs2.form; have hgg := HGK.out _ _ HG1.out HL1.out ho2; have hgs := hgg.s; have hgs2 := hgs.alloc (.cells #[.slice a2 (q + 60) c2] 22); have bb2 := Blk.new w2 22 #[.slice a2 (q + 60) c2])
            | (at_builtin; refine wpList_append_slN rfl (.tmp 33) (.tmp 40) 38 rfl _ 24 Try.underlying38 info_ints rfl (by decide) hgs2 (SlN.one (base := 0) (Nat.zero_le _) bb2).src rfl rfl rfl (by intro y hy; simp at hy; subst hy; rfl) (by unfold maxLen; have := hGl.out; omega) (by have := hGl.out; omega) (by have := ho2.size; simp; omega) ?_; intro v3 w3 hs3 ho3 hf3))
          have hv2 := hk2 _ _ _ _ HV1.out hah.out
          rw [← intsL_append, marks_append] at hs2
          have hll := HLK.out _ _ HLS1.out ho2 hv2.1
          have hb3 : Below B w w2 := HB1.out.trans (ho2.below (by omega) HBL.out)
          have hz2 := ho2.size
          have hz3 := ho3.size
          have ho23 : Only (slB (.slice ao i co)) w2 w3 := ((Only.refl _ w2).alloc _).trans ho3
          have hvolt : ∀ k ∈ slB (.slice ao i co), w.heap.size ≤ k := fun k hk => (hgg.s.lt k hk).1
          have hll3 : ListsI w3 B p (.slice (some ⟨g1, o1, none⟩) n ci) vw L := hll.keep ho23 (fun hk => by have := hvolt _ hk; omega) (fun k hk hk2 => by have := hvolt _ hk2; have := HVW.out k hk; omega) (fun x hx k hk hk2 => by have := hvolt _ hk2; have := HLW.out x hx k hk; omega)
          have hl23 : SlN w3 B 3 1 (.slice a2 (q + 60) c2) (q + 60) (intsL (marks i 0 (q + 60))) := hs2.keep ho23 (fun k hk hk2 => SlN.apart_ hgg.s hs2 (by decide) k hk hk2)
          have hgg3 : GrownI w3 B w.heap.size v3 (G ++ [(.slice a2 (q + 60) c2, marks i 0 (q + 60))]) := by
            refine ⟨?_, fun x hx => ?_⟩
            · rw [List.length_append, List.map_append]
              exact hs3
            · rcases List.mem_append.1 hx with hx | hx
              · have h9 := hgg.own x hx
                exact ⟨SlN.keep h9.1 ho23 (fun k hk hk2 => SlN.apart_ hgg.s h9.1 (by decide) k hk hk2), h9.2⟩
              · rw [List.mem_singleton.1 hx]
                exact ⟨by unfold LIs; rw [marks_length]; exact hl23, by simp only [marks_length]; omega⟩
          have hlen3 : (G ++ [((.slice a2 (q + 60) c2 : Value), marks i 0 (q + 60))]).length = i + 1 := by simp [hGl.out]
          have hmk3 : Marked (i + 1) (G ++ [((.slice a2 (q + 60) c2 : Value), marks i 0 (q + 60))]) := fun j hj hji => by
            by_cases hjg : j < G.length
            · rw [List.getElem_append_left hjg]
              exact hGm.out j hjg (by have := hGl.out; omega)
            · have hje : j = G.length := by have := hGl.out; omega
              subst hje
              rw [List.getElem_concat_length rfl]
              simp only [marks_length]
              rw [hGl.out]
          have hfo3 : ∀ j (h1 : j < (G ++ [((.slice a2 (q + 60) c2 : Value), marks i 0 (q + 60))]).length) (h2 : j < L.length), ∀ k ∈ slB (G ++ [((.slice a2 (q + 60) c2 : Value), marks i 0 (q + 60))])[j].1, k ∈ slB L[j].1 ∨ w.heap.size ≤ k := fun j h1 h2 k hk => by
            by_cases hjg : j < G.length
            · rw [List.getElem_append_left hjg] at hk
              exact hGf.out j hjg h2 k hk
            · have hje : j = G.length := by have := hGl.out; omega
              subst hje
              rw [List.getElem_concat_length rfl] at hk
              simp only at hk
              rcases hf2 k hk with h9 | h9
              · rcases hlf.out k h9 with h8 | h8
                · left
                  have hxx := HX.out
                  have hgi := hGl.out
                  simp only [hgi]
                  rw [← hxx]
                  exact h8
                · right; omega
              · right; omega
          have hb4 : Below B w w3 := hb3.trans (ho23.below (by omega) (fun k hk => by have := hvolt k hk; omega))
          go_roundg (gO - 1)
          case measure => omega
          case rel => exact ⟨i + 1, v3, _, by go_num, by omega, rfl, hide hlen3, hide hgg3, hide hmk3, hide hfo3, hide hll3, hide hb4⟩
    · obtain rfl : i = n := by omega
      go_wp2_with fail
      go_ret
      exact ⟨.slice ao i co, G, rfl, hls.out, hG.out, hGl.out, by rw [hGl.out]; exact hGm.out, hb.out⟩
end Go.Proofs.Ytbgpihengcjgeaa
