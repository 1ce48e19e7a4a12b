/-
  truchmanbook's Book of lists of integers: one more list; are all as they were.
-/
import Derived.Test.YtbgpihengcjgeaaBkB
import Derived.Test.YtbgpihengcjgeaaHeldOne
namespace Go.Proofs.Ytbgpihengcjgeaa
open Go.RowKit

theorem info_ints : (Try.prog.info? 22).map (fun i => (i.zero, i.size, i.bytes)) = some (some (.slice none 0 0), 1, 24) := by kernel_rfl
theorem SlN.row1 {w : World} {B : Nat} {t : TypeId} {v : Value} {n : Nat} {xs : List Value} (h : SlN w B t 1 v n xs) (h0 : 0 < n) :
    ∃ g off cap, v = .slice (some ⟨g, off, none⟩) n cap ∧ ∀ (W : World) (B' : Nat) (ys : List Value), SlN W B' t 1 v n ys → ∀ j (hj : j < ys.length), W.cell? ⟨g, off + j, none⟩ = some ys[j] ∧ W.frozen? ⟨g, off + j, none⟩ = false ∧ g < W.heap.size := by
  rcases h with ⟨_, rfl, _⟩ | ⟨g, off, cap, cs, rfl, _⟩
  · omega
  · refine ⟨g, off, cap, rfl, fun W B' ys hW j hj => ?_⟩
    rcases hW with ⟨hv, _⟩ | ⟨g', off', cap', cs', hv, hb', hg', h1, h2, h3, h4, h5⟩
    · cases hv
    · injection hv with e1 e2 e3
      injection e1 with e1
      injection e1 with e4 e5
      subst e4 e5
      exact ⟨by rw [hg'.cell, h5 j hj]; exact List.getElem?_eq_getElem hj, hg'.frozen _, hg'.lt⟩

/-- The blocks of a book of lists. -/
def foot (p : Nat) (vi vw : Value) (L : List (Value × Value × List Int)) : List Nat := p :: (slB vi ++ slB vw ++ L.flatMap fun x => slB x.1 ++ slB x.2.1)
section
variable {p : Nat} {vi vw : Value} {L : List (Value × Value × List Int)}
theorem foot_p : p ∈ foot p vi vw L := List.mem_cons_self ..
theorem foot_vi {k : Nat} (h : k ∈ slB vi) : k ∈ foot p vi vw L := List.mem_cons_of_mem _ (List.mem_append_left _ (List.mem_append_left _ h))
theorem foot_vw {k : Nat} (h : k ∈ slB vw) : k ∈ foot p vi vw L := List.mem_cons_of_mem _ (List.mem_append_left _ (List.mem_append_right _ h))
theorem foot_1 {x : Value × Value × List Int} {k : Nat} (hx : x ∈ L) (h : k ∈ slB x.1) : k ∈ foot p vi vw L := List.mem_cons_of_mem _ (List.mem_append_right _ (List.mem_flatMap.2 ⟨x, hx, List.mem_append_left _ h⟩))
theorem foot_2 {x : Value × Value × List Int} {k : Nat} (hx : x ∈ L) (h : k ∈ slB x.2.1) : k ∈ foot p vi vw L := List.mem_cons_of_mem _ (List.mem_append_right _ (List.mem_flatMap.2 ⟨x, hx, List.mem_append_right _ h⟩))
theorem foot_cases {k : Nat} (h : k ∈ foot p vi vw L) : k = p ∨ k ∈ slB vi ∨ k ∈ slB vw ∨ ∃ x ∈ L, k ∈ slB x.1 ∨ k ∈ slB x.2.1 := by
  unfold foot at h
  simp only [List.mem_cons, List.mem_append, List.mem_flatMap] at h
  rcases h with h | (h | h) | h
  · exact .inl h
  · exact .inr (.inl h)
  · exact .inr (.inr (.inl h))
  · exact .inr (.inr (.inr h))
end
theorem SlN.apart_ {w : World} {B B' : Nat} {t t' : TypeId} {s s' n n' : Nat} {v v' : Value} {xs ys : List Value} (h : SlN w B t s v n xs) (h' : SlN w B' t' s' v' n' ys) (hne : t ≠ t') : ∀ k ∈ slB v', k ∉ slB v := by
  intro k hk
  rcases h' with ⟨rfl, _⟩ | ⟨g, off, cap, cs, rfl, _, hg, _⟩
  · simp [slB] at hk
  · simp [slB] at hk
    subst hk
    exact h.notBlk hg hne
structure BookI (w : World) (B p : Nat) (vi vw : Value) (L : List (Value × Value × List Int)) : Prop where
  pB : B ≤ p
  blk : Blk w p 41 #[.slice none 0 0, .slice none 0 0, vi, vw, .slice none 0 0, .slice none 0 0]
  si : SlN w B 22 1 vi L.length (L.map (·.1))
  sw : SlN w B 22 1 vw L.length (L.map (·.2.1))
  own : ∀ x ∈ L, LIs w B x.1 x.2.2 ∧ LIs w B x.2.1 x.2.2 ∧ x.2.2.length ≤ 1000
  apart : L.Pairwise (fun x y => ∀ k ∈ slB x.1, k ∉ slB y.1)
  sep : ∀ k ∈ slB vi, k ∉ slB vw
  len : L.length ≤ 250
section
variable {w w' : World} {B p : Nat} {vi vw : Value} {L : List (Value × Value × List Int)}
theorem LIs.keep {S : List Nat} {v : Value} {xs : List Int} (h : LIs w B v xs) (ho : Only S w w') (hn : ∀ k ∈ slB v, k ∉ S) : LIs w' B v xs := SlN.keep h ho hn
theorem BookI.keep {S : List Nat} (h : BookI w B p vi vw L) (ho : Only S w w') (hS : ∀ k ∈ foot p vi vw L, k ∉ S) : BookI w' B p vi vw L :=
  ⟨h.pB, ho.blk h.blk (hS p foot_p), h.si.keep ho (fun k hk => hS k (foot_vi hk)), h.sw.keep ho (fun k hk => hS k (foot_vw hk)),
    fun x hx => ⟨(h.own x hx).1.keep ho (fun k hk => hS k (foot_1 hx hk)), (h.own x hx).2.1.keep ho (fun k hk => hS k (foot_2 hx hk)), (h.own x hx).2.2⟩, h.apart, h.sep, h.len⟩
theorem BookI.lt (h : BookI w B p vi vw L) : ∀ k ∈ foot p vi vw L, B ≤ k ∧ k < w.heap.size := fun k hk => by
  rcases foot_cases hk with rfl | hk | hk | ⟨x, hx, hk | hk⟩
  · exact ⟨h.pB, h.blk.lt⟩
  · exact h.si.lt k hk
  · exact h.sw.lt k hk
  · exact SlN.lt (h.own x hx).1 k hk
  · exact SlN.lt (h.own x hx).2.1 k hk
theorem BookI.below (h : BookI w B p vi vw L) (hb : Below w.heap.size w w') : BookI w' B p vi vw L := h.keep (Only.of_below hb []) (fun k _ => by simp)
end
set_option maxRecDepth 100000 in
set_option maxHeartbeats 1000000 in
theorem ints_full {w : World} {B p : Nat} {vi vw : Value} {L : List (Value × Value × List Int)} (h : BookI w B p vi vw L) (v : Value) (hl : ¬ L.length < 250) :
    Calls Try.prog 14 #[.pointer (some ⟨p, 0, none⟩), v] w fun e w' => e = .returned (.tuple #[]) ∧ w' = w := by
  have c2 := h.blk.cellv 2 _ rfl
  have hlen := h.len
  obtain ⟨a, c, hv⟩ := h.si.form
  obtain ⟨n, hn⟩ : ∃ n, n = L.length := ⟨_, rfl⟩
  rw [← hn] at hv hl hlen
  subst hv
  obtain rfl : n = 250 := by omega
  clear h hn hl hlen
  go_enter Try.func14, Try.ntmps14
  go_wp2_with fail
  exact bodyPost_end (results_none rfl _ _ _) rfl ⟨rfl, rfl⟩
set_option maxRecDepth 100000 in
set_option maxHeartbeats 2000000 in
theorem ints_more {w : World} {B p : Nat} {vi vw : Value} {L : List (Value × Value × List Int)} (h : BookI w B p vi vw L) {v : Value} {xs : List Int} (hx : LIs w B v xs) (hxl : xs.length ≤ 1000) (hd : ∀ k ∈ slB v, k ∉ foot p vi vw L) (hl : L.length < 250) :
    Calls Try.prog 14 #[.pointer (some ⟨p, 0, none⟩), v] w fun e w' => e = .returned (.tuple #[]) ∧ ∃ vi' vw' L', BookI w' B p vi' vw' L' ∧ Only (foot p vi vw L) w w' ∧ ∀ k ∈ foot p vi' vw' L', k ∈ foot p vi vw L ∨ k ∈ slB v ∨ w.heap.size ≤ k := by
  have H := hide h
  have HX := hide hx
  have HD := hide hd
  have c2 := h.blk.cellv 2 _ rfl
  have hpl := h.blk.lt
  obtain ⟨a, c, hv⟩ := h.si.form
  obtain ⟨n, hn⟩ : ∃ n, n = L.length := ⟨_, rfl⟩
  rw [← hn] at hv hl
  have HN := hide hn
  have hn2 : (n : Int) < 250 := by omega
  obtain ⟨av, cv, hvv⟩ := SlN.form hx
  obtain ⟨nx, hnx⟩ : ∃ nx, nx = xs.length := ⟨_, rfl⟩
  rw [← hnx] at hvv hxl
  have HNX := hide hnx
  subst hvv
  have HSI : Hid (SlN w B 22 1 (.slice a n c) n (L.map (·.1))) := hide (by rw [← hv, hn]; exact h.si)
  have HVI := hide hv
  subst hv
  have bb := Blk.new w 22 #[.slice av nx cv]
  have HBB := hide bb
  clear h hx hd hn bb hnx
  go_enter Try.func14, Try.ntmps14
  go_upto_region 2 with (at_builtin; refine wpList_append_slN rfl (.tmp 14) (.tmp 16) 38 rfl _ 24 Try.underlying38 info_ints rfl (by decide) (HSI.out.alloc (.cells #[.slice av nx cv] 22)) (SlN.one (base := 0) (Nat.zero_le _) HBB.out).src rfl rfl rfl (by intro y hy; simp at hy; subst hy; rfl) (by unfold maxLen; omega) (by omega) (by have := H.out.pB; simp; omega) ?_; intro vi2 w1 hs1 ho1 hf1; have pb := ho1.blk (H.out.blk.alloc (.cells #[.slice av nx cv] 22)) ((HSI.out.alloc (.cells #[.slice av nx cv] 22)).notBlk (H.out.blk.alloc _) (by decide)); have d2 := pb.cellv 2 _ rfl; have f2 := pb.frozen 2; have pl1 := pb.lt; obtain ⟨a2, c2', rfl⟩ := hs1.form)
  have ho1w : Only (slB (.slice a n c)) w w1 := ((Only.refl _ w).alloc _).trans ho1
  obtain ⟨W2, hW2⟩ : ∃ W2, W2 = w1.setCell ⟨p, 2, none⟩ (.slice a2 (n + 1) c2') := ⟨_, rfl⟩
  have ho2 : Only (p :: slB (.slice a n c)) w W2 := by rw [hW2]; exact (ho1w.mono (fun k hk => List.mem_cons_of_mem _ hk)).setCell (by simp) _
  have pb2 : Blk W2 p 41 #[.slice none 0 0, .slice none 0 0, .slice a2 (n + 1) c2', vw, .slice none 0 0, .slice none 0 0] := by rw [hW2]; exact pb.set_ 2 _
  have hs2 : SlN W2 B 22 1 (.slice a2 (n + 1) c2') (n + 1) (L.map (·.1) ++ [.slice av nx cv]) := by rw [hW2]; exact hs1.far (p := ⟨p, 2, none⟩) (hs1.notBlk pb (by decide)) _
  rw [← hW2]
  have hvwp := H.out.sw.notBlk H.out.blk (by decide)
  have hx2 : LIs W2 B (.slice av nx cv) xs := HX.out.keep ho2 (fun k hk hk2 => by
    rcases List.mem_cons.1 hk2 with rfl | hk2
    · exact HD.out _ hk foot_p
    · exact HD.out k hk (foot_vi hk2))
  have hw2 : SlN W2 B 22 1 vw L.length (L.map (·.2.1)) := H.out.sw.keep ho2 (fun k hk hk2 => by
    rcases List.mem_cons.1 hk2 with rfl | hk2
    · exact hvwp hk
    · exact H.out.sep k hk2 hk)
  have HCP := hide (copy_bk (w := W2.drew) (SlN.drew hx2) (by rw [← HNX.out]; omega))
  have HS2 := hide hs2
  have HW2 := hide hw2
  have PB2 := hide pb2
  have HO2 := hide ho2
  have HX2 := hide hx2
  have hf1w : ∀ k ∈ slB (.slice a2 (n + 1) c2'), (k ∈ slB (.slice a n c) ∨ w.heap.size ≤ k) ∧ k < W2.heap.size := fun k hk => ⟨(hf1 k hk).imp_right (fun h => by simp at h; omega), (hs2.lt k hk).2⟩
  have HF1 := hide hf1w
  have c3 : W2.drew.cell? ⟨p, 3, none⟩ = some vw := pb2.drew.cellv 3 _ rfl
  clear hs1 ho1 hf1 pb d2 f2 pl1 ho1w hW2 ho2 pb2 hs2 hx2 hw2 hf1w c2
  refine wp_region_tree (fun W => W.cell? ⟨p, 3, none⟩ = some vw) 11 (.take [0, 1, 2, 3, 4, 5] (.step 6 (.step 7 (.step 8 (.step 9 (.step 10 (.step 11 (.fin)))))))) (by kernel_rfl) (by kernel_rfl) (by intro _ _ _ _ _ h; exact h) ?_
  refine wpTree_take (c3) ?_
  simp only [opsAt, List.getElem?_cons_zero, List.getElem?_cons_succ]
  first | (refine wpPureH_step (v := ?_) rfl (fun W hS => ?_) ?_; rotate_left; · (obtain s1 := hS; (try simp only [Act.put, List.setIfInBounds_toArray, List.set_cons_zero, List.set_cons_succ]); go_simp; with_reducible rfl)) | (refine wpPureH_want (v := ?_) (by rfl) (fun W hS => ?_) ?_; rotate_left; · (obtain s1 := hS; (try simp only [Act.put, List.setIfInBounds_toArray, List.set_cons_zero, List.set_cons_succ]); go_simp; with_reducible rfl))
  first | (refine wpPureH_step (v := ?_) rfl (fun W hS => ?_) ?_; rotate_left; · (obtain s1 := hS; (try simp only [Act.put, List.setIfInBounds_toArray, List.set_cons_zero, List.set_cons_succ]); go_simp; with_reducible rfl)) | (refine wpPureH_want (v := ?_) (by rfl) (fun W hS => ?_) ?_; rotate_left; · (obtain s1 := hS; (try simp only [Act.put, List.setIfInBounds_toArray, List.set_cons_zero, List.set_cons_succ]); go_simp; with_reducible rfl))
  first | (refine wpPureH_step (v := ?_) rfl (fun W hS => ?_) ?_; rotate_left; · (obtain s1 := hS; (try simp only [Act.put, List.setIfInBounds_toArray, List.set_cons_zero, List.set_cons_succ]); go_simp; with_reducible rfl)) | (refine wpPureH_want (v := ?_) (by rfl) (fun W hS => ?_) ?_; rotate_left; · (obtain s1 := hS; (try simp only [Act.put, List.setIfInBounds_toArray, List.set_cons_zero, List.set_cons_succ]); go_simp; with_reducible rfl))
  first | (refine wpPureH_step (v := ?_) rfl (fun W hS => ?_) ?_; rotate_left; · (obtain s1 := hS; (try simp only [Act.put, List.setIfInBounds_toArray, List.set_cons_zero, List.set_cons_succ]); go_simp; with_reducible rfl)) | (refine wpPureH_want (v := ?_) (by rfl) (fun W hS => ?_) ?_; rotate_left; · (obtain s1 := hS; (try simp only [Act.put, List.setIfInBounds_toArray, List.set_cons_zero, List.set_cons_succ]); go_simp; with_reducible rfl))
  first | (refine wpPureH_step (v := ?_) rfl (fun W hS => ?_) ?_; rotate_left; · (obtain s1 := hS; (try simp only [Act.put, List.setIfInBounds_toArray, List.set_cons_zero, List.set_cons_succ]); go_simp; with_reducible rfl)) | (refine wpPureH_want (v := ?_) (by rfl) (fun W hS => ?_) ?_; rotate_left; · (obtain s1 := hS; (try simp only [Act.put, List.setIfInBounds_toArray, List.set_cons_zero, List.set_cons_succ]); go_simp; with_reducible rfl))
  first | (refine wpPureH_step (v := ?_) rfl (fun W hS => ?_) ?_; rotate_left; · (obtain s1 := hS; (try simp only [Act.put, List.setIfInBounds_toArray, List.set_cons_zero, List.set_cons_succ]); go_simp; with_reducible rfl)) | (refine wpPureH_want (v := ?_) (by rfl) (fun W hS => ?_) ?_; rotate_left; · (obtain s1 := hS; (try simp only [Act.put, List.setIfInBounds_toArray, List.set_cons_zero, List.set_cons_succ]); go_simp; with_reducible rfl))
  refine wpPureH_nil ?_
  simp only [Act.put, List.setIfInBounds_toArray, List.set_cons_zero, List.set_cons_succ]
  refine wpTree_step ?_
  simp only [opsAt, List.getElem?_cons_zero, List.getElem?_cons_succ]
  go_wp2_with fail
  (with_reducible refine (unhide HCP).mono ?_)
  rintro e w3 ⟨u, rfl, hu, hb3⟩
  obtain ⟨au, cu, rfl⟩ := SlN.form hu
  have pb3 := PB2.out.drew.below hb3 PB2.out.drew.lt
  have c33 := pb3.cellv 3 _ rfl
  have HU := hide hu
  have HB3 := hide hb3
  have PB3 := hide pb3
  have pl3 : W2.heap.size ≤ w3.heap.size := hb3.size
  clear HCP c3 hu hb3 pb3
  go_wp2_with fail
  refine ⟨.inr c33, ?_⟩
  refine wpTree_step ?_
  simp only [opsAt, List.getElem?_cons_zero, List.getElem?_cons_succ]
  go_wp2_with fail
  have pb4 := PB3.out.alloc (.cells #[.slice au xs.length cu] 22)
  have hw4 := ((HW2.out.drew.below HB3.out (fun k hk => (HW2.out.lt k hk).2)).alloc (.cells #[.slice au xs.length cu] 22))
  have bb4 := Blk.new w3 22 #[.slice au xs.length cu]
  refine ⟨.inr (pb4.cellv 3 _ rfl), ?_⟩
  refine wpTree_step ?_
  simp only [opsAt, List.getElem?_cons_zero, List.getElem?_cons_succ]
  refine wpList_append_slN rfl (.tmp 24) (.tmp 27) 38 rfl _ 24 Try.underlying38 info_ints rfl (by decide) hw4 (SlN.one (base := 0) (Nat.zero_le _) bb4).src rfl rfl rfl (by intro y hy; simp at hy; subst hy; rfl) (by unfold maxLen; have := HN.out; omega) (by have := HN.out; omega) (by have := H.out.pB; have := pb4.lt; simp at this ⊢; omega) ?_
  intro vw2 w5 hs5 ho5 hf5
  have pb5 := ho5.blk pb4 (hw4.notBlk pb4 (by decide))
  obtain ⟨a5, c5, rfl⟩ := hs5.form
  have f5 := pb5.frozen 3
  have d5 := pb5.cellv 3 _ rfl
  have pl5 := pb5.lt
  have HS5 := hide hs5
  have HO5 := hide ho5
  have HF5 := hide hf5
  have PB5 := hide pb5
  have HVWP := hide hvwp
  clear hs5 ho5 hf5 pb5 pb4 hw4 bb4 c33 hvwp
  go_wp2_with fail
  refine ⟨.inr d5, ?_⟩
  refine wpTree_step ?_
  simp only [opsAt, List.getElem?_cons_zero, List.getElem?_cons_succ]
  go_wp2_with fail
  refine ⟨.inr (d5), ?_⟩
  refine wpTree_step ?_
  simp only [opsAt, List.getElem?_cons_zero, List.getElem?_cons_succ]
  go_wp2_with fail
  refine ⟨.inr (d5), ?_⟩
  refine wpTree_step ?_
  simp only [opsAt, List.getElem?_cons_zero, List.getElem?_cons_succ]
  go_wp2_with fail
  refine ⟨.inl trivial, wpTree_fin ?_⟩
  go_wp2_with fail
  have hw22 : W2.drew.heap.size = W2.heap.size := rfl
  have hB2 := HB3.out.size
  have hwW := HO2.out.size
  have ho26 : Only (p :: slB vw) W2 (w5.setCell ⟨p, 3, none⟩ (.slice a5 (L.length + 1) c5)) := (((((Only.refl _ W2).drew.trans (Only.of_below HB3.out _)).alloc _).trans (HO5.out.mono (fun k hk => List.mem_cons_of_mem _ hk)))).setCell (by simp) _
  have ho6 : Only (p :: (slB (.slice a n c) ++ slB vw)) w (w5.setCell ⟨p, 3, none⟩ (.slice a5 (L.length + 1) c5)) := (HO2.out.mono (fun k hk => by
    rcases List.mem_cons.1 hk with rfl | hk
    · exact List.mem_cons_self ..
    · exact List.mem_cons_of_mem _ (List.mem_append_left _ hk))).trans (ho26.mono (fun k hk => by
    rcases List.mem_cons.1 hk with rfl | hk
    · exact List.mem_cons_self ..
    · exact List.mem_cons_of_mem _ (List.mem_append_right _ hk)))
  have ho36 : Only (p :: slB vw) w3 (w5.setCell ⟨p, 3, none⟩ (.slice a5 (L.length + 1) c5)) := (((Only.refl _ w3).alloc _).trans (HO5.out.mono (fun k hk => List.mem_cons_of_mem _ hk))).setCell (by simp) _
  have hfar : ∀ {q : Value} {ys : List Int}, LIs w B q ys → ∀ k ∈ slB q, k ∉ p :: (slB (.slice a n c) ++ slB vw) := fun {q ys} hq k hk hk2 => by
    rcases List.mem_cons.1 hk2 with rfl | hk2
    · exact SlN.notBlk hq H.out.blk (by decide) hk
    rcases List.mem_append.1 hk2 with hk2 | hk2
    · exact SlN.apart_ H.out.si hq (by decide) k hk hk2
    · exact SlN.apart_ H.out.sw hq (by decide) k hk hk2
  have hpw : p < w.heap.size := H.out.blk.lt
  have hvw : ∀ k ∈ slB vw, k < w.heap.size := fun k hk => (H.out.sw.lt k hk).2
  have hu6 : LIs (w5.setCell ⟨p, 3, none⟩ (.slice a5 (L.length + 1) c5)) B (.slice au xs.length cu) xs := SlN.mono (SlN.keep HU.out ho36 (fun k hk hk2 => by
    have h9 := (SlN.lt HU.out k hk).1
    rcases List.mem_cons.1 hk2 with rfl | hk2
    · omega
    · have := hvw k hk2; omega)) (by have := H.out.pB; omega)
  have e1 : (L ++ [((.slice av nx cv : Value), (.slice au xs.length cu : Value), xs)]).length = n + 1 := by simp [HN.out]
  have e2 : (L ++ [((.slice av nx cv : Value), (.slice au xs.length cu : Value), xs)]).map (·.1) = L.map (·.1) ++ [.slice av nx cv] := by simp
  have e3 : (L ++ [((.slice av nx cv : Value), (.slice au xs.length cu : Value), xs)]).map (·.2.1) = L.map (·.2.1) ++ [.slice au xs.length cu] := by simp
  have h5lt : ∀ k ∈ slB (.slice a5 (L.length + 1) c5), k ∈ slB vw ∨ W2.heap.size < k := fun k hk => (HF5.out k hk).imp_right (fun h => by simp at h; have := pl3; omega)
  refine bodyPost_end (results_none rfl _ _ _) rfl ⟨rfl, .slice a2 (n + 1) c2', .slice a5 (L.length + 1) c5, L ++ [(.slice av nx cv, .slice au xs.length cu, xs)], ⟨H.out.pB, PB5.out.set_ 3 _, ?_, ?_, ?_, ?_, ?_, ?_⟩, ?_, ?_⟩
  · rw [e1, e2]
    exact HS2.out.keep ho26 (fun k hk hk2 => by
      rcases List.mem_cons.1 hk2 with rfl | hk2
      · exact HS2.out.notBlk PB2.out (by decide) hk
      · rcases (HF1.out k hk).1 with h9 | h9
        · exact H.out.sep k h9 hk2
        · have := hvw k hk2; omega)
  · rw [e1, e3, HN.out]
    exact HS5.out.far (p := ⟨p, 3, none⟩) (HS5.out.notBlk PB5.out (by decide)) _
  · intro x hx
    rcases List.mem_append.1 hx with hx | hx
    · have h9 := H.out.own x hx
      exact ⟨SlN.keep h9.1 ho6 (hfar h9.1), SlN.keep h9.2.1 ho6 (hfar h9.2.1), h9.2.2⟩
    · rw [List.mem_singleton.1 hx]
      exact ⟨SlN.keep HX.out ho6 (hfar HX.out), hu6, by simp only; rw [← HNX.out]; exact hxl⟩
  · exact List.pairwise_append.2 ⟨H.out.apart, List.pairwise_singleton _ _, fun x hx y hy k hk hk2 => by
      rw [List.mem_singleton.1 hy] at hk2
      exact HD.out k hk2 (foot_1 hx hk)⟩
  · intro k hk hk2
    have h9 := HF1.out k hk
    rcases h5lt k hk2 with h8 | h8
    · rcases h9.1 with h7 | h7
      · exact H.out.sep k h7 h8
      · have := hvw k h8; omega
    · omega
  · rw [e1]; omega
  · exact ho6.mono (fun k hk => by
      rcases List.mem_cons.1 hk with rfl | hk
      · exact foot_p
      rcases List.mem_append.1 hk with hk | hk
      · exact foot_vi hk
      · exact foot_vw hk)
  · intro k hk
    rcases foot_cases hk with rfl | hk | hk | ⟨x, hx, hk⟩
    · exact .inl foot_p
    · rcases (HF1.out k hk).1 with h9 | h9
      · exact .inl (foot_vi h9)
      · exact .inr (.inr h9)
    · rcases h5lt k hk with h9 | h9
      · exact .inl (foot_vw h9)
      · exact .inr (.inr (by omega))
    · rcases List.mem_append.1 hx with hx | hx
      · rcases hk with hk | hk
        · exact .inl (foot_1 hx hk)
        · exact .inl (foot_2 hx hk)
      · rw [List.mem_singleton.1 hx] at hk
        rcases hk with hk | hk
        · exact .inr (.inl hk)
        · have := (SlN.lt HU.out k hk).1
          exact .inr (.inr (by omega))
end Go.Proofs.Ytbgpihengcjgeaa
