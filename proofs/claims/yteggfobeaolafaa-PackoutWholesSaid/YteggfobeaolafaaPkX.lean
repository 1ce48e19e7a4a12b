/-
  Lists of Evs that are lent (truchmanbook): a copy with room behind it, in which a mark stands; is it as it was?
-/
import Derived.Test.YteggfobeaolafaaPkK
namespace Go.Proofs.Yteggfobeaolafaa
open Go.RowKit

theorem Only.drop {S T : List Nat} {a w : World} (h : Only T a w) (hT : ∀ k ∈ T, k ∈ S ∨ a.heap.size ≤ k) : Only S a w :=
  ⟨h.os, h.tape, h.output, h.size, fun k hk hn => h.block k hk (fun h2 => by
    rcases hT k h2 with h3 | h3
    · exact hn h3
    · omega)⟩
theorem evsV_length (E : List EvM) : (evsV E).length = E.length * 5 := by
  induction E with
  | nil => rfl
  | cons e E ih =>
    have : evsV (e :: E) = e.cells.toList ++ evsV E := by simp [evsV]
    have hl : e.cells.toList.length = 5 := rfl
    rw [this, List.length_append, ih, hl]
    simp
    omega
theorem evsV_append (E F : List EvM) : evsV (E ++ F) = evsV E ++ evsV F := by simp [evsV]
theorem evsV_one (E : List EvM) : ∀ y ∈ evsV E, y.oneCell' = true := by
  intro y hy
  simp only [evsV, List.mem_flatMap, EvM.cells, evV] at hy
  obtain ⟨c, _, hy⟩ := hy
  simp at hy
  rcases hy with rfl | rfl | rfl | rfl | rfl <;> rfl
theorem EvsAt.src {w : World} {v : Value} {E : List EvM} (h : EvsAt w v E) : Src w v E.length (evsV E) := by
  obtain ⟨a, cap, hv, h⟩ := h
  by_cases hE : E = []
  · exact ⟨a, cap, hv, .inl ⟨by rw [hE]; rfl, by rw [hE]; rfl⟩⟩
  · obtain ⟨g, off, ha, hg, hc⟩ := h hE
    refine ⟨a, cap, hv, .inr ⟨g, off, ha, fun j hj => ?_⟩⟩
    have hj2 := hj
    rw [evsV_length] at hj2
    have hi : j / 5 < E.length := by omega
    have hsz : E[j / 5].cells.size = 5 := rfl
    have hu : E[j / 5].cells[j % 5]? = some (E[j / 5].cells[j % 5]'(by rw [hsz]; omega)) := Array.getElem?_eq_getElem _
    have h1 := hc (j / 5) hi (j % 5) _ hu
    have h2 := evsV_get E (j / 5) hi (j % 5) _ hu
    rw [show off + j / 5 * 5 + j % 5 = off + j by omega] at h1
    rw [show j / 5 * 5 + j % 5 = j by omega, List.getElem?_eq_getElem hj] at h2
    rw [h1, ← h2]
/-- .. from the cells in a row. -/
theorem evsAt_of {w : World} {E : List EvM} {g off cap : Nat} (hg : g < w.heap.size) (h : ∀ j (hj : j < (evsV E).length), w.cell? ⟨g, off + j, none⟩ = some (evsV E)[j]) : EvsAt w (.slice (some ⟨g, off, none⟩) E.length cap) E := by
  refine ⟨_, cap, rfl, fun _ => ⟨g, off, rfl, hg, fun i hi j u hu => ?_⟩⟩
  have h2 := evsV_get E i hi j u hu
  obtain ⟨h3, h4⟩ := List.getElem?_eq_some_iff.1 h2
  rw [Nat.add_assoc, h _ h3, h4]

set_option maxRecDepth 100000 in
theorem same_evs {w : World} {u v : Value} {E : List EvM} (hu : EvsAt w u E) (hv : EvsAt w v E) (hlen : E.length ≤ 1000) :
    Calls Try.prog 32 #[u, v] w fun r w' => r = .returned (.bool true) ∧ Below w.heap.size w w' := by
  obtain ⟨a1, c1, hu1, hu⟩ := hu
  obtain ⟨a2, c2, hv1, hv⟩ := hv
  obtain ⟨n, hn⟩ : ∃ n, n = E.length := ⟨_, rfl⟩
  rw [← hn] at hu1 hv1 hlen
  subst hu1 hv1
  have HU := hide hu
  have HV := hide hv
  have HN := hide hn
  have hn2 : (n : Int) ≤ 1000 := by omega
  clear hu hv hn
  go_enter Try.func32, Try.ntmps32
  go_wp2_with fail
  go_loopg [5] n (fun g s5 wr => ∃ (j : Nat), s5 = .int .i64 j ∧ j + g = n ∧ Below w.heap.size w wr)
  case atStart => exact ⟨0, rfl, by omega, Below.refl _ _⟩
  case round =>
    obtain ⟨j, rfl, hj, hb⟩ := hrel
    by_cases hlt : j < n
    · have hE : E ≠ [] := fun he => by have := HN.out; rw [he] at this; simp at this; omega
      obtain ⟨g1, o1, rfl, hg1, hc1⟩ := HU.out hE
      obtain ⟨g2, o2, rfl, hg2, hc2⟩ := HV.out hE
      have hjE : j < E.length := by rw [← HN.out]; exact hlt
      obtain ⟨x, hx⟩ : ∃ x, x = E[j] := ⟨_, rfl⟩
      have z := fun (i : Nat) (u : Value) (hu : x.cells[i]? = some u) => (hb.cell (p := ⟨g1, o1 + j * 5 + i, none⟩) hg1).trans (hc1 j hjE i u (by rw [← hx]; exact hu))
      have y := fun (i : Nat) (u : Value) (hu : x.cells[i]? = some u) => (hb.cell (p := ⟨g2, o2 + j * 5 + i, none⟩) hg2).trans (hc2 j hjE i u (by rw [← hx]; exact hu))
      have z0 : wr.cell? ⟨g1, o1 + j * 5, none⟩ = some (.int .i64 x.k) := z 0 _ rfl
      have z1 : wr.cell? ⟨g1, o1 + j * 5 + 1, none⟩ = some (.bool x.y) := z 1 _ rfl
      have z2 : wr.cell? ⟨g1, o1 + j * 5 + 2, none⟩ = some (.int .u64 x.m) := z 2 _ rfl
      have z3 : wr.cell? ⟨g1, o1 + j * 5 + 3, none⟩ = some (.string (S x.l)) := z 3 _ rfl
      have z4 : wr.cell? ⟨g1, o1 + j * 5 + 4, none⟩ = some (.int .i64 x.c) := z 4 _ rfl
      have y0 : wr.cell? ⟨g2, o2 + j * 5, none⟩ = some (.int .i64 x.k) := y 0 _ rfl
      have y1 : wr.cell? ⟨g2, o2 + j * 5 + 1, none⟩ = some (.bool x.y) := y 1 _ rfl
      have y2 : wr.cell? ⟨g2, o2 + j * 5 + 2, none⟩ = some (.int .u64 x.m) := y 2 _ rfl
      have y3 : wr.cell? ⟨g2, o2 + j * 5 + 3, none⟩ = some (.string (S x.l)) := y 3 _ rfl
      have y4 : wr.cell? ⟨g2, o2 + j * 5 + 4, none⟩ = some (.int .i64 x.c) := y 4 _ rfl
      clear z y hc1 hc2 hx
      go_upto_region 6 with (fail)
      refine wp_region_tbs [] [0, 1, 2, 3, 4, 5, 6, 7, 8] [9] (by kernel_rfl) (by kernel_rfl) (by intro _ _ _ _ _ h; exact h) ?_
      simp only [opsAt, List.getElem?_cons_zero, List.getElem?_cons_succ]
      refine wpPure_nil ?_
      repeat (refine wpStill_step (fun K hK => ?_); go_simp; (try go_bits); refine hK _ ?_; clear hK K)
      refine wpStill_nil ?_
      go_wp2_with fail
      go_roundg (gk - 1)
      case measure => omega
      case rel => exact ⟨j + 1, by go_num, by omega, hb.drew⟩
    · go_wp2_with fail
      go_ret
      exact ⟨rfl, hb⟩

theorem info_ev : (Try.prog.info? 34).map (fun i => (i.zero, i.size, i.bytes)) = some (some (.agg #[.int .i64 0, .bool false, .int .u64 0, .string ByteArray.empty, .int .i64 0]), 5, 48) := by kernel_rfl
set_option maxRecDepth 100000 in
theorem copy_evs {w : World} {v : Value} {E : List EvM} (h : EvsAt w v E) (hlen : E.length ≤ 1000) :
    Calls Try.prog 31 #[v] w fun r w' => ∃ v', r = .returned v' ∧ SlN w' w.heap.size 34 5 v' E.length (evsV E) ∧ Only [] w w' := by
  obtain ⟨n, hn⟩ : ∃ n, n = E.length := ⟨_, rfl⟩
  have hsrc := h.src
  rw [← hn] at hsrc hlen
  have hl : (evsV E).length = n * 5 := by rw [evsV_length, hn]
  have HN := hide hn
  have HL := hide hl
  have HS := hide hsrc
  clear h hn hl hsrc
  go_enter Try.func31, Try.ntmps31
  go_wp2_with (at_builtin; refine wpList_append_slN rfl (.const (.slice none 0 0)) (.tmp 3) 22 rfl _ 48 Try.underlying22 info_ev rfl (by decide) (SlN.nil w w.heap.size 34 5) HS.out rfl rfl HL.out (evsV_one E) (by unfold maxLen; omega) (by omega) (Nat.le_refl _) ?_; intro v' w' hs ho hf; rw [Nat.zero_add, List.nil_append] at hs)
  go_ret
  exact ⟨v', rfl, by rw [← HN.out]; exact hs, ho⟩

theorem SlN.some_ {w : World} {base : Nat} {t : TypeId} {s n : Nat} {v : Value} {xs : List Value} (h : SlN w base t s v (n + 1) xs) :
    ∃ g off cap, v = .slice (some ⟨g, off, none⟩) (n + 1) cap ∧ base ≤ g ∧ g < w.heap.size ∧ n + 1 ≤ cap ∧ cap ≤ maxLen ∧ ∀ j (hj : j < xs.length), w.cell? ⟨g, off + j, none⟩ = some xs[j] := by
  rcases h with ⟨_, h, _⟩ | ⟨g, off, cap, cs, rfl, hb, hg, h1, h2, h3, h4, h5⟩
  · omega
  · refine ⟨g, off, cap, rfl, hb, hg.lt, h2, h3, fun j hj => ?_⟩
    rw [hg.cell, h5 j hj]
    exact List.getElem?_eq_getElem hj
/-- A list that is lent: behind it a mark. -/
def Lent (w : World) (v : Value) (E : List EvM) (B : Nat) : Prop := ∃ g off cap, v = .slice (some ⟨g, off, none⟩) E.length cap ∧ E.length + 1 ≤ cap ∧ cap ≤ maxLen ∧ B ≤ g ∧ g < w.heap.size ∧ (∀ j (hj : j < (evsV E).length), w.cell? ⟨g, off + j, none⟩ = some (evsV E)[j]) ∧ w.cell? ⟨g, off + E.length * 5 + 4, none⟩ = some (.int .i64 (-77))
theorem Lent.below {w w' : World} {v : Value} {E : List EvM} {B : Nat} (h : Lent w v E B) (hb : Below w.heap.size w w') : Lent w' v E B := by
  obtain ⟨g, off, cap, h1, h2, h3, h4, h5, h6, h7⟩ := h
  exact ⟨g, off, cap, h1, h2, h3, h4, Nat.lt_of_lt_of_le h5 hb.size, fun j hj => (hb.cell (p := ⟨g, off + j, none⟩) h5).trans (h6 j hj), (hb.cell (p := ⟨g, off + E.length * 5 + 4, none⟩) h5).trans h7⟩
theorem Lent.evs {w : World} {v : Value} {E : List EvM} {B : Nat} (h : Lent w v E B) : EvsAt w v E := by
  obtain ⟨g, off, cap, rfl, h2, h3, h4, h5, h6, h7⟩ := h
  exact evsAt_of h5 h6
def markE : EvM := ⟨0, false, 0, [], -77⟩
set_option maxRecDepth 100000 in
theorem lent_evs {w : World} {v : Value} {E : List EvM} (h : EvsAt w v E) (hlen : E.length ≤ 1000) :
    Calls Try.prog 17 #[v] w fun r w' => ∃ v', r = .returned v' ∧ Lent w' v' E w.heap.size ∧ Only [] w w' := by
  obtain ⟨n, hn⟩ : ∃ n, n = E.length := ⟨_, rfl⟩
  have HC := hide (copy_evs h hlen)
  obtain ⟨a0, c0, hv, _⟩ := h
  rw [← hn] at hv hlen
  subst hv
  have HN := hide hn
  clear hn
  go_enter Try.func17, Try.ntmps17
  go_wp2_with fail
  (with_reducible refine (unhide HC).mono ?_)
  rintro e w1 ⟨v1, rfl, hs1, ho1⟩
  rw [← HN.out] at hs1
  obtain ⟨a1, c1, rfl⟩ := hs1.form
  have HS1 := hide hs1
  have HO1 := hide ho1
  clear hs1 ho1
  go_wp2_with (at_builtin; refine wpList_append_slN rfl (.tmp 4) (.tmp 6) 22 rfl _ 48 Try.underlying22 info_ev rfl (by decide) (HS1.out.alloc (.cells markE.cells 34)) (SlN.oneN (base := 0) (Nat.zero_le _) (Blk.new w1 34 markE.cells) rfl).src rfl rfl rfl (by intro y hy; simp [markE, EvM.cells, evV] at hy; rcases hy with rfl | rfl | rfl | rfl | rfl <;> rfl) (by unfold maxLen; omega) (by omega) (by have := HO1.out.size; simp; omega) ?_; intro v2 w2 hs2 ho2 hf2; obtain ⟨g, off, cap, hv2, hb2, hg2, hn2, hm2, hc2⟩ := hs2.some_; subst hv2; have hsl := slice_top (P := Try.prog) (t := 22) (z := 5) Try.underlying22 (by intro w; kernel_rfl) g off (n + 1) n cap (by omega) n rfl)
  go_ret
  have ho : Only [] w w2 := ((HO1.out.mono (fun _ h => by cases h)).alloc _ |>.trans ho2).drop (fun k hk => .inr (HS1.out.lt k hk).1)
  have hl2 : (evsV E).length = n * 5 := by rw [evsV_length, HN.out]
  refine ⟨_, rfl, ⟨g, off, cap, by rw [HN.out]; rfl, by rw [← HN.out]; exact hn2, hm2, hb2, hg2, fun j hj => ?_, ?_⟩, ho⟩
  · have h1 := hc2 j (by rw [List.length_append]; omega)
    rw [h1, List.getElem_append_left hj]
  · have h1 := hc2 (n * 5 + 4) (by rw [List.length_append, hl2]; simp [markE, EvM.cells, evV])
    rw [← HN.out, Nat.add_assoc, h1, List.getElem_append_right (by omega)]
    simp [hl2, markE, EvM.cells, evV]
set_option maxRecDepth 100000 in
theorem stays_evs {w : World} {u v : Value} {E : List EvM} {B : Nat} (hu : Lent w u E B) (hv : EvsAt w v E) (hlen : E.length ≤ 1000) :
    Calls Try.prog 19 #[u, v] w fun r w' => r = .returned (.bool true) ∧ Below w.heap.size w w' := by
  have HS := fun W (hb : Below w.heap.size w W) => hide (same_evs (hu.below hb).evs (hv.below hb) hlen)
  obtain ⟨g, off, cap, rfl, h2, h3, h4, h5, h6, h7⟩ := hu
  obtain ⟨n, hn⟩ : ∃ n, n = E.length := ⟨_, rfl⟩
  rw [← hn] at h2 h7 hlen HS ⊢
  have hsl := slice_top (P := Try.prog) (t := 22) (z := 5) Try.underlying22 (by intro w; kernel_rfl) g off n (n + 1) cap (by omega) ((n : Int) + 1) (by simp)
  have hn2 : (n : Int) ≤ 1000 := by omega
  clear hn h6 h4
  go_enter Try.func19, Try.ntmps19
  go_wp2_with fail
  (with_reducible refine (unhide (HS _ (Below.refl _ _))).mono ?_)
  rintro e w1 ⟨rfl, hb1⟩
  have h8 := (hb1.cell (p := ⟨g, off + n * 5 + 4, none⟩) h5).trans h7
  clear h7 HS
  go_wp2_with fail
  go_ret
  exact ⟨rfl, hb1⟩
end Go.Proofs.Yteggfobeaolafaa
