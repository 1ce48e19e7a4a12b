/-
  The walk of PackoutOpen.
-/
import Derived.Test.YteggfobeaolafaaPkDf
namespace Go.Proofs.Yteggfobeaolafaa
open Go.RowKit

theorem allC_run : ∀ (E : List EvM) (R R' : List Cont) (d d' : Bool) (out o : List UInt8), runE E R d out = some (R', d', o) → allC E R d out = (o, if d' then 0 else 3)
  | [], R, R', d, d', out, o, h => by
    simp only [runE, Option.some.injEq, Prod.mk.injEq] at h
    obtain ⟨_, rfl, rfl⟩ := h
    rfl
  | e :: E, R, R', d, d', out, o, h => by
    simp only [runE] at h
    by_cases h0 : (stepE R d e.part).1 = 0
    · rw [if_pos h0] at h
      cases hp : e.part with
      | none => rw [hp] at h0; simp [stepE] at h0
      | some pt =>
        rw [hp] at h0 h
        simp only [stepE] at h0 h
        simp only [allC, hp]
        rw [if_neg (by simp [h0])]
        exact allC_run E _ _ _ _ _ _ h
    · rw [if_neg h0] at h; cases h
theorem open_ok {e : EvM} (h : e.ok) : (evOpen true e).ok := by
  unfold evOpen
  split
  · exact ⟨h.1, h.2.1, by simp, h.2.2.2⟩
  · exact h
theorem open_cells (e : EvM) : (evOpen true e).cells = evV e.k e.y e.m e.l (if e.k = 5 ∨ e.k = 6 then -1 else e.c) := by
  unfold evOpen
  by_cases h : e.k = 5 ∨ e.k = 6 <;> simp [h, EvM.cells]

set_option maxRecDepth 100000 in
set_option maxHeartbeats 2000000 in
theorem open_any {w : World} {v : Value} {E : List EvM} (h : EvsAt w v E) (hlen : E.length ≤ 50000) :
    Calls Try.prog 21 #[v] w fun r w' => ∃ v', r = .returned v' ∧ SlN w' w.heap.size 34 5 v' E.length (evsV (E.map (evOpen true))) ∧ Below w.heap.size w w' := by
  obtain ⟨a, cap, hv, hC⟩ := h
  obtain ⟨n, hn⟩ : ∃ n, n = E.length := ⟨_, rfl⟩
  rw [← hn] at hv hlen ⊢
  subst hv
  have HC := hide hC
  have HN := hide hn
  have hn2 : (n : Int) ≤ 50000 := by omega
  clear hC hn
  go_enter Try.func21, Try.ntmps21
  go_wp2_with fail
  go_loopg [3, 4, 5, 8] n (fun g s3 s4 s5 s8 wr => ∃ (i : Nat) (v : Value), s8 = .int .i64 i ∧ i + g = n ∧ s3 = v ∧ Hid (SlN wr w.heap.size 34 5 v i (evsV ((E.take i).map (evOpen true)))) ∧ Hid (Below w.heap.size w wr))
  case atStart => exact ⟨0, _, rfl, by omega, rfl, hide (SlN.nil _ _ _ _), hide (Below.refl _ _)⟩
  case round =>
    obtain ⟨i, v, rfl, hi, rfl, hs, hb⟩ := hrel
    obtain ⟨a3, c3, hv3⟩ := hs.out.form
    subst hv3
    by_cases hlt : i < n
    · have hiE : i < E.length := by rw [← HN.out]; exact hlt
      obtain ⟨g, off, ha, hg, hc⟩ := HC.out (fun h => by rw [h] at hiE; simp at hiE)
      subst ha
      obtain ⟨x, hx⟩ : ∃ x, x = E[i] := ⟨_, rfl⟩
      have z := fun (j : Nat) (u : Value) (hu : x.cells[j]? = some u) => (hb.out.cell (p := ⟨g, off + i * 5 + j, none⟩) hg).trans (hc i hiE j u (by rw [← hx]; exact hu))
      have z0 : wr.cell? ⟨g, off + i * 5, none⟩ = some (.int .i64 x.k) := z 0 _ rfl
      have z1 : wr.cell? ⟨g, off + i * 5 + 1, none⟩ = some (.bool x.y) := z 1 _ rfl
      have z2 : wr.cell? ⟨g, off + i * 5 + 2, none⟩ = some (.int .u64 x.m) := z 2 _ rfl
      have z3 : wr.cell? ⟨g, off + i * 5 + 3, none⟩ = some (.string (S x.l)) := z 3 _ rfl
      have z4 : wr.cell? ⟨g, off + i * 5 + 4, none⟩ = some (.int .i64 x.c) := z 4 _ rfl
      have HX := hide hx
      have htk : Hid (evsV ((E.take (i + 1)).map (evOpen true)) = evsV ((E.take i).map (evOpen true)) ++ (evOpen true x).cells.toList) := hide (by
        rw [take_snoc E i hiE, List.map_append, evsV_append, ← hx]
        simp [evsV])
      clear z hc hx
      by_cases h5 : x.k = 5
      · have e5 : (x.k == 5) = true := by simpa using h5
        have hoc : (evOpen true x).cells = #[.int .i64 x.k, .bool x.y, .int .u64 x.m, .string (S x.l), .int .i64 (-1)] := by rw [open_cells, if_pos (.inl h5)]; rfl
        have HOC := hide hoc
        have hsz1 : (wr.alloc (.cells #[.int .i64 x.k, .bool x.y, .int .u64 x.m, .string (S x.l), .int .i64 (-1)] 34)).heap.size = wr.heap.size + 1 := by simp
        have bbx := Blk.new (wr.alloc (.cells #[.int .i64 x.k, .bool x.y, .int .u64 x.m, .string (S x.l), .int .i64 (-1)] 34)) 34 #[.int .i64 x.k, .bool x.y, .int .u64 x.m, .string (S x.l), .int .i64 (-1)]
        rw [hsz1] at bbx
        have BBX := hide bbx
        clear hoc hsz1 bbx h5
        go_wp2_with (at_builtin; refine wpList_append_slN rfl (.tmp 24) (.tmp 26) 22 rfl _ 48 Try.underlying22 info_ev rfl (by decide) ((hs.out.alloc (.cells #[.int .i64 x.k, .bool x.y, .int .u64 x.m, .string (S x.l), .int .i64 (-1)] 34)).alloc (.cells #[.int .i64 x.k, .bool x.y, .int .u64 x.m, .string (S x.l), .int .i64 (-1)] 34)) (SlN.oneN (base := 0) (Nat.zero_le _) BBX.out rfl).src rfl rfl rfl (by intro y hy; simp at hy; rcases hy with rfl | rfl | rfl | rfl | rfl <;> rfl) (by unfold maxLen; omega) (by omega) (by have := hb.out.size; simp; omega) ?_; intro v2 w2 hs2 ho2 hf2)
        go_roundg (gk - 1)
        case measure => omega
        case rel => exact ⟨i + 1, v2, by go_num, by omega, rfl, hide (by rw [htk.out, HOC.out]; exact hs2), hide (hb.out.trans (((((Only.refl [] wr).alloc _).alloc _).mono (fun _ h => by cases h) |>.trans ho2).below hb.out.size (fun k hk => (hs.out.lt k hk).1)))⟩
      have e5 : (x.k == 5) = false := by simpa using h5
      by_cases h6 : x.k = 6
      · have e6 : (x.k == 6) = true := by simpa using h6
        have hoc : (evOpen true x).cells = #[.int .i64 x.k, .bool x.y, .int .u64 x.m, .string (S x.l), .int .i64 (-1)] := by rw [open_cells, if_pos (.inr h6)]; rfl
        have HOC := hide hoc
        have hsz1 : (wr.alloc (.cells #[.int .i64 x.k, .bool x.y, .int .u64 x.m, .string (S x.l), .int .i64 (-1)] 34)).heap.size = wr.heap.size + 1 := by simp
        have bbx := Blk.new (wr.alloc (.cells #[.int .i64 x.k, .bool x.y, .int .u64 x.m, .string (S x.l), .int .i64 (-1)] 34)) 34 #[.int .i64 x.k, .bool x.y, .int .u64 x.m, .string (S x.l), .int .i64 (-1)]
        rw [hsz1] at bbx
        have BBX := hide bbx
        clear hoc hsz1 bbx h6
        go_wp2_with (at_builtin; refine wpList_append_slN rfl (.tmp 24) (.tmp 26) 22 rfl _ 48 Try.underlying22 info_ev rfl (by decide) ((hs.out.alloc (.cells #[.int .i64 x.k, .bool x.y, .int .u64 x.m, .string (S x.l), .int .i64 (-1)] 34)).alloc (.cells #[.int .i64 x.k, .bool x.y, .int .u64 x.m, .string (S x.l), .int .i64 (-1)] 34)) (SlN.oneN (base := 0) (Nat.zero_le _) BBX.out rfl).src rfl rfl rfl (by intro y hy; simp at hy; rcases hy with rfl | rfl | rfl | rfl | rfl <;> rfl) (by unfold maxLen; omega) (by omega) (by have := hb.out.size; simp; omega) ?_; intro v2 w2 hs2 ho2 hf2)
        go_roundg (gk - 1)
        case measure => omega
        case rel => exact ⟨i + 1, v2, by go_num, by omega, rfl, hide (by rw [htk.out, HOC.out]; exact hs2), hide (hb.out.trans (((((Only.refl [] wr).alloc _).alloc _).mono (fun _ h => by cases h) |>.trans ho2).below hb.out.size (fun k hk => (hs.out.lt k hk).1)))⟩
      · have e6 : (x.k == 6) = false := by simpa using h6
        have hoc : (evOpen true x).cells = #[.int .i64 x.k, .bool x.y, .int .u64 x.m, .string (S x.l), .int .i64 x.c] := by rw [open_cells, if_neg (by omega)]; rfl
        have HOC := hide hoc
        have hsz1 : (wr.alloc (.cells #[.int .i64 x.k, .bool x.y, .int .u64 x.m, .string (S x.l), .int .i64 x.c] 34)).heap.size = wr.heap.size + 1 := by simp
        have bbx := Blk.new (wr.alloc (.cells #[.int .i64 x.k, .bool x.y, .int .u64 x.m, .string (S x.l), .int .i64 x.c] 34)) 34 #[.int .i64 x.k, .bool x.y, .int .u64 x.m, .string (S x.l), .int .i64 x.c]
        rw [hsz1] at bbx
        have BBX := hide bbx
        clear hoc hsz1 bbx h6
        go_wp2_with (at_builtin; refine wpList_append_slN rfl (.tmp 24) (.tmp 26) 22 rfl _ 48 Try.underlying22 info_ev rfl (by decide) ((hs.out.alloc (.cells #[.int .i64 x.k, .bool x.y, .int .u64 x.m, .string (S x.l), .int .i64 x.c] 34)).alloc (.cells #[.int .i64 x.k, .bool x.y, .int .u64 x.m, .string (S x.l), .int .i64 x.c] 34)) (SlN.oneN (base := 0) (Nat.zero_le _) BBX.out rfl).src rfl rfl rfl (by intro y hy; simp at hy; rcases hy with rfl | rfl | rfl | rfl | rfl <;> rfl) (by unfold maxLen; omega) (by omega) (by have := hb.out.size; simp; omega) ?_; intro v2 w2 hs2 ho2 hf2)
        go_roundg (gk - 1)
        case measure => omega
        case rel => exact ⟨i + 1, v2, by go_num, by omega, rfl, hide (by rw [htk.out, HOC.out]; exact hs2), hide (hb.out.trans (((((Only.refl [] wr).alloc _).alloc _).mono (fun _ h => by cases h) |>.trans ho2).below hb.out.size (fun k hk => (hs.out.lt k hk).1)))⟩
    · obtain rfl : i = n := by omega
      have hfin := hs.out
      rw [HN.out, List.take_length, ← HN.out] at hfin
      have HF := hide hfin
      clear hfin hs
      go_wp2_with fail
      go_ret
      exact ⟨_, rfl, HF.out, hb.out⟩

/-- A document: one part, or a container. -/
theorem tree_case {E : List EvM} (h : Tree 0 0 E) : (∃ e, E = [e] ∧ Leaf e) ∨ (∃ (m : Bool) (n : Int) (F : List EvM), E = ⟨(if m then 6 else 5), false, 0, [], n⟩ :: F) := by
  cases h with
  | leaf e h => exact .inl ⟨e, rfl, h⟩
  | arr n E hn h => exact .inr ⟨false, n, _, rfl⟩
  | map n E hn h => exact .inr ⟨true, n, _, rfl⟩
theorem open_all_cont (m : Bool) (n : Int) (F : List EvM) : allC ((EvM.mk (if m then 6 else 5) false 0 [] n :: F).map (evOpen true)) [] false [] = ([], 7) := by
  have hp : (evOpen true (EvM.mk (if m then 6 else 5) false 0 [] n)).part = some (.begin_ m (-1)) := by
    cases m <;> simp [evOpen, EvM.part, partOf]
  rw [List.map_cons]
  simp only [allC, hp]
  simp [stepC, Part.may, Part.isClose, partR, beginR]

set_option maxRecDepth 100000 in
theorem open_no {w : World} {a : Option Addr} {len cap : Nat} (hl : len ≤ 9223372036854775807) (h : 60 < len) :
    Calls Try.prog 6 #[.slice a len cap] w fun e w' => e = .returned (.bool true) ∧ Below w.heap.size w w' := by
  have HA := fun W => hide (alive_any W)
  have h2 : (60 : Int) < len := by omega
  have hl2 := Lib.hid hl
  clear hl h
  go_enter Try.func6, Try.ntmps6
  go_wp2_with fail
  (with_reducible refine (unhide (HA _)).mono ?_)
  rintro e w1 ⟨rfl, hb⟩
  go_wp2_with fail
  go_ret
  exact ⟨rfl, hb⟩
set_option maxRecDepth 100000 in
set_option maxHeartbeats 4000000 in
theorem open_yes {w : World} {a : Option Addr} {len cap : Nat} {z : List Int} (hr : IsRow .i64 w a len cap z) (hl : len ≤ 60) :
    Calls Try.prog 6 #[.slice a len cap] w fun e w' => e = .returned (.bool true) ∧ Below w.heap.size w w' := by
  have HA := fun W => hide (alive_any W)
  have h2 : ¬ (60 : Int) < len := by omega
  have HDOC : ∀ W, Below w.heap.size w W → Hid (Calls Try.prog 20 #[.slice a len cap, .int .i64 8] W fun e w' => ∃ (E : List EvM) (v : Value), e = .returned v ∧ Tree 0 0 E ∧ E.length ≤ 50000 ∧ SlN w' W.heap.size 34 5 v E.length (evsV E) ∧ Below W.heap.size W w') := fun W hW => hide (doc_any (isRow_below hr hW) 8 (by omega) 8 rfl)
  clear hr
  go_enter Try.func6, Try.ntmps6
  go_wp2_with fail
  (with_reducible refine (unhide (HA _)).mono ?_)
  rintro e1 w1 ⟨rfl, hb1⟩
  go_wp2_with fail
  (with_reducible refine (unhide (HDOC _ hb1)).mono ?_)
  rintro e2 w2 ⟨E, v, rfl, hT, hE5, hsl, hb2⟩
  have HB2 := hide (hb1.trans (hb2.mono hb1.size))
  have hev := evsAt_sl hsl
  have hokE : ∀ e ∈ E, e.ok := fun e he => (tree_ok hT e he).1
  have hokO : ∀ e ∈ E.map (evOpen true), e.ok := fun e he => by
    obtain ⟨x, hx, rfl⟩ := List.mem_map.1 he
    exact open_ok (hokE x hx)
  have HOP := fun W (hW : Below w2.heap.size w2 W) => hide (open_any (hev.below hW) hE5)
  obtain ⟨r, k, hrk⟩ : ∃ r k, (r, k) = allC (E.map (evOpen true)) [] false [] := ⟨_, _, rfl⟩
  have HAL2 := fun W v (hW : EvsAt W v (E.map (evOpen true))) => hide (all_any hW hokO (by rw [List.length_map]; omega) r k hrk)
  obtain ⟨O1, hr1⟩ := tree_runs hT
  have hc1 := allC_run _ _ _ _ _ _ _ hr1
  have HAL1 := fun W (hW : Below w2.heap.size w2 W) => hide (all_any (hev.below hW) hokE (by omega) O1 0 (by rw [hc1]; rfl))
  have hne := tree_ne hT
  obtain ⟨a1, c1, hv, hcell⟩ := hev
  obtain ⟨g, off, rfl, hg, hc⟩ := hcell hne
  subst hv
  obtain ⟨n, hn⟩ : ∃ n, n = E.length := ⟨_, rfl⟩
  have hn0 : 0 < n := by rw [hn]; exact List.length_pos_iff.2 hne
  have hE0 : 0 < E.length := hn ▸ hn0
  obtain ⟨x, hx⟩ : ∃ x, x = E[0] := ⟨_, rfl⟩
  have hz0 := hc 0 hE0 0 (.int .i64 x.k) (by rw [hx]; rfl)
  have HZ0 : Hid (w2.cell? ⟨g, off, none⟩ = some (.int .i64 x.k)) := hide (by simpa using hz0)
  rw [← hn] at hE5 HAL1 HOP ⊢
  have HN := hide hn
  have hn2 : (n : Int) ≤ 50000 := by omega
  have hn3 : (0 : Int) < n := by omega
  have HCASE : Hid ((∃ e, E = [e] ∧ Leaf e) ∨ (∃ (m : Bool) (n : Int) (F : List EvM), E = ⟨(if m then 6 else 5), false, 0, [], n⟩ :: F)) := hide (tree_case hT)
  have HX := hide hx
  have HRK := hide hrk
  have HC1 := hide hc1
  clear hb1 hb2 hokE hokO hsl hT hn HDOC HA hr1 hc1 hrk hx hz0 hc hcell hne
  go_wp2_with fail
  (with_reducible refine (unhide (HOP _ (Below.refl _ _))).mono ?_)
  rintro e4 w4 ⟨v4, rfl, hs4, hb4⟩
  have HAL := HAL2 w4 v4 (evsAt_sl (by rw [List.length_map]; rw [HN.out] at hs4; exact hs4))
  have HB4 := hide hb4
  clear HOP hs4 hb4 HAL2
  go_wp2_with fail
  (with_reducible refine (unhide HAL).mono ?_)
  rintro e5 w5 ⟨rfl, hb5⟩
  have HB5 := hide (HB4.out.trans (hb5.mono HB4.out.size))
  have z0 := (HB5.out.cell (p := ⟨g, off, none⟩) hg).trans HZ0.out
  have H := HAL1 w5 HB5.out
  have HBF := hide (HB2.out.trans (HB5.out.mono HB2.out.size))
  clear HAL hb5 HAL1
  have HS : S [] = ⟨#[]⟩ := rfl
  rcases HCASE.out with ⟨e, hE, hlf⟩ | ⟨m, n', F, hE⟩
  · have hop : E.map (evOpen true) = E := by
      rw [hE]
      simp only [List.map_cons, List.map_nil]
      congr 1
      unfold evOpen
      rw [if_neg (by have := hlf.2.1; omega)]
    have hrk := HRK.out
    rw [hop, HC1.out] at hrk
    simp only [if_true, Prod.mk.injEq] at hrk
    obtain ⟨rfl, rfl⟩ := hrk
    have hxe : x = e := by rw [HX.out]; simp [hE]
    have t5 : (x.k == 5) = false := by rw [hxe]; have := hlf.2.1; simp; omega
    have t6 : (x.k == 6) = false := by rw [hxe]; have := hlf.2.1; simp; omega
    clear hlf hE hop hxe HZ0 HS
    go_wp2_with fail
    (with_reducible refine (unhide H).mono ?_)
    rintro e6 w6 ⟨rfl, hb6⟩
    go_wp2_with fail
    go_ret
    exact ⟨rfl, HBF.out.trans (hb6.mono HBF.out.size)⟩
  · have hrk := HRK.out
    rw [hE, open_all_cont] at hrk
    simp only [Prod.mk.injEq] at hrk
    obtain ⟨rfl, rfl⟩ := hrk
    have hxk : x.k = if m then 6 else 5 := by rw [HX.out]; simp [hE]
    rw [HS]
    clear HZ0 H HX HS
    cases m with
    | true =>
      have t5 : (x.k == 5) = false := by simp [hxk]
      have t6 : (x.k == 6) = true := by simp [hxk]
      clear hxk hE
      go_wp2_with fail
      go_ret
      exact ⟨rfl, HBF.out⟩
    | false =>
      have t5 : (x.k == 5) = true := by simp [hxk]
      clear hxk hE
      go_wp2_with fail
      go_ret
      exact ⟨rfl, HBF.out⟩
end Go.Proofs.Yteggfobeaolafaa
