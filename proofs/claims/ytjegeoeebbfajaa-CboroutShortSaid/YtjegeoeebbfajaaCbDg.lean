/-
  The walk of CboroutShort.
-/
import Derived.Test.YtjegeoeebbfajaaCbDf
namespace Go.Proofs.Ytjegeoeebbfajaa
open Go.RowKit

/-- How many containers. -/
def conts (E : List EvM) : Nat := (E.filter fun e => e.k == 5 || e.k == 6).length
def ends (E : List EvM) : Nat := (E.filter fun e => e.k == 7).length
theorem tree_ends {k n : Nat} {E : List EvM} (h : Tree k n E) : ends E = conts E := by
  have hl : ∀ e, Leaf e → ends [e] = 0 ∧ conts [e] = 0 := fun e h => by
    have h1 := h.1
    have h2 := h.2.1
    have e7 : (e.k == 7) = false := by simp; omega
    have e5 : (e.k == 5) = false := by simp; omega
    have e6 : (e.k == 6) = false := by simp; omega
    simp [ends, conts, List.filter, e7, e5, e6]
  have ha : ∀ E F, ends (E ++ F) = ends E + ends F := fun E F => by simp [ends]
  have hb : ∀ E F, conts (E ++ F) = conts E + conts F := fun E F => by simp [conts]
  have hc : ∀ e E, ends (e :: E) = ends [e] + ends E := fun e E => ha [e] E
  have hd : ∀ e E, conts (e :: E) = conts [e] + conts E := fun e E => hb [e] E
  have h1 : ends [endE] = 1 ∧ conts [endE] = 0 := by simp [ends, conts, endE]
  have h2 : ∀ n, ends [arrE n] = 0 ∧ conts [arrE n] = 1 := fun n => by simp [ends, conts, arrE]
  have h3 : ∀ n, ends [mapE n] = 0 ∧ conts [mapE n] = 1 := fun n => by simp [ends, conts, mapE]
  induction h with
  | leaf e h => have := hl e h; omega
  | arr n E hn h ih => have := h2 n; rw [hc, hd, ha, hb]; omega
  | map n E hn h ih => have := h3 n; rw [hc, hd, ha, hb]; omega
  | nil1 => rfl
  | snoc1 n E F h hF ih ihF => rw [ha, hb]; omega
  | nil2 => rfl
  | snoc2 n E F e h he hk hF ih ihF => have := hl e he; rw [ha, hb, hc, hd]; omega
theorem szL_open (E : List EvM) : szL true E = szL false E + ends E := by
  induction E with
  | nil => rfl
  | cons e E ih =>
    have hc : ends (e :: E) = (if e.k = 7 then 1 else 0) + ends E := by
      by_cases h : e.k = 7 <;> simp [ends, List.filter, h]
      · omega
      · rw [show (e.k == 7) = false by simpa using h]
    rw [szL_cons, szL_cons, ih, hc]
    unfold evLen
    by_cases h : e.k = 7
    · simp [h]; omega
    · simp [h]; omega
theorem allC_run : ∀ (E : List EvM) (R R' : List Cont) (d d' : Bool) (out o : List UInt8), runE E R d out = some (R', d', o) → allC E R d out = (o, if d' then 0 else 3)
  | [], R, R', d, d', out, o, h => by
    simp only [runE, Option.some.injEq, Prod.mk.injEq] at h
    obtain ⟨_, rfl, rfl⟩ := h
    rfl
  | e :: E, R, R', d, d', out, o, h => by
    simp only [runE] at h
    by_cases h0 : (stepE R d e.part).1 = 0
    · rw [if_pos h0] at h
      cases hp : e.part with
      | none => rw [hp] at h0; simp [stepE] at h0
      | some pt =>
        rw [hp] at h0 h
        simp only [stepE] at h0 h
        simp only [allC, hp]
        rw [if_neg (by simp [h0])]
        exact allC_run E _ _ _ _ _ _ h
    · rw [if_neg h0] at h; cases h
theorem tree_runs_open {E : List EvM} (h : Tree 0 0 E) : ∃ O, runE (E.map (evOpen true)) [] false [] = some ([], true, O) ∧ O.length = szL true E := by
  obtain ⟨o, h1, h2⟩ := (tree_run true h).1 rfl [] (.inl rfl)
  exact ⟨o, by simpa [bump] using h2 [], h1⟩
theorem open_ok {e : EvM} (h : e.ok) : (evOpen true e).ok := by
  unfold evOpen
  split
  · exact ⟨h.1, h.2.1, by simp⟩
  · exact h
theorem open_cells (e : EvM) : (evOpen true e).cells = evV e.k e.y e.m e.l (if e.k = 5 ∨ e.k = 6 then -1 else e.c) := by
  unfold evOpen
  by_cases h : e.k = 5 ∨ e.k = 6 <;> simp [h, EvM.cells]

set_option maxRecDepth 100000 in
set_option maxHeartbeats 2000000 in
theorem open_any {w : World} {v : Value} {E : List EvM} (h : EvsAt w v E) (hlen : E.length ≤ 50000) :
    Calls Try.prog 21 #[v] w fun r w' => ∃ v', r = .returned v' ∧ SlN w' w.heap.size 34 5 v' E.length (evsV (E.map (evOpen true))) ∧ Below w.heap.size w w' := by
  obtain ⟨a, cap, hv, hC⟩ := h
  obtain ⟨n, hn⟩ : ∃ n, n = E.length := ⟨_, rfl⟩
  rw [← hn] at hv hlen ⊢
  subst hv
  have HC := hide hC
  have HN := hide hn
  have hn2 : (n : Int) ≤ 50000 := by omega
  clear hC hn
  go_enter Try.func21, Try.ntmps21
  go_wp2_with fail
  go_loopg [3, 4, 5, 8] n (fun g s3 s4 s5 s8 wr => ∃ (i : Nat) (v : Value), s8 = .int .i64 i ∧ i + g = n ∧ s3 = v ∧ Hid (SlN wr w.heap.size 34 5 v i (evsV ((E.take i).map (evOpen true)))) ∧ Hid (Below w.heap.size w wr))
  case atStart => exact ⟨0, _, rfl, by omega, rfl, hide (SlN.nil _ _ _ _), hide (Below.refl _ _)⟩
  case round =>
    obtain ⟨i, v, rfl, hi, rfl, hs, hb⟩ := hrel
    obtain ⟨a3, c3, hv3⟩ := hs.out.form
    subst hv3
    by_cases hlt : i < n
    · have hiE : i < E.length := by rw [← HN.out]; exact hlt
      obtain ⟨g, off, ha, hg, hc⟩ := HC.out (fun h => by rw [h] at hiE; simp at hiE)
      subst ha
      obtain ⟨x, hx⟩ : ∃ x, x = E[i] := ⟨_, rfl⟩
      have z := fun (j : Nat) (u : Value) (hu : x.cells[j]? = some u) => (hb.out.cell (p := ⟨g, off + i * 5 + j, none⟩) hg).trans (hc i hiE j u (by rw [← hx]; exact hu))
      have z0 : wr.cell? ⟨g, off + i * 5, none⟩ = some (.int .i64 x.k) := z 0 _ rfl
      have z1 : wr.cell? ⟨g, off + i * 5 + 1, none⟩ = some (.bool x.y) := z 1 _ rfl
      have z2 : wr.cell? ⟨g, off + i * 5 + 2, none⟩ = some (.int .u64 x.m) := z 2 _ rfl
      have z3 : wr.cell? ⟨g, off + i * 5 + 3, none⟩ = some (.string (S x.l)) := z 3 _ rfl
      have z4 : wr.cell? ⟨g, off + i * 5 + 4, none⟩ = some (.int .i64 x.c) := z 4 _ rfl
      have HX := hide hx
      have htk : Hid (evsV ((E.take (i + 1)).map (evOpen true)) = evsV ((E.take i).map (evOpen true)) ++ (evOpen true x).cells.toList) := hide (by
        rw [take_snoc E i hiE, List.map_append, evsV_append, ← hx]
        simp [evsV])
      clear z hc hx
      by_cases h5 : x.k = 5
      · have e5 : (x.k == 5) = true := by simpa using h5
        have hoc : (evOpen true x).cells = #[.int .i64 x.k, .bool x.y, .int .u64 x.m, .string (S x.l), .int .i64 (-1)] := by rw [open_cells, if_pos (.inl h5)]; rfl
        have HOC := hide hoc
        have hsz1 : (wr.alloc (.cells #[.int .i64 x.k, .bool x.y, .int .u64 x.m, .string (S x.l), .int .i64 (-1)] 34)).heap.size = wr.heap.size + 1 := by simp
        have bbx := Blk.new (wr.alloc (.cells #[.int .i64 x.k, .bool x.y, .int .u64 x.m, .string (S x.l), .int .i64 (-1)] 34)) 34 #[.int .i64 x.k, .bool x.y, .int .u64 x.m, .string (S x.l), .int .i64 (-1)]
        rw [hsz1] at bbx
        have BBX := hide bbx
        clear hoc hsz1 bbx h5
        go_wp2_with (at_builtin; refine wpList_append_slN rfl (.tmp 24) (.tmp 26) 22 rfl _ 48 Try.underlying22 info_ev rfl (by decide) ((hs.out.alloc (.cells #[.int .i64 x.k, .bool x.y, .int .u64 x.m, .string (S x.l), .int .i64 (-1)] 34)).alloc (.cells #[.int .i64 x.k, .bool x.y, .int .u64 x.m, .string (S x.l), .int .i64 (-1)] 34)) (SlN.oneN (base := 0) (Nat.zero_le _) BBX.out rfl).src rfl rfl rfl (by intro y hy; simp at hy; rcases hy with rfl | rfl | rfl | rfl | rfl <;> rfl) (by unfold maxLen; omega) (by omega) (by have := hb.out.size; simp; omega) ?_; intro v2 w2 hs2 ho2 hf2)
        go_roundg (gk - 1)
        case measure => omega
        case rel => exact ⟨i + 1, v2, by go_num, by omega, rfl, hide (by rw [htk.out, HOC.out]; exact hs2), hide (hb.out.trans (((((Only.refl [] wr).alloc _).alloc _).mono (fun _ h => by cases h) |>.trans ho2).below hb.out.size (fun k hk => (hs.out.lt k hk).1)))⟩
      have e5 : (x.k == 5) = false := by simpa using h5
      by_cases h6 : x.k = 6
      · have e6 : (x.k == 6) = true := by simpa using h6
        have hoc : (evOpen true x).cells = #[.int .i64 x.k, .bool x.y, .int .u64 x.m, .string (S x.l), .int .i64 (-1)] := by rw [open_cells, if_pos (.inr h6)]; rfl
        have HOC := hide hoc
        have hsz1 : (wr.alloc (.cells #[.int .i64 x.k, .bool x.y, .int .u64 x.m, .string (S x.l), .int .i64 (-1)] 34)).heap.size = wr.heap.size + 1 := by simp
        have bbx := Blk.new (wr.alloc (.cells #[.int .i64 x.k, .bool x.y, .int .u64 x.m, .string (S x.l), .int .i64 (-1)] 34)) 34 #[.int .i64 x.k, .bool x.y, .int .u64 x.m, .string (S x.l), .int .i64 (-1)]
        rw [hsz1] at bbx
        have BBX := hide bbx
        clear hoc hsz1 bbx h6
        go_wp2_with (at_builtin; refine wpList_append_slN rfl (.tmp 24) (.tmp 26) 22 rfl _ 48 Try.underlying22 info_ev rfl (by decide) ((hs.out.alloc (.cells #[.int .i64 x.k, .bool x.y, .int .u64 x.m, .string (S x.l), .int .i64 (-1)] 34)).alloc (.cells #[.int .i64 x.k, .bool x.y, .int .u64 x.m, .string (S x.l), .int .i64 (-1)] 34)) (SlN.oneN (base := 0) (Nat.zero_le _) BBX.out rfl).src rfl rfl rfl (by intro y hy; simp at hy; rcases hy with rfl | rfl | rfl | rfl | rfl <;> rfl) (by unfold maxLen; omega) (by omega) (by have := hb.out.size; simp; omega) ?_; intro v2 w2 hs2 ho2 hf2)
        go_roundg (gk - 1)
        case measure => omega
        case rel => exact ⟨i + 1, v2, by go_num, by omega, rfl, hide (by rw [htk.out, HOC.out]; exact hs2), hide (hb.out.trans (((((Only.refl [] wr).alloc _).alloc _).mono (fun _ h => by cases h) |>.trans ho2).below hb.out.size (fun k hk => (hs.out.lt k hk).1)))⟩
      · have e6 : (x.k == 6) = false := by simpa using h6
        have hoc : (evOpen true x).cells = #[.int .i64 x.k, .bool x.y, .int .u64 x.m, .string (S x.l), .int .i64 x.c] := by rw [open_cells, if_neg (by omega)]; rfl
        have HOC := hide hoc
        have hsz1 : (wr.alloc (.cells #[.int .i64 x.k, .bool x.y, .int .u64 x.m, .string (S x.l), .int .i64 x.c] 34)).heap.size = wr.heap.size + 1 := by simp
        have bbx := Blk.new (wr.alloc (.cells #[.int .i64 x.k, .bool x.y, .int .u64 x.m, .string (S x.l), .int .i64 x.c] 34)) 34 #[.int .i64 x.k, .bool x.y, .int .u64 x.m, .string (S x.l), .int .i64 x.c]
        rw [hsz1] at bbx
        have BBX := hide bbx
        clear hoc hsz1 bbx h6
        go_wp2_with (at_builtin; refine wpList_append_slN rfl (.tmp 24) (.tmp 26) 22 rfl _ 48 Try.underlying22 info_ev rfl (by decide) ((hs.out.alloc (.cells #[.int .i64 x.k, .bool x.y, .int .u64 x.m, .string (S x.l), .int .i64 x.c] 34)).alloc (.cells #[.int .i64 x.k, .bool x.y, .int .u64 x.m, .string (S x.l), .int .i64 x.c] 34)) (SlN.oneN (base := 0) (Nat.zero_le _) BBX.out rfl).src rfl rfl rfl (by intro y hy; simp at hy; rcases hy with rfl | rfl | rfl | rfl | rfl <;> rfl) (by unfold maxLen; omega) (by omega) (by have := hb.out.size; simp; omega) ?_; intro v2 w2 hs2 ho2 hf2)
        go_roundg (gk - 1)
        case measure => omega
        case rel => exact ⟨i + 1, v2, by go_num, by omega, rfl, hide (by rw [htk.out, HOC.out]; exact hs2), hide (hb.out.trans (((((Only.refl [] wr).alloc _).alloc _).mono (fun _ h => by cases h) |>.trans ho2).below hb.out.size (fun k hk => (hs.out.lt k hk).1)))⟩
    · obtain rfl : i = n := by omega
      have hfin := hs.out
      rw [HN.out, List.take_length, ← HN.out] at hfin
      have HF := hide hfin
      clear hfin hs
      go_wp2_with fail
      go_ret
      exact ⟨_, rfl, HF.out, hb.out⟩
theorem evLen_le (b : Bool) {e : EvM} (h : e.ok) : evLen b e ≤ 1000010 := by
  unfold evLen
  split
  · split <;> omega
  split
  · omega
  split
  · rename_i pt hp
    exact partB_length (EvM.fits h hp)
  · omega
theorem szL_le (b : Bool) : ∀ (E : List EvM), (∀ e ∈ E, e.ok) → szL b E ≤ E.length * 1000010
  | [], _ => by simp [szL]
  | e :: E, h => by
    have h1 := evLen_le b (h e (List.mem_cons_self ..))
    have h2 := szL_le b E (fun x hx => h x (List.mem_cons_of_mem _ hx))
    rw [szL_cons, List.length_cons, Nat.add_mul]
    omega
theorem conts_snoc (E : List EvM) (i : Nat) (hi : i < E.length) : conts (E.take (i + 1)) = conts (E.take i) + if E[i].k = 5 ∨ E[i].k = 6 then 1 else 0 := by
  rw [take_snoc E i hi]
  unfold conts
  rw [List.filter_append, List.length_append]
  by_cases h5 : E[i].k = 5
  · simp [List.filter, h5]
  · by_cases h6 : E[i].k = 6
    · simp [List.filter, h6]
    · have e5 : (E[i].k == 5) = false := by simpa using h5
      have e6 : (E[i].k == 6) = false := by simpa using h6
      simp [List.filter, h5, h6, e5, e6]
set_option maxRecDepth 100000 in
theorem short_no {w : World} {a : Option Addr} {len cap : Nat} (hl : len ≤ 9223372036854775807) (h : 60 < len) :
    Calls Try.prog 6 #[.slice a len cap] w fun e w' => e = .returned (.bool true) ∧ Below w.heap.size w w' := by
  have HA := fun W => hide (alive_any W)
  have h2 : (60 : Int) < len := by omega
  have hl2 := Lib.hid hl
  clear hl h
  go_enter Try.func6, Try.ntmps6
  go_wp2_with fail
  (with_reducible refine (unhide (HA _)).mono ?_)
  rintro e w1 ⟨rfl, hb⟩
  go_wp2_with fail
  go_ret
  exact ⟨rfl, hb⟩
set_option maxRecDepth 100000 in
set_option maxHeartbeats 4000000 in
theorem short_yes {w : World} {a : Option Addr} {len cap : Nat} {z : List Int} (hr : IsRow .i64 w a len cap z) (hl : len ≤ 60) :
    Calls Try.prog 6 #[.slice a len cap] w fun e w' => e = .returned (.bool true) ∧ Below w.heap.size w w' := by
  have HA := fun W => hide (alive_any W)
  have h2 : ¬ (60 : Int) < len := by omega
  have HDOC : ∀ W, Below w.heap.size w W → Hid (Calls Try.prog 20 #[.slice a len cap, .int .i64 8] W fun e w' => ∃ (E : List EvM) (v : Value), e = .returned v ∧ Tree 0 0 E ∧ E.length ≤ 50000 ∧ SlN w' W.heap.size 34 5 v E.length (evsV E) ∧ Below W.heap.size W w') := fun W hW => hide (doc_any (isRow_below hr hW) 8 (by omega) 8 rfl)
  clear hr
  go_enter Try.func6, Try.ntmps6
  go_wp2_with fail
  (with_reducible refine (unhide (HA _)).mono ?_)
  rintro e1 w1 ⟨rfl, hb1⟩
  go_wp2_with fail
  (with_reducible refine (unhide (HDOC _ hb1)).mono ?_)
  rintro e2 w2 ⟨E, v, rfl, hT, hE5, hsl, hb2⟩
  have HB2 := hide (hb1.trans (hb2.mono hb1.size))
  have hev := evsAt_sl hsl
  have HEV := hide hev
  obtain ⟨O1, hr1, hl1⟩ := tree_runs hT
  obtain ⟨O2, hr2, hl2⟩ := tree_runs_open hT
  have hc1 := allC_run _ _ _ _ _ _ _ hr1
  have hc2 := allC_run _ _ _ _ _ _ _ hr2
  have hokE : ∀ e ∈ E, e.ok := fun e he => (tree_ok hT e he).1
  have hokO : ∀ e ∈ E.map (evOpen true), e.ok := fun e he => by
    obtain ⟨x, hx, rfl⟩ := List.mem_map.1 he
    exact open_ok (hokE x hx)
  have HAL1 := hide (all_any hev hokE (by omega) O1 0 (by rw [hc1]; rfl))
  have HAL2 := fun W v (hW : EvsAt W v (E.map (evOpen true))) => hide (all_any hW hokO (by rw [List.length_map]; omega) O2 0 (by rw [hc2]; rfl))
  have HOP := fun W (hW : Below w2.heap.size w2 W) => hide (open_any (hev.below hW) hE5)
  have hfin : O2.length = O1.length + conts E := by rw [hl2, hl1, szL_open, tree_ends hT]
  have HFIN := hide hfin
  have ho1 : O1.length ≤ 60000000000 := by
    rw [hl1]
    have h1 := szL_le false E hokE
    have h2 : E.length * 1000010 ≤ 50000 * 1000010 := Nat.mul_le_mul_right _ hE5
    omega
  have HO1 := hide ho1
  clear ho1
  obtain ⟨a1, c1, rfl⟩ := hsl.form
  obtain ⟨n, hn⟩ : ∃ n, n = E.length := ⟨_, rfl⟩
  rw [← hn] at hE5 HEV HAL1 HOP ⊢
  have HN := hide hn
  have hn2 : (n : Int) ≤ 50000 := by omega
  clear hb1 hb2 hev hr1 hr2 hl1 hl2 hc1 hc2 hokE hokO hfin hsl hT hn HDOC HA
  go_wp2_with fail
  (with_reducible refine (unhide HAL1).mono ?_)
  rintro e3 w3 ⟨rfl, hb3⟩
  have HO := HOP w3 hb3
  have HB3 := hide hb3
  clear HAL1 HOP hb3
  go_wp2_with fail
  (with_reducible refine (unhide HO).mono ?_)
  rintro e4 w4 ⟨v4, rfl, hs4, hb4⟩
  have HAL := HAL2 w4 v4 (evsAt_sl (by rw [List.length_map]; rw [HN.out] at hs4; exact hs4))
  have HB4 := hide (HB3.out.trans (hb4.mono HB3.out.size))
  clear HO hs4 hb4 HAL2
  go_wp2_with fail
  (with_reducible refine (unhide HAL).mono ?_)
  rintro e5 w5 ⟨rfl, hb5⟩
  have hb6 := HB4.out.trans (hb5.mono HB4.out.size)
  clear HAL hb5
  go_wp2_with fail
  go_loopg [8, 9, 33] n (fun g s8 s9 s33 wr => ∃ (i : Nat), s33 = .int .i64 i ∧ i + g = n ∧ s8 = .int .i64 (conts (E.take i) : Nat) ∧ Hid (conts (E.take i) ≤ i) ∧ Hid (Below w2.heap.size w2 wr))
  case atStart => exact ⟨0, rfl, by omega, rfl, hide (by simp [conts]), hide hb6⟩
  case round =>
    clear hb6
    obtain ⟨i, rfl, hi, rfl, hcl, hb⟩ := hrel
    have hcl2 := hcl.out
    obtain ⟨q, hq⟩ : ∃ q, q = conts (E.take i) := ⟨_, rfl⟩
    rw [← hq] at hcl2 ⊢
    by_cases hlt : i < n
    · have hiE : i < E.length := by rw [← HN.out]; exact hlt
      obtain ⟨a2, c2, hv2, hcell⟩ := HEV.out
      obtain ⟨g, off, ha, hg, hc⟩ := hcell (fun h => by rw [h] at hiE; simp at hiE)
      injection hv2 with e4 e5 e6
      subst e4 e6
      subst ha
      obtain ⟨x, hx⟩ : ∃ x, x = E[i] := ⟨_, rfl⟩
      have z0 : wr.cell? ⟨g, off + i * 5, none⟩ = some (.int .i64 x.k) := (hb.out.cell (p := ⟨g, off + i * 5 + 0, none⟩) hg).trans (hc i hiE 0 _ (by rw [← hx]; rfl))
      have hcs := conts_snoc E i hiE
      rw [← hx, ← hq] at hcs
      have HCS := hide hcs
      have HQ := hide hq
      clear hc hcell hx hcs hq e5
      by_cases h5 : x.k = 5
      · have t5 : (x.k == 5) = true := by simpa using h5
        have hcs : conts (E.take (i + 1)) = q + 1 := by rw [HCS.out, if_pos (.inl h5)]
        have HC2 := hide hcs
        clear h5 hcs
        go_wp2_with fail
        go_roundg (gk - 1)
        case measure => omega
        case rel => exact ⟨i + 1, by go_num, by omega, by rw [HC2.out]; go_num, hide (by rw [HC2.out]; omega), hb⟩
      have t5 : (x.k == 5) = false := by simpa using h5
      by_cases h6 : x.k = 6
      · have t6 : (x.k == 6) = true := by simpa using h6
        have hcs : conts (E.take (i + 1)) = q + 1 := by rw [HCS.out, if_pos (.inr h6)]
        have HC2 := hide hcs
        clear h6 hcs
        go_wp2_with fail
        go_roundg (gk - 1)
        case measure => omega
        case rel => exact ⟨i + 1, by go_num, by omega, by rw [HC2.out]; go_num, hide (by rw [HC2.out]; omega), hb⟩
      · have t6 : (x.k == 6) = false := by simpa using h6
        have hcs : conts (E.take (i + 1)) = q := by rw [HCS.out, if_neg (by omega)]; rfl
        have HC2 := hide hcs
        clear hcs
        go_wp2_with fail
        go_roundg (gk - 1)
        case measure => omega
        case rel => exact ⟨i + 1, by go_num, by omega, by rw [HC2.out], hide (by rw [HC2.out]; omega), hb⟩
    · obtain rfl : i = n := by omega
      have hq2 : q = conts E := by rw [hq, HN.out, List.take_length]
      have hlen : ((O2.length : Int) == (O1.length : Int) + (q : Int)) = true := by rw [HFIN.out, hq2]; simp
      have HBF : Hid (Below w.heap.size w wr) := hide (HB2.out.trans (hb.out.mono HB2.out.size))
      have ho1 := HO1.out
      clear hq hq2 hb
      go_wp2_with fail
      go_ret
      exact ⟨rfl, HBF.out⟩
end Go.Proofs.Ytjegeoeebbfajaa
