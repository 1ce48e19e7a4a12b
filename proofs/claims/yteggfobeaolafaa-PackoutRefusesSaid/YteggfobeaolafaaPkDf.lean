/-
  The walk of PackoutEnds.
-/
import Derived.Test.YteggfobeaolafaaPkDe
import Derived.Test.YteggfobeaolafaaPkOps
namespace Go.Proofs.Yteggfobeaolafaa
open Go.RowKit

theorem isRow_below {k : IntKind} {w W : World} {a : Option Addr} {len cap : Nat} {zs : List Int} (h : IsRow k w a len cap zs) (hb : Below w.heap.size w W) : IsRow k W a len cap zs := by
  rcases h with h | ⟨x, ha, h1, h2, h3, h4, h5⟩
  · exact .inl h
  · exact .inr ⟨x, ha, h1, h2, h3, fun i hi => (hb.cell (block_lt_of_cell (h4 i hi))).trans (h4 i hi), h5⟩
theorem tree_ok {k n : Nat} {E : List EvM} (h : Tree k n E) : ∀ e ∈ E, e.ok ∧ e.m < 18446744073709551616 := by
  have hl : ∀ e, Leaf e → e.ok ∧ e.m < 18446744073709551616 := fun e h => ⟨⟨h.2.2.1, by have := h.2.2.2.2.1; omega, by rw [h.2.2.2.2.2]; omega, by have := h.2.2.2.1; omega⟩, by have := h.2.2.2.1; omega⟩
  have he : endE.ok ∧ endE.m < 18446744073709551616 := ⟨⟨by simp [endE], by simp [endE], by simp [endE], by simp [endE]⟩, by simp [endE]⟩
  induction h with
  | leaf e h => intro x hx; rw [List.mem_singleton.1 hx]; exact hl e h
  | arr n E hn h ih =>
    intro x hx
    rcases List.mem_cons.1 hx with rfl | hx
    · exact ⟨⟨by simp [arrE], by simp [arrE], by simp [arrE]; omega, by simp [arrE]⟩, by simp [arrE]⟩
    rcases List.mem_append.1 hx with hx | hx
    · exact ih x hx
    · rw [List.mem_singleton.1 hx]; exact he
  | map n E hn h ih =>
    intro x hx
    rcases List.mem_cons.1 hx with rfl | hx
    · exact ⟨⟨by simp [mapE], by simp [mapE], by simp [mapE]; omega, by simp [mapE]⟩, by simp [mapE]⟩
    rcases List.mem_append.1 hx with hx | hx
    · exact ih x hx
    · rw [List.mem_singleton.1 hx]; exact he
  | nil1 => intro x hx; cases hx
  | snoc1 n E F h hF ih ihF =>
    intro x hx
    rcases List.mem_append.1 hx with hx | hx
    · exact ih x hx
    · exact ihF x hx
  | nil2 => intro x hx; cases hx
  | snoc2 n E F e h he hk hF ih ihF =>
    intro x hx
    rcases List.mem_append.1 hx with hx | hx
    · exact ih x hx
    rcases List.mem_cons.1 hx with rfl | hx
    · exact hl _ he
    · exact ihF x hx
theorem tree_ne {E : List EvM} (h : Tree 0 0 E) : E ≠ [] := by
  cases h <;> simp
theorem tree_runs {E : List EvM} (h : Tree 0 0 E) : ∃ O, runE E [] false [] = some ([], true, O) := by
  obtain ⟨o, h2⟩ := (tree_run h).1 rfl [] (.inl rfl)
  exact ⟨o, by simpa [bump] using h2 []⟩
/-- The next part of a run that comes to its end. -/
theorem runE_next {E : List EvM} {i : Nat} (hi : i < E.length) {R : List Cont} {d : Bool} {out : List UInt8} {X : List Cont × Bool × List UInt8} (h : runE (E.drop i) R d out = some X) :
    d = false ∧ ∃ pt s R' d', E[i].part = some pt ∧ stepC R d pt = (0, s, R', d') ∧ runE (E.drop (i + 1)) R' d' (out ++ s) = some X := by
  rw [List.drop_eq_getElem_cons hi] at h
  simp only [runE] at h
  by_cases h0 : (stepE R d E[i].part).1 = 0
  · rw [if_pos h0] at h
    cases hp : E[i].part with
    | none => rw [hp] at h0; simp [stepE] at h0
    | some pt =>
      rw [hp] at h0 h
      simp only [stepE] at h0 h
      have hd : d = false := by
        cases d with
        | false => rfl
        | true => simp [stepC] at h0
      exact ⟨hd, pt, _, _, _, rfl, by rw [← h0], h⟩
  · rw [if_neg h0] at h; cases h
theorem evsAt_sl {w : World} {B : Nat} {v : Value} {E : List EvM} (h : SlN w B 34 5 v E.length (evsV E)) : EvsAt w v E := by
  rcases h with ⟨rfl, h1, _⟩ | ⟨g, off, cap, cs, rfl, hb, hg, h1, h2, h3, h4, h5⟩
  · exact ⟨none, 0, by rw [h1], fun hne => absurd (List.eq_nil_of_length_eq_zero h1) hne⟩
  · exact evsAt_of hg.lt (fun j hj => by rw [hg.cell, h5 j hj]; exact List.getElem?_eq_getElem hj)

set_option maxRecDepth 100000 in
theorem ends_no {w : World} {a : Option Addr} {len cap : Nat} {e : EvM} (hl : len ≤ 9223372036854775807) (h : 50 < len ∨ 100 < e.l.length) :
    Calls Try.prog 5 #[.slice a len cap, .agg e.cells] w fun e w' => e = .returned (.bool true) ∧ Below w.heap.size w w' := by
  have HA := fun W => hide (alive_any W)
  have hl2 := Lib.hid hl
  clear hl
  simp only [EvM.cells, evV]
  by_cases h1 : 50 < len
  · have h2 : (50 : Int) < len := by omega
    clear h
    go_enter Try.func5, Try.ntmps5
    go_wp2_with fail
    (with_reducible refine (unhide (HA _)).mono ?_)
    rintro e w1 ⟨rfl, hb⟩
    go_wp2_with fail
    go_ret
    exact ⟨rfl, (Below.more (Below.refl _ _) (Nat.le_refl _) _).trans (hb.mono (by simp))⟩
  · have h2 : ¬ (50 : Int) < len := by omega
    have h3 : (100 : Int) < e.l.length := by omega
    clear h
    go_enter Try.func5, Try.ntmps5
    go_wp2_with fail
    (with_reducible refine (unhide (HA _)).mono ?_)
    rintro e w1 ⟨rfl, hb⟩
    go_wp2_with fail
    go_ret
    exact ⟨rfl, (Below.more (Below.refl _ _) (Nat.le_refl _) _).trans (hb.mono (by simp))⟩
set_option maxRecDepth 100000 in
set_option maxHeartbeats 4000000 in
theorem ends_yes {w : World} {a : Option Addr} {len cap : Nat} {z : List Int} {e : EvM} (hr : IsRow .i64 w a len cap z) (hl : len ≤ 50) (hel : e.l.length ≤ 100) (hm : 0 ≤ e.m) (hc : e.c ≤ 9223372036854775807) (hm64 : e.m < 18446744073709551616) :
    Calls Try.prog 5 #[.slice a len cap, .agg e.cells] w fun e w' => e = .returned (.bool true) ∧ Below w.heap.size w w' := by
  have HA := fun W => hide (alive_any W)
  have h2 : ¬ (50 : Int) < len := by omega
  have h3 : ¬ (100 : Int) < e.l.length := by omega
  have HDOC : ∀ W, Below w.heap.size w W → Hid (Calls Try.prog 20 #[.slice a len cap, .int .i64 6] W fun e w' => ∃ (E : List EvM) (v : Value), e = .returned v ∧ Tree 0 0 E ∧ E.length ≤ 50000 ∧ SlN w' W.heap.size 34 5 v E.length (evsV E) ∧ Below W.heap.size W w') := fun W hW => hide (doc_any (isRow_below hr hW) 6 (by omega) 6 rfl)
  have hok : e.ok := ⟨hm, by omega, hc, hm64⟩
  have HOK := hide hok
  have HOF0 := fun W => of_any e.k e.y e.m e.l e.c W e.part rfl
  simp only [EvM.cells, evV] at HOF0 ⊢
  have HOFE := fun W => hide (HOF0 W)
  clear HOF0 hok hm hm64 hc hr
  go_enter Try.func5, Try.ntmps5
  go_wp2_with fail
  (with_reducible refine (unhide (HA _)).mono ?_)
  rintro e1 w1 ⟨rfl, hb1⟩
  have bx := (Blk.new w 34 #[.int .i64 e.k, .bool e.y, .int .u64 e.m, .string (S e.l), .int .i64 e.c]).below hb1 (by simp)
  have HB1 : Hid (Below w.heap.size w w1) := hide ((Below.more (Below.refl _ _) (Nat.le_refl _) _).trans (hb1.mono (by simp)))
  clear hb1 HA
  go_wp2_with fail
  (with_reducible refine (unhide (HDOC _ HB1.out)).mono ?_)
  rintro e2 w2 ⟨E, v, rfl, hT, hE5, hsl, hb2⟩
  have HEV := hide (evsAt_sl hsl)
  have bx2 := bx.below hb2 bx.lt
  have HB2 := hide (HB1.out.trans (hb2.mono HB1.out.size))
  have HT := hide hT
  obtain ⟨O, hrun⟩ := tree_runs hT
  have HR0 := hide hrun
  obtain ⟨a1, c1, rfl⟩ := hsl.form
  obtain ⟨n, hn⟩ : ∃ n, n = E.length := ⟨_, rfl⟩
  rw [← hn] at hE5 HEV ⊢
  have HN := hide hn
  have hn2 : (n : Int) ≤ 50000 := by omega
  have hw0 : Wr (w2.alloc (.cells #[.slice none 0 0, .bool false] 27)) w2.heap.size w2.heap.size (.slice none 0 0) [] false := ⟨Nat.le_refl _, Blk.new w2 27 _, SlN.nil _ _ _ _⟩
  have hx0 : Below w2.heap.size w2 (w2.alloc (.cells #[.slice none 0 0, .bool false] 27)) := Below.more (Below.refl _ _) (Nat.le_refl _) _
  have BX := hide bx2
  have hpx := bx2.lt
  clear bx bx2 hsl hb2 HDOC hT hrun hn
  go_wp2_with fail
  go_loopg [7, 8, 9, 10, 11, 36] n (fun g s7 s8 s9 s10 s11 s36 wr => ∃ (i : Nat) (R : List Cont) (d : Bool) (out : List UInt8) (vw : Value), s36 = .int .i64 i ∧ i + g = n ∧ Hid (Wr wr w2.heap.size w2.heap.size vw R.reverse d) ∧ Hid (Upto i R) ∧ Hid (runE (E.drop i) R d out = some ([], true, O)) ∧ Hid (Below w2.heap.size w2 wr))
  case atStart => exact ⟨0, [], false, [], _, rfl, by omega, hide hw0, hide ⟨fun c hc => (by cases hc), Nat.le_refl 0⟩, HR0, hide hx0⟩
  case round =>
    clear hw0 hx0 HR0
    obtain ⟨i, R, d, out, vw, rfl, hi, hw, hup, hrun, hb⟩ := hrel
    by_cases hlt : i < n
    · have hiE : i < E.length := by rw [← HN.out]; exact hlt
      obtain ⟨hd, pt, s, R', d', hp, hst, hrest⟩ := runE_next hiE hrun.out
      subst hd
      obtain ⟨a2, c2, hv2, hcell⟩ := HEV.out
      obtain ⟨g, off, ha, hg, hc⟩ := hcell (fun h => by rw [h] at hiE; simp at hiE)
      injection hv2 with e4 e5 e6
      subst e4 e6
      subst ha
      obtain ⟨x, hx⟩ : ∃ x, x = E[i] := ⟨_, rfl⟩
      rw [← hx] at hp
      have hxok : x.ok := hx ▸ (tree_ok HT.out _ (List.getElem_mem hiE)).1
      have hfit := EvM.fits hxok hp
      have z := fun (j : Nat) (u : Value) (hu : x.cells[j]? = some u) => (hb.out.cell (p := ⟨g, off + i * 5 + j, none⟩) hg).trans (hc i hiE j u (by rw [← hx]; exact hu))
      have HZ := hide z
      have HOF0 := fun W => of_any x.k x.y x.m x.l x.c W x.part rfl
      rw [hp] at HOF0
      simp only [evV, optVal, Option.isSome_some] at HOF0
      have HOF := fun W => hide (HOF0 W)
      have HST := fun W vW (hW : Wr W w2.heap.size w2.heap.size vW R.reverse false) => hide (step_any hW (hup.out.small (by omega)) pt hfit 0 s R' d' hst.symm)
      have hup2 := hup.out.step false pt
      rw [hst] at hup2
      have HUP := hide hup2
      have HREST := hide hrest
      have HD := hide (done_any hw.out)
      have HLT := hide (fun k hk => (hw.out.2.2.lt k hk).1)
      clear HOF0 z hup2 hrest hst hup hrun hc hcell hx hp hxok hfit e5
      go_wp2_with fail
      (with_reducible refine (unhide HD).mono ?_)
      rintro e3 w3 ⟨rfl, rfl⟩
      have z0 : w3.cell? ⟨g, off + i * 5, none⟩ = some (.int .i64 x.k) := HZ.out 0 _ rfl
      have z1 : w3.cell? ⟨g, off + i * 5 + 1, none⟩ = some (.bool x.y) := HZ.out 1 _ rfl
      have z2 : w3.cell? ⟨g, off + i * 5 + 2, none⟩ = some (.int .u64 x.m) := HZ.out 2 _ rfl
      have z3 : w3.cell? ⟨g, off + i * 5 + 3, none⟩ = some (.string (S x.l)) := HZ.out 3 _ rfl
      have z4 : w3.cell? ⟨g, off + i * 5 + 4, none⟩ = some (.int .i64 x.c) := HZ.out 4 _ rfl
      clear HZ HD
      go_wp2_with fail
      (with_reducible refine (unhide (HOF _)).mono ?_)
      rintro e4 w4 ⟨rfl, hb4⟩
      have hw4 := hw.out.below hb4
      have H := HST w4 vw hw4
      have HB4 := hide (hb.out.trans (hb4.mono hb.out.size))
      clear z0 z1 z2 z3 z4 HOF HST hb4 hw4 hw hb
      go_wp2_with fail
      (with_reducible refine (unhide H).mono ?_)
      rintro e5 w5 ⟨rfl, v5, hw5, ho5, hf5⟩
      have hb5 : Below w2.heap.size w2 w5 := HB4.out.trans (ho5.below HB4.out.size (fun k hk => by
        rcases List.mem_cons.1 hk with rfl | hk
        · exact Nat.le_refl _
        · exact HLT.out k hk))
      clear H ho5 hf5
      go_wp2_with fail
      go_roundg (gk - 1)
      case measure => omega
      case rel => exact ⟨i + 1, R', d', out ++ s, v5, by go_num, by omega, hide hw5, HUP, HREST, hide hb5⟩
    · obtain rfl : i = n := by omega
      have hfin := hrun.out
      rw [HN.out, List.drop_length] at hfin
      simp only [runE, Option.some.injEq, Prod.mk.injEq] at hfin
      obtain ⟨rfl, rfl, _⟩ := hfin
      have bxr := BX.out.below hb.out BX.out.lt
      have x0 : wr.cell? ⟨w.heap.size, 0, none⟩ = some (.int .i64 e.k) := bxr.cellv 0 _ rfl
      have x1 : wr.cell? ⟨w.heap.size, 1, none⟩ = some (.bool e.y) := bxr.cellv 1 _ rfl
      have x2 : wr.cell? ⟨w.heap.size, 2, none⟩ = some (.int .u64 e.m) := bxr.cellv 2 _ rfl
      have x3 : wr.cell? ⟨w.heap.size, 3, none⟩ = some (.string (S e.l)) := bxr.cellv 3 _ rfl
      have x4 : wr.cell? ⟨w.heap.size, 4, none⟩ = some (.int .i64 e.c) := bxr.cellv 4 _ rfl
      have HB5 : Hid (Below w.heap.size w wr) := hide (HB2.out.trans (hb.out.mono HB2.out.size))
      clear bxr hrun hup hb
      cases hp : e.part with
      | none =>
        rw [hp] at HOFE
        simp only [optVal, Option.isSome_none] at HOFE
        clear hp
        go_wp2_with fail
        (with_reducible refine (unhide (HOFE _)).mono ?_)
        rintro e6 w6 ⟨rfl, hb6⟩
        have HD := hide (done_any (hw.out.below hb6))
        go_wp2_with fail
        (with_reducible refine (unhide HD).mono ?_)
        rintro e7 w7 ⟨rfl, rfl⟩
        go_wp2_with fail
        go_ret
        exact ⟨rfl, HB5.out.trans (hb6.mono HB5.out.size)⟩
      | some pt =>
        have hfit := EvM.fits HOK.out hp
        rw [hp] at HOFE
        simp only [optVal, Option.isSome_some] at HOFE
        clear hp
        go_wp2_with fail
        (with_reducible refine (unhide (HOFE _)).mono ?_)
        rintro e6 w6 ⟨rfl, hb6⟩
        have hw6 := hw.out.below hb6
        have HB6 := hide (HB5.out.trans (hb6.mono HB5.out.size))
        have H := hide (step_any (R := []) hw6 ⟨fun c hc => (by cases hc), by simp⟩ pt hfit 14 [] [] true (by simp [stepC]))
        clear x0 x1 x2 x3 x4 hb6
        go_wp2_with fail
        (with_reducible refine (unhide H).mono ?_)
        rintro e7 w7 ⟨rfl, v7, hw7, ho7, hf7⟩
        have HD := hide (done_any hw7)
        have HB7 : Hid (Below w.heap.size w w7) := hide (HB6.out.trans (ho7.below HB6.out.size (fun k hk => by
          rcases List.mem_cons.1 hk with rfl | hk
          · exact HB2.out.size
          · exact Nat.le_trans HB2.out.size (hw6.2.2.lt k hk).1)))
        clear H ho7 hf7 hw7
        go_wp2_with fail
        (with_reducible refine (unhide HD).mono ?_)
        rintro e8 w8 ⟨rfl, rfl⟩
        go_wp2_with fail
        go_ret
        exact ⟨rfl, HB7.out⟩
end Go.Proofs.Yteggfobeaolafaa
