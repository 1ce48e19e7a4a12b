/-
  The walk of PackoutRefuses.
-/
import Derived.Test.YteggfobeaolafaaPkDf
import Derived.Test.YteggfobeaolafaaPkW
namespace Go.Proofs.Yteggfobeaolafaa
open Go.RowKit

set_option maxRecDepth 100000 in
theorem plain_nopart (w : World) : Calls Try.prog 23 #[(.iface 9 (.string ⟨#[110, 111, 32, 112, 97, 114, 116]⟩))] w fun e w' => e = .returned (.tuple #[.agg (evV 0 false 0 [] 0), .bool false]) ∧ Below w.heap.size w w' := by
  have t1 : ∀ W, (Instr.typeAssert (.iface 9 (.string ⟨#[110, 111, 32, 112, 97, 114, 116]⟩)) 20 4 true).run Try.prog W = .ok (.tuple #[.bool false, .bool false]) W := fun W => by kernel_rfl
  have t2 : ∀ W, (Instr.typeAssert (.iface 9 (.string ⟨#[110, 111, 32, 112, 97, 114, 116]⟩)) 20 53 true).run Try.prog W = .ok (.tuple #[.agg #[.bool false, .int .u64 0], .bool false]) W := fun W => by kernel_rfl
  have t3 : ∀ W, (Instr.typeAssert (.iface 9 (.string ⟨#[110, 111, 32, 112, 97, 114, 116]⟩)) 20 64 true).run Try.prog W = .ok (.tuple #[.string (S []), .bool false]) W := fun W => by kernel_rfl
  have t4 : ∀ W, (Instr.typeAssert (.iface 9 (.string ⟨#[110, 111, 32, 112, 97, 114, 116]⟩)) 20 65 true).run Try.prog W = .ok (.tuple #[.string (S []), .bool false]) W := fun W => by kernel_rfl
  have t5 : ∀ W, (Instr.typeAssert (.iface 9 (.string ⟨#[110, 111, 32, 112, 97, 114, 116]⟩)) 20 67 true).run Try.prog W = .ok (.tuple #[.agg #[], .bool false]) W := fun W => by kernel_rfl
  have t6 : ∀ W, (Instr.typeAssert (.iface 9 (.string ⟨#[110, 111, 32, 112, 97, 114, 116]⟩)) 20 62 true).run Try.prog W = .ok (.tuple #[.agg #[.bool false, .int .i64 0], .bool false]) W := fun W => by kernel_rfl
  unfold evV
  go_enter Try.func23, Try.ntmps23
  go_wp2_with fail
  refine bodyPost_ret (v := .tuple #[.agg (evV 0 false 0 [] 0), .bool false]) (by simp [results, Try.results23, go_sem]; try rfl) rfl ⟨rfl, ?_⟩
  repeat refine Below.more ?_ (Nat.le_refl _) _
  exact Below.refl _ _
set_option maxRecDepth 100000 in
theorem step_nopart (p : Nat) (w : World) : Calls Try.prog 12 #[.pointer (some ⟨p, 0, none⟩), (.iface 9 (.string ⟨#[110, 111, 32, 112, 97, 114, 116]⟩))] w fun e w' => e = .returned (.tuple #[.string (S []), .int .i64 14]) ∧ Below w.heap.size w w' := by
  have HPL0 := plain_nopart w
  simp only [evV] at HPL0
  have HPL := hide HPL0
  clear HPL0
  go_enter Try.func12, Try.ntmps12
  go_wp2_with fail
  (with_reducible refine (unhide HPL).mono ?_)
  rintro e w1 ⟨rfl, hb1⟩
  go_wp2_with fail
  go_ret2
  exact ⟨rfl, by first | exact hb1 | exact Below.more hb1 (Nat.le_refl _) _⟩
/-- Two writers, in the same state. -/
structure Two (w : World) (B i : Nat) (R : List Cont) (d : Bool) (v vx : Value) : Prop where
  a : Wr w B B v R.reverse d
  b : Wr w B (B + 1) vx R.reverse d
  dis : ∀ k ∈ slB v, k ∉ slB vx
  upto : Upto i R
section
variable {w w' : World} {B i : Nat} {R R' : List Cont} {d d' : Bool} {v v' vx vx' : Value}
theorem Two.below (h : Two w B i R d v vx) (hb : Below w.heap.size w w') : Two w' B i R d v vx := ⟨h.a.below hb, h.b.below hb, h.dis, h.upto⟩
theorem two_ne {L L' : List Cont} (a : Wr w B B v L d) (b : Wr w B (B + 1) vx L' d') : B + 1 ∉ slB v ∧ B ∉ slB vx := ⟨a.2.2.notBlk b.2.1 (by decide), b.2.2.notBlk a.2.1 (by decide)⟩
theorem Two.keepB (h : Two w B i R d v vx) (ho : Only (B :: slB v) w w') : Wr w' B (B + 1) vx R.reverse d :=
  h.b.keep ho (by
    intro hk
    rcases List.mem_cons.1 hk with hk | hk
    · omega
    · exact (two_ne h.a h.b).1 hk) (fun k hk hk2 => by
    rcases List.mem_cons.1 hk2 with rfl | hk2
    · exact (two_ne h.a h.b).2 hk
    · exact h.dis k hk2 hk)
theorem Two.disA (h : Two w B i R d v vx) (hf : ∀ k ∈ slB v', k ∈ slB v ∨ w.heap.size ≤ k) : ∀ k ∈ slB v', k ∉ slB vx := fun k hk hx => by
  rcases hf k hk with h1 | h1
  · exact h.dis k h1 hx
  · have := (h.b.2.2.lt k hx).2; omega
end
theorem prefix_next {E : List EvM} {j : Nat} (hj : j < E.length) {X : List Cont × Bool × List UInt8} (hX : runE E [] false [] = some X) {Rj : List Cont} {dj : Bool} {oj : List UInt8} (h : runE (E.take j) [] false [] = some (Rj, dj, oj)) :
    dj = false ∧ ∃ pt s R' d', E[j].part = some pt ∧ stepC Rj dj pt = (0, s, R', d') ∧ runE (E.take (j + 1)) [] false [] = some (R', d', oj ++ s) := by
  have h1 : runE (E.take j ++ E.drop j) [] false [] = some X := by rw [List.take_append_drop]; exact hX
  rw [runE_append, h] at h1
  simp only [Option.bind_some] at h1
  obtain ⟨hd, pt, s, R', d', hp, hst, _⟩ := runE_next hj h1
  refine ⟨hd, pt, s, R', d', hp, hst, ?_⟩
  rw [take_snoc E j hj, runE_append, h]
  simp only [Option.bind_some]
  rw [runE_cons (e := E[j]) (s := s) (R' := R') (d' := d') (by rw [hp]; exact hst)]
  rfl
theorem try_part {w : World} {B i : Nat} {R : List Cont} {vw vx : Value} (h : Two w B i R false vw vx) (hi : i ≤ 1000000) (pt : Part) (hfit : pt.fits = true) (k2 : Int) (s2 : List UInt8) (R2 : List Cont) (d2 : Bool) (hst : (k2, s2, R2, d2) = stepC R false pt) (hk : k2 ≠ 0) :
    Calls Try.prog 12 #[.pointer (some ⟨B, 0, none⟩), pt.val] w fun e w' => e = .returned (.tuple #[.string (S []), .int .i64 k2]) ∧ ∃ v', Two w' B i R false v' vx ∧ Below B w w' := by
  have h0 := stepC_err2 R false pt (by rw [← hst]; exact hk)
  rw [← hst] at h0
  simp only [Prod.mk.injEq, true_and] at h0
  obtain ⟨rfl, rfl, rfl⟩ := h0
  refine (step_any h.a (h.upto.small hi) pt hfit k2 [] R2 false hst).mono fun e w' hw => ?_
  obtain ⟨rfl, v', h1, h2, h3⟩ := hw
  exact ⟨rfl, v', ⟨h1, h.keepB h2, h.disA h3, h.upto⟩, h2.below (Nat.le_of_lt h.a.2.1.lt) (fun k hk => by
    rcases List.mem_cons.1 hk with rfl | hk
    · exact Nat.le_refl _
    · exact (h.a.2.2.lt k hk).1)⟩
theorem try_no {w : World} {B i : Nat} {R : List Cont} {vw vx : Value} (h : Two w B i R false vw vx) (k2 : Int) (s2 : List UInt8) (R2 : List Cont) (d2 : Bool) (hst : (k2, s2, R2, d2) = stepE R false none) :
    Calls Try.prog 12 #[.pointer (some ⟨B, 0, none⟩), (.iface 9 (.string ⟨#[110, 111, 32, 112, 97, 114, 116]⟩))] w fun e w' => e = .returned (.tuple #[.string (S []), .int .i64 k2]) ∧ ∃ v', Two w' B i R false v' vx ∧ Below B w w' := by
  have hk : k2 = 14 := by injection hst
  subst hk
  refine (step_nopart B w).mono fun e w' hw => ?_
  obtain ⟨rfl, hb⟩ := hw
  exact ⟨rfl, vw, h.below hb, hb.mono (Nat.le_of_lt h.a.2.1.lt)⟩
/-- The first one has gone on, the second one not yet. -/
structure Half (w : World) (B i : Nat) (R R' : List Cont) (d' : Bool) (v vx : Value) : Prop where
  a : Wr w B B v R'.reverse d'
  b : Wr w B (B + 1) vx R.reverse false
  dis : ∀ k ∈ slB v, k ∉ slB vx
  upto : Upto i R
theorem two_stepA {w : World} {B i : Nat} {R : List Cont} {vw vx : Value} (h : Two w B i R false vw vx) (hi : i ≤ 1000000) (pt : Part) (hfit : pt.fits = true) (s : List UInt8) (R' : List Cont) (d' : Bool) (hst : stepC R false pt = (0, s, R', d')) :
    Calls Try.prog 12 #[.pointer (some ⟨B, 0, none⟩), pt.val] w fun e w' => e = .returned (.tuple #[.string (S s), .int .i64 0]) ∧ ∃ v', Half w' B i R R' d' v' vx ∧ Below B w w' := by
  refine (step_any h.a (h.upto.small hi) pt hfit 0 s R' d' hst.symm).mono fun e w' hw => ?_
  obtain ⟨rfl, v', h1, h2, h3⟩ := hw
  exact ⟨rfl, v', ⟨h1, h.keepB h2, h.disA h3, h.upto⟩, h2.below (Nat.le_of_lt h.a.2.1.lt) (fun k hk => by
    rcases List.mem_cons.1 hk with rfl | hk
    · exact Nat.le_refl _
    · exact (h.a.2.2.lt k hk).1)⟩
theorem two_stepB {w : World} {B i : Nat} {R R' : List Cont} {d' : Bool} {vw vx : Value} (h : Half w B i R R' d' vw vx) (hi : i ≤ 1000000) (pt : Part) (hfit : pt.fits = true) (s : List UInt8) (hst : stepC R false pt = (0, s, R', d')) :
    Calls Try.prog 12 #[.pointer (some ⟨B + 1, 0, none⟩), pt.val] w fun e w' => e = .returned (.tuple #[.string (S s), .int .i64 0]) ∧ ∃ vx', Two w' B (i + 1) R' d' vw vx' ∧ Below B w w' := by
  have hne := two_ne h.a h.b
  refine (step_any h.b (h.upto.small hi) pt hfit 0 s R' d' hst.symm).mono fun e w' hw => ?_
  obtain ⟨rfl, v', h1, h2, h3⟩ := hw
  have hup := h.upto.step false pt
  rw [hst] at hup
  refine ⟨rfl, v', ⟨h.a.keep h2 ?_ ?_, h1, fun k hk hx => ?_, hup⟩, h2.below (Nat.le_of_lt h.a.2.1.lt) (fun k hk => ?_)⟩
  · intro hk
    rcases List.mem_cons.1 hk with hk | hk
    · omega
    · exact hne.2 hk
  · intro k hk hk2
    rcases List.mem_cons.1 hk2 with rfl | hk2
    · exact hne.1 hk
    · exact h.dis k hk hk2
  · rcases h3 k hx with h4 | h4
    · exact h.dis k hk h4
    · have := (h.a.2.2.lt k hk).2; omega
  · rcases List.mem_cons.1 hk with rfl | hk
    · omega
    · exact (h.b.2.2.lt k hk).1
set_option maxRecDepth 100000 in
theorem refuses_no {w : World} {a : Option Addr} {len cap : Nat} {at0 : Int} {e : EvM} (hl : len ≤ 9223372036854775807) (h : 50 < len ∨ 100 < e.l.length) :
    Calls Try.prog 4 #[.slice a len cap, .int .i64 at0, .agg e.cells] w fun e w' => e = .returned (.bool true) ∧ Below w.heap.size w w' := by
  have HA := fun W => hide (alive_any W)
  have hl2 := Lib.hid hl
  clear hl
  simp only [EvM.cells, evV]
  by_cases h1 : 50 < len
  · have h2 : (50 : Int) < len := by omega
    clear h
    go_enter Try.func4, Try.ntmps4
    go_wp2_with fail
    (with_reducible refine (unhide (HA _)).mono ?_)
    rintro e w1 ⟨rfl, hb⟩
    go_wp2_with fail
    go_ret
    exact ⟨rfl, (Below.more (Below.refl _ _) (Nat.le_refl _) _).trans (hb.mono (by simp))⟩
  · have h2 : ¬ (50 : Int) < len := by omega
    have h3 : (100 : Int) < e.l.length := by omega
    clear h
    go_enter Try.func4, Try.ntmps4
    go_wp2_with fail
    (with_reducible refine (unhide (HA _)).mono ?_)
    rintro e w1 ⟨rfl, hb⟩
    go_wp2_with fail
    go_ret
    exact ⟨rfl, (Below.more (Below.refl _ _) (Nat.le_refl _) _).trans (hb.mono (by simp))⟩
set_option maxRecDepth 100000 in
set_option maxHeartbeats 8000000 in
theorem refuses_yes {w : World} {a : Option Addr} {len cap : Nat} {z : List Int} {at0 : Int} {e : EvM} (hr : IsRow .i64 w a len cap z) (hl : len ≤ 50) (hel : e.l.length ≤ 100) (hm : 0 ≤ e.m) (hm64 : e.m < 18446744073709551616) (hc : e.c ≤ 9223372036854775807) :
    Calls Try.prog 4 #[.slice a len cap, .int .i64 at0, .agg e.cells] w fun e w' => e = .returned (.bool true) ∧ Below w.heap.size w w' := by
  have HA := fun W => hide (alive_any W)
  have h2 : ¬ (50 : Int) < len := by omega
  have h3 : ¬ (100 : Int) < e.l.length := by omega
  have HDOC : ∀ W, Below w.heap.size w W → Hid (Calls Try.prog 20 #[.slice a len cap, .int .i64 6] W fun e w' => ∃ (E : List EvM) (v : Value), e = .returned v ∧ Tree 0 0 E ∧ E.length ≤ 50000 ∧ SlN w' W.heap.size 34 5 v E.length (evsV E) ∧ Below W.heap.size W w') := fun W hW => hide (doc_any (isRow_below hr hW) 6 (by omega) 6 rfl)
  have HOK : Hid e.ok := hide ⟨hm, by omega, hc, hm64⟩
  have HOF0 := fun W => of_any e.k e.y e.m e.l e.c W e.part rfl
  simp only [evV] at HOF0
  clear hm hm64 hc hr
  simp only [EvM.cells, evV]
  go_enter Try.func4, Try.ntmps4
  go_wp2_with fail
  (with_reducible refine (unhide (HA _)).mono ?_)
  rintro e1 w1 ⟨rfl, hb1⟩
  have bx := (Blk.new w 34 #[.int .i64 e.k, .bool e.y, .int .u64 e.m, .string (S e.l), .int .i64 e.c]).below hb1 (by simp)
  have HB1 : Hid (Below w.heap.size w w1) := hide ((Below.more (Below.refl _ _) (Nat.le_refl _) _).trans (hb1.mono (by simp)))
  clear hb1 HA
  go_wp2_with fail
  (with_reducible refine (unhide (HDOC _ HB1.out)).mono ?_)
  rintro e2 w2 ⟨E, v, rfl, hT, hE5, hsl, hb2⟩
  have hev := evsAt_sl hsl
  have bx2 := bx.below hb2 bx.lt
  have HB2 := hide (HB1.out.trans (hb2.mono HB1.out.size))
  have HT := hide hT
  obtain ⟨O, hrun⟩ := tree_runs hT
  have HR0 := hide hrun
  have hne := tree_ne hT
  obtain ⟨a1, c1, hv, hcell⟩ := hev
  obtain ⟨g, off, rfl, hg, hc⟩ := hcell hne
  subst hv
  have HC := hide hc
  obtain ⟨n, hn⟩ : ∃ n, n = E.length := ⟨_, rfl⟩
  have hn0 : 0 < n := by rw [hn]; exact List.length_pos_iff.2 hne
  rw [← hn] at hE5 ⊢
  have HN := hide hn
  have hn2 : (n : Int) ≤ 50000 := by omega
  have hn3 : (0 : Int) < n := by omega
  have hn4 : ((n : Int) == 0) = false := by simp; omega
  obtain ⟨tm, htm, htm1, htm2⟩ : ∃ tm : Int, at0.tmod (n : Int) = tm ∧ -(n : Int) < tm ∧ tm < n := ⟨_, rfl, Int.lt_tmod_of_pos _ hn3, Int.tmod_lt_of_pos _ hn3⟩
  obtain ⟨kk, hkk, hkn⟩ : ∃ kk : Nat, (tm + n) % (n : Int) = kk ∧ kk < n := ⟨((tm + n) % (n : Int)).toNat, by have := Int.emod_nonneg (tm + n) (show (n : Int) ≠ 0 by omega); omega, by have := Int.emod_lt_of_pos (tm + n) hn3; have := Int.emod_nonneg (tm + n) (show (n : Int) ≠ 0 by omega); omega⟩
  have hw0 : Wr ((w2.alloc (.cells #[.slice none 0 0, .bool false] 27)).alloc (.cells #[.slice none 0 0, .bool false] 27)) w2.heap.size w2.heap.size (.slice none 0 0) [] false := ⟨Nat.le_refl _, (Blk.new w2 27 _).alloc _, SlN.nil _ _ _ _⟩
  have hw1 : Wr ((w2.alloc (.cells #[.slice none 0 0, .bool false] 27)).alloc (.cells #[.slice none 0 0, .bool false] 27)) w2.heap.size (w2.heap.size + 1) (.slice none 0 0) [] false := ⟨by omega, by simpa using Blk.new (w2.alloc (.cells #[.slice none 0 0, .bool false] 27)) 27 #[.slice none 0 0, .bool false], SlN.nil _ _ _ _⟩
  have hx0 : Below w2.heap.size w2 ((w2.alloc (.cells #[.slice none 0 0, .bool false] 27)).alloc (.cells #[.slice none 0 0, .bool false] 27)) := Below.more (Below.more (Below.refl _ _) (Nat.le_refl _) _) (Nat.le_refl _) _
  have HTW0 : Hid (Two _ w2.heap.size 0 [] false (.slice none 0 0) (.slice none 0 0)) := hide ⟨hw0, hw1, fun k hk => by simp [slB] at hk, ⟨fun c hc => (by cases hc), Nat.le_refl 0⟩⟩
  have HX0 := hide hx0
  have BX := hide bx2
  have hpx := bx2.lt
  clear bx bx2 hsl hb2 HDOC hT hrun hn hw0 hw1 hx0 hc hcell hne
  go_wp2_with fail
  rw [hkk]
  clear hkk htm
  go_loopg [11, 12, 13, 14, 15, 16, 17, 18, 19, 20, 21, 22, 23, 24, 25, 58] n (fun g s11 s12 s13 s14 s15 s16 s17 s18 s19 s20 s21 s22 s23 s24 s25 s58 wr => ∃ (i : Nat) (R : List Cont) (d : Bool) (out : List UInt8) (vw vx : Value), s58 = .int .i64 i ∧ i + g = n ∧ Hid (Two wr w2.heap.size i R d vw vx) ∧ Hid (runE (E.take i) [] false [] = some (R, d, out)) ∧ Hid (Below w2.heap.size w2 wr))
  case atStart => exact ⟨0, [], false, [], _, _, rfl, by omega, HTW0, hide rfl, HX0⟩
  case round =>
    clear HTW0 HX0
    obtain ⟨i, R, d, out, vw, vx, rfl, hi, htw, HRT, hb⟩ := hrel
    by_cases hlt : i < n
    · have hiE : i < E.length := by rw [← HN.out]; exact hlt
      obtain ⟨hd, pt0, s0, R0, d0, hp0, hst0, hrest⟩ := prefix_next hiE HR0.out HRT.out
      subst hd
      have HP0 := hide hp0
      have HST0 := hide hst0
      have HREST := hide hrest
      clear hp0 hst0 hrest
      go_upto_if 63 with (fail)
      go_cut [] (fun wx => ∃ vw, Hid (Two wx w2.heap.size i R false vw vx) ∧ Hid (Below w2.heap.size w2 wx))
      case first =>
        clear HP0 HST0 HREST
        by_cases hik : i = kk
        · have hik2 : ((i : Int) == kk) = true := by simp [hik]
          clear hik
          have BXW := (BX.out.below hb.out BX.out.lt)
          have x0 : wr.cell? ⟨w.heap.size, 0, none⟩ = some (.int .i64 e.k) := (BXW).cellv 0 _ rfl
          have x1 : wr.cell? ⟨w.heap.size, 1, none⟩ = some (.bool e.y) := (BXW).cellv 1 _ rfl
          have x2 : wr.cell? ⟨w.heap.size, 2, none⟩ = some (.int .u64 e.m) := (BXW).cellv 2 _ rfl
          have x3 : wr.cell? ⟨w.heap.size, 3, none⟩ = some (.string (S e.l)) := (BXW).cellv 3 _ rfl
          have x4 : wr.cell? ⟨w.heap.size, 4, none⟩ = some (.int .i64 e.c) := (BXW).cellv 4 _ rfl
          clear BXW
          cases hp : e.part with
          | none =>
            have HOF1 := HOF0
            rw [hp] at HOF1
            simp only [optVal, Option.isSome_none] at HOF1
            have HOFE := fun W => hide (HOF1 W)
            have HPE := hide hp
            clear HOF1 HOF0 hp
            go_wp2_with fail
            (with_reducible refine (unhide (HOFE _)).mono ?_)
            rintro e3 w3 ⟨rfl, hb3⟩
            have HB3 := hide (hb.out.trans (hb3.mono hb.out.size))
            have HTW3 := hide (htw.out.below hb3)
            have hvw3 : w3.heap.size ∉ slB vw := fun hk => by have := (htw.out.a.2.2.lt _ hk).2; have := hb3.size; omega
            have hvx3 : w3.heap.size ∉ slB vx := fun hk => by have := (htw.out.b.2.2.lt _ hk).2; have := hb3.size; omega
            have htl : w2.heap.size + 1 < w3.heap.size := by have := htw.out.b.2.1.lt; have := hb3.size; omega
            have hp0 : RWr (w3.alloc (.cells #[.int .i64 3, .slice none 0 0, .bool false] 31)) w3.heap.size w3.heap.size (.slice none 0 0) [] false := ⟨Nat.le_refl _, Blk.new w3 31 _, SlN.nil _ _ _ _⟩
            have HP0 := hide hp0
            clear x0 x1 x2 x3 x4 hb3 hp0 htw hb
            go_wp2_with fail
            go_loopg [15] i (fun g s15 wr => ∃ (j : Nat) (Rj : List Cont) (dj : Bool) (oj : List UInt8) (vp : Value), s15 = .int .i64 j ∧ j + g = i ∧ Hid (RWr wr w3.heap.size w3.heap.size vp Rj.reverse dj) ∧ Hid (Upto j Rj ∧ InvC Rj) ∧ Hid (runE (E.take j) [] false [] = some (Rj, dj, oj)) ∧ Hid (Below w3.heap.size w3 wr))
            case atStart => exact ⟨0, [], false, [], _, rfl, by omega, HP0, hide ⟨⟨fun c hc => (by cases hc), Nat.le_refl 0⟩, InvC.nil⟩, hide rfl, hide (Below.more (Below.refl _ _) (Nat.le_refl _) _)⟩
            case round =>
              clear HP0
              obtain ⟨j, Rj, dj, oj, vp, rfl, hj, hpw, hui, hrj, hbj⟩ := hrel
              have HBW : Hid (Below w2.heap.size w2 wr) := hide (HB3.out.trans (hbj.out.mono HB3.out.size))
              by_cases hji : j < i
              · have hjE : j < E.length := by omega
                obtain ⟨hdj, ptj, sj, Rj', dj', hpj, hstj, hrj'⟩ := prefix_next hjE HR0.out hrj.out
                subst hdj
                obtain ⟨x, hx⟩ : ∃ x, x = E[j] := ⟨_, rfl⟩
                rw [← hx] at hpj
                have hxo := tree_ok HT.out _ (List.getElem_mem hjE)
                rw [← hx] at hxo
                have HZ : Hid (∀ W, Below w2.heap.size w2 W → ∀ (k : Nat) (u : Value), x.cells[k]? = some u → W.cell? ⟨g, off + j * 5 + k, none⟩ = some u) := hide fun W hb k u hu => (hb.cell (p := ⟨g, off + j * 5 + k, none⟩) hg).trans (HC.out j hjE k u (by rw [← hx]; exact hu))
                have z0 : wr.cell? ⟨g, off + j * 5, none⟩ = some (.int .i64 x.k) := HZ.out wr HBW.out 0 _ rfl
                have z1 : wr.cell? ⟨g, off + j * 5 + 1, none⟩ = some (.bool x.y) := HZ.out wr HBW.out 1 _ rfl
                have z2 : wr.cell? ⟨g, off + j * 5 + 2, none⟩ = some (.int .u64 x.m) := HZ.out wr HBW.out 2 _ rfl
                have z3 : wr.cell? ⟨g, off + j * 5 + 3, none⟩ = some (.string (S x.l)) := HZ.out wr HBW.out 3 _ rfl
                have z4 : wr.cell? ⟨g, off + j * 5 + 4, none⟩ = some (.int .i64 x.c) := HZ.out wr HBW.out 4 _ rfl
                have HRS0 := refstep_any hpw.out (hui.out.1.small (by omega)) hui.out.2 x hxo.1 0 sj Rj' dj' (by rw [hpj]; exact hstj.symm)
                simp only [EvM.cells, evV] at HRS0
                have HRS := hide HRS0
                have hup2 := hui.out.1.step false ptj
                have hin2 := hui.out.2.step false (pt := ptj)
                rw [hstj] at hup2 hin2
                have HUI := hide (And.intro hup2 hin2)
                have HRJ := hide hrj'
                clear HRS0 hup2 hin2 hrj' hstj hpj hx hxo hui hrj hpw
                go_wp2_with fail
                (with_reducible refine (unhide HRS).mono ?_)
                rintro e5 w5 ⟨rfl, vp', hp5, ho5, hf5⟩
                have hb5 : Below w3.heap.size w3 w5 := hbj.out.trans (ho5.below hbj.out.size (fun k hk => by rw [List.mem_singleton.1 hk]; exact Nat.le_refl _))
                clear HRS ho5 hf5 z0 z1 z2 z3 z4 HZ
                go_wp2_with fail
                go_roundg (gk - 1)
                case measure => omega
                case rel => exact ⟨j + 1, Rj', dj', oj ++ sj, vp', by go_num, by omega, hide hp5, HUI, HRJ, hide hb5⟩
              · obtain rfl : j = i := by omega
                have heq := HRT.out
                rw [hrj.out] at heq
                simp only [Option.some.injEq, Prod.mk.injEq] at heq
                obtain ⟨rfl, rfl, rfl⟩ := heq
                obtain ⟨k2, s2, R2, d2, hst2⟩ : ∃ k2 s2 R2 d2, (k2, s2, R2, d2) = stepE Rj false e.part := ⟨_, _, _, _, rfl⟩
                have HTW : Hid (Two wr w2.heap.size j Rj false vw vx) := hide (HTW3.out.below hbj.out)
                have BXW := (BX.out.below HBW.out BX.out.lt)
                have x0 : wr.cell? ⟨w.heap.size, 0, none⟩ = some (.int .i64 e.k) := (BXW).cellv 0 _ rfl
                have x1 : wr.cell? ⟨w.heap.size, 1, none⟩ = some (.bool e.y) := (BXW).cellv 1 _ rfl
                have x2 : wr.cell? ⟨w.heap.size, 2, none⟩ = some (.int .u64 e.m) := (BXW).cellv 2 _ rfl
                have x3 : wr.cell? ⟨w.heap.size, 3, none⟩ = some (.string (S e.l)) := (BXW).cellv 3 _ rfl
                have x4 : wr.cell? ⟨w.heap.size, 4, none⟩ = some (.int .i64 e.c) := (BXW).cellv 4 _ rfl
                have hpw2 := hpw.out
                have HRS0 := fun W (hW : RWr W w3.heap.size w3.heap.size vp Rj.reverse false) => refstep_any hW (hui.out.1.small (by omega)) hui.out.2 e.tidy (tidy_ok HOK.out) k2 s2 R2 d2 (by rw [tidy_part]; exact hst2)
                have HT0 := fun W => reftidy_any e W
                simp only [EvM.cells, evV] at HRS0 HT0
                have HRS := fun W hW => hide (HRS0 W hW)
                have HTD := fun W => hide (HT0 W)
                have HST2 := hide hst2
                clear HRS0 HT0 hst2 hrj hpw BXW HTW3
                go_wp2_with fail
                (with_reducible refine (unhide (HTD _)).mono ?_)
                rintro e5 w5 ⟨rfl, hb5⟩
                have H := HRS w5 (hpw2.below hb5)
                have HTW5 := hide (HTW.out.below hb5)
                have HB5 := hide (HBW.out.trans (hb5.mono HBW.out.size))
                have hz5 : w3.heap.size ≤ w5.heap.size := Nat.le_trans hbj.out.size hb5.size
                clear x0 x1 x2 x3 x4 hb5 HTD HRS hpw2 HTW
                go_wp2_with fail
                (with_reducible refine (unhide H).mono ?_)
                rintro e6 w6 ⟨rfl, vp6, hp6, ho6, hf6⟩
                have HTW6 : Hid (Two w6 w2.heap.size j Rj false vw vx) := hide (by
                  have h0 := HTW5.out
                  have hq3 := HB3.out.size
                  refine ⟨h0.a.keep ho6 ?_ ?_, h0.b.keep ho6 ?_ ?_, h0.dis, h0.upto⟩
                  · intro hk; rw [List.mem_singleton] at hk; have := htl; omega
                  · intro k hk hk2; rw [List.mem_singleton.1 hk2] at hk; exact hvw3 hk
                  · intro hk; rw [List.mem_singleton] at hk; have := htl; omega
                  · intro k hk hk2; rw [List.mem_singleton.1 hk2] at hk; exact hvx3 hk)
                have HB6 : Hid (Below w2.heap.size w2 w6) := hide (HB5.out.trans (ho6.below HB5.out.size (fun k hk => by rw [List.mem_singleton.1 hk]; exact HB3.out.size)))
                clear H HTW5 HB5 ho6 hf6 hp6
                by_cases hk2 : k2 = 0
                · have hk3 : (k2 != 0) = false := by simpa using hk2
                  clear hk2
                  go_wp2_with fail
                  go_meet
                  exact ⟨vw, HTW6, HB6⟩
                · have hk3 : (k2 != 0) = true := by simpa using hk2
                  have HSV := hide (try_no HTW6.out k2 s2 R2 d2 (by rw [← HPE.out]; exact HST2.out))
                  clear hk2
                  go_wp2_with fail
                  (with_reducible refine (unhide HSV).mono ?_)
                  rintro e7 w7 ⟨rfl, v7, htw7, hb7⟩
                  go_wp2_with fail
                  go_meet
                  exact ⟨v7, hide htw7, hide (HB6.out.trans hb7)⟩
          | some pt =>
            have hfit := EvM.fits HOK.out hp
            have HOF1 := HOF0
            rw [hp] at HOF1
            simp only [optVal, Option.isSome_some] at HOF1
            have HOFE := fun W => hide (HOF1 W)
            have HPE := hide hp
            have HFIT := hide hfit
            clear HOF1 HOF0 hp hfit
            go_wp2_with fail
            (with_reducible refine (unhide (HOFE _)).mono ?_)
            rintro e3 w3 ⟨rfl, hb3⟩
            have HB3 := hide (hb.out.trans (hb3.mono hb.out.size))
            have HTW3 := hide (htw.out.below hb3)
            have hvw3 : w3.heap.size ∉ slB vw := fun hk => by have := (htw.out.a.2.2.lt _ hk).2; have := hb3.size; omega
            have hvx3 : w3.heap.size ∉ slB vx := fun hk => by have := (htw.out.b.2.2.lt _ hk).2; have := hb3.size; omega
            have htl : w2.heap.size + 1 < w3.heap.size := by have := htw.out.b.2.1.lt; have := hb3.size; omega
            have hp0 : RWr (w3.alloc (.cells #[.int .i64 3, .slice none 0 0, .bool false] 31)) w3.heap.size w3.heap.size (.slice none 0 0) [] false := ⟨Nat.le_refl _, Blk.new w3 31 _, SlN.nil _ _ _ _⟩
            have HP0 := hide hp0
            clear x0 x1 x2 x3 x4 hb3 hp0 htw hb
            go_wp2_with fail
            go_loopg [15] i (fun g s15 wr => ∃ (j : Nat) (Rj : List Cont) (dj : Bool) (oj : List UInt8) (vp : Value), s15 = .int .i64 j ∧ j + g = i ∧ Hid (RWr wr w3.heap.size w3.heap.size vp Rj.reverse dj) ∧ Hid (Upto j Rj ∧ InvC Rj) ∧ Hid (runE (E.take j) [] false [] = some (Rj, dj, oj)) ∧ Hid (Below w3.heap.size w3 wr))
            case atStart => exact ⟨0, [], false, [], _, rfl, by omega, HP0, hide ⟨⟨fun c hc => (by cases hc), Nat.le_refl 0⟩, InvC.nil⟩, hide rfl, hide (Below.more (Below.refl _ _) (Nat.le_refl _) _)⟩
            case round =>
              clear HP0
              obtain ⟨j, Rj, dj, oj, vp, rfl, hj, hpw, hui, hrj, hbj⟩ := hrel
              have HBW : Hid (Below w2.heap.size w2 wr) := hide (HB3.out.trans (hbj.out.mono HB3.out.size))
              by_cases hji : j < i
              · have hjE : j < E.length := by omega
                obtain ⟨hdj, ptj, sj, Rj', dj', hpj, hstj, hrj'⟩ := prefix_next hjE HR0.out hrj.out
                subst hdj
                obtain ⟨x, hx⟩ : ∃ x, x = E[j] := ⟨_, rfl⟩
                rw [← hx] at hpj
                have hxo := tree_ok HT.out _ (List.getElem_mem hjE)
                rw [← hx] at hxo
                have HZ : Hid (∀ W, Below w2.heap.size w2 W → ∀ (k : Nat) (u : Value), x.cells[k]? = some u → W.cell? ⟨g, off + j * 5 + k, none⟩ = some u) := hide fun W hb k u hu => (hb.cell (p := ⟨g, off + j * 5 + k, none⟩) hg).trans (HC.out j hjE k u (by rw [← hx]; exact hu))
                have z0 : wr.cell? ⟨g, off + j * 5, none⟩ = some (.int .i64 x.k) := HZ.out wr HBW.out 0 _ rfl
                have z1 : wr.cell? ⟨g, off + j * 5 + 1, none⟩ = some (.bool x.y) := HZ.out wr HBW.out 1 _ rfl
                have z2 : wr.cell? ⟨g, off + j * 5 + 2, none⟩ = some (.int .u64 x.m) := HZ.out wr HBW.out 2 _ rfl
                have z3 : wr.cell? ⟨g, off + j * 5 + 3, none⟩ = some (.string (S x.l)) := HZ.out wr HBW.out 3 _ rfl
                have z4 : wr.cell? ⟨g, off + j * 5 + 4, none⟩ = some (.int .i64 x.c) := HZ.out wr HBW.out 4 _ rfl
                have HRS0 := refstep_any hpw.out (hui.out.1.small (by omega)) hui.out.2 x hxo.1 0 sj Rj' dj' (by rw [hpj]; exact hstj.symm)
                simp only [EvM.cells, evV] at HRS0
                have HRS := hide HRS0
                have hup2 := hui.out.1.step false ptj
                have hin2 := hui.out.2.step false (pt := ptj)
                rw [hstj] at hup2 hin2
                have HUI := hide (And.intro hup2 hin2)
                have HRJ := hide hrj'
                clear HRS0 hup2 hin2 hrj' hstj hpj hx hxo hui hrj hpw
                go_wp2_with fail
                (with_reducible refine (unhide HRS).mono ?_)
                rintro e5 w5 ⟨rfl, vp', hp5, ho5, hf5⟩
                have hb5 : Below w3.heap.size w3 w5 := hbj.out.trans (ho5.below hbj.out.size (fun k hk => by rw [List.mem_singleton.1 hk]; exact Nat.le_refl _))
                clear HRS ho5 hf5 z0 z1 z2 z3 z4 HZ
                go_wp2_with fail
                go_roundg (gk - 1)
                case measure => omega
                case rel => exact ⟨j + 1, Rj', dj', oj ++ sj, vp', by go_num, by omega, hide hp5, HUI, HRJ, hide hb5⟩
              · obtain rfl : j = i := by omega
                have heq := HRT.out
                rw [hrj.out] at heq
                simp only [Option.some.injEq, Prod.mk.injEq] at heq
                obtain ⟨rfl, rfl, rfl⟩ := heq
                obtain ⟨k2, s2, R2, d2, hst2⟩ : ∃ k2 s2 R2 d2, (k2, s2, R2, d2) = stepE Rj false e.part := ⟨_, _, _, _, rfl⟩
                have HTW : Hid (Two wr w2.heap.size j Rj false vw vx) := hide (HTW3.out.below hbj.out)
                have BXW := (BX.out.below HBW.out BX.out.lt)
                have x0 : wr.cell? ⟨w.heap.size, 0, none⟩ = some (.int .i64 e.k) := (BXW).cellv 0 _ rfl
                have x1 : wr.cell? ⟨w.heap.size, 1, none⟩ = some (.bool e.y) := (BXW).cellv 1 _ rfl
                have x2 : wr.cell? ⟨w.heap.size, 2, none⟩ = some (.int .u64 e.m) := (BXW).cellv 2 _ rfl
                have x3 : wr.cell? ⟨w.heap.size, 3, none⟩ = some (.string (S e.l)) := (BXW).cellv 3 _ rfl
                have x4 : wr.cell? ⟨w.heap.size, 4, none⟩ = some (.int .i64 e.c) := (BXW).cellv 4 _ rfl
                have hpw2 := hpw.out
                have HRS0 := fun W (hW : RWr W w3.heap.size w3.heap.size vp Rj.reverse false) => refstep_any hW (hui.out.1.small (by omega)) hui.out.2 e.tidy (tidy_ok HOK.out) k2 s2 R2 d2 (by rw [tidy_part]; exact hst2)
                have HT0 := fun W => reftidy_any e W
                simp only [EvM.cells, evV] at HRS0 HT0
                have HRS := fun W hW => hide (HRS0 W hW)
                have HTD := fun W => hide (HT0 W)
                have HST2 := hide hst2
                clear HRS0 HT0 hst2 hrj hpw BXW HTW3
                go_wp2_with fail
                (with_reducible refine (unhide (HTD _)).mono ?_)
                rintro e5 w5 ⟨rfl, hb5⟩
                have H := HRS w5 (hpw2.below hb5)
                have HTW5 := hide (HTW.out.below hb5)
                have HB5 := hide (HBW.out.trans (hb5.mono HBW.out.size))
                have hz5 : w3.heap.size ≤ w5.heap.size := Nat.le_trans hbj.out.size hb5.size
                clear x0 x1 x2 x3 x4 hb5 HTD HRS hpw2 HTW
                go_wp2_with fail
                (with_reducible refine (unhide H).mono ?_)
                rintro e6 w6 ⟨rfl, vp6, hp6, ho6, hf6⟩
                have HTW6 : Hid (Two w6 w2.heap.size j Rj false vw vx) := hide (by
                  have h0 := HTW5.out
                  have hq3 := HB3.out.size
                  refine ⟨h0.a.keep ho6 ?_ ?_, h0.b.keep ho6 ?_ ?_, h0.dis, h0.upto⟩
                  · intro hk; rw [List.mem_singleton] at hk; have := htl; omega
                  · intro k hk hk2; rw [List.mem_singleton.1 hk2] at hk; exact hvw3 hk
                  · intro hk; rw [List.mem_singleton] at hk; have := htl; omega
                  · intro k hk hk2; rw [List.mem_singleton.1 hk2] at hk; exact hvx3 hk)
                have HB6 : Hid (Below w2.heap.size w2 w6) := hide (HB5.out.trans (ho6.below HB5.out.size (fun k hk => by rw [List.mem_singleton.1 hk]; exact HB3.out.size)))
                clear H HTW5 HB5 ho6 hf6 hp6
                by_cases hk2 : k2 = 0
                · have hk3 : (k2 != 0) = false := by simpa using hk2
                  clear hk2
                  go_wp2_with fail
                  go_meet
                  exact ⟨vw, HTW6, HB6⟩
                · have hk3 : (k2 != 0) = true := by simpa using hk2
                  have HSV := hide (try_part HTW6.out (by omega) pt HFIT.out k2 s2 R2 d2 (by have h9 := HST2.out; rw [HPE.out] at h9; exact h9) hk2)
                  clear hk2
                  go_wp2_with fail
                  (with_reducible refine (unhide HSV).mono ?_)
                  rintro e7 w7 ⟨rfl, v7, htw7, hb7⟩
                  go_wp2_with fail
                  go_meet
                  exact ⟨v7, hide htw7, hide (HB6.out.trans hb7)⟩
        · have hik2 : ((i : Int) == kk) = false := by simp; omega
          clear hik
          go_wp2_with fail
          go_meet
          exact ⟨vw, htw, hb⟩
      case rest =>
        obtain ⟨vw, htw, hb⟩ := hcut
        obtain ⟨x, hx⟩ : ∃ x, x = E[i] := ⟨_, rfl⟩
        have hp := HP0.out
        rw [← hx] at hp
        have hxok : x.ok := hx ▸ (tree_ok HT.out _ (List.getElem_mem hiE)).1
        have hfit := EvM.fits hxok hp
        have HZ : Hid (∀ W, Below w2.heap.size w2 W → ∀ (k : Nat) (u : Value), x.cells[k]? = some u → W.cell? ⟨g, off + i * 5 + k, none⟩ = some u) := hide fun W hb k u hu => (hb.cell (p := ⟨g, off + i * 5 + k, none⟩) hg).trans (HC.out i hiE k u (by rw [← hx]; exact hu))
        have z0 : wc.cell? ⟨g, off + i * 5, none⟩ = some (.int .i64 x.k) := HZ.out wc hb.out 0 _ rfl
        have z1 : wc.cell? ⟨g, off + i * 5 + 1, none⟩ = some (.bool x.y) := HZ.out wc hb.out 1 _ rfl
        have z2 : wc.cell? ⟨g, off + i * 5 + 2, none⟩ = some (.int .u64 x.m) := HZ.out wc hb.out 2 _ rfl
        have z3 : wc.cell? ⟨g, off + i * 5 + 3, none⟩ = some (.string (S x.l)) := HZ.out wc hb.out 3 _ rfl
        have z4 : wc.cell? ⟨g, off + i * 5 + 4, none⟩ = some (.int .i64 x.c) := HZ.out wc hb.out 4 _ rfl
        have HOF1 := fun W => of_any x.k x.y x.m x.l x.c W x.part rfl
        rw [hp] at HOF1
        simp only [evV, optVal, Option.isSome_some] at HOF1
        have HOF := fun W => hide (HOF1 W)
        have HSA := fun W (hW : Two W w2.heap.size i R false vw vx) => hide (two_stepA hW (by omega) pt0 hfit s0 R0 d0 HST0.out)
        have HSB := fun W v' (hW : Half W w2.heap.size i R R0 d0 v' vx) => hide (two_stepB hW (by omega) pt0 hfit s0 HST0.out)
        clear HOF1 HZ hx hxok hfit hp HP0 HRT
        go_wp2_with fail
        (with_reducible refine (unhide (HOF _)).mono ?_)
        rintro e4 w4 ⟨rfl, hb4⟩
        have H := HSA w4 (htw.out.below hb4)
        have HB4 := hide (hb.out.trans (hb4.mono hb.out.size))
        clear z0 z1 z2 z3 z4 HOF HSA hb4 htw hb
        go_wp2_with fail
        (with_reducible refine (unhide H).mono ?_)
        rintro e5 w5 ⟨rfl, v5, hh5, hb5⟩
        have H2 := HSB w5 v5 hh5
        have HB5 := hide (HB4.out.trans hb5)
        clear H HSB HB4 hh5 hb5
        go_wp2_with fail
        (with_reducible refine (unhide H2).mono ?_)
        rintro e6 w6 ⟨rfl, vx6, htw6, hb6⟩
        have HTW6 := hide htw6
        have HB6 := hide (HB5.out.trans hb6)
        clear H2 HB5 htw6 hb6
        go_wp2_with fail
        go_roundg (gk - 1)
        case measure => omega
        case rel => exact ⟨i + 1, R0, d0, out ++ s0, v5, vx6, by go_num, by omega, HTW6, HREST, HB6⟩
    · obtain rfl : i = n := by omega
      have hfin := HRT.out
      rw [HN.out, List.take_length, HR0.out] at hfin
      simp only [Option.some.injEq, Prod.mk.injEq] at hfin
      obtain ⟨rfl, rfl, rfl⟩ := hfin
      have HDA := hide (done_any htw.out.a)
      clear HR0 HRT
      go_wp2_with fail
      (with_reducible refine (unhide HDA).mono ?_)
      rintro e7 w7 ⟨rfl, rfl⟩
      have HDB := hide (done_any htw.out.b)
      clear HDA
      go_wp2_with fail
      (with_reducible refine (unhide HDB).mono ?_)
      rintro e8 w8 ⟨rfl, rfl⟩
      go_wp2_with fail
      go_ret
      exact ⟨rfl, HB2.out.trans (hb.out.mono HB2.out.size)⟩
end Go.Proofs.Yteggfobeaolafaa
