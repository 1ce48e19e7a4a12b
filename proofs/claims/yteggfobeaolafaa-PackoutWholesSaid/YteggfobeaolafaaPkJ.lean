/-
  The writer's Done, and All.
-/
import Derived.Test.YteggfobeaolafaaPkI
namespace Go.Proofs.Yteggfobeaolafaa
open Go.RowKit

set_option maxRecDepth 100000 in
theorem done_any {w : World} {B p : Nat} {v : Value} {L : List Cont} {d : Bool} (h : Wr w B p v L d) :
    Calls Try.prog 15 #[.pointer (some ⟨p, 0, none⟩)] w fun e w' => e = .returned (.bool d) ∧ w' = w := by
  have c1 := h.2.1.cellv 1 _ rfl
  clear h
  go_enter Try.func15, Try.ntmps15
  go_wp2_with fail
  go_ret
  exact ⟨rfl, rfl⟩
set_option maxRecDepth 100000 in
theorem done_none (w : World) : Calls Try.prog 15 #[.pointer none] w fun e w' => e = .returned (.bool false) ∧ w' = w := by
  go_enter Try.func15, Try.ntmps15
  go_wp2_with fail
  go_ret
  exact ⟨rfl, rfl⟩

/-- An Ev. -/
structure EvM where
  k : Int
  y : Bool
  m : Int
  l : List UInt8
  c : Int
def EvM.cells (e : EvM) : Array Value := evV e.k e.y e.m e.l e.c
def EvM.part (e : EvM) : Option Part := partOf e.k e.y e.m e.l e.c
def EvM.ok (e : EvM) : Prop := 0 ≤ e.m ∧ e.l.length ≤ 1000000 ∧ e.c ≤ 9223372036854775807 ∧ e.m < 18446744073709551616
theorem EvM.fits {e : EvM} (h : e.ok) {pt : Part} (hp : e.part = some pt) : pt.fits = true := by
  obtain ⟨h1, h2, h3, h4⟩ := h
  unfold EvM.part partOf at hp
  repeat' split at hp
  all_goals first | cases hp; done | (injection hp with hp; subst hp; simp [Part.fits]; done) | (injection hp with hp; subst hp; simp [Part.fits]; omega)
def EvsAt (w : World) (v : Value) (E : List EvM) : Prop :=
  ∃ a cap, v = .slice a E.length cap ∧ (E ≠ [] → ∃ g off, a = some ⟨g, off, none⟩ ∧ g < w.heap.size ∧ ∀ i (hi : i < E.length) (j : Nat) (u : Value), E[i].cells[j]? = some u → w.cell? ⟨g, off + i * 5 + j, none⟩ = some u)
theorem EvsAt.below {w w' : World} {v : Value} {E : List EvM} (h : EvsAt w v E) (hb : Below w.heap.size w w') : EvsAt w' v E := by
  obtain ⟨a, cap, hv, h⟩ := h
  refine ⟨a, cap, hv, fun hE => ?_⟩
  obtain ⟨g, off, ha, hg, hc⟩ := h hE
  exact ⟨g, off, ha, Nat.lt_of_lt_of_le hg hb.size, fun i hi j u hu => (hb.cell (p := ⟨g, off + i * 5 + j, none⟩) hg).trans (hc i hi j u hu)⟩
def allC : List EvM → List Cont → Bool → List UInt8 → List UInt8 × Int
  | [], _, d, out => (out, if d then 0 else 3)
  | e :: E, R, d, out => match e.part with
    | none => (out, 1)
    | some pt => if (stepC R d pt).1 ≠ 0 then (out, (stepC R d pt).1) else allC E (stepC R d pt).2.2.1 (stepC R d pt).2.2.2 (out ++ (stepC R d pt).2.1)
theorem partR_length {pt : Part} (h : pt.fits = true) : (partR pt).1.length ≤ 1000010 := by
  have hs : ∀ f L v, (∀ n ∈ L, n ≤ 8) → (sizedL f 0 L v).length ≤ 9 := fun f L v hL => sizedL_length f L 0 v hL
  cases pt with
  | null => simp [partR, plainR]
  | bool b => cases b <;> simp [partR, plainR]
  | whole g m =>
    simp only [partR, plainR]
    split
    · unfold belowR belowL
      (repeat' split) <;> simp
    · split
      · simp
      · have := hs 204 [1, 2, 4, 8] m.toNat (by simp); simp only; omega
  | word l =>
    have h2 : l.length ≤ 1000000 := by simpa [Part.fits] using h
    have := hs 217 [1, 2, 4] l.length (by simp)
    simp only [partR, plainR, wordB]
    split
    · simp; omega
    · rw [List.length_append]; omega
  | blob l =>
    have h2 : l.length ≤ 1000000 := by simpa [Part.fits] using h
    have := hs 196 [1, 2, 4] l.length (by simp)
    simp only [partR, plainR, List.length_append]; omega
  | begin_ m n =>
    simp only [partR, beginR]
    split
    · simp
    · unfold headB
      have := hs (if m = true then 222 else 220) [2, 4] n.toNat (by simp)
      split
      · simp
      · simp only; omega
  | close => simp [partR, plainR]
  | odd => simp [partR, plainR]
theorem stepC_len (R : List Cont) (d : Bool) {pt : Part} (h : pt.fits = true) : (stepC R d pt).2.1.length ≤ 1000010 := by
  have h1 := partR_length h
  unfold stepC
  split
  · simp
  split
  · cases R with
    | nil => simp
    | cons c M =>
      simp only
      split <;> simp
  · cases R with
    | nil =>
      simp only
      split
      · exact h1
      · simp
    | cons c M =>
      simp only
      split
      · simp
      split
      · simp
      split
      · exact h1
      · simp
def Upto (j : Nat) (R : List Cont) : Prop := (∀ c ∈ R, c.parts ≤ j) ∧ R.length ≤ j
theorem Upto.small {j : Nat} {R : List Cont} (h : Upto j R) (hj : j ≤ 1000000) : SmallC R := ⟨fun c hc => Nat.le_trans (h.1 c hc) hj, Nat.le_trans h.2 hj⟩
theorem Upto.more {j : Nat} {R : List Cont} (h : Upto j R) : Upto (j + 1) R := ⟨fun c hc => Nat.le_succ_of_le (h.1 c hc), Nat.le_succ_of_le h.2⟩
theorem opens_upto (pt : Part) : (∀ c ∈ pt.opens, c.parts = 0) ∧ pt.opens.length ≤ 1 := by
  cases pt <;> simp [Part.opens]
theorem Upto.step {j : Nat} {R : List Cont} (h : Upto j R) (d : Bool) (pt : Part) : Upto (j + 1) (stepC R d pt).2.2.1 := by
  obtain ⟨o1, o2⟩ := opens_upto pt
  unfold stepC
  split
  · exact h.more
  split
  · cases R with
    | nil => exact h.more
    | cons c M =>
      simp only
      split
      · exact ⟨fun x hx => Nat.le_succ_of_le (h.1 x (List.mem_cons_of_mem _ hx)), by have := h.2; simp at this ⊢; omega⟩
      · exact h.more
  · cases R with
    | nil =>
      simp only
      split
      · exact ⟨fun x hx => by rw [o1 x hx]; omega, by simp only; omega⟩
      · exact h.more
    | cons c M =>
      simp only
      split
      · exact h.more
      split
      · exact h.more
      split
      · refine ⟨fun x hx => ?_, by have := h.2; simp at this ⊢; omega⟩
        rcases List.mem_append.1 hx with hx | hx
        · rw [o1 x hx]; omega
        · rcases List.mem_cons.1 hx with rfl | hx
          · have := h.1 c (List.mem_cons_self ..); simp only [Cont.more]; omega
          · exact Nat.le_succ_of_le (h.1 x (List.mem_cons_of_mem _ hx))
      · exact h.more

set_option maxRecDepth 100000 in
set_option maxHeartbeats 1000000 in
theorem all_any {w : World} {v : Value} {E : List EvM} (h : EvsAt w v E) (hok : ∀ e ∈ E, e.ok) (hlen : E.length ≤ 100000) (r : List UInt8) (k : Int) (hr : (r, k) = allC E [] false []) :
    Calls Try.prog 18 #[v] w fun e w' => e = .returned (.tuple #[.string (S r), .int .i64 k]) ∧ Below w.heap.size w w' := by
  obtain ⟨a, cap, hv, hC⟩ := h
  obtain ⟨n, hn⟩ : ∃ n, n = E.length := ⟨_, rfl⟩
  rw [← hn] at hv hlen
  subst hv
  have HC := hide hC
  have HOK := hide hok
  have HN := hide hn
  have HR := hide hr
  have hn2 : (n : Int) ≤ 100000 := by omega
  clear hC hok hn hr
  go_enter Try.func18, Try.ntmps18
  go_wp2_with fail
  go_loopg [5, 7, 8, 9, 10, 11, 14] n (fun g s5 s7 s8 s9 s10 s11 s14 wr => ∃ (j : Nat) (R : List Cont) (d : Bool) (out : List UInt8) (vw : Value), s14 = .int .i64 j ∧ j + g = n ∧ s5 = .string (S out) ∧ Hid (out.length ≤ j * 1000010) ∧ Hid (Upto j R) ∧ Hid ((r, k) = allC (E.drop j) R d out) ∧ Wr wr w.heap.size w.heap.size vw R.reverse d ∧ Below w.heap.size w wr)
  case atStart =>
    refine ⟨0, [], false, [], .slice none 0 0, rfl, by omega, rfl, hide (by simp), hide (show Upto 0 [] from ⟨fun c hc => (by cases hc), Nat.le_refl 0⟩), HR, ⟨Nat.le_refl _, Blk.new w 27 _, SlN.nil _ _ _ _⟩, (Below.refl _ _).alloc (Nat.le_refl _) _⟩
  case round =>
    obtain ⟨j, R, d, out, vw, rfl, hj, rfl, hol, hup, hall, hw, hb⟩ := hrel
    by_cases hlt : j < n
    · have hE : E ≠ [] := fun he => by have := HN.out; rw [he] at this; simp at this; omega
      obtain ⟨g, off, ha, hg, hc⟩ := HC.out hE
      subst ha
      have hjE : j < E.length := by rw [← HN.out]; exact hlt
      obtain ⟨x, hx⟩ : ∃ x, x = E[j] := ⟨_, rfl⟩
      have hxok : x.ok := hx ▸ HOK.out _ (List.getElem_mem hjE)
      have z := fun (i : Nat) (u : Value) (hu : x.cells[i]? = some u) => (hb.cell (p := ⟨g, off + j * 5 + i, none⟩) hg).trans (hc j hjE i u (by rw [← hx]; exact hu))
      have z0 : wr.cell? ⟨g, off + j * 5, none⟩ = some (.int .i64 x.k) := z 0 _ rfl
      have z1 : wr.cell? ⟨g, off + j * 5 + 1, none⟩ = some (.bool x.y) := z 1 _ rfl
      have z2 : wr.cell? ⟨g, off + j * 5 + 2, none⟩ = some (.int .u64 x.m) := z 2 _ rfl
      have z3 : wr.cell? ⟨g, off + j * 5 + 3, none⟩ = some (.string (S x.l)) := z 3 _ rfl
      have z4 : wr.cell? ⟨g, off + j * 5 + 4, none⟩ = some (.int .i64 x.c) := z 4 _ rfl
      have hall2 := hall.out
      rw [List.drop_eq_getElem_cons hjE, ← hx] at hall2
      simp only [allC] at hall2
      clear z hc hall hx
      have HOF0 := fun W => of_any x.k x.y x.m x.l x.c W x.part rfl
      simp only [evV] at HOF0
      cases hp : x.part with
      | none =>
        rw [hp] at hall2 HOF0
        have HOF := fun W => hide (HOF0 W)
        clear HOF0
        injection hall2 with e1 e2
        subst e1 e2
        clear hp
        go_wp2_with fail
        (with_reducible refine (unhide (HOF _)).mono ?_)
        rintro e w1 ⟨rfl, hb1⟩
        go_wp2_with fail
        go_ret2
        exact ⟨rfl, (hb.alloc hb.size _).trans (hb1.mono (by have := hb.size; simp; omega))⟩
      | some pt =>
        have hfit := EvM.fits hxok hp
        rw [hp] at hall2 HOF0
        simp only [optVal, Option.isSome_some] at HOF0
        have HOF := fun W => hide (HOF0 W)
        clear HOF0
        simp only at hall2
        obtain ⟨k2, s2, R2, d2, hst⟩ : ∃ k2 s2 R2 d2, (k2, s2, R2, d2) = stepC R d pt := ⟨_, _, _, _, rfl⟩
        have hsl := stepC_len R d hfit
        have hup2 := hup.out.step d pt
        rw [← hst] at hall2 hsl hup2
        simp only at hall2 hsl hup2
        have HST := fun W vW (hW : Wr W w.heap.size w.heap.size vW R.reverse d) => hide (step_any hW (hup.out.small (by omega)) pt hfit k2 s2 R2 d2 hst)
        have HALL := hide hall2
        have HSL := hide hsl
        have HUP := hide hup2
        clear hst hall2 hsl hup2 hp hfit
        go_wp2_with fail
        (with_reducible refine (unhide (HOF _)).mono ?_)
        rintro e w1 ⟨rfl, hb1⟩
        have hw1 := (hw.alloc _).below hb1
        have hB1 : Below w.heap.size w w1 := (hb.alloc hb.size _).trans (hb1.mono (by have := hb.size; simp; omega))
        have H := HST w1 vw hw1
        have HLT := hide (fun k hk => (hw1.2.2.lt k hk).1)
        have HB1 := hide hB1
        clear HST HOF hw hb hb1 hB1 hw1 z0 z1 z2 z3 z4
        by_cases hk : k2 = 0
        · subst hk
          have hall3 := HALL.out
          rw [if_neg (by simp)] at hall3
          have HA3 := hide hall3
          have hadd := run_add_S (P := Try.prog) out s2 (by
            have h1 := hol.out
            have h2 := HSL.out
            have h3 : j * 1000010 ≤ 100000 * 1000010 := Nat.mul_le_mul_right _ (by omega)
            omega)
          clear hall3 HALL
          go_wp2_with fail
          (with_reducible refine (unhide H).mono ?_)
          rintro e w2 ⟨rfl, v', hw2, ho2, hf2⟩
          have hB2 : Below w.heap.size w w2 := HB1.out.trans (ho2.below HB1.out.size (fun k hk => by
            rcases List.mem_cons.1 hk with rfl | hk
            · exact Nat.le_refl _
            · exact HLT.out k hk))
          clear ho2 hf2
          go_wp2_with fail
          go_roundg (gk - 1)
          case measure => omega
          case rel => exact ⟨j + 1, R2, d2, _, v', by go_num, by omega, rfl, hide (by have h1 := hol.out; have h2 := HSL.out; rw [List.length_append]; omega), HUP, HA3, hw2, hB2⟩
        · have hall3 := HALL.out
          rw [if_pos hk] at hall3
          injection hall3 with e1 e2
          subst e1 e2
          have hkb : (k == 0) = false := by simpa using hk
          clear HALL
          go_wp2_with fail
          (with_reducible refine (unhide H).mono ?_)
          rintro e w2 ⟨rfl, v', hw2, ho2, hf2⟩
          have hB2 : Below w.heap.size w w2 := HB1.out.trans (ho2.below HB1.out.size (fun k hk => by
            rcases List.mem_cons.1 hk with rfl | hk
            · exact Nat.le_refl _
            · exact HLT.out k hk))
          clear ho2 hf2 hw2
          go_wp2_with fail
          go_ret2
          exact ⟨rfl, hB2⟩
    · have hjn : j = n := by omega
      subst hjn
      have hall2 := hall.out
      rw [HN.out, List.drop_length] at hall2
      simp only [allC] at hall2
      injection hall2 with e1 e2
      subst e1
      have HD := hide (done_any hw)
      have HE2 := hide e2
      clear hall e2
      go_wp2_with fail
      (with_reducible refine (unhide HD).mono ?_)
      rintro e w1 ⟨rfl, hw1⟩
      subst hw1
      cases d with
      | true =>
        have e2 := HE2.out
        simp only [if_true] at e2
        subst e2
        go_wp2_with fail
        go_ret2
        exact ⟨rfl, hb⟩
      | false =>
        have e2 := HE2.out
        simp only [Bool.false_eq_true, if_false] at e2
        subst e2
        go_wp2_with fail
        go_ret2
        exact ⟨rfl, hb⟩
end Go.Proofs.Yteggfobeaolafaa
