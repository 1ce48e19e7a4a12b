/-
  A timer that times one alone, or nobody: what each call does; the law's first call.
-/
import Derived.Test.YtbgpihengcjgeaaTmC
namespace Go.Proofs.Ytbgpihengcjgeaa
open Go.RowKit

/-- Nobody but id. -/
def f1 (id : Int) (oo : Option One) : Int → Option One := upd (fun _ => none) id oo
theorem f1_at (id : Int) (oo : Option One) : f1 id oo id = oo := upd_same _ _ _
theorem f1_upd (id : Int) (oo o2 : Option One) : upd (f1 id oo) id o2 = f1 id o2 := funext fun y => by
  unfold f1 upd
  by_cases hy : y = id <;> simp [hy]
theorem f1_none (id : Int) : f1 id none = fun _ => none := funext fun y => by unfold f1 upd; split <;> rfl
theorem f1_some {id x : Int} {oo : Option One} {o : One} (h : f1 id oo x = some o) : x = id ∧ oo = some o := by
  unfold f1 upd at h
  by_cases hx : x = id
  · rw [if_pos hx] at h; exact ⟨hx, h⟩
  · rw [if_neg hx] at h; cases h
/-- A timer of the call's own, that times id or nobody. -/
def T1 (w0 w : World) (B p : Nat) (now : Int) (n : Nat) (id : Int) (oo : Option One) : Prop := ∃ F, Tm w B p now n (f1 id oo) F ∧ Below B w0 w
section
variable {w0 w w' : World} {B p n : Nat} {now : Int} {id : Int} {oo : Option One}
theorem T1.to (h : T1 w0 w B p now n id oo) (hb : Below w.heap.size w w') : T1 w0 w' B p now n id oo := by
  obtain ⟨F, h1, h2⟩ := h
  exact ⟨F, h1.below hb, h2.trans (hb.mono (by have := h1.blt; omega))⟩
theorem T1.drewN (h : T1 w0 w B p now n id oo) (k : Nat) : T1 w0 (w.drewN k) B p now n id oo := h.to (below_drewN (Below.refl _ _) k)
theorem T1.below (h : T1 w0 w B p now n id oo) : Below B w0 w := by
  obtain ⟨F, _, h⟩ := h
  exact h
theorem T1.step {n2 : Nat} {now2 : Int} {o2 : Option One} {F F2 : List Nat} (h1 : Tm w B p now n (f1 id oo) F) (h2 : Below B w0 w) (h3 : Tm w' B p now2 n2 (f1 id o2) F2) (ho : Only F w w') : T1 w0 w' B p now2 n2 id o2 :=
  ⟨F2, h3, h2.trans (ho.below (by have := h1.blt; omega) (fun k hk => (h1.lt k hk).1))⟩
theorem T1.new (w : World) (id : Int) : T1 w (w.alloc (.cells #[.int .i64 0, .map none] 27)) w.heap.size w.heap.size 0 0 id none :=
  ⟨[w.heap.size], by rw [f1_none]; exact Tm.new (Blk.new w 27 _) (Nat.le_refl _), (Below.refl _ _).alloc (Nat.le_refl _) _⟩
theorem T1.new2 {w0 w : World} (id : Int) (hb : Below w0.heap.size w0 w) : T1 w0 (w.alloc (.cells #[.int .i64 0, .map none] 27)) w0.heap.size w.heap.size 0 0 id none :=
  ⟨[w.heap.size], by rw [f1_none]; exact Tm.new (Blk.new w 27 _) hb.size, hb.alloc hb.size _⟩
end
section
variable {w0 w : World} {B p n : Nat} {now : Int} {id : Int}
theorem t1_start (h : T1 w0 w B p now n id none) {lim : Int} (hid : 0 ≤ id) (hw : Wf id) (hl : 0 ≤ lim) (hl2 : lim ≤ 9223372036854775807) (hn : n ≤ 100000) :
    Calls Try.prog 9 #[.pointer (some ⟨p, 0, none⟩), .int .i64 id, .int .i64 lim] w fun e w' => e = .returned (.bool true) ∧ T1 w0 w' B p now (n + 1) id (some ⟨lim, now, now⟩) := by
  obtain ⟨F, h1, h2⟩ := h
  refine (start_yes h1 hid hw hl hl2 (f1_at _ _) hn).mono fun e w' ⟨he, F', ht, ho, _⟩ => ⟨he, ?_⟩
  rw [f1_upd] at ht
  exact T1.step h1 h2 ht ho
theorem t1_start_there {o : One} (h : T1 w0 w B p now n id (some o)) (lim : Int) :
    Calls Try.prog 9 #[.pointer (some ⟨p, 0, none⟩), .int .i64 id, .int .i64 lim] w fun e w' => e = .returned (.bool false) ∧ w' = w := by
  obtain ⟨F, h1, h2⟩ := h
  exact start_there h1 (f1_at _ _)
theorem t1_touch {o : One} (h : T1 w0 w B p now n id (some o)) :
    Calls Try.prog 11 #[.pointer (some ⟨p, 0, none⟩), .int .i64 id] w fun e w' => e = .returned (.bool true) ∧ T1 w0 w' B p now n id (some ⟨o.limit, o.begun, now⟩) := by
  obtain ⟨F, h1, h2⟩ := h
  refine (touch_some h1 (f1_at _ _)).mono fun e w' ⟨he, ht, ho⟩ => ⟨he, ?_⟩
  rw [f1_upd] at ht
  exact T1.step h1 h2 ht ho
theorem t1_touch_none (h : T1 w0 w B p now n id none) (hw : Wf id) :
    Calls Try.prog 11 #[.pointer (some ⟨p, 0, none⟩), .int .i64 id] w fun e w' => e = .returned (.bool false) ∧ w' = w := by
  obtain ⟨F, h1, h2⟩ := h
  exact touch_none h1 hw (f1_at _ _)
theorem t1_limit {o : One} (h : T1 w0 w B p now n id (some o)) {lim : Int} (hl : 0 ≤ lim) (hl2 : lim ≤ 9223372036854775807) :
    Calls Try.prog 13 #[.pointer (some ⟨p, 0, none⟩), .int .i64 id, .int .i64 lim] w fun e w' => e = .returned (.bool true) ∧ T1 w0 w' B p now n id (some ⟨lim, o.begun, o.active⟩) := by
  obtain ⟨F, h1, h2⟩ := h
  refine (limit_some h1 (f1_at _ _) hl hl2).mono fun e w' ⟨he, ht, ho⟩ => ⟨he, ?_⟩
  rw [f1_upd] at ht
  exact T1.step h1 h2 ht ho
theorem t1_stop {o : One} (h : T1 w0 w B p now n id (some o)) :
    Calls Try.prog 12 #[.pointer (some ⟨p, 0, none⟩), .int .i64 id] w fun e w' => e = .returned (.bool true) ∧ T1 w0 w' B p now n id none := by
  obtain ⟨F, h1, h2⟩ := h
  refine (stop_some h1 (f1_at _ _)).mono fun e w' ⟨he, ht, ho⟩ => ⟨he, ?_⟩
  rw [f1_upd] at ht
  exact T1.step h1 h2 ht ho
theorem t1_stop_none (h : T1 w0 w B p now n id none) (hw : Wf id) :
    Calls Try.prog 12 #[.pointer (some ⟨p, 0, none⟩), .int .i64 id] w fun e w' => e = .returned (.bool false) ∧ w' = w := by
  obtain ⟨F, h1, h2⟩ := h
  exact stop_none h1 hw (f1_at _ _)
theorem t1_ages {o : One} (h : T1 w0 w B p now n id (some o)) {a b : Int} (ha : a = now - o.begun) (hb : b = now - o.active) :
    Calls Try.prog 15 #[.pointer (some ⟨p, 0, none⟩), .int .i64 id] w fun e w' => e = .returned (.tuple #[.int .i64 a, .int .i64 b, .bool true]) ∧ ∃ k, w' = w.drewN k := by
  obtain ⟨F, h1, h2⟩ := h
  rw [ha, hb]
  exact ages_some h1 (f1_at _ _)
theorem t1_now {oo : Option One} (h : T1 w0 w B p now n id oo) :
    Calls Try.prog 16 #[.pointer (some ⟨p, 0, none⟩)] w fun e w' => e = .returned (.int .i64 now) ∧ w' = w := by
  obtain ⟨F, h1, h2⟩ := h
  exact now_any h1
/-- Tick: nobody took too long. -/
theorem t1_stay {oo : Option One} (h : T1 w0 w B p now n id oo) {now2 : Int} (h2 : now2 = now + 1) (hn : now2 ≤ 1000000) (hnn : n ≤ 100000) (hl : ∀ o, oo = some o → late now2 o = false) :
    Calls Try.prog 10 #[.pointer (some ⟨p, 0, none⟩)] w fun e w' => (∃ a c, e = .returned (.slice a 0 c)) ∧ T1 w0 w' B p now2 n id oo := by
  obtain ⟨F, h1, hb⟩ := h
  subst h2
  refine (tick_any h1 hn hnn).mono fun e w' ⟨v, zs, he, hv, _, hm, _, ht, ho⟩ => ?_
  have h0 : zs = [] := by
    cases zs with
    | nil => rfl
    | cons x zs =>
      obtain ⟨o, hfo, hlo⟩ := (hm x).1 (List.mem_cons_self ..)
      rw [hl o (f1_some hfo).2] at hlo
      cases hlo
  subst h0
  obtain ⟨a, c, rfl⟩ := hv.form
  rw [minus_nil] at ht
  exact ⟨⟨a, c, he⟩, T1.step h1 hb ht ho⟩
/-- .. that one took too long. -/
theorem t1_go {o : One} (h : T1 w0 w B p now n id (some o)) {now2 : Int} (h2 : now2 = now + 1) (hn : now2 ≤ 1000000) (hnn : n ≤ 100000) (hl : late now2 o = true) :
    Calls Try.prog 10 #[.pointer (some ⟨p, 0, none⟩)] w fun e w' => (∃ g off c, e = .returned (.slice (some ⟨g, off, none⟩) 1 c) ∧ w'.cell? ⟨g, off, none⟩ = some (.int .i64 id)) ∧ T1 w0 w' B p now2 n id none := by
  obtain ⟨F, h1, hb⟩ := h
  subst h2
  refine (tick_any h1 hn hnn).mono fun e w' ⟨v, zs, he, hv, hst, hm, _, ht, ho⟩ => ?_
  have hin : id ∈ zs := (hm id).2 ⟨o, f1_at _ _, hl⟩
  have hall : ∀ x ∈ zs, x = id := fun x hx => by
    obtain ⟨o, hfo, _⟩ := (hm x).1 hx
    exact (f1_some hfo).1
  have h0 : zs = [id] := by
    cases zs with
    | nil => cases hin
    | cons x zs =>
      obtain rfl := hall x (List.mem_cons_self ..)
      cases zs with
      | nil => rfl
      | cons y zs =>
        have h1 := (List.pairwise_cons.1 hst).1 y (List.mem_cons_self ..)
        rw [hall y (by simp)] at h1
        omega
  subst h0
  obtain ⟨g, off, c, rfl, hc, _⟩ := hv.cell 0 (by simp [intsL])
  have hmin : minus (f1 id (some o)) [id] = f1 id none := funext fun y => by
    unfold minus f1 upd
    by_cases hy : y = id <;> simp [hy]
  rw [hmin] at ht
  exact ⟨⟨g, off, c, he, hc⟩, T1.step h1 hb ht ho⟩
end

set_option maxRecDepth 100000 in
set_option maxHeartbeats 1000000 in
theorem alive_any (w : World) : Calls Try.prog 8 #[] w fun e w' => e = .returned (.bool true) ∧ Below w.heap.size w w' := by
  have h0 := T1.new w 3
  obtain ⟨W, hW⟩ : ∃ W, W = w.alloc (.cells #[.int .i64 0, .map none] 27) := ⟨_, rfl⟩
  obtain ⟨p, hp⟩ : ∃ p, p = w.heap.size := ⟨_, rfl⟩
  have hpl : p < w.heap.size + 1 := by omega
  have HS := hide (t1_start (lim := 2) h0 (by omega) (wf_of (by omega)) (by omega) (by omega) (by omega))
  rw [← hW] at HS
  have HPW := hide hp
  clear h0
  go_enter Try.func8, Try.ntmps8
  go_wp2_with fail
  rw [← hW]
  (with_reducible refine (unhide HS).mono ?_)
  rintro e w1 ⟨rfl, h1⟩
  have HT := hide (t1_start_there h1 9)
  have H1 := hide (t1_stay (now2 := 1) h1 rfl (by omega) (by omega) (by intro o ho; cases ho; decide))
  clear HS h1 hW
  go_wp2_with fail
  (with_reducible refine (unhide HT).mono ?_)
  rintro e w2 ⟨rfl, hw2⟩
  subst hw2
  clear HT
  go_wp2_with fail
  (with_reducible refine (unhide H1).mono ?_)
  rintro e w3 ⟨⟨a1, c1, rfl⟩, h3⟩
  have H3 := hide (t1_stay (now2 := 2) h3 rfl (by omega) (by omega) (by intro o ho; cases ho; decide))
  clear H1 h3
  go_wp2_with fail
  (with_reducible refine (unhide H3).mono ?_)
  rintro e w4 ⟨⟨a2, c2, rfl⟩, h4⟩
  have HA := hide (t1_ages h4 (a := 2) (b := 2) rfl rfl)
  have H4 := hide h4
  clear H3 h4
  go_wp2_with fail
  (with_reducible refine (unhide HA).mono ?_)
  rintro e w5 ⟨rfl, k, rfl⟩
  have H5 := hide (t1_go (now2 := 3) (H4.out.drewN k) rfl (by omega) (by omega) (by decide))
  clear HA H4
  go_wp2_with fail
  (with_reducible refine (unhide H5).mono ?_)
  rintro e w6 ⟨⟨g, off, c, rfl, hc⟩, h6⟩
  have H6 := hide (t1_now h6)
  have HB := hide h6.below
  clear H5 h6
  go_wp2_with fail
  (with_reducible refine (unhide H6).mono ?_)
  rintro e w7 ⟨rfl, hw7⟩
  subst hw7
  go_wp2_with fail
  go_ret
  exact ⟨rfl, HB.out⟩
end Go.Proofs.Ytbgpihengcjgeaa
