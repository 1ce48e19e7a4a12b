/-
  A timer that times the first numbers, some of them busy: the plain law behind TimerMany, and Tick.
-/
import Derived.Test.YtbgpihengcjgeaaTmD
namespace Go.Proofs.Ytbgpihengcjgeaa
open Go.RowKit

/-- A timer of the call's own. -/
def TA (w0 w : World) (B p : Nat) (now : Int) (n : Nat) (f : Int → Option One) : Prop := ∃ F, Tm w B p now n f F ∧ Below B w0 w
section
variable {w0 w w' : World} {B p n : Nat} {now : Int} {f : Int → Option One}
theorem TA.to (h : TA w0 w B p now n f) (hb : Below w.heap.size w w') : TA w0 w' B p now n f := by
  obtain ⟨F, h1, h2⟩ := h
  exact ⟨F, h1.below hb, h2.trans (hb.mono (by have := h1.blt; omega))⟩
theorem TA.below (h : TA w0 w B p now n f) : Below B w0 w := by
  obtain ⟨F, _, h⟩ := h
  exact h
theorem TA.step {n2 : Nat} {now2 : Int} {f2 : Int → Option One} {F F2 : List Nat} (h1 : Tm w B p now n f F) (h2 : Below B w0 w) (h3 : Tm w' B p now2 n2 f2 F2) (ho : Only F w w') : TA w0 w' B p now2 n2 f2 :=
  ⟨F2, h3, h2.trans (ho.below (by have := h1.blt; omega) (fun k hk => (h1.lt k hk).1))⟩
theorem TA.new2 {w0 w : World} (hb : Below w0.heap.size w0 w) : TA w0 (w.alloc (.cells #[.int .i64 0, .map none] 27)) w0.heap.size w.heap.size 0 0 (fun _ => none) :=
  ⟨[w.heap.size], Tm.new (Blk.new w 27 _) hb.size, hb.alloc hb.size _⟩
theorem ta_start (h : TA w0 w B p now n f) {id lim : Int} (hf : f id = none) (hid : 0 ≤ id) (hw : Wf id) (hl : 0 ≤ lim) (hl2 : lim ≤ 9223372036854775807) (hn : n ≤ 100000) :
    Calls Try.prog 9 #[.pointer (some ⟨p, 0, none⟩), .int .i64 id, .int .i64 lim] w fun e w' => e = .returned (.bool true) ∧ TA w0 w' B p now (n + 1) (upd f id (some ⟨lim, now, now⟩)) := by
  obtain ⟨F, h1, h2⟩ := h
  exact (start_yes h1 hid hw hl hl2 hf hn).mono fun e w' ⟨he, F', ht, ho, _⟩ => ⟨he, TA.step h1 h2 ht ho⟩
theorem ta_touch (h : TA w0 w B p now n f) {id : Int} {o : One} (hf : f id = some o) :
    Calls Try.prog 11 #[.pointer (some ⟨p, 0, none⟩), .int .i64 id] w fun e w' => e = .returned (.bool true) ∧ TA w0 w' B p now n (upd f id (some ⟨o.limit, o.begun, now⟩)) := by
  obtain ⟨F, h1, h2⟩ := h
  exact (touch_some h1 hf).mono fun e w' ⟨he, ht, ho⟩ => ⟨he, TA.step h1 h2 ht ho⟩
theorem ta_tick (h : TA w0 w B p now n f) (hn : now + 1 ≤ 1000000) (hnn : n ≤ 100000) :
    Calls Try.prog 10 #[.pointer (some ⟨p, 0, none⟩)] w fun e w' => ∃ v zs, e = .returned v ∧ LIs w' w.heap.size v zs ∧ zs.Pairwise (· < ·) ∧ (∀ x, x ∈ zs ↔ ∃ o, f x = some o ∧ late (now + 1) o = true) ∧ zs.length ≤ n ∧
      TA w0 w' B p (now + 1) n (minus f zs) := by
  obtain ⟨F, h1, h2⟩ := h
  exact (tick_any h1 hn hnn).mono fun e w' ⟨v, zs, he, hv, hs, hm, hl, ht, ho⟩ => ⟨v, zs, he, hv, hs, hm, hl, TA.step h1 h2 ht ho⟩
end

def bzs (z : List Bool) (i : Nat) : Bool := z.getD i false
def quietN (z : List Bool) (i : Nat) : Nat := ((List.range i).filter fun k => !bzs z k).length
theorem quietN_yes {z : List Bool} {i : Nat} (h : bzs z i = true) : quietN z (i + 1) = quietN z i := by
  unfold quietN
  rw [List.range_succ, List.filter_append, List.length_append]
  simp [h]
theorem quietN_no {z : List Bool} {i : Nat} (h : bzs z i = false) : quietN z (i + 1) = quietN z i + 1 := by
  unfold quietN
  rw [List.range_succ, List.filter_append, List.length_append]
  simp [h]
theorem quietN_le (z : List Bool) (i : Nat) : quietN z i ≤ i := by
  unfold quietN
  have := List.length_filter_le (fun k => !bzs z k) (List.range i)
  rw [List.length_range] at this
  exact this
/-- Who is timed, and how: the busy ones below i did something at m, the others at m - 1; the quiet ones never (d: they are there still). -/
def gM (n : Nat) (z : List Bool) (m : Int) (i : Nat) (d : Bool) : Int → Option One := fun x =>
  if 0 ≤ x ∧ x < n then (if bzs z x.toNat then some ⟨0, 0, if x < i then m else m - 1⟩ else if d then some ⟨0, 0, 0⟩ else none) else none
def fM (i : Nat) : Int → Option One := fun x => if 0 ≤ x ∧ x < i then some ⟨0, 0, 0⟩ else none
theorem fM_zero : fM 0 = fun _ => none := funext fun x => if_neg (by omega)
theorem fM_out (i : Nat) : fM i i = none := if_neg (by omega)
theorem fM_succ (i : Nat) : upd (fM i) i (some ⟨0, 0, 0⟩) = fM (i + 1) := funext fun x => by
  unfold upd fM
  by_cases hx : x = i
  · rw [if_pos hx, if_pos (by omega)]
  · rw [if_neg hx]
    by_cases h : 0 ≤ x ∧ x < i
    · rw [if_pos h, if_pos (by omega)]
    · rw [if_neg h, if_neg (by omega)]
theorem fM_all (n : Nat) (z : List Bool) : fM n = gM n z 1 0 true := funext fun x => by
  unfold fM gM
  by_cases h : 0 ≤ x ∧ x < n
  · rw [if_pos h, if_pos h, if_neg (show ¬ x < ((0 : Nat) : Int) by omega)]
    by_cases hb : bzs z x.toNat = true
    · rw [if_pos hb]; rfl
    · rw [if_neg hb]; rfl
  · rw [if_neg h, if_neg h]
theorem gM_next (n : Nat) (z : List Bool) (m : Int) (d : Bool) : gM n z m n d = gM n z (m + 1) 0 d := funext fun x => by
  unfold gM
  by_cases h : 0 ≤ x ∧ x < n
  · rw [if_pos h, if_pos h, if_pos h.2, if_neg (show ¬ x < ((0 : Nat) : Int) by omega), Int.add_sub_cancel]
  · rw [if_neg h, if_neg h]
theorem gM_at {n : Nat} {z : List Bool} {i : Nat} (hi : i < n) (hb : bzs z i = true) (m : Int) (d : Bool) : gM n z m i d i = some ⟨0, 0, m - 1⟩ := by
  unfold gM
  rw [if_pos (by omega), Int.toNat_natCast, if_pos hb, if_neg (by omega)]
theorem gM_touch {n : Nat} {z : List Bool} {i : Nat} (hi : i < n) (hb : bzs z i = true) (m : Int) (d : Bool) : upd (gM n z m i d) i (some ⟨0, 0, m⟩) = gM n z m (i + 1) d := funext fun x => by
  unfold upd
  by_cases hx : x = i
  · rw [if_pos hx, hx]
    unfold gM
    rw [if_pos (by omega), Int.toNat_natCast, if_pos hb, if_pos (by omega)]
  · rw [if_neg hx]
    unfold gM
    by_cases h : 0 ≤ x ∧ x < n
    · rw [if_pos h, if_pos h]
      by_cases hb2 : bzs z x.toNat = true
      · rw [if_pos hb2, if_pos hb2]
        by_cases hl : x < i
        · rw [if_pos hl, if_pos (by omega)]
        · rw [if_neg hl, if_neg (by omega)]
      · rw [if_neg hb2, if_neg hb2]
    · rw [if_neg h, if_neg h]
theorem gM_skip {n : Nat} {z : List Bool} {i : Nat} (hb : bzs z i = false) (m : Int) (d : Bool) : gM n z m i d = gM n z m (i + 1) d := funext fun x => by
  unfold gM
  by_cases h : 0 ≤ x ∧ x < n
  · rw [if_pos h, if_pos h]
    by_cases hb2 : bzs z x.toNat = true
    · rw [if_pos hb2, if_pos hb2]
      have hxi : x ≠ i := fun e => by rw [e, Int.toNat_natCast, hb] at hb2; cases hb2
      by_cases hl : x < i
      · rw [if_pos hl, if_pos (by omega)]
      · rw [if_neg hl, if_neg (by omega)]
    · rw [if_neg hb2, if_neg hb2]
  · rw [if_neg h, if_neg h]
theorem gM_some {n : Nat} {z : List Bool} {m : Int} {d : Bool} {x : Int} {o : One} (h : gM n z m 0 d x = some o) : (0 ≤ x ∧ x < n) ∧ ((bzs z x.toNat = true ∧ o = ⟨0, 0, m - 1⟩) ∨ (bzs z x.toNat = false ∧ d = true ∧ o = ⟨0, 0, 0⟩)) := by
  unfold gM at h
  by_cases h1 : 0 ≤ x ∧ x < n
  · refine ⟨h1, ?_⟩
    rw [if_pos h1] at h
    by_cases hb : bzs z x.toNat = true
    · rw [if_pos hb, if_neg (show ¬ x < ((0 : Nat) : Int) by omega)] at h
      exact .inl ⟨hb, (Option.some.inj h).symm⟩
    · rw [if_neg hb] at h
      cases d
      · cases h
      · exact .inr ⟨by simpa using hb, rfl, (Option.some.inj h).symm⟩
  · rw [if_neg h1] at h; cases h
theorem gM_quiet {n : Nat} {z : List Bool} {m : Int} {x : Int} (h : 0 ≤ x ∧ x < n) (hb : bzs z x.toNat = false) : gM n z m 0 true x = some ⟨0, 0, 0⟩ := by
  unfold gM
  rw [if_pos h, hb]
  rfl
theorem gM_gone (n : Nat) (z : List Bool) (m : Int) (zs : List Int) (hz : ∀ x, x ∈ zs ↔ (0 ≤ x ∧ x < n) ∧ bzs z x.toNat = false) : minus (gM n z m 0 true) zs = gM n z m 0 false := funext fun x => by
  unfold minus
  by_cases hx : x ∈ zs
  · obtain ⟨h, hb⟩ := (hz x).1 hx
    rw [if_pos hx]
    unfold gM
    rw [if_pos h, hb]
    rfl
  · rw [if_neg hx]
    unfold gM
    by_cases h : 0 ≤ x ∧ x < n
    · rw [if_pos h, if_pos h]
      by_cases hb : bzs z x.toNat = true
      · rw [if_pos hb, if_pos hb]
      · exact absurd ((hz x).2 ⟨h, by simpa using hb⟩) hx
    · rw [if_neg h, if_neg h]
/-- How many they are. -/
theorem quiet_count (n : Nat) (z : List Bool) (zs : List Int) (hs : zs.Pairwise (· < ·)) (hz : ∀ x, x ∈ zs ↔ (0 ≤ x ∧ x < n) ∧ bzs z x.toNat = false) : zs.length = quietN z n := by
  have h1 : zs.Nodup := hs.imp fun h e => by omega
  have h2 : (((List.range n).filter fun k => !bzs z k).map fun k : Nat => (k : Int)).Nodup := by
    have h3 : ((List.range n).filter fun k => !bzs z k).Nodup := List.nodup_range.filter _
    unfold List.Nodup
    rw [List.pairwise_map]
    exact h3.imp fun h e => h (by omega)
  have h4 : zs.Perm (((List.range n).filter fun k => !bzs z k).map fun k : Nat => (k : Int)) := by
    rw [List.perm_ext_iff_of_nodup h1 h2]
    intro x
    rw [hz x]
    simp only [List.mem_map, List.mem_filter, List.mem_range]
    constructor
    · rintro ⟨⟨h5, h6⟩, h7⟩
      exact ⟨x.toNat, ⟨by omega, by rw [h7]; rfl⟩, by omega⟩
    · rintro ⟨k, ⟨h5, h6⟩, rfl⟩
      refine ⟨by omega, ?_⟩
      rw [Int.toNat_natCast]
      simpa using h6
  rw [h4.length_eq, List.length_map]
  rfl

section
variable {w0 w : World} {B p k n : Nat} {j : Nat} {z : List Bool}
theorem tickM_stay {d : Bool} (h : TA w0 w B p j k (gM n z (j + 1 : Nat) 0 d)) (hd : d = true → j < 30) (hj : j ≤ 100) (hk : k ≤ 100000) :
    Calls Try.prog 10 #[.pointer (some ⟨p, 0, none⟩)] w fun e w' => (∃ a c, e = .returned (.slice a 0 c)) ∧ TA w0 w' B p (j + 1 : Nat) k (gM n z (j + 1 : Nat) 0 d) := by
  refine (ta_tick h (by omega) hk).mono fun e w' ⟨v, zs, he, hv, _, hm, _, ht⟩ => ?_
  have h0 : zs = [] := by
    cases zs with
    | nil => rfl
    | cons x zs =>
      obtain ⟨o, hfo, hlo⟩ := (hm x).1 (List.mem_cons_self ..)
      exfalso
      rcases (gM_some hfo).2 with ⟨_, rfl⟩ | ⟨_, h1, rfl⟩
      · unfold late at hlo
        simp at hlo
        omega
      · have := hd h1
        unfold late at hlo
        simp at hlo
        omega
  subst h0
  obtain ⟨a, c, rfl⟩ := hv.form
  rw [minus_nil] at ht
  exact ⟨⟨a, c, he⟩, ht⟩
theorem tickM_go (hj : j = 30) (h : TA w0 w B p j k (gM n z (j + 1 : Nat) 0 true)) (hk : k ≤ 100000) :
    Calls Try.prog 10 #[.pointer (some ⟨p, 0, none⟩)] w fun e w' => ∃ v zs, e = .returned v ∧ LIs w' w.heap.size v zs ∧ (∀ x, x ∈ zs ↔ (0 ≤ x ∧ x < n) ∧ bzs z x.toNat = false) ∧ zs.length = quietN z n ∧ TA w0 w' B p (j + 1 : Nat) k (gM n z (j + 1 : Nat) 0 false) := by
  subst hj
  refine (ta_tick h (by omega) hk).mono fun e w' ⟨v, zs, he, hv, hs, hm, _, ht⟩ => ?_
  have hz : ∀ x, x ∈ zs ↔ (0 ≤ x ∧ x < n) ∧ bzs z x.toNat = false := fun x => by
    rw [hm x]
    constructor
    · rintro ⟨o, hfo, hlo⟩
      refine ⟨(gM_some hfo).1, ?_⟩
      rcases (gM_some hfo).2 with ⟨_, rfl⟩ | ⟨h2, _, _⟩
      · unfold late at hlo
        simp at hlo
      · exact h2
    · rintro ⟨h1, h2⟩
      refine ⟨_, gM_quiet h1 h2, ?_⟩
      unfold late
      simp
  refine ⟨v, zs, he, hv, hz, quiet_count n z zs hs hz, ?_⟩
  rw [gM_gone n z _ zs hz] at ht
  exact ht
end
end Go.Proofs.Ytbgpihengcjgeaa
