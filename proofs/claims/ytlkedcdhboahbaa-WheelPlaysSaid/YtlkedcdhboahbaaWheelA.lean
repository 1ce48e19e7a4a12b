/-
  Wheels: what they are in memory; New, Add.
-/
import Derived.Test.YtlkedcdhboahbaaRows
import Derived.Test.YtlkedcdhboahbaaSl
import Derived.Test.YtlkedcdhboahbaaStage
import Derived.Test.YtlkedcdhboahbaaArgs2
import Derived.Test.YtlkedcdhboahbaaShelfW
namespace Go.Proofs.Ytlkedcdhboahbaa
open Go.RowKit

def intL (L : List Int) : List Value := L.map fun x => Value.int .i64 x
theorem intL_length (L : List Int) : (intL L).length = L.length := by simp [intL]
theorem intL_append (L M : List Int) : intL (L ++ M) = intL L ++ intL M := by simp [intL]
/-- The wheel at p is for n, has the list L; its slice is v. -/
structure Wheel (w : World) (base p : Nat) (n : Int) (v : Value) (L : List Int) : Prop where
  blk : Blk w p 49 #[.int .i64 n, v]
  sl : Sl w base 3 v (intL L)
  n0 : 0 ≤ n
  n100 : n ≤ 100
  inside : ∀ x ∈ L, 0 ≤ x ∧ x < n
  nodup : L.Nodup
section
variable {w w' : World} {base p : Nat} {n : Int} {v : Value} {L : List Int}
theorem Wheel.out (h : Wheel w base p n v L) : p ∉ slB v := h.sl.notBlk h.blk (by decide)
theorem Wheel.lt (h : Wheel w base p n v L) : p < w.heap.size := h.blk.lt
theorem nodup_le : ∀ (m : Nat) (L : List Int), L.Nodup → (∀ x ∈ L, 0 ≤ x ∧ x < (m : Int)) → L.length ≤ m := by
  intro m
  induction m with
  | zero =>
    intro L _ h
    cases L with
    | nil => simp
    | cons x L => have := h x (List.mem_cons_self ..); omega
  | succ m ih =>
    intro L hn h
    have h1 := ih (L.erase (m : Int)) (hn.erase _) (fun x hx => by
      have hx' := hn.mem_erase_iff.1 hx
      have := h x hx'.2
      have hne := hx'.1
      push_cast at this
      omega)
    have := List.length_erase (a := (m : Int)) (l := L)
    split at this <;> omega
theorem Wheel.len (h : Wheel w base p n v L) : L.length ≤ 100 := by
  have := nodup_le n.toNat L h.nodup (fun x hx => by have := h.inside x hx; have := h.n0; omega)
  have := h.n100
  omega
theorem Wheel.only_below {c : World} {B : Nat} (h : Wheel w base p n v L) (ho : Only (p :: slB v) w c) (hB : B ≤ w.heap.size) (hp : B ≤ p) (hb : B ≤ base) : Below B w c :=
  ho.below hB (fun k hk => by
    rcases List.mem_cons.1 hk with rfl | hk
    · exact hp
    · have := (h.sl.lt k hk).1; omega)
theorem Wheel.below {C : World} (h : Wheel w base p n v L) (hb : Below w.heap.size w C) : Wheel C base p n v L :=
  ⟨h.blk.below hb h.lt, h.sl.below hb (fun k hk => (h.sl.lt k hk).2), h.n0, h.n100, h.inside, h.nodup⟩
end
theorem Sl.form {w : World} {base : Nat} {t : TypeId} {v : Value} {xs : List Value} (h : Sl w base t v xs) : ∃ a c, v = .slice a xs.length c := by
  rcases h with ⟨rfl, rfl⟩ | ⟨g, off, cap, cs, rfl, _⟩
  · exact ⟨none, 0, rfl⟩
  · exact ⟨_, _, rfl⟩

theorem new_any (ni : Int) (n : Int) (hn : n = min (max ni 0) 100) (w : World) :
    Calls Try.prog 10 #[.int .i64 ni] w fun e w' => e = .returned (.pointer (some ⟨w.heap.size, 0, none⟩)) ∧ w' = w.alloc (.cells #[.int .i64 n, .slice none 0 0] 49) := by
  obtain ⟨m, hm⟩ : ∃ m : Int, m = max ni 0 := ⟨_, rfl⟩
  have hmax := max_i64 (P := Try.prog) #[3, 3] 3 ni 0 m hm
  have hmin := min_i64 (P := Try.prog) #[3, 3] 3 m 100 n (by rw [hm]; exact hn)
  clear hm hn
  go_enter Try.func10, Try.ntmps10
  go_wp2
  go_ret
  exact ⟨rfl, rfl⟩
theorem wheel_new (w : World) (base : Nat) (n : Int) (h0 : 0 ≤ n) (h1 : n ≤ 100) : Wheel (w.alloc (.cells #[.int .i64 n, .slice none 0 0] 49)) base w.heap.size n (.slice none 0 0) [] :=
  ⟨Blk.new w 49 _, Sl.nil _ _ _, h0, h1, (fun _ h => by cases h), List.nodup_nil⟩

theorem index_sl {w : World} {base : Nat} {v : Value} {L : List Int} (h : Sl w base 3 v (intL L)) (hl : L.length ≤ 100) (x : Int) (r : Int) (hr : r = idxI L x) :
    Calls Try.prog 20 #[v, .int .i64 x] w fun e w' => e = .returned (.int .i64 r) ∧ w' = w := by
  by_cases h0 : L = []
  · subst h0
    obtain ⟨a, c, hv⟩ := h.form
    have hv' : v = .slice a 0 c := hv
    subst hv'
    rw [hr]
    exact index_empty a c x w
  · rcases h with ⟨_, hn⟩ | ⟨g, off, cap, cs, hv, hb, hg, h1, h2, h3, h4⟩
    · exact absurd (by simpa [intL] using hn) h0
    · subst hv
      have := index_some g off cap L x w (by omega) (fun j hj => by
        refine hg.cellv _ _ ?_
        rw [h4 j (by rw [intL_length]; exact hj)]
        simp [intL]) r hr
      rw [intL_length]
      exact this
theorem idxI_nonneg (L : List Int) (x : Int) : 0 ≤ idxI L x ↔ x ∈ L := by
  unfold idxI
  by_cases h : x ∈ L
  · simp [h]
  · simp [h]
theorem contains_sl {w : World} {base : Nat} {v : Value} {L : List Int} (h : Sl w base 3 v (intL L)) (hl : L.length ≤ 100) (x : Int) (r : Bool) (hr : r = decide (x ∈ L)) :
    Calls Try.prog 19 #[v, .int .i64 x] w fun e w' => e = .returned (.bool r) ∧ w' = w := by
  obtain ⟨xi, hxi⟩ : ∃ xi, xi = idxI L x := ⟨_, rfl⟩
  have HI := hide (index_sl h hl x xi hxi)
  have hd : decide (0 ≤ xi) = r := by rw [hxi, hr, decide_eq_decide]; exact idxI_nonneg L x
  clear hxi h hr
  go_enter Try.func19, Try.ntmps19
  go_wp2_with fail
  (with_reducible refine (unhide HI).mono ?_)
  rintro e w1 ⟨rfl, rfl⟩
  go_wp2_with fail
  go_ret
  exact ⟨rfl, rfl⟩

theorem info_int : (Try.prog.info? 3).map (fun i => (i.zero, i.size, i.bytes)) = some (some (.int .i64 0), 1, 8) := by kernel_rfl

theorem add_nil (id : Int) (w : World) : Calls Try.prog 12 #[.pointer none, .int .i64 id] w fun e w' => e = .returned (.bool false) ∧ w' = w := by
  go_enter Try.func12, Try.ntmps12
  go_wp2
  go_ret
  exact ⟨rfl, rfl⟩
theorem add_no {w : World} {base p : Nat} {n : Int} {v : Value} {L : List Int} (h : Wheel w base p n v L) (id : Int) (hno : id < 0 ∨ n ≤ id ∨ id ∈ L) :
    Calls Try.prog 12 #[.pointer (some ⟨p, 0, none⟩), .int .i64 id] w fun e w' => e = .returned (.bool false) ∧ w' = w := by
  have c0 := h.blk.cellv 0 _ rfl
  have c1 := h.blk.cellv 1 _ rfl
  by_cases h1 : id < 0
  · clear hno
    go_enter Try.func12, Try.ntmps12
    go_wp2
    go_ret
    exact ⟨rfl, rfl⟩
  by_cases h2 : n ≤ id
  · clear hno
    go_enter Try.func12, Try.ntmps12
    go_wp2
    go_ret
    exact ⟨rfl, rfl⟩
  have h3 : id ∈ L := by
    rcases hno with h | h | h
    · exact absurd h h1
    · exact absurd h h2
    · exact h
  have HC := hide (contains_sl h.sl h.len id true (by simpa using h3))
  clear hno h
  go_enter Try.func12, Try.ntmps12
  go_wp2_with fail
  (with_reducible refine (unhide HC).mono ?_)
  rintro e w1 ⟨rfl, rfl⟩
  go_wp2_with fail
  go_ret
  exact ⟨rfl, rfl⟩
theorem add_yes {w : World} {base p : Nat} {n : Int} {v : Value} {L : List Int} (h : Wheel w base p n v L) (id : Int) (h0 : 0 ≤ id) (h1 : id < n) (h2 : id ∉ L) (hbase : base ≤ w.heap.size) :
    Calls Try.prog 12 #[.pointer (some ⟨p, 0, none⟩), .int .i64 id] w fun e w' => e = .returned (.bool true) ∧ ∃ v', Wheel w' base p n v' (L ++ [id]) ∧ Only (p :: slB v) w w' ∧ (∀ k ∈ slB v', k ∈ slB v ∨ w.heap.size ≤ k) := by
  have c0 := h.blk.cellv 0 _ rfl
  have c1 := h.blk.cellv 1 _ rfl
  have HC := hide (contains_sl h.sl h.len id false (by simpa using h2))
  have HH := hide h
  have HO := hide h.out
  have hlen := h.len
  clear h
  go_enter Try.func12, Try.ntmps12
  go_wp2_with fail
  (with_reducible refine (unhide HC).mono ?_)
  rintro e w ⟨rfl, rfl⟩
  go_wp2_with (at_builtin; refine wpList_append_sl rfl (.tmp 31) (.tmp 33) 26 rfl base 3 (.int .i64 0) 8 Try.underlying26 info_int rfl v (intL L) rfl (HH.out.sl.alloc _) w.heap.size (.int .i64 id) rfl (Blk.cell (Blk.new _ _ _) 0) rfl (by rw [intL_length]; unfold maxLen; omega) (by rw [intL_length]; omega) (by simp; omega) ?_; intro v' w1 hown1 ho1 hfresh; obtain ⟨a', c', rfl⟩ := hown1.form; have hb1 := ho1.blk (HH.out.blk.alloc _) HO.out; have d0 := hb1.cellv 0 _ rfl; have d1 := hb1.cellv 1 _ rfl; have g0 := hb1.frozen 0; have g1 := hb1.frozen 1)
  go_ret
  have e1 : (intL L ++ [Value.int .i64 id]).length = (intL L).length + 1 := by simp
  rw [e1] at hown1 hfresh
  have hpn := hown1.notBlk hb1 (by decide)
  refine ⟨rfl, .slice a' ((intL L).length + 1) c', ⟨?_, ?_, HH.out.n0, HH.out.n100, ?_, ?_⟩, ?_, ?_⟩
  · exact hb1.set_ 1 _
  · rw [intL_append]
    exact hown1.far (p := ⟨p, 1, none⟩) hpn _
  · intro x hx
    rcases List.mem_append.1 hx with hx | hx
    · exact HH.out.inside x hx
    · rw [List.mem_singleton.1 hx]; exact ⟨h0, h1⟩
  · exact List.nodup_append.2 ⟨HH.out.nodup, by simp, fun a ha b hb => by rintro rfl; simp at hb; subst hb; exact h2 ha⟩
  · exact (((Only.refl _ _).alloc _).trans (ho1.mono (fun k hk => List.mem_cons_of_mem _ hk))).setCell (by simp) _
  · intro k hk
    rcases hfresh k hk with h | h
    · exact .inl h
    · exact .inr (by simp at h; omega)
end Go.Proofs.Ytlkedcdhboahbaa
