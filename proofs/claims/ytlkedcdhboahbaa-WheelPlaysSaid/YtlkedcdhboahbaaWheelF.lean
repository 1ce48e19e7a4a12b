/-
  The wheel's contracts, told by the blocks that it has; the law's own list; where one stands in it.
-/
import Derived.Test.YtlkedcdhboahbaaWheelE
import Derived.Test.YtlkedcdhboahbaaBkG
namespace Go.Proofs.Ytlkedcdhboahbaa
open Go.RowKit

/-- The wheel at p, of the blocks F. -/
def WhF (w : World) (B p : Nat) (n : Int) (L : List Int) (F : List Nat) : Prop := B ≤ p ∧ ∃ v, Wheel w B p n v L ∧ F = p :: slB v
/-- What new blocks may be. -/
def Fresh (w : World) (F F' : List Nat) : Prop := ∀ k ∈ F', k ∈ F ∨ w.heap.size ≤ k
section
variable {w w' : World} {B p : Nat} {n : Int} {L : List Int} {F : List Nat}
theorem WhF.wh (h : WhF w B p n L F) : Wh w B p n L := ⟨h.1, h.2.choose, h.2.choose_spec.1⟩
theorem WhF.lt (h : WhF w B p n L F) : ∀ k ∈ F, B ≤ k ∧ k < w.heap.size := by
  obtain ⟨h1, v, h, rfl⟩ := h
  intro k hk
  rcases List.mem_cons.1 hk with rfl | hk
  · exact ⟨h1, h.lt⟩
  · exact h.sl.lt k hk
theorem WhF.keep {S : List Nat} (h : WhF w B p n L F) (ho : Only S w w') (hS : ∀ k ∈ F, k ∉ S) : WhF w' B p n L F := by
  obtain ⟨h1, v, h, rfl⟩ := h
  exact ⟨h1, v, ⟨ho.blk h.blk (hS p (List.mem_cons_self ..)), h.sl.keep ho (fun k hk => hS k (List.mem_cons_of_mem _ hk)), h.n0, h.n100, h.inside, h.nodup⟩, rfl⟩
theorem WhF.below (h : WhF w B p n L F) (hb : Below w.heap.size w w') : WhF w' B p n L F := h.keep (Only.of_below hb []) (fun k _ => by simp)
theorem new_F (ni : Int) (n : Int) (hn : n = min (max ni 0) 100) (hB : B ≤ w.heap.size) :
    Calls Try.prog 10 #[.int .i64 ni] w fun e w' => ∃ p, e = .returned (.pointer (some ⟨p, 0, none⟩)) ∧ WhF w' B p n [] [p] ∧ Below w.heap.size w w' := by
  refine (new_any ni n hn w).mono fun e w' h => ⟨_, h.1, ?_, ?_⟩
  · rw [h.2]; exact ⟨hB, _, wheel_new w B n (by omega) (by omega), rfl⟩
  · rw [h.2]; exact (Below.refl _ _).alloc (Nat.le_refl _) _
theorem add_F (h : WhF w B p n L F) (id : Int) (r : Bool) (hr : r = decide (0 ≤ id ∧ id < n ∧ id ∉ L)) (L2 : List Int) (hL2 : L2 = if r = true then L ++ [id] else L) :
    Calls Try.prog 12 #[.pointer (some ⟨p, 0, none⟩), .int .i64 id] w fun e w' => e = .returned (.bool r) ∧ ∃ F', WhF w' B p n L2 F' ∧ Only F w w' ∧ Fresh w F F' := by
  have hB := h.wh.lt
  obtain ⟨h1, v, h, rfl⟩ := h
  by_cases hc : 0 ≤ id ∧ id < n ∧ id ∉ L
  · have hr' : r = true := by rw [hr]; simpa using hc
    subst hr'
    rw [if_pos rfl] at hL2
    subst hL2
    exact (add_yes h id hc.1 hc.2.1 hc.2.2 hB).mono fun e w' ⟨he, v', hq, ho, hf⟩ => ⟨he, _, ⟨h1, v', hq, rfl⟩, ho, fun k hk => by
      rcases List.mem_cons.1 hk with rfl | hk
      · exact .inl (List.mem_cons_self ..)
      · exact (hf k hk).imp_left (List.mem_cons_of_mem _)⟩
  · have hr' : r = false := by rw [hr]; simpa using hc
    subst hr'
    rw [if_neg (by simp)] at hL2
    subst hL2
    exact (add_no h id (by
      by_cases ha : id < 0
      · exact .inl ha
      · by_cases hb : n ≤ id
        · exact .inr (.inl hb)
        · exact .inr (.inr (Classical.byContradiction fun hm => hc ⟨by omega, by omega, hm⟩)))).mono fun e w' ⟨he, hw⟩ => ⟨he, _, by rw [hw]; exact ⟨h1, v, h, rfl⟩, by rw [hw]; exact Only.refl _ _, fun k hk => .inl hk⟩
theorem rem_F (h : WhF w B p n L F) (id : Int) (r : Bool) (hr : r = decide (id ∈ L)) (L2 : List Int) (hL2 : L2 = L.erase id) :
    Calls Try.prog 13 #[.pointer (some ⟨p, 0, none⟩), .int .i64 id] w fun e w' => e = .returned (.bool r) ∧ ∃ F', WhF w' B p n L2 F' ∧ Only F w w' ∧ Fresh w F F' := by
  obtain ⟨h1, v, h, rfl⟩ := h
  subst hL2
  by_cases hc : id ∈ L
  · have hr' : r = true := by rw [hr]; simpa using hc
    subst hr'
    exact (remove_yes h id hc).mono fun e w' ⟨he, v', hq, ho, hs⟩ => ⟨he, _, ⟨h1, v', hq, rfl⟩, ho, fun k hk => .inl (by rw [hs] at hk; exact hk)⟩
  · have hr' : r = false := by rw [hr]; simpa using hc
    subst hr'
    rw [List.erase_of_not_mem hc]
    exact (remove_no h id hc).mono fun e w' ⟨he, hw⟩ => ⟨he, _, by rw [hw]; exact ⟨h1, v, h, rfl⟩, by rw [hw]; exact Only.refl _ _, fun k hk => .inl hk⟩
theorem next_F (h : WhF w B p n L F) (a : Option Addr) (c : Nat) (z : List Bool) (hz : IsRdy w a z) (x : Int) (r : Bool) (hx : (turn z L = none ∧ x = 0 ∧ r = false) ∨ (turn z L = some x ∧ r = true)) (L2 : List Int) (hL2 : L2 = after z L) (zl : Nat) (hzl2 : zl = z.length) :
    Calls Try.prog 14 #[.pointer (some ⟨p, 0, none⟩), .slice a zl c] w fun e w' => e = .returned (.tuple #[.int .i64 x, .bool r]) ∧ ∃ F', WhF w' B p n L2 F' ∧ Only F w w' ∧ Fresh w F F' := by
  have hB := h.wh.lt
  subst hzl2
  obtain ⟨h1, v, h, rfl⟩ := h
  rcases hx with ⟨ht, rfl, rfl⟩ | ⟨ht, rfl⟩
  · have : L2 = L := by rw [hL2, after, ht]
    subst this
    exact (next_none h a c z hz (turn_none ht)).mono fun e w' ⟨he, hw⟩ => ⟨he, _, by rw [hw]; exact ⟨h1, v, h, rfl⟩, by rw [hw]; exact Only.refl _ _, fun k hk => .inl hk⟩
  · obtain ⟨A, C, hL, hA, hx⟩ := turn_some ht
    have hxA : x ∉ A := fun hm => by rw [hA x hm] at hx; cases hx
    have her : L.erase x = A ++ C := by rw [hL, List.erase_append_right _ hxA, List.erase_cons_head]
    have : L2 = (A ++ C) ++ [x] := by rw [hL2, after, ht, ← her]
    subst this
    exact (next_some h a c z hz hB hL rfl hA hx).mono fun e w' ⟨he, v', hq, ho, hf⟩ => ⟨he, _, ⟨h1, v', hq, rfl⟩, ho, fun k hk => by
      rcases List.mem_cons.1 hk with rfl | hk
      · exact .inl (List.mem_cons_self ..)
      · exact (hf k hk).imp_left (List.mem_cons_of_mem _)⟩
theorem all_F (h : WhF w B p n L F) :
    Calls Try.prog 15 #[.pointer (some ⟨p, 0, none⟩)] w fun e w' => ∃ a c, e = .returned (.slice a L.length c) ∧ LIs w' w.heap.size (.slice a L.length c) L ∧ Below w.heap.size w w' := by
  refine (all_Wh h.wh).mono fun e w' ⟨a, c, he, hr, _, hb⟩ => ⟨a, c, he, SlN.of_row hr, hb⟩
end
/-- The law's own list, in a box of its own. -/
def HaveF (w : World) (B p : Nat) (v : Value) (L : List Int) : Prop := B ≤ p ∧ Blk w p 26 #[v] ∧ LIs w B v L
section
variable {w w' : World} {B p : Nat} {v : Value} {L : List Int}
theorem HaveF.keep {S : List Nat} (h : HaveF w B p v L) (ho : Only S w w') (hp : p ∉ S) (hS : ∀ k ∈ slB v, k ∉ S) : HaveF w' B p v L := ⟨h.1, ho.blk h.2.1 hp, SlN.keep h.2.2 ho hS⟩
theorem HaveF.below (h : HaveF w B p v L) (hb : Below w.heap.size w w') : HaveF w' B p v L := h.keep (Only.of_below hb []) (by simp) (fun k _ => by simp)
theorem HaveF.out (h : HaveF w B p v L) : p ∉ slB v := SlN.notBlk h.2.2 h.2.1 (by decide)
end
set_option maxRecDepth 100000 in
theorem at_any {w : World} {B p : Nat} {v : Value} {L : List Int} (h : HaveF w B p v L) (hl : L.length ≤ 100) (id : Int) (r : Int) (hr : r = idxI L id) :
    Calls Try.prog 11 #[.int .i64 id, .pointer (some ⟨p, 0, none⟩)] w fun e w' => e = .returned (.int .i64 r) ∧ w' = w := by
  have c0 := h.2.1.cellv 0 _ rfl
  obtain ⟨n, hn⟩ : ∃ n, n = L.length := ⟨_, rfl⟩
  obtain ⟨a, c, hv⟩ := SlN.form h.2.2
  have hs : SlN w B 3 1 v n (intsL L) := by rw [hn]; exact h.2.2
  rw [← hn] at hv hl
  subst hv
  have HS := hide hs
  have HN := hide hn
  have HR := hide hr
  have hn2 : (n : Int) ≤ 100 := by omega
  clear h hs hn hr
  go_enter Try.func11, Try.ntmps11
  go_wp2_with fail
  go_loopg [4, 7] n (fun g s4 s7 wr => ∃ i : Nat, s7 = .int .i64 i ∧ i + g = n ∧ wr = w ∧ Hid (∀ j (hj : j < L.length), j < i → L[j] ≠ id))
  case atStart => exact ⟨0, rfl, by omega, rfl, hide (fun j _ h => by omega)⟩
  case round =>
    obtain ⟨i, rfl, hi, rfl, hno⟩ := hrel
    by_cases hlt : i < n
    · have hiL : i < L.length := by rw [← HN.out]; exact hlt
      obtain ⟨g, o, k, hv, hc⟩ := HS.out.row1 (by omega)
      injection hv with e1 e2 e3
      subst e1 e3
      have q := (hc _ _ _ HS.out i (by rw [intsL_length]; exact hiL)).1
      obtain ⟨x, hx⟩ : ∃ x, x = L[i] := ⟨_, rfl⟩
      simp only [intsL, List.getElem_map, ← hx] at q
      clear hc e2
      by_cases hxi : x = id
      · have hb : (x == id) = true := by simpa using hxi
        have hr2 : r = i := by
          rw [HR.out, idxI, if_pos (by rw [← hxi, hx]; exact List.getElem_mem hiL)]
          have h9 : L.idxOf id = i := by
            have h1 : L.idxOf id ≤ i := by
              rcases Nat.lt_or_ge i (L.idxOf id) with h8 | h8
              · exact absurd (hx.symm.trans hxi) (by
                  have := List.not_of_lt_findIdx (p := (· == id)) (xs := L) (i := i) (by simpa [List.idxOf] using h8)
                  simpa using this)
              · exact h8
            rcases Nat.lt_or_ge (L.idxOf id) i with h8 | h8
            · have h7 : L.idxOf id < L.length := by omega
              exact absurd (List.getElem_idxOf h7) (hno.out _ h7 h8)
            · omega
          rw [h9]
        subst hr2
        clear hx hxi
        go_wp2_with fail
        go_ret
        exact ⟨rfl, rfl⟩
      · have hb : (x == id) = false := by simpa using hxi
        have hno2 : Hid (∀ j (hj : j < L.length), j < i + 1 → L[j] ≠ id) := hide (fun j hj hji => by
          by_cases hij : j = i
          · subst hij; rw [← hx]; exact hxi
          · exact hno.out j hj (by omega))
        clear hx hxi
        go_wp2_with fail
        go_roundg (gk - 1)
        case measure => omega
        case rel => exact ⟨i + 1, by go_num, by omega, rfl, hno2⟩
    · obtain rfl : i = n := by omega
      have hr2 : r = -1 := by
        rw [HR.out, idxI, if_neg]
        intro hm
        obtain ⟨j, hj, hje⟩ := List.getElem_of_mem hm
        exact hno.out j hj (by rw [HN.out]; exact hj) hje
      subst hr2
      go_wp2_with fail
      go_ret
      exact ⟨rfl, rfl⟩
end Go.Proofs.Ytlkedcdhboahbaa
