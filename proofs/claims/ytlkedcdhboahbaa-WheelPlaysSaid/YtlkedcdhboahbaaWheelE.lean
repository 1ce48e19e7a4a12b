/-
  Wheels: the contracts with one frame more: blocks of other types stay; plain words on turns.
-/
import Derived.Test.YtlkedcdhboahbaaWheelD
namespace Go.Proofs.Ytlkedcdhboahbaa
open Go.RowKit

theorem Wheel.keepT {w c : World} {base p : Nat} {n : Int} {v : Value} {L : List Int} (h : Wheel w base p n v L) (ho : Only (p :: slB v) w c) : KeepT 49 3 w c := fun g t cs h1 h2 hb =>
  ho.blk hb (fun hm => by
    rcases List.mem_cons.1 hm with e | hm
    · exact hb.ne_ h.blk h1 e
    · exact h.sl.notBlk hb (Ne.symm h2) hm)
section
variable {w w' : World} {B p : Nat} {n : Int} {L : List Int}
theorem add_K (h : Wh w B p n L) (id : Int) (r : Bool) (hr : r = decide (0 ≤ id ∧ id < n ∧ id ∉ L)) (L2 : List Int) (hL2 : L2 = if r = true then L ++ [id] else L) :
    Calls Try.prog 12 #[.pointer (some ⟨p, 0, none⟩), .int .i64 id] w fun e w' => e = .returned (.bool r) ∧ Wh w' B p n L2 ∧ Below B w w' ∧ KeepT 49 3 w w' := by
  have hB := h.lt
  obtain ⟨h1, v, h⟩ := h
  by_cases hc : 0 ≤ id ∧ id < n ∧ id ∉ L
  · have hr' : r = true := by rw [hr]; simpa using hc
    subst hr'
    rw [if_pos rfl] at hL2
    subst hL2
    exact (add_yes h id hc.1 hc.2.1 hc.2.2 hB).mono fun e w' ⟨he, v', hq, ho, _⟩ => ⟨he, ⟨h1, v', hq⟩, h.only_below ho hB h1 (Nat.le_refl _), h.keepT ho⟩
  · have hr' : r = false := by rw [hr]; simpa using hc
    subst hr'
    rw [if_neg (by simp)] at hL2
    subst hL2
    exact (add_no h id (by
      by_cases ha : id < 0
      · exact .inl ha
      · by_cases hb : n ≤ id
        · exact .inr (.inl hb)
        · exact .inr (.inr (Classical.byContradiction fun hm => hc ⟨by omega, by omega, hm⟩)))).mono fun e w' ⟨he, hw⟩ => ⟨he, by rw [hw]; exact ⟨h1, v, h⟩, by rw [hw]; exact Below.refl _ _, by rw [hw]; exact KeepT.refl _ _ _⟩
theorem rem_K (h : Wh w B p n L) (id : Int) (r : Bool) (hr : r = decide (id ∈ L)) (L2 : List Int) (hL2 : L2 = L.erase id) :
    Calls Try.prog 13 #[.pointer (some ⟨p, 0, none⟩), .int .i64 id] w fun e w' => e = .returned (.bool r) ∧ Wh w' B p n L2 ∧ Below B w w' ∧ KeepT 49 3 w w' := by
  have hB := h.lt
  obtain ⟨h1, v, h⟩ := h
  subst hL2
  by_cases hc : id ∈ L
  · have hr' : r = true := by rw [hr]; simpa using hc
    subst hr'
    exact (remove_yes h id hc).mono fun e w' ⟨he, v', hq, ho, _⟩ => ⟨he, ⟨h1, v', hq⟩, h.only_below ho hB h1 (Nat.le_refl _), h.keepT ho⟩
  · have hr' : r = false := by rw [hr]; simpa using hc
    subst hr'
    rw [List.erase_of_not_mem hc]
    exact (remove_no h id hc).mono fun e w' ⟨he, hw⟩ => ⟨he, by rw [hw]; exact ⟨h1, v, h⟩, by rw [hw]; exact Below.refl _ _, by rw [hw]; exact KeepT.refl _ _ _⟩
theorem next_K (h : Wh w B p n L) (a : Option Addr) (c : Nat) (z : List Bool) (hz : IsRdy w a z) (x : Int) (r : Bool) (hx : (turn z L = none ∧ x = 0 ∧ r = false) ∨ (turn z L = some x ∧ r = true)) (L2 : List Int) (hL2 : L2 = after z L) (zl : Nat) (hzl2 : zl = z.length) :
    Calls Try.prog 14 #[.pointer (some ⟨p, 0, none⟩), .slice a zl c] w fun e w' => e = .returned (.tuple #[.int .i64 x, .bool r]) ∧ Wh w' B p n L2 ∧ Below B w w' ∧ KeepT 49 3 w w' := by
  have hB := h.lt
  subst hzl2
  obtain ⟨h1, v, h⟩ := h
  rcases hx with ⟨ht, rfl, rfl⟩ | ⟨ht, rfl⟩
  · have : L2 = L := by rw [hL2, after, ht]
    subst this
    exact (next_none h a c z hz (turn_none ht)).mono fun e w' ⟨he, hw⟩ => ⟨he, by rw [hw]; exact ⟨h1, v, h⟩, by rw [hw]; exact Below.refl _ _, by rw [hw]; exact KeepT.refl _ _ _⟩
  · obtain ⟨A, C, hL, hA, hx⟩ := turn_some ht
    have hxA : x ∉ A := fun hm => by rw [hA x hm] at hx; cases hx
    have her : L.erase x = A ++ C := by rw [hL, List.erase_append_right _ hxA, List.erase_cons_head]
    have : L2 = (A ++ C) ++ [x] := by rw [hL2, after, ht, ← her]
    subst this
    exact (next_some h a c z hz hB hL rfl hA hx).mono fun e w' ⟨he, v', hq, ho, _⟩ => ⟨he, ⟨h1, v', hq⟩, h.only_below ho hB h1 (Nat.le_refl _), h.keepT ho⟩
end

theorem Wh.setB {w : World} {B p : Nat} {n : Int} {L : List Int} {g : Nat} {cs : Array Value} (h : Wh w B p n L) (hg : Blk w g 4 cs) (i : Nat) (u : Value) : Wh (w.setCell ⟨g, i, none⟩ u) B p n L := by
  obtain ⟨h1, v, h⟩ := h
  have e1 : p ≠ g := fun e => (e ▸ h.blk).ne_ hg (by decide) rfl
  exact ⟨h1, v, h.blk.far (p := ⟨g, i, none⟩) e1 u, h.sl.far (p := ⟨g, i, none⟩) (h.sl.notBlk hg (by decide)) u, h.n0, h.n100, h.inside, h.nodup⟩
/-- 0, 1, .. -/
def upto (n : Nat) : List Int := (List.range n).map fun i : Nat => (i : Int)
theorem upto_succ (n : Nat) : upto (n + 1) = upto n ++ [(n : Int)] := by simp [upto, List.range_succ]
theorem upto_length (n : Nat) : (upto n).length = n := by simp [upto]
theorem mem_upto {n : Nat} {x : Int} : x ∈ upto n ↔ 0 ≤ x ∧ x < n := by
  simp only [upto, List.mem_map, List.mem_range]
  constructor
  · rintro ⟨i, hi, rfl⟩; omega
  · intro h; exact ⟨x.toNat, by omega, by omega⟩
theorem rdy_replicate {n : Nat} {x : Int} (h : 0 ≤ x ∧ x < n) : rdy (List.replicate n true) x = true := by
  unfold rdy
  rw [List.getD, List.getElem?_replicate, if_pos (by omega)]
  rfl
theorem turn_head {z : List Bool} {x : Int} {L : List Int} (h : rdy z x = true) : turn z (x :: L) = some x := by simp [turn, h]
theorem after_head {z : List Bool} {x : Int} {L : List Int} (h : rdy z x = true) : after z (x :: L) = L ++ [x] := by simp [after, turn_head h]
end Go.Proofs.Ytlkedcdhboahbaa
