/-
  truchmanbook's lists of integers: marks, copies, whether two are alike.
-/
import Derived.Test.YtbgpihengcjgeaaBkA
import Derived.Test.YtbgpihengcjgeaaDraw
import Derived.Test.YtbgpihengcjgeaaRows
namespace Go.Proofs.Ytbgpihengcjgeaa
open Go.RowKit

/-- A slice of the call's own that shows the numbers L. -/
def LIs (w : World) (B : Nat) (v : Value) (L : List Int) : Prop := SlN w B 3 1 v L.length (intsL L)
/-- A slice that shows the numbers L, wherever it lies. -/
def IntsAt (w : World) (v : Value) (L : List Int) : Prop := ∃ a c, v = .slice a L.length c ∧ ∀ j (hj : j < L.length), ∃ g off, a = some ⟨g, off, none⟩ ∧ w.cell? ⟨g, off + j, none⟩ = some (.int .i64 L[j])
theorem LIs.at {w : World} {B : Nat} {v : Value} {L : List Int} (h : LIs w B v L) : IntsAt w v L := by
  obtain ⟨a, c, rfl⟩ := h.form
  refine ⟨a, c, rfl, fun j hj => ?_⟩
  obtain ⟨g, off, cap, hv, hc, _⟩ := h.cell j (by rw [intsL_length]; exact hj)
  injection hv with e1 _ _
  exact ⟨g, off, e1, by rw [hc]; simp [intsL]⟩
theorem cell_lt {w : World} {a : Addr} {v : Value} (h : w.cell? a = some v) : a.block < w.heap.size := by
  rcases Nat.lt_or_ge a.block w.heap.size with hlt | hge
  · exact hlt
  · unfold World.cell? at h; rw [Array.getElem?_eq_none hge] at h; cases h
theorem IntsAt.below {w w' : World} {v : Value} {L : List Int} (h : IntsAt w v L) (hb : Below w.heap.size w w') : IntsAt w' v L := by
  obtain ⟨a, c, hv, hc⟩ := h
  refine ⟨a, c, hv, fun j hj => ?_⟩
  obtain ⟨g, off, ha, hcell⟩ := hc j hj
  exact ⟨g, off, ha, (hb.cell (p := ⟨g, off + j, none⟩) (cell_lt hcell)).trans hcell⟩
theorem IntsAt.drewN {w : World} {v : Value} {L : List Int} (h : IntsAt w v L) (n : Nat) : IntsAt (w.drewN n) v L := h.below (below_drewN (Below.refl _ _) n)
theorem info_int_ : (Try.prog.info? 3).map (fun i => (i.zero, i.size, i.bytes)) = some (some (.int .i64 0), 1, 8) := by kernel_rfl

def markI (i k : Nat) : Int := -1000000 * (i : Int) - (k : Int) - 7
def marks (i fr n : Nat) : List Int := (List.range n).map fun k => markI i (fr + k)
theorem marks_length (i fr n : Nat) : (marks i fr n).length = n := by simp [marks]
theorem marks_succ (i fr n : Nat) : marks i fr (n + 1) = marks i fr n ++ [markI i (fr + n)] := by simp [marks, List.range_succ]
theorem marks_append (i n m : Nat) : marks i 0 n ++ marks i n m = marks i 0 (n + m) := by
  induction m with
  | zero => simp [marks]
  | succ m ih => rw [marks_succ, ← List.append_assoc, ih, Nat.add_succ, marks_succ]; simp

set_option maxRecDepth 100000 in
theorem mark_any (i fr n : Nat) (hi : i ≤ 1000) (hf : fr + n ≤ 100000) (w : World) :
    Calls Try.prog 39 #[.int .i64 i, .int .i64 fr, .int .i64 n] w fun e w' => ∃ v', e = .returned v' ∧ LIs w' w.heap.size v' (marks i fr n) ∧ Below w.heap.size w w' := by
  have hi2 : (i : Int) ≤ 1000 := by omega
  have hf2 : (fr : Int) + n ≤ 100000 := by omega
  go_enter Try.func39, Try.ntmps39
  go_wp2_with fail
  go_loopg [7, 8] n (fun g s7 s8 wr => ∃ (j : Nat) (v : Value), s8 = .int .i64 ((fr : Int) + j) ∧ j + g = n ∧ s7 = v ∧ Hid (SlN wr w.heap.size 3 1 v j (intsL (marks i fr j))) ∧ Hid (Below w.heap.size w wr))
  case atStart => exact ⟨0, _, by simp, by omega, rfl, hide (SlN.nil _ _ _ _), hide (Below.refl _ _)⟩
  case round =>
    obtain ⟨j, v, rfl, hj, rfl, hs, hb⟩ := hrel
    obtain ⟨a3, c3, hv3⟩ := hs.out.form
    subst hv3
    by_cases hlt : j < n
    · have hjn : decide ((fr : Int) + j < fr + n) = true := decide_eq_true (by omega)
      have hmul : IntKind.i64.wrap (-1000000 * (i : Int)) = -1000000 * (i : Int) := by rw [IntKind.wrap_i64]; omega
      have hj2 : (j : Int) ≤ 100000 := by omega
      obtain ⟨mk, hmk⟩ : ∃ mk : Int, mk = -1000000 * (i : Int) - ((fr : Int) + j) - 7 := ⟨_, rfl⟩
      have hmk2 : markI i (fr + j) = mk := by rw [hmk]; unfold markI; push_cast; omega
      have hms : intsL (marks i fr (j + 1)) = intsL (marks i fr j) ++ [.int .i64 mk] := by rw [marks_succ, intsL_append, hmk2]; rfl
      have HMS := hide hms
      have bb := Blk.new wr 3 #[.int .i64 mk]
      have HBB := hide bb
      have hmk3 : -1000000 * (i : Int) - ((fr : Int) + j) - 7 = mk := hmk.symm
      clear hms hmk2 bb hmk
      go_wp2_with (at_builtin; refine wpList_append_slN rfl (.tmp 17) (.tmp 23) 22 rfl _ 8 Try.underlying22 info_int_ rfl (by decide) (hs.out.alloc (.cells #[.int .i64 mk] 3)) (SlN.one (base := 0) (Nat.zero_le _) HBB.out).src rfl rfl rfl (by intro y hy; simp at hy; subst hy; rfl) (by unfold maxLen; omega) (by omega) (by have := hb.out.size; simp; omega) ?_; intro v2 w2 hs2 ho2 hf2)
      go_roundg (gk - 1)
      case measure => omega
      case rel => exact ⟨j + 1, v2, by go_num, by omega, rfl, hide (by rw [HMS.out]; exact hs2), hide (hb.out.trans (((((Only.refl [] wr).alloc _).mono (fun _ h => by cases h) |>.trans ho2)).below hb.out.size (fun k hk => (hs.out.lt k hk).1)))⟩
    · obtain rfl : j = n := by omega
      have hjn : decide ((fr : Int) + j < fr + j) = false := decide_eq_false (by omega)
      have HF : Hid (LIs wr w.heap.size (.slice a3 j c3) (marks i fr j)) := hide (by unfold LIs; rw [marks_length]; exact hs.out)
      go_wp2_with fail
      go_ret
      exact ⟨_, rfl, HF.out, hb.out⟩

theorem mark_at (i fr n : Nat) (ii fi ni : Int) (hii : ii = i) (hfi : fi = fr) (hni : ni = n) (hi : i ≤ 1000) (hf : fr + n ≤ 100000) (w : World) :
    Calls Try.prog 39 #[.int .i64 ii, .int .i64 fi, .int .i64 ni] w fun e w' => ∃ v', e = .returned v' ∧ SlN w' w.heap.size 3 1 v' n (intsL (marks i fr n)) ∧ Below w.heap.size w w' := by
  subst hii hfi hni
  refine (mark_any i fr n hi hf w).mono fun e w' ⟨v', he, h1, h2⟩ => ⟨v', he, ?_, h2⟩
  unfold LIs at h1
  rwa [marks_length] at h1
set_option maxRecDepth 100000 in
theorem copy_bk {w : World} {B : Nat} {v : Value} {L : List Int} (h : LIs w B v L) (hl : L.length ≤ 1000000) :
    Calls Try.prog 20 #[v] w fun e w' => ∃ u, e = .returned u ∧ LIs w' w.heap.size u L ∧ Below w.heap.size w w' := by
  obtain ⟨a, c, rfl⟩ := h.form
  have hsrc := h.src
  have HSRC := hide hsrc
  clear h hsrc
  go_enter Try.func20, Try.ntmps20
  go_wp2_with (at_builtin; refine wpList_append_slN rfl (.const (.slice none 0 0)) (.tmp 3) 22 rfl _ 8 Try.underlying22 info_int_ rfl (by decide) (SlN.nil _ w.heap.size 3 1) HSRC.out rfl rfl (by rw [intsL_length]; omega) (intsL_one L) (by unfold maxLen; omega) (by omega) (Nat.le_refl _) ?_; intro v2 w2 hs2 ho2 hf2; rw [Nat.zero_add, List.nil_append] at hs2)
  go_ret
  exact ⟨_, rfl, hs2, ho2.below (Nat.le_refl _) (fun k hk => by simp [slB] at hk)⟩

set_option maxRecDepth 100000 in
theorem same_bk {w : World} {u v : Value} {A B : List Int} (h1 : IntsAt w u A) (h2 : IntsAt w v B) (hA : A.length ≤ 1000000) (hB : B.length ≤ 1000000) (r : Bool) (hr : r = decide (A = B)) :
    Calls Try.prog 36 #[u, v] w fun e w' => e = .returned (.bool r) ∧ ∃ n, w' = w.drewN n := by
  obtain ⟨a1, c1, rfl, h1⟩ := h1
  obtain ⟨a2, c2, rfl, h2⟩ := h2
  have HR := hide hr
  clear hr
  by_cases hl : A.length = B.length
  rotate_left
  · have hr2 : r = false := by rw [HR.out]; simp; rintro rfl; exact hl rfl
    have hb : ((A.length : Int) == B.length) = false := by simp; omega
    subst hr2
    clear hl
    go_enter Try.func36, Try.ntmps36
    go_wp2_with fail
    go_ret
    exact ⟨rfl, 0, rfl⟩
  obtain ⟨n, hn⟩ : ∃ n, n = A.length := ⟨_, rfl⟩
  have hnB : B.length = n := by omega
  have hbb : ((n : Int) == n) = true := by simp
  have H1 := hide h1
  have H2 := hide h2
  have HnA := hide hn
  have HnB := hide hnB
  rw [← hn] at hA ⊢
  rw [hnB]
  clear h1 h2 hl hn hnB hB
  go_enter Try.func36, Try.ntmps36
  go_wp2_with fail
  go_loopg [5] n (fun g s5 wr => ∃ j : Nat, s5 = .int .i64 j ∧ j + g = n ∧ (∃ m, wr = w.drewN m) ∧ Hid (∀ i (hi : i < A.length) (hi2 : i < B.length), i < j → A[i] = B[i]))
  case atStart => exact ⟨0, rfl, by omega, ⟨0, rfl⟩, fun i _ _ h => by omega⟩
  case round =>
    obtain ⟨j, rfl, hj, ⟨m, rfl⟩, heq⟩ := hrel
    by_cases hlt : j < n
    · have hjA : j < A.length := by have := HnA.out; omega
      have hjB : j < B.length := by have := HnB.out; omega
      obtain ⟨g1, o1, rfl, k1⟩ := H1.out j hjA
      obtain ⟨g2, o2, rfl, k2⟩ := H2.out j hjB
      obtain ⟨x, hx⟩ : ∃ x, x = A[j] := ⟨_, rfl⟩
      obtain ⟨y, hy⟩ : ∃ y, y = B[j] := ⟨_, rfl⟩
      rw [← hx] at k1
      rw [← hy] at k2
      have hjn : (j : Int) < n := by omega
      by_cases hxy : x = y
      · subst hxy
        have heq2 : Hid (∀ i (hi : i < A.length) (hi2 : i < B.length), i < j + 1 → A[i] = B[i]) := fun i hi hi2 h => by
          by_cases hij : i = j
          · subst hij; rw [← hx, ← hy]
          · exact heq.out i hi hi2 (by omega)
        clear hx hy
        go_wp2_with fail
        go_quiet (fail)
        go_wp2_with fail
        go_roundg (gk - 1)
        case measure => omega
        case rel => exact ⟨j + 1, by go_num, by omega, ⟨_, rfl⟩, heq2⟩
      · have hb : (x == y) = false := by simpa using hxy
        have hr2 : r = false := by
          rw [HR.out]; simp
          rintro rfl
          exact hxy (by rw [hx, hy])
        subst hr2
        clear hx hy hxy
        go_wp2_with fail
        go_quiet (fail)
        go_wp2_with fail
        go_ret
        exact ⟨rfl, _, World.drewN_drewN _ _ _⟩
    · have hr2 : r = true := by
        rw [HR.out]; simp
        have e1 := HnA.out
        have e2 := HnB.out
        exact List.ext_getElem (by omega) (fun i hi hi2 => heq.out i hi hi2 (by omega))
      subst hr2
      go_wp2_with fail
      go_ret
      exact ⟨rfl, _, rfl⟩
end Go.Proofs.Ytbgpihengcjgeaa
