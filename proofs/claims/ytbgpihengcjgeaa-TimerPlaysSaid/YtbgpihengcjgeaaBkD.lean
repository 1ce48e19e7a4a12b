/-
  truchmanbook's Book of lists of integers: are all as they were; each is marked.
-/
import Derived.Test.YtbgpihengcjgeaaBkC
import Derived.BigQuiet
namespace Go.Proofs.Ytbgpihengcjgeaa
open Go.RowKit

theorem quiet_sum {P : Program} {f : FuncId} {args : Array Value} {w : World} {m x : Nat} {v : Value}
    (h : Calls P f args (w.drewN (m + x)) fun e w' => e = .returned v ∧ ∃ n, w' = (w.drewN (m + x)).drewN n) : Calls P f args (w.drewN (m + x)) fun e w'' => e = .returned v ∧ ∃ n, w'' = w.drewN (m + n) :=
  h.mono fun _ _ ⟨he, n, hn⟩ => ⟨he, x + n, by rw [hn, World.drewN_drewN, Nat.add_assoc]⟩
set_option maxRecDepth 100000 in
set_option maxHeartbeats 1000000 in
theorem still_ints {w : World} {B p : Nat} {vi vw : Value} {L : List (Value × Value × List Int)} (h : BookI w B p vi vw L) :
    Calls Try.prog 22 #[.pointer (some ⟨p, 0, none⟩)] w fun e w' => e = .returned (.bool true) ∧ ∃ n, w' = w.drewN n := by
  have H := hide h
  obtain ⟨n, hn⟩ : ∃ n, n = L.length := ⟨_, rfl⟩
  have HN := hide hn
  have hlen := h.len
  rw [← hn] at hlen
  have hn2 : (n : Int) ≤ 250 := by omega
  have c2 := h.blk.cellv 2 _ rfl
  have c3 := h.blk.cellv 3 _ rfl
  obtain ⟨ai, ci, hvi⟩ := h.si.form
  obtain ⟨aw, cw, hvw⟩ := h.sw.form
  rw [← hn] at hvi hvw
  subst hvi hvw
  clear h hn
  go_enter Try.func22, Try.ntmps22
  go_wp2_with fail
  go_loopg [3] n (fun g s3 wr => ∃ (i m : Nat), s3 = .int .i64 i ∧ i + g = n ∧ wr = w.drewN m)
  case atStart => exact ⟨0, 0, rfl, by omega, rfl⟩
  case round =>
    obtain ⟨i, m, rfl, hi, rfl⟩ := hrel
    by_cases hlt : i < n
    · have hiL : i < L.length := by rw [← HN.out]; exact hlt
      obtain ⟨g1, o1, k1, hv1, hc1⟩ := H.out.si.row1 (by omega)
      obtain ⟨g2, o2, k2, hv2, hc2⟩ := H.out.sw.row1 (by omega)
      injection hv1 with e1 e2 e3
      injection hv2 with e4 e5 e6
      subst e1 e3 e4 e6
      obtain ⟨⟨x1, x2, xs⟩, hx⟩ : ∃ x, x = L[i] := ⟨_, rfl⟩
      have hx1 := (hc1 _ _ _ H.out.si i (by simpa using hiL)).1
      have hx2 := (hc2 _ _ _ H.out.sw i (by simpa using hiL)).1
      simp only [List.getElem_map, ← hx] at hx1 hx2
      have ho := H.out.own _ (List.getElem_mem hiL)
      rw [← hx] at ho
      have ho1 : LIs w B x1 xs := ho.1
      have ho2 : LIs w B x2 xs := ho.2.1
      have ho3 : xs.length ≤ 1000 := ho.2.2
      obtain ⟨a1, b1, hf1⟩ := SlN.form ho1
      obtain ⟨a2, b2, hf2⟩ := SlN.form ho2
      subst hf1 hf2
      have HS := fun nd => hide (same_bk (IntsAt.drewN (LIs.at ho1) nd) (IntsAt.drewN (LIs.at ho2) nd) (by omega) (by omega) true (by simp))
      clear ho1 ho2 ho3
      clear hx ho hc1 hc2 e2 e5
      go_wp2_with fail
      go_quiet ((go_at_call 36; exact quiet_sum (unhide (HS _))))
      go_wp2_with fail
      go_roundg (gk - 1)
      case measure => omega
      case rel => exact ⟨i + 1, _, by go_num, by omega, rfl⟩
    · obtain rfl : i = n := by omega
      go_wp2_with fail
      go_ret
      exact ⟨rfl, _, rfl⟩

theorem LIs.set {w : World} {B : Nat} {v : Value} {L : List Int} (h : LIs w B v L) (k : Nat) (hk : k < L.length) (x : Int) {g off c : Nat} (hv : v = .slice (some ⟨g, off, none⟩) L.length c) : LIs (w.setCell ⟨g, off + k, none⟩ (.int .i64 x)) B v (L.set k x) := by
  subst hv
  unfold LIs at h ⊢
  rw [List.length_set]
  rcases h with ⟨hv, _⟩ | ⟨g', off', cap', cs', hv, hb', hg', h1, h2, h3, h4, h5⟩
  · cases hv
  · injection hv with e1 e2 e3
    injection e1 with e1
    injection e1 with e4 e5
    subst e3 e4 e5
    refine .inr ⟨g, off, c, _, rfl, hb', hg'.set_ (off + k) _, by simpa using h1, h2, h3, by simp [intsL], fun j hj => ?_⟩
    rw [Array.getElem?_setIfInBounds]
    rw [intsL_length, List.length_set] at hj
    have hj2 := h5 j (by rw [intsL_length]; exact hj)
    by_cases hjk : off + k = off + j
    · have hkj : k = j := by omega
      subst hkj
      rw [if_pos rfl, if_pos (by omega)]
      simp [intsL, hk]
    · rw [if_neg hjk, hj2]
      simp only [intsL, List.getElem?_map]
      rw [List.getElem?_set_ne (by omega)]
/-- The book's lists alone. -/
structure ListsI (w : World) (B p : Nat) (vi vw : Value) (L : List (Value × List Int)) : Prop where
  pB : B ≤ p
  blk : Blk w p 41 #[.slice none 0 0, .slice none 0 0, vi, vw, .slice none 0 0, .slice none 0 0]
  si : SlN w B 22 1 vi L.length (L.map (·.1))
  own : ∀ x ∈ L, LIs w B x.1 x.2 ∧ x.2.length ≤ 1000
  apart : L.Pairwise (fun x y => ∀ k ∈ slB x.1, k ∉ slB y.1)
  len : L.length ≤ 250
section
variable {w w' : World} {B p : Nat} {vi vw : Value} {L : List (Value × List Int)}
theorem BookI.lists {L : List (Value × Value × List Int)} (h : BookI w B p vi vw L) : ListsI w B p vi vw (L.map fun x => (x.1, x.2.2)) :=
  ⟨h.pB, h.blk, by have := h.si; simpa [Function.comp_def] using this, fun x hx => by
    obtain ⟨y, hy, rfl⟩ := List.mem_map.1 hx
    exact ⟨(h.own y hy).1, (h.own y hy).2.2⟩, by rw [List.pairwise_map]; exact h.apart, by rw [List.length_map]; exact h.len⟩
theorem ListsI.keep {S : List Nat} (h : ListsI w B p vi vw L) (ho : Only S w w') (hp : p ∉ S) (hi : ∀ k ∈ slB vi, k ∉ S) (hS : ∀ x ∈ L, ∀ k ∈ slB x.1, k ∉ S) : ListsI w' B p vi vw L :=
  ⟨h.pB, ho.blk h.blk hp, h.si.keep ho hi, fun x hx => ⟨SlN.keep (h.own x hx).1 ho (hS x hx), (h.own x hx).2⟩, h.apart, h.len⟩
theorem ListsI.below (h : ListsI w B p vi vw L) (hb : Below w.heap.size w w') : ListsI w' B p vi vw L :=
  h.keep (Only.of_below hb []) (by simp) (fun k _ => by simp) (fun x _ k _ => by simp)
theorem ListsI.drew (h : ListsI w B p vi vw L) : ListsI w.drew B p vi vw L := h.below (Below.refl _ _).drew
theorem ListsI.drewN (h : ListsI w B p vi vw L) (n : Nat) : ListsI (w.drewN n) B p vi vw L := h.below (below_drewN (Below.refl _ _) n)
/-- One of its lists is written at a place. -/
theorem ListsI.put (h : ListsI w B p vi vw L) (i : Nat) (hi : i < L.length) {v : Value} {xs : List Int} (hx : L[i] = (v, xs)) (k : Nat) (hk : k < xs.length) (x : Int) {g off c : Nat} (hv : v = .slice (some ⟨g, off, none⟩) xs.length c) :
    ListsI (w.setCell ⟨g, off + k, none⟩ (.int .i64 x)) B p vi vw (L.set i (v, xs.set k x)) := by
  have hxo := h.own _ (List.getElem_mem hi)
  rw [hx] at hxo
  have hgv : g ∈ slB v := by rw [hv]; simp [slB]
  have hmap : (L.set i (v, xs.set k x)).map (·.1) = L.map (·.1) := by
    rw [List.map_set]
    apply List.ext_getElem (by simp)
    intro j h1 h2
    rw [List.getElem_set]
    split
    · rename_i hij
      subst hij
      simp [hx]
    · rfl
  have hap : (L.set i (v, xs.set k x)).Pairwise (fun x y => ∀ k ∈ slB x.1, k ∉ slB y.1) := by
    have h9 := h.apart
    have e : ∀ M : List (Value × List Int), M.Pairwise (fun x y => ∀ k ∈ slB x.1, k ∉ slB y.1) ↔ (M.map (·.1)).Pairwise (fun x y => ∀ k ∈ slB x, k ∉ slB y) := fun M => by rw [List.pairwise_map]
    rw [e] at h9 ⊢
    rw [hmap]
    exact h9
  refine ⟨h.pB, h.blk.far (p := ⟨g, off + k, none⟩) (fun e => SlN.notBlk hxo.1 h.blk (by decide) (by rw [e]; exact hgv)) _, ?_, fun y hy => ?_, hap, by rw [List.length_set]; exact h.len⟩
  · rw [List.length_set, hmap]
    exact h.si.far (p := ⟨g, off + k, none⟩) (SlN.apart_ h.si hxo.1 (by decide) g hgv) _
  · obtain ⟨j, hj, rfl⟩ := List.getElem_of_mem hy
    rw [List.length_set] at hj
    rw [List.getElem_set]
    split
    · exact ⟨LIs.set hxo.1 k hk x hv, by simp only [List.length_set]; exact hxo.2⟩
    · rename_i hij
      have hyo := h.own _ (List.getElem_mem hj)
      refine ⟨SlN.far hyo.1 (p := ⟨g, off + k, none⟩) (fun hg => ?_) _, hyo.2⟩
      have hpw := List.pairwise_iff_getElem.1 h.apart
      simp only at hg
      rcases Nat.lt_or_ge i j with hlt | hge
      · have := hpw i j hi hj hlt
        rw [hx] at this
        exact this g hgv hg
      · have := hpw j i hj hi (by omega)
        rw [hx] at this
        exact this g hg hgv
end
end Go.Proofs.Ytbgpihengcjgeaa
