/-
  Wheels: Remove, All, Next.
-/
import Derived.Test.YtlkedcdhboahbaaWheelA
namespace Go.Proofs.Ytlkedcdhboahbaa
open Go.RowKit

theorem setCells_blk {g : Nat} {t : TypeId} : ∀ (vs : List Value) (off : Nat) (w : World) (cs : Array Value), Blk w g t cs → off + vs.length ≤ cs.size →
    ∃ cs', Blk (w.setCells g off vs) g t cs' ∧ cs'.size = cs.size ∧ (∀ j, j < vs.length → cs'[off + j]? = vs[j]?) ∧ ∀ k, k < off → cs'[k]? = cs[k]?
  | [], off, w, cs, h, _ => ⟨cs, h, rfl, fun j hj => by simp at hj, fun _ _ => rfl⟩
  | v :: vs, off, w, cs, h, hs => by
    simp only [List.length_cons] at hs
    obtain ⟨cs', h1, h2, h3, h4⟩ := setCells_blk vs (off + 1) (w.setCell ⟨g, off, none⟩ v) _ (h.set_ off v) (by simp; omega)
    refine ⟨cs', h1, by simpa using h2, fun j hj => ?_, fun k hk => ?_⟩
    · cases j with
      | zero =>
        rw [Nat.add_zero, h4 off (by omega)]
        have : off < cs.size := by omega
        simp [this]
      | succ j =>
        rw [show off + (j + 1) = off + 1 + j by omega, h3 j (by simp at hj; omega)]
        rfl
    · rw [h4 k (by omega), Array.getElem?_setIfInBounds, if_neg (by omega)]
theorem setCells_only (g : Nat) : ∀ (vs : List Value) (off : Nat) (w : World), Only [g] w (w.setCells g off vs)
  | [], off, w => Only.refl _ _
  | v :: vs, off, w => ((Only.refl [g] w).setCell (p := ⟨g, off, none⟩) (by simp) v).trans (setCells_only g vs (off + 1) _)

theorem remove_nil (id : Int) (w : World) : Calls Try.prog 13 #[.pointer none, .int .i64 id] w fun e w' => e = .returned (.bool false) ∧ w' = w := by
  go_enter Try.func13, Try.ntmps13
  go_wp2
  go_ret
  exact ⟨rfl, rfl⟩
theorem remove_no {w : World} {base p : Nat} {n : Int} {v : Value} {L : List Int} (h : Wheel w base p n v L) (id : Int) (hno : id ∉ L) :
    Calls Try.prog 13 #[.pointer (some ⟨p, 0, none⟩), .int .i64 id] w fun e w' => e = .returned (.bool false) ∧ w' = w := by
  have c1 := h.blk.cellv 1 _ rfl
  have HI := hide (index_sl h.sl h.len id (-1) (by rw [idxI, if_neg hno]))
  clear h hno
  go_enter Try.func13, Try.ntmps13
  go_wp2_with fail
  (with_reducible refine (unhide HI).mono ?_)
  rintro e w1 ⟨rfl, rfl⟩
  go_wp2_with fail
  go_ret
  exact ⟨rfl, rfl⟩
theorem remove_yes {w : World} {base p : Nat} {n : Int} {v : Value} {L : List Int} (h : Wheel w base p n v L) (id : Int) (hin : id ∈ L) :
    Calls Try.prog 13 #[.pointer (some ⟨p, 0, none⟩), .int .i64 id] w fun e w' => e = .returned (.bool true) ∧ ∃ v', Wheel w' base p n v' (L.erase id) ∧ Only (p :: slB v) w w' ∧ slB v' = slB v := by
  obtain ⟨i, hi⟩ : ∃ i : Nat, i = L.idxOf id := ⟨_, rfl⟩
  have hil : i < L.length := by rw [hi]; exact List.idxOf_lt_length_iff.2 hin
  have hlen := h.len
  have HI := hide (index_sl h.sl h.len id i (by rw [idxI, if_pos hin, hi]))
  have hout := h.out
  rcases h.sl with ⟨_, hn⟩ | ⟨g, off, cap, cs, hv, hb, hg, h1, h2, h3, h4⟩
  · have : L = [] := by simpa [intL] using hn
    rw [this] at hil; simp at hil
  rw [intL_length] at hv h2 h4
  subst hv
  have hpg : p ≠ g := by simpa [slB] using hout
  have HD := hide (delete_cells g off L.length cap i (i + 1) L w (Nat.le_refl _) h2 (by unfold maxLen at h3; omega) (by omega) hil (fun j hj => by
    refine hg.cellv _ _ ?_
    rw [h4 j hj]
    simp [intL, List.getD, List.getElem?_eq_getElem hj]) (fun j _ => hg.frozen _))
  have hes : (L.take i ++ L.drop (i + 1)) = L.erase id := by
    rw [List.erase_eq_eraseIdx_of_idxOf hi.symm, List.eraseIdx_eq_take_drop_succ]
  have hel : (L.erase id).length = L.length - 1 := by rw [← hes, List.length_append, List.length_take, List.length_drop]; omega
  rw [List.take_length, hes, show i + 1 - i = 1 by omega] at HD
  have hq : ∀ (q : Nat) (X : World), X = (w.drewN q).setCells g off ((L.erase id ++ List.replicate 1 0).map (Value.int .i64)) →
      Only [g] w X ∧ Blk X p 49 #[.int .i64 n, .slice (some ⟨g, off, none⟩) L.length cap] ∧ Sl X base 3 (.slice (some ⟨g, off, none⟩) (L.length - 1) cap) (intL (L.erase id)) := by
    rintro q X rfl
    have ho : Only [g] w ((w.drewN q).setCells g off ((L.erase id ++ List.replicate 1 0).map (Value.int .i64))) := ((Only.refl _ w).drewN q).trans (setCells_only g _ off _)
    refine ⟨ho, ho.blk h.blk (by simpa using hpg), ?_⟩
    have hvl : ((L.erase id ++ List.replicate 1 0).map (Value.int .i64)).length = L.length := by simp [hel]; omega
    obtain ⟨cs', e1, e2, e3, _⟩ := setCells_blk ((L.erase id ++ List.replicate 1 0).map (Value.int .i64)) off (w.drewN q) cs (hg.drewN q) (by rw [hvl]; omega)
    refine .inr ⟨g, off, cap, cs', by rw [intL_length, hel], hb, e1, by omega, by rw [intL_length, hel]; omega, h3, fun j hj => ?_⟩
    rw [intL_length] at hj
    rw [e3 j (by rw [hvl]; omega), List.map_append, List.getElem?_append_left (by simpa using hj)]
    rfl
  have HQ := hide hq
  have HH := hide h
  have c1 := h.blk.cellv 1 _ rfl
  have hil2 : (i : Int) + 1 ≤ L.length := by omega
  have hcast : ((i + 1 : Nat) : Int) = (i : Int) + 1 := by push_cast; rfl
  rw [hcast] at HD
  clear hq hi hes hel h hg h4 hin hcast h1 h2 h3
  go_enter Try.func13, Try.ntmps13
  go_wp2_with fail
  (with_reducible refine (unhide HI).mono ?_)
  rintro e w ⟨rfl, rfl⟩
  go_wp2_with fail
  refine (unhide HD).mono ?_
  rintro e w2 ⟨rfl, q, hw2⟩
  obtain ⟨ho2, hb2, hs2⟩ := HQ.out q w2 hw2
  have d1 := hb2.cellv 1 _ rfl
  have f1 := hb2.frozen 1
  clear hw2
  go_wp2_with fail
  go_ret
  have hpv : p ∉ slB (.slice (some ⟨g, off, none⟩) (L.length - 1) cap) := by simpa [slB] using hpg
  refine ⟨rfl, _, ⟨hb2.set_ 1 _, hs2.far (p := ⟨p, 1, none⟩) hpv _, HH.out.n0, HH.out.n100, fun x hx => HH.out.inside x (List.mem_of_mem_erase hx), HH.out.nodup.erase _⟩, ?_, rfl⟩
  exact (ho2.mono (fun k hk => by simp [slB] at hk ⊢; exact .inr hk)).setCell (by simp) _

theorem all_nil (w : World) : Calls Try.prog 15 #[.pointer none] w fun e w' => e = .returned (.slice none 0 0) ∧ w' = w := by
  go_enter Try.func15, Try.ntmps15
  go_wp2
  go_ret
  exact ⟨rfl, rfl⟩
theorem all_any {w : World} {base p : Nat} {n : Int} {v : Value} {L : List Int} (h : Wheel w base p n v L) :
    Calls Try.prog 15 #[.pointer (some ⟨p, 0, none⟩)] w fun e w' => ∃ v', e = .returned v' ∧ w'.ownsRow w.heap.size 3 1 v' L.length (intL L) ∧ Below w.heap.size w w' := by
  have c1 := h.blk.cellv 1 _ rfl
  have hlen := h.len
  rcases h.sl with ⟨hv, hn⟩ | ⟨g, off, cap, cs, hv, hb, hg, h1, h2, h3, h4⟩
  · have : L = [] := by simpa [intL] using hn
    subst this hv
    have HC := hide (clone_nil 0 0 w)
    clear h hn
    go_enter Try.func15, Try.ntmps15
    go_wp2_with fail
    (with_reducible refine (unhide HC).mono ?_)
    rintro e w1 ⟨rfl, rfl⟩
    go_wp2_with fail
    go_ret
    exact ⟨_, rfl, World.ownsRow_nil _ _ _ _, Below.refl _ _⟩
  · rw [intL_length] at hv
    subst hv
    have HC := hide (clone_some g off L.length cap L w (Nat.le_refl _) (by omega) (fun j hj => by
      refine hg.cellv _ _ ?_
      rw [h4 j (by rw [intL_length]; exact hj)]
      simp [intL, List.getD, List.getElem?_eq_getElem hj]))
    rw [List.take_length] at HC
    clear h hg h4 h1 h2 h3
    go_enter Try.func15, Try.ntmps15
    go_wp2_with fail
    refine (unhide HC).mono ?_
    rintro e w1 ⟨v', rfl, hr, _, hb1⟩
    go_wp2_with fail
    go_ret
    exact ⟨_, rfl, hr, hb1⟩
end Go.Proofs.Ytlkedcdhboahbaa
