/-
  Queues: Next, All; each contract with the queue's list left open; alive.
-/
import Derived.Test.YtilfhanmokfhlaaQueueC
namespace Go.Proofs.Ytilfhanmokfhlaa
open Go.RowKit

theorem take_nil (ni : Int) (w : World) : Calls Try.prog 10 #[.pointer none, .int .i64 ni] w fun e w' => e = .returned (.string (S [])) ∧ Below w.heap.size w w' := by
  obtain ⟨m0, hm0⟩ : ∃ m0 : Int, m0 = min ni 0 := ⟨_, rfl⟩
  have hmin := min_i64 (P := Try.prog) #[3, 3] 3 ni 0 m0 hm0
  have hm1 : m0 ≤ 0 := by omega
  have HL := fun W => hide (len_nil W)
  have hb0 := Lib.fresh_isBuilder 48 5 w
  have HS := hide (builder_string w.heap.size w.heap.size [] _ hb0 (by simp))
  clear hm0
  go_enter Try.func10, Try.ntmps10
  go_wp2_with fail
  (with_reducible refine (unhide (HL _)).mono ?_)
  rintro e w1 ⟨rfl, rfl⟩
  go_wp2_with fail
  go_loopg [1, 6, 7] 1 (fun g s1 s6 s7 wr => s1 = .int .i64 m0 ∧ wr = w.alloc (.cells #[.pointer none, .slice none 0 0] 48))
  case atStart => exact ⟨rfl, rfl⟩
  case round =>
    obtain ⟨rfl, rfl⟩ := hrel
    go_wp2_with fail
    (with_reducible refine (unhide HS).mono ?_)
    rintro e w2 ⟨rfl, hb2⟩
    go_wp2_with fail
    go_ret
    exact ⟨rfl, ((Below.refl _ _).alloc (Nat.le_refl _) _).trans hb2⟩

theorem next_any {w : World} {base p : Nat} {v : Value} {L : List (List UInt8)} (h : Queue w base p v L) (hsz : L.flatten.length ≤ 1000000) (x : Int) (ok : Bool)
    (hx : (L = [] ∧ x = 0 ∧ ok = false) ∨ ∃ (b : UInt8) (r : List UInt8), L.flatten = b :: r ∧ x = (b.toNat : Int) ∧ ok = true) :
    Calls Try.prog 11 #[.pointer (some ⟨p, 0, none⟩)] w fun e w' => e = .returned (.tuple #[.int .u8 x, .bool ok]) ∧ ∃ v', Queue w' base p v' (dropQ 1 L) ∧ Only (p :: slB v) w w' ∧ (∀ k ∈ slB v', k ∈ slB v) := by
  rcases hx with ⟨rfl, rfl, rfl⟩ | ⟨b, r, hf, rfl, rfl⟩
  · have HT := hide (take_any h 1 0 (by simp only [List.flatten_nil, List.length_nil]; omega) (by simp))
    go_enter Try.func11, Try.ntmps11
    go_wp2_with fail
    (with_reducible refine (unhide HT).mono ?_)
    rintro e w1 ⟨rfl, v', hq, ho, hs⟩
    go_wp2_with fail
    go_ret2
    exact ⟨rfl, v', hq, ho, hs⟩
  · have HT := take_any h 1 1 (by rw [hf, List.length_cons]; omega) hsz
    rw [hf, show (b :: r).take 1 = [b] from rfl] at HT
    have HT := hide HT
    have hne : [b].isEmpty = false := rfl
    clear hf h
    go_enter Try.func11, Try.ntmps11
    go_wp2_with fail
    (with_reducible refine (unhide HT).mono ?_)
    rintro e w1 ⟨rfl, v', hq, ho, hs⟩
    go_wp2_with fail
    go_ret2
    exact ⟨rfl, v', hq, ho, hs⟩
theorem next_nil (w : World) : Calls Try.prog 11 #[.pointer none] w fun e w' => e = .returned (.tuple #[.int .u8 0, .bool false]) ∧ Below w.heap.size w w' := by
  have HT := hide (take_nil 1 w)
  go_enter Try.func11, Try.ntmps11
  go_wp2_with fail
  (with_reducible refine (unhide HT).mono ?_)
  rintro e w1 ⟨rfl, hb⟩
  go_wp2_with fail
  go_ret2
  exact ⟨rfl, hb⟩

theorem intercalate_nil (L : List (List UInt8)) : Lib.join L [] = L.flatten := by
  cases L with
  | nil => rfl
  | cons c L => rw [Lib.join_cons, List.flatten_cons, Lib.joinTail]; simp
theorem all_nil (w : World) : Calls Try.prog 12 #[.pointer none] w fun e w' => e = .returned (.string (S [])) ∧ w' = w := by
  go_enter Try.func12, Try.ntmps12
  go_wp2
  go_ret
  exact ⟨rfl, rfl⟩
theorem all_any {w : World} {base p : Nat} {v : Value} {L : List (List UInt8)} (h : Queue w base p v L) (hsz : L.flatten.length ≤ 1000000) (l : List UInt8) (hl : l = L.flatten) :
    Calls Try.prog 12 #[.pointer (some ⟨p, 0, none⟩)] w fun e w' => e = .returned (.string (S l)) ∧ Below w.heap.size w w' := by
  have c0 := h.blk.cellv 0 _ rfl
  by_cases h0 : L = []
  · subst h0 hl
    have hs := h.sl
    obtain ⟨a, c, hv⟩ := hs.form
    have hv' : v = .slice a 0 c := hv
    subst hv'
    have HJ := hide (join_none a c ⟨#[]⟩ w)
    clear h hs hv
    go_enter Try.func12, Try.ntmps12
    go_wp2_with fail
    (with_reducible refine (unhide HJ).mono ?_)
    rintro e w1 ⟨rfl, rfl⟩
    go_wp2_with fail
    go_ret
    exact ⟨rfl, Below.refl _ _⟩
  · have hpos : 0 < (strV L).length := by rw [strV_length]; exact List.length_pos_iff.2 h0
    have hfl := flat_le L h.ne
    rcases h.sl with ⟨_, hn⟩ | ⟨g, off, cap, cs, hv, hb, hg, h1, h2, h3, h4⟩
    · rw [hn] at hpos; simp at hpos
    have e2 : (L.map S).length = (strV L).length := by rw [List.length_map, strV_length]
    have e1 : Lib.join ((L.map S).map (·.data.toList)) (⟨#[]⟩ : ByteArray).data.toList = L.flatten := by
      rw [List.map_map, show ((fun x : ByteArray => x.data.toList) ∘ S) = id from rfl, List.map_id]
      exact intercalate_nil L
    have HJ := join_some g off cap (L.map S) ⟨#[]⟩ w (fun j x hj => by
      have hjl : j < L.length := by have := (List.getElem?_eq_some_iff.1 hj).1; simpa using this
      refine hg.cellv _ _ ?_
      rw [h4 j (by rw [strV_length]; exact hjl)]
      simp [strV] at hj ⊢
      obtain ⟨y, hy, rfl⟩ := hj
      exact ⟨y, hy, rfl⟩) hg.lt (by rw [e2, strV_length]; omega) (by rw [e2]; exact h2) (by rw [e1]; omega)
    rw [e1, e2, ← hl] at HJ
    have HJ := hide HJ
    subst hv
    obtain ⟨n, hn⟩ : ∃ n, n = (strV L).length := ⟨_, rfl⟩
    rw [← hn] at HJ c0
    clear h hl e1 e2 hn h1 h2 h3 h4 hpos hb
    go_enter Try.func12, Try.ntmps12
    go_wp2_with fail
    (with_reducible refine (unhide HJ).mono ?_)
    rintro e w1 ⟨rfl, hb⟩
    go_wp2_with fail
    go_ret
    exact ⟨rfl, hb⟩

/-- The queue at p has the chunks L; all of it lies from B on. -/
def Q (w : World) (B p : Nat) (L : List (List UInt8)) : Prop := B ≤ p ∧ ∃ v, Queue w B p v L
def addL (L : List (List UInt8)) (b : List UInt8) : List (List UInt8) := if b = [] then L else L ++ [b]
theorem addL_flat (L : List (List UInt8)) (b : List UInt8) : (addL L b).flatten = L.flatten ++ b := by
  unfold addL
  by_cases h : b = []
  · simp [h]
  · simp [h]
section
variable {w w' : World} {B p : Nat} {L : List (List UInt8)}
theorem Q.lt (h : Q w B p L) : B ≤ w.heap.size := by obtain ⟨h1, v, h⟩ := h; have := h.lt; omega
theorem Q.ne (h : Q w B p L) : ∀ l ∈ L, l ≠ [] := by obtain ⟨h1, v, h⟩ := h; exact h.ne
theorem Q.below {C : World} (h : Q w B p L) (hb : Below w.heap.size w C) : Q C B p L := by
  obtain ⟨h1, v, h⟩ := h
  exact ⟨h1, v, h.blk.below hb h.lt, h.sl.below hb (fun k hk => (h.sl.lt k hk).2), h.ne⟩
theorem Q.drewN (h : Q w B p L) (n : Nat) : Q (w.drewN n) B p L := h.below (below_drewN (Below.refl _ _) n)
theorem Q.drew (h : Q w B p L) : Q w.drew B p L := h.below (Below.refl _ _).drew
theorem Q.alloc (h : Q w B p L) (o : Obj) : Q (w.alloc o) B p L := h.below ((Below.refl _ _).alloc (Nat.le_refl _) _)
theorem Q.new (w : World) (hB : B ≤ w.heap.size) : Q (w.alloc (.cells #[.slice none 0 0, .int .i64 0] 27)) B w.heap.size [] := ⟨hB, _, Queue.new w B⟩
theorem add_Q (h : Q w B p L) (b : List UInt8) (s : ByteArray) (hs : s = S b) (hsz : L.flatten.length + b.length ≤ 1000000) :
    Calls Try.prog 9 #[.pointer (some ⟨p, 0, none⟩), .string s] w fun e w' => e = .returned (.tuple #[]) ∧ Q w' B p (addL L b) ∧ Below B w w' := by
  subst hs
  have hB := h.lt
  obtain ⟨h1, v, h⟩ := h
  unfold addL
  by_cases hb : b = []
  · subst hb
    rw [if_pos rfl]
    exact add_empty.mono fun e w' ⟨he, hw⟩ => ⟨he, by rw [hw]; exact ⟨h1, v, h⟩, by rw [hw]; exact Below.refl _ _⟩
  · rw [if_neg hb]
    exact (add_some h b hb hsz hB).mono fun e w' ⟨he, v', hq, ho, _⟩ => ⟨he, ⟨h1, v', hq⟩, h.only_below ho hB h1 (Nat.le_refl _)⟩
theorem take_Q (h : Q w B p L) (ni : Int) (k : Nat) (hk : (k : Int) = max (min ni L.flatten.length) 0) (hsz : L.flatten.length ≤ 1000000) (l : List UInt8) (hl : l = L.flatten.take k) :
    Calls Try.prog 10 #[.pointer (some ⟨p, 0, none⟩), .int .i64 ni] w fun e w' => e = .returned (.string (S l)) ∧ Q w' B p (dropQ k L) ∧ Below B w w' := by
  subst hl
  have hB := h.lt
  obtain ⟨h1, v, h⟩ := h
  exact (take_any h ni k hk hsz).mono fun e w' ⟨he, v', hq, ho, _⟩ => ⟨he, ⟨h1, v', hq⟩, h.only_below ho hB h1 (Nat.le_refl _)⟩
theorem next_Q (h : Q w B p L) (hsz : L.flatten.length ≤ 1000000) (x : Int) (ok : Bool)
    (hx : (L = [] ∧ x = 0 ∧ ok = false) ∨ ∃ (b : UInt8) (r : List UInt8), L.flatten = b :: r ∧ x = (b.toNat : Int) ∧ ok = true) :
    Calls Try.prog 11 #[.pointer (some ⟨p, 0, none⟩)] w fun e w' => e = .returned (.tuple #[.int .u8 x, .bool ok]) ∧ Q w' B p (dropQ 1 L) ∧ Below B w w' := by
  have hB := h.lt
  obtain ⟨h1, v, h⟩ := h
  exact (next_any h hsz x ok hx).mono fun e w' ⟨he, v', hq, ho, _⟩ => ⟨he, ⟨h1, v', hq⟩, h.only_below ho hB h1 (Nat.le_refl _)⟩
theorem cut_Q (h : Q w B p L) (ni : Int) (k : Nat) (hk : (k : Int) = max ni 0) (hsz : L.flatten.length ≤ 1000000) (r : Int) (hr : r = (L.flatten.length : Int) - min k L.flatten.length) :
    Calls Try.prog 17 #[.pointer (some ⟨p, 0, none⟩), .int .i64 ni] w fun e w' => e = .returned (.int .i64 r) ∧ Q w' B p (cutQ k L) ∧ Below B w w' := by
  have hB := h.lt
  obtain ⟨h1, v, h⟩ := h
  exact (cut_any h ni k hk hsz hB r hr).mono fun e w' ⟨he, v', hq, ho, _⟩ => ⟨he, ⟨h1, v', hq⟩, h.only_below ho hB h1 (Nat.le_refl _)⟩
theorem len_Q (h : Q w B p L) (n : Int) (hn : n = (L.flatten.length : Nat)) : Calls Try.prog 13 #[.pointer (some ⟨p, 0, none⟩)] w fun e w' => e = .returned (.int .i64 n) ∧ w' = w := by
  obtain ⟨h1, v, h⟩ := h
  exact len_any h n hn
theorem chunks_Q (h : Q w B p L) (n : Int) (hn : n = L.length) : Calls Try.prog 14 #[.pointer (some ⟨p, 0, none⟩)] w fun e w' => e = .returned (.int .i64 n) ∧ w' = w := by
  obtain ⟨h1, v, h⟩ := h
  exact chunks_any h n hn
theorem all_Q (h : Q w B p L) (hsz : L.flatten.length ≤ 1000000) (l : List UInt8) (hl : l = L.flatten) :
    Calls Try.prog 12 #[.pointer (some ⟨p, 0, none⟩)] w fun e w' => e = .returned (.string (S l)) ∧ Q w' B p L ∧ Below w.heap.size w w' := by
  have h' := h
  obtain ⟨h1, v, h⟩ := h
  exact (all_any h hsz l hl).mono fun e w' ⟨he, hb⟩ => ⟨he, h'.below hb, hb⟩
end

set_option maxRecDepth 100000 in
theorem alive_any (w : World) : Calls Try.prog 8 #[] w fun e w' => e = .returned (.bool true) ∧ Below w.heap.size w w' := by
  have h0 := Q.new (B := w.heap.size) w (Nat.le_refl _)
  have hb : Below w.heap.size w (w.alloc (.cells #[.slice none 0 0, .int .i64 0] 27)) := (Below.refl _ _).alloc (Nat.le_refl _) _
  have H1 := hide (add_Q h0 [97, 98] ⟨#[97, 98]⟩ rfl (by simp))
  clear h0
  go_enter Try.func8, Try.ntmps8
  go_wp2_with fail
  (with_reducible refine (unhide H1).mono ?_)
  rintro e w1 ⟨rfl, h1, hb1⟩
  have hb := hb.trans hb1
  have H2 := hide (add_Q h1 [99] ⟨#[99]⟩ rfl (by simp [addL]))
  clear H1 h1 hb1
  go_wp2_with fail
  (with_reducible refine (unhide H2).mono ?_)
  rintro e w2 ⟨rfl, h2, hb1⟩
  have hb := hb.trans hb1
  have H3 := hide (next_Q h2 (by simp [addL]) 97 true (.inr ⟨97, [98, 99], rfl, rfl, rfl⟩))
  clear H2 h2 hb1
  go_wp2_with fail
  (with_reducible refine (unhide H3).mono ?_)
  rintro e w3 ⟨rfl, h3, hb1⟩
  have hb := hb.trans hb1
  have h3' : Q w3 w.heap.size w.heap.size [[98], [99]] := h3
  have H4 := hide (chunks_Q h3' 2 rfl)
  clear H3 h3 hb1
  go_wp2_with fail
  (with_reducible refine (unhide H4).mono ?_)
  rintro e w3 ⟨rfl, rfl⟩
  have H5 := hide (take_Q h3' 1 1 (by decide) (by decide) [98] rfl)
  clear H4 h3'
  go_wp2_with fail
  (with_reducible refine (unhide H5).mono ?_)
  rintro e w4 ⟨rfl, h4, hb1⟩
  have hb := hb.trans hb1
  have h4' : Q w4 w.heap.size w.heap.size [[99]] := h4
  have H6 := hide (chunks_Q h4' 1 rfl)
  have H7 := hide (all_Q h4' (by simp) [99] rfl)
  clear H5 h4 hb1
  go_wp2_with fail
  (with_reducible refine (unhide H6).mono ?_)
  rintro e w4 ⟨rfl, rfl⟩
  go_wp2_with fail
  (with_reducible refine (unhide H7).mono ?_)
  rintro e w5 ⟨rfl, h5, hb1⟩
  have hb := hb.trans (hb1.mono hb.size)
  have H8 := hide (len_Q h5 1 rfl)
  clear H7 h4' H6 h5 hb1
  go_wp2_with fail
  (with_reducible refine (unhide H8).mono ?_)
  rintro e w5 ⟨rfl, rfl⟩
  go_wp2_with fail
  go_ret
  exact ⟨rfl, hb⟩
end Go.Proofs.Ytilfhanmokfhlaa
