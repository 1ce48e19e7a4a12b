/-
  The queue and the law's own list beside it.
-/
import Derived.Test.YtilfhanmokfhlaaQueueF
namespace Go.Proofs.Ytilfhanmokfhlaa
open Go.RowKit

theorem cutQ_stop (A C : List (List UInt8)) : ∀ n, n ≤ A.flatten.length → cutQ n (A ++ C) = cutQ n A := by
  induction A with
  | nil => intro n h; have : n = 0 := by simpa using h
           rw [this, List.nil_append, cutQ_zero]; rfl
  | cons c A ih =>
    intro n h
    rw [List.flatten_cons, List.length_append] at h
    rw [List.cons_append, cutQ, cutQ]
    by_cases h0 : n = 0
    · rw [if_pos h0, if_pos h0]
    · rw [if_neg h0, if_neg h0, ih _ (by omega)]
theorem cutQ_ne (L : List (List UInt8)) (hne : ∀ l ∈ L, l ≠ []) : ∀ n, ∀ l ∈ cutQ n L, l ≠ [] := by
  induction L with
  | nil => intro n l hl; cases hl
  | cons c L ih =>
    intro n l hl
    rw [cutQ] at hl
    by_cases h0 : n = 0
    · rw [if_pos h0] at hl; cases hl
    · rw [if_neg h0] at hl
      rcases List.mem_cons.1 hl with rfl | hl
      · have := List.length_pos_iff.2 (hne c (List.mem_cons_self ..))
        exact List.length_pos_iff.1 (by rw [List.length_take]; omega)
      · exact ih (fun l hl => hne l (List.mem_cons_of_mem _ hl)) _ l hl
theorem dropQ_ne (L : List (List UInt8)) (hne : ∀ l ∈ L, l ≠ []) : ∀ n, ∀ l ∈ dropQ n L, l ≠ [] := by
  induction L with
  | nil => intro n l hl; cases hl
  | cons c L ih =>
    intro n l hl
    rw [dropQ] at hl
    by_cases h0 : n < c.length
    · rw [if_pos h0] at hl
      rcases List.mem_cons.1 hl with rfl | hl
      · exact List.length_pos_iff.1 (by rw [List.length_drop]; omega)
      · exact hne l (List.mem_cons_of_mem _ hl)
    · rw [if_neg h0] at hl
      exact ih (fun l hl => hne l (List.mem_cons_of_mem _ hl)) _ l hl
/-- Ops stay. -/
def KeepO (w w' : World) : Prop := ∀ g cs, Blk w g 41 cs → Blk w' g 41 cs
theorem KeepO.refl (w : World) : KeepO w w := fun _ _ h => h
theorem KeepO.below {w w' : World} (h : Below w.heap.size w w') : KeepO w w' := fun _ _ hb => hb.below h hb.lt
/-- The queue at p has the chunks L, the variable at q the chunks M; all lies from B on. -/
def QH (w : World) (B p q : Nat) (L M : List (List UInt8)) : Prop := ∃ vq vh, Queue w B p vq L ∧ Hv w B q vh M ∧ (∀ k ∈ slB vh, k ∉ slB vq) ∧ B ≤ p ∧ B ≤ q
section
variable {w w' : World} {B p q : Nat} {L M : List (List UInt8)}
theorem QH.lt (h : QH w B p q L M) : B ≤ w.heap.size := by obtain ⟨vq, vh, h1, h2, h3, h4, h5⟩ := h; have := h1.lt; omega
theorem QH.ne (h : QH w B p q L M) : (∀ l ∈ L, l ≠ []) ∧ (∀ l ∈ M, l ≠ []) := by obtain ⟨vq, vh, h1, h2, h3, h4, h5⟩ := h; exact ⟨h1.ne, h2.ne⟩
theorem QH.below {C : World} (h : QH w B p q L M) (hb : Below w.heap.size w C) : QH C B p q L M := by
  obtain ⟨vq, vh, h1, h2, h3, h4, h5⟩ := h
  exact ⟨vq, vh, ⟨h1.blk.below hb h1.lt, h1.sl.below hb (fun k hk => (h1.sl.lt k hk).2), h1.ne⟩, ⟨h2.blk.below hb h2.blk.lt, h2.sl.below hb (fun k hk => (h2.sl.lt k hk).2), h2.ne⟩, h3, h4, h5⟩
theorem QH.drewN (h : QH w B p q L M) (n : Nat) : QH (w.drewN n) B p q L M := h.below (below_drewN (Below.refl _ _) n)
theorem QH.drew (h : QH w B p q L M) : QH w.drew B p q L M := h.below (Below.refl _ _).drew
theorem QH.alloc (h : QH w B p q L M) (o : Obj) : QH (w.alloc o) B p q L M := h.below ((Below.refl _ _).alloc (Nat.le_refl _) _)
theorem QH.cell (h : QH w B p q L M) : ∃ a c, w.cell? ⟨q, 0, none⟩ = some (.slice a M.length c) := by
  obtain ⟨vq, vh, h1, h2, _⟩ := h
  obtain ⟨a, c, rfl⟩ := h2.sl.form
  exact ⟨a, c, h2.blk.cellv 0 _ rfl⟩
theorem QH.ofQ {vq vh v' : Value} {L' : List (List UInt8)} (h1 : Queue w B p vq L) (h2 : Hv w B q vh M) (h3 : ∀ k ∈ slB vh, k ∉ slB vq) (h4 : B ≤ p) (h5 : B ≤ q)
    (hq : Queue w' B p v' L') (ho : Only (p :: slB vq) w w') (hf : ∀ k ∈ slB v', k ∈ slB vq ∨ w.heap.size ≤ k) : QH w' B p q L' M ∧ Below B w w' ∧ KeepO w w' := by
  have hpq : q ≠ p := h2.blk.ne_ h1.blk (by decide)
  have hqv : q ∉ slB vq := h1.sl.notBlk h2.blk (by decide)
  have hpv : p ∉ slB vh := h2.sl.notBlk h1.blk (by decide)
  refine ⟨⟨v', vh, hq, h2.keep ho (by simp [hpq, hqv]) (fun k hk => ?_), fun k hk hk' => ?_, h4, h5⟩, h1.only_below ho (by have := h1.lt; omega) h4 (Nat.le_refl _), fun g cs hb => ho.blk hb (fun hm => ?_)⟩
  · intro hm
    rcases List.mem_cons.1 hm with e | hm
    · exact hpv (e ▸ hk)
    · exact h3 k hk hm
  · rcases hf k hk' with h | h
    · exact h3 k hk h
    · have := (h2.sl.lt k hk).2; omega
  · rcases List.mem_cons.1 hm with e | hm
    · exact hb.ne_ h1.blk (by decide) e
    · exact h1.sl.notBlk hb (by decide) hm
theorem QH.ofH {vq vh v' : Value} {M' : List (List UInt8)} (h1 : Queue w B p vq L) (h2 : Hv w B q vh M) (h3 : ∀ k ∈ slB vh, k ∉ slB vq) (h4 : B ≤ p) (h5 : B ≤ q)
    (hq : Hv w' B q v' M') (ho : Only [q] w w') (hf : ∀ k ∈ slB v', k ∈ slB vh ∨ w.heap.size ≤ k) : QH w' B p q L M' ∧ Below B w w' ∧ KeepO w w' := by
  have hpq : p ≠ q := h1.blk.ne_ h2.blk (by decide)
  have hqv : q ∉ slB vq := h1.sl.notBlk h2.blk (by decide)
  refine ⟨⟨vq, v', h1.keep ho (by simp [hpq]) (fun k hk => by simp; rintro rfl; exact hqv hk), hq, fun k hk hk' => ?_, h4, h5⟩, ho.below (by have := h1.lt; omega) (by simp; exact h5), fun g cs hb => ho.blk hb (by simp; exact hb.ne_ h2.blk (by decide))⟩
  rcases hf k hk with h | h
  · exact h3 k h hk'
  · have := (h1.sl.lt k hk').2; omega
theorem QH.put {W : World} {v' : Value} {M' : List (List UInt8)} (h : QH w B p q L M) (ho : Only [] w W) (hs : SlN W B 9 1 v' M'.length (strV M')) (hf : ∀ k ∈ slB v', w.heap.size ≤ k) (hne : ∀ l ∈ M', l ≠ []) :
    QH (W.setCell ⟨q, 0, none⟩ v') B p q L M' ∧ Below B w (W.setCell ⟨q, 0, none⟩ v') ∧ KeepO w (W.setCell ⟨q, 0, none⟩ v') := by
  obtain ⟨vq, vh, h1, h2, h3, h4, h5⟩ := h
  have hqb := ho.blk h2.blk (by simp)
  have hqv : q ∉ slB v' := fun hk => by have := hf q hk; have := h2.blk.lt; omega
  exact QH.ofH h1 h2 h3 h4 h5 ⟨hqb.set_ 0 v', hs.far (p := ⟨q, 0, none⟩) hqv v', hne⟩ ((ho.mono (fun _ h => by cases h)).setCell (by simp) v') (fun k hk => .inr (hf k hk))
theorem QH.frozen (h : QH w B p q L M) : w.frozen? ⟨q, 0, none⟩ = false := by
  obtain ⟨vq, vh, h1, h2, _⟩ := h
  exact h2.blk.frozen 0
theorem QH.src (h : QH w B p q L M) {a : Option Addr} {c : Nat} (hc : w.cell? ⟨q, 0, none⟩ = some (.slice a M.length c)) : SlN w B 9 1 (.slice a M.length c) M.length (strV M) := by
  obtain ⟨vq, vh, h1, h2, _⟩ := h
  have := h2.blk.cellv 0 _ rfl
  rw [hc] at this
  injection this with this
  rw [this]
  exact h2.sl
theorem QH.qlt (h : QH w B p q L M) : q < w.heap.size := by obtain ⟨vq, vh, h1, h2, _⟩ := h; exact h2.blk.lt
theorem add_H (h : QH w B p q L M) (b : List UInt8) (hsz : L.flatten.length + b.length ≤ 1000000) (L2 : List (List UInt8)) (hL2 : L2 = addL L b) :
    Calls Try.prog 9 #[.pointer (some ⟨p, 0, none⟩), .string (S b)] w fun e w' => e = .returned (.tuple #[]) ∧ QH w' B p q L2 M ∧ Below B w w' ∧ KeepO w w' := by
  subst hL2
  have hB := h.lt
  have h0 := h
  obtain ⟨vq, vh, h1, h2, h3, h4, h5⟩ := h
  unfold addL
  by_cases hb : b = []
  · subst hb
    rw [if_pos rfl]
    exact add_empty.mono fun e w' ⟨he, hw⟩ => ⟨he, by rw [hw]; exact ⟨h0, Below.refl _ _, KeepO.refl _⟩⟩
  · rw [if_neg hb]
    exact (add_some h1 b hb hsz hB).mono fun e w' ⟨he, v', hq, ho, hf⟩ => ⟨he, QH.ofQ h1 h2 h3 h4 h5 hq ho hf⟩
theorem take_H (h : QH w B p q L M) (ni : Int) (k : Nat) (hk : (k : Int) = max (min ni L.flatten.length) 0) (hsz : L.flatten.length ≤ 1000000) (l : List UInt8) (hl : l = L.flatten.take k) (L2 : List (List UInt8)) (hL2 : L2 = dropQ k L) :
    Calls Try.prog 10 #[.pointer (some ⟨p, 0, none⟩), .int .i64 ni] w fun e w' => e = .returned (.string (S l)) ∧ QH w' B p q L2 M ∧ Below B w w' ∧ KeepO w w' := by
  subst hL2 hl
  obtain ⟨vq, vh, h1, h2, h3, h4, h5⟩ := h
  exact (take_any h1 ni k hk hsz).mono fun e w' ⟨he, v', hq, ho, hf⟩ => ⟨he, QH.ofQ h1 h2 h3 h4 h5 hq ho (fun k hk => .inl (hf k hk))⟩
theorem next_H (h : QH w B p q L M) (hsz : L.flatten.length ≤ 1000000) (x : Int) (ok : Bool)
    (hx : (L = [] ∧ x = 0 ∧ ok = false) ∨ ∃ (b : UInt8) (r : List UInt8), L.flatten = b :: r ∧ x = (b.toNat : Int) ∧ ok = true) (L2 : List (List UInt8)) (hL2 : L2 = dropQ 1 L) :
    Calls Try.prog 11 #[.pointer (some ⟨p, 0, none⟩)] w fun e w' => e = .returned (.tuple #[.int .u8 x, .bool ok]) ∧ QH w' B p q L2 M ∧ Below B w w' ∧ KeepO w w' := by
  subst hL2
  obtain ⟨vq, vh, h1, h2, h3, h4, h5⟩ := h
  exact (next_any h1 hsz x ok hx).mono fun e w' ⟨he, v', hq, ho, hf⟩ => ⟨he, QH.ofQ h1 h2 h3 h4 h5 hq ho (fun k hk => .inl (hf k hk))⟩
theorem cut_H (h : QH w B p q L M) (ni : Int) (k : Nat) (hk : (k : Int) = max ni 0) (hsz : L.flatten.length ≤ 1000000) (r : Int) (hr : r = (L.flatten.length : Int) - min k L.flatten.length) (L2 : List (List UInt8)) (hL2 : L2 = cutQ k L) :
    Calls Try.prog 17 #[.pointer (some ⟨p, 0, none⟩), .int .i64 ni] w fun e w' => e = .returned (.int .i64 r) ∧ QH w' B p q L2 M ∧ Below B w w' ∧ KeepO w w' := by
  subst hL2
  have hB := h.lt
  obtain ⟨vq, vh, h1, h2, h3, h4, h5⟩ := h
  exact (cut_any h1 ni k hk hsz hB r hr).mono fun e w' ⟨he, v', hq, ho, hf⟩ => ⟨he, QH.ofQ h1 h2 h3 h4 h5 hq ho hf⟩
theorem len_H (h : QH w B p q L M) (n : Int) (hn : n = (L.flatten.length : Nat)) : Calls Try.prog 13 #[.pointer (some ⟨p, 0, none⟩)] w fun e w' => e = .returned (.int .i64 n) ∧ w' = w := by
  obtain ⟨vq, vh, h1, _⟩ := h
  exact len_any h1 n hn
theorem chunks_H (h : QH w B p q L M) (n : Int) (hn : n = L.length) : Calls Try.prog 14 #[.pointer (some ⟨p, 0, none⟩)] w fun e w' => e = .returned (.int .i64 n) ∧ w' = w := by
  obtain ⟨vq, vh, h1, _⟩ := h
  exact chunks_any h1 n hn
theorem all_H (h : QH w B p q L M) (hsz : L.flatten.length ≤ 1000000) (l : List UInt8) (hl : l = L.flatten) :
    Calls Try.prog 12 #[.pointer (some ⟨p, 0, none⟩)] w fun e w' => e = .returned (.string (S l)) ∧ QH w' B p q L M ∧ Below w.heap.size w w' := by
  have h0 := h
  obtain ⟨vq, vh, h1, _⟩ := h
  exact (all_any h1 hsz l hl).mono fun e w' ⟨he, hb⟩ => ⟨he, h0.below hb, hb⟩
theorem allc_H (h : QH w B p q L M) (hsz : M.flatten.length ≤ 1000000) (l : List UInt8) (hl : l = M.flatten) :
    Calls Try.prog 15 #[.pointer (some ⟨q, 0, none⟩)] w fun e w' => e = .returned (.string (S l)) ∧ w' = w := by
  obtain ⟨vq, vh, h1, h2, _⟩ := h
  exact allc_any h2 hsz l hl
theorem dropc_H (h : QH w B p q L M) (hsz : M.flatten.length ≤ 1000000) (ni : Int) (n : Nat) (hn : ni = n) (hn2 : n ≤ 1000000) (M2 : List (List UInt8)) (hM2 : M2 = dropQ n M) :
    Calls Try.prog 16 #[.int .i64 ni, .pointer (some ⟨q, 0, none⟩)] w fun e w' => e = .returned (.tuple #[]) ∧ QH w' B p q L M2 ∧ Below B w w' ∧ KeepO w w' := by
  subst hM2
  have hB := h.lt
  obtain ⟨vq, vh, h1, h2, h3, h4, h5⟩ := h
  exact (dropc_any h2 hB hsz ni n hn hn2).mono fun e w' ⟨he, v', hq, ho, hf⟩ => ⟨he, QH.ofH h1 h2 h3 h4 h5 hq ho hf⟩
end
end Go.Proofs.Ytilfhanmokfhlaa
