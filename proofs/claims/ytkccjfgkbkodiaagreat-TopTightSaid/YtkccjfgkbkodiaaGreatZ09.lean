/-
  PkB · PkC: parts of the walk of TopTight, under no condition.
-/
import Derived.BigQuiet
import Derived.Deep.QuietTactic
import Derived.Test.YtkccjfgkbkodiaaGreatZ05
import Derived.Test.YtkccjfgkbkodiaaGreatZ08
namespace Go.Proofs.YtkccjfgkbkodiaaGreat
open Go.RowKit
/-- An open container. -/
structure Cont where
  pairs : Bool
  count : Int
  parts : Nat
def Cont.between (c : Cont) : Bool := c.pairs && decide (c.parts % 2 = 1)
def Cont.full (c : Cont) : Bool := if c.pairs then !c.between && decide (((c.parts / 2 : Nat) : Int) = c.count) else decide ((c.parts : Int) = c.count)
def Cont.cells (c : Cont) : List Value := [.bool c.pairs, .int .i64 c.count, .int .i64 c.parts]
def Cont.more (c : Cont) : Cont := { c with parts := c.parts + 1 }
def contV (L : List Cont) : List Value := L.flatMap Cont.cells
theorem contV_append (L M : List Cont) : contV (L ++ M) = contV L ++ contV M := by simp [contV]
theorem contV_length (L : List Cont) : (contV L).length = L.length * 3 := by
  induction L with
  | nil => rfl
  | cons c L ih =>
    have : contV (c :: L) = c.cells ++ contV L := by simp [contV]
    rw [this, List.length_append, ih]
    simp [Cont.cells]
    omega
/-- The writer at p: its open containers, whether it is done. -/
def Wr (w : World) (B p : Nat) (v : Value) (L : List Cont) (d : Bool) : Prop := B ≤ p ∧ Blk w p 176 #[v, .bool d] ∧ SlN w B 351 3 v L.length (contV L)
section
variable {w w' : World} {B p : Nat} {v : Value} {L M : List Cont} {d : Bool} {c : Cont}
theorem Wr.lt (h : Wr w B p v L d) : B ≤ w.heap.size := by have := h.2.1.lt; have := h.1; omega
theorem Wr.out (h : Wr w B p v L d) : p ∉ slB v := h.2.2.notBlk h.2.1 (by decide)
theorem Wr.below {C : World} (h : Wr w B p v L d) (hb : Below w.heap.size w C) : Wr C B p v L d := ⟨h.1, h.2.1.below hb h.2.1.lt, h.2.2.below hb (fun k hk => (h.2.2.lt k hk).2)⟩
theorem Wr.keep {T : List Nat} (h : Wr w B p v L d) (ho : Only T w w') (h1 : p ∉ T) (h2 : ∀ k ∈ slB v, k ∉ T) : Wr w' B p v L d := ⟨h.1, ho.blk h.2.1 h1, h.2.2.keep ho h2⟩
theorem SlN.oneN {base g : Nat} {t : TypeId} {s : Nat} {cs : Array Value} (hb : base ≤ g) (h : Blk w g t cs) (hl : cs.size = s) : SlN w base t s (.slice (some ⟨g, 0, none⟩) 1 1) 1 cs.toList :=
  .inr ⟨g, 0, 1, cs, rfl, hb, h, by omega, Nat.le_refl _, by unfold maxLen; omega, by simp [hl], fun j _ => by simp⟩
theorem SlN.cap_le {w : World} {base : Nat} {t : TypeId} {s : Nat} {a : Option Addr} {n cap n' : Nat} {xs : List Value} (h : SlN w base t s (.slice a n cap) n' xs) : n = n' ∧ n' ≤ cap ∧ cap ≤ maxLen := by
  rcases h with ⟨hv, rfl, _⟩ | ⟨g, off, cap', cs, hv, hb, hg, h1, h2, h3, _⟩
  · injection hv with _ e2 e3
    subst e2 e3
    exact ⟨rfl, Nat.le_refl _, by unfold maxLen; omega⟩
  · injection hv with _ e2 e3
    subst e2 e3
    exact ⟨rfl, h2, h3⟩
theorem slice_top {P : Program} {t : TypeId} {z : Nat} (hte : P.underlying t = some (.slice (P.elem t))) (hz : ∀ w, (sizeOf (P.elem t)).run P w = .ok z w) (g off len n cap : Nat) (hn : n ≤ cap) (ni : Int) (hni : ni = n) (W : World) :
    (Instr.slice t (.slice (some ⟨g, off, none⟩) len cap) none (some (.int .i64 ni)) none).run P W = .ok (.slice (some ⟨g, off, none⟩) n cap) W := by
  subst hni
  rw [run_slice_h W t _ _ _ hte .i64 (n : Int) (by omega) (by omega), hz]
  simp [Result.andThen, sliced, Addr.add]
theorem top_get (i : Nat) (u : Value) (hu : c.cells[i]? = some u) (hi : i < 3) : (contV (M ++ [c]))[M.length * 3 + i]? = some u := by
  rw [contV_append, List.getElem?_append_right (by rw [contV_length]; omega), contV_length, Nat.add_sub_cancel_left]
  simpa [contV] using hu
/-- What is at the top. -/
theorem top_some {t : TypeId} {B : Nat} (h : SlN w B t 3 v (M ++ [c]).length (contV (M ++ [c]))) (n : Nat) (hn : n = M.length) : ∃ g off cap, v = .slice (some ⟨g, off, none⟩) (n + 1) cap ∧ g < w.heap.size ∧
    w.cell? ⟨g, off + n * 3, none⟩ = some (.bool c.pairs) ∧ w.cell? ⟨g, off + n * 3 + 1, none⟩ = some (.int .i64 c.count) ∧ w.cell? ⟨g, off + n * 3 + 2, none⟩ = some (.int .i64 c.parts) ∧ w.frozen? ⟨g, off + n * 3 + 2, none⟩ = false ∧
    (∀ W, SlN W B t 3 v (M ++ [c]).length (contV (M ++ [c])) → SlN (W.setCell ⟨g, off + n * 3 + 2, none⟩ (.int .i64 ((c.parts + 1 : Nat) : Int))) B t 3 v (M ++ [c.more]).length (contV (M ++ [c.more]))) ∧
    (∀ W, SlN W B t 3 v (M ++ [c]).length (contV (M ++ [c])) → SlN W B t 3 (.slice (some ⟨g, off, none⟩) n cap) n (contV M)) := by
  subst hn
  rcases h with ⟨_, h, _⟩ | ⟨g, off, cap, cs, rfl, hb, hg, h1, h2, h3, h4, h5⟩
  · simp at h
  · have hl : (contV (M ++ [c])).length = M.length * 3 + 3 := by rw [contV_length]; simp; omega
    have get : ∀ i u, i < 3 → c.cells[i]? = some u → w.cell? ⟨g, off + M.length * 3 + i, none⟩ = some u := fun i u hi hu => by
      rw [hg.cell, show off + M.length * 3 + i = off + (M.length * 3 + i) by omega, h5 _ (by omega)]
      exact top_get i u hu hi
    refine ⟨g, off, cap, by simp, hg.lt, by simpa using get 0 _ (by omega) rfl, get 1 _ (by omega) rfl, get 2 _ (by omega) rfl, hg.frozen _, fun W hW => ?_, fun W hW => ?_⟩
    · rcases hW with ⟨hv, _⟩ | ⟨g', off', cap', cs', hv, hb', hg', h1', h2', h3', h4', h5'⟩
      · cases hv
      · injection hv with e1 e2 e3
        injection e1 with e1
        injection e1 with e4 e5
        subst e3 e4 e5
        refine .inr ⟨g, off, cap, _, by simp, hb', hg'.set_ _ _, by simpa using h1', by simpa using h2', h3', by rw [contV_length], fun j hj => ?_⟩
        rw [contV_length] at hj
        simp only [List.length_append, List.length_singleton] at hj
        rw [Array.getElem?_setIfInBounds]
        by_cases hj2 : off + M.length * 3 + 2 = off + j
        · have hj3 : j = M.length * 3 + 2 := by omega
          subst hj3
          have hs : off + M.length * 3 + 2 < cs'.size := by
            have := Nat.mul_le_mul_right 3 h2'
            simp at this
            omega
          rw [if_pos hj2, if_pos hs]
          exact (top_get (c := c.more) 2 _ rfl (by omega)).symm
        · rw [if_neg hj2, h5' j (by rw [hl]; omega)]
          by_cases hjm : j < M.length * 3
          · rw [contV_append, contV_append, List.getElem?_append_left (by rw [contV_length]; exact hjm), List.getElem?_append_left (by rw [contV_length]; exact hjm)]
          · obtain ⟨i, rfl⟩ : ∃ i, j = M.length * 3 + i := ⟨j - M.length * 3, by omega⟩
            have hi : i = 0 ∨ i = 1 := by omega
            rcases hi with rfl | rfl
            · rw [top_get (c := c) 0 _ rfl (by omega), top_get (c := c.more) 0 _ rfl (by omega)]; rfl
            · rw [top_get (c := c) 1 _ rfl (by omega), top_get (c := c.more) 1 _ rfl (by omega)]; rfl
    · rcases hW with ⟨hv, _⟩ | ⟨g', off', cap', cs', hv, hb', hg', h1', h2', h3', h4', h5'⟩
      · cases hv
      · injection hv with e1 e2 e3
        injection e1 with e1
        injection e1 with e4 e5
        subst e3 e4 e5
        simp only [List.length_append, List.length_singleton] at h2'
        refine .inr ⟨g, off, cap, cs', rfl, hb', hg', h1', by omega, h3', contV_length _, fun j hj => ?_⟩
        rw [h5' j (by rw [hl]; rw [contV_length] at hj; omega), contV_append, List.getElem?_append_left hj]
end
set_option maxRecDepth 100000 in
theorem between_any (c : Cont) (hp : c.parts ≤ 1000000) (w : World) (r : Bool) (hr : r = c.between) :
    Calls Tryz.prog 285 #[.agg #[.bool c.pairs, .int .i64 c.count, .int .i64 c.parts]] w fun e w' => e = .returned (.bool r) ∧ Below w.heap.size w w' := by
  obtain ⟨b, n, k⟩ := c
  simp only [Cont.between] at hr hp ⊢
  have hk : (k : Int) ≤ 1000000 := by omega
  cases b with
  | false =>
    simp at hr
    subst hr
    go_enter Tryz.func285, Tryz.ntmps285
    go_wp2_with fail
    go_ret
    exact ⟨rfl, (Below.refl _ _).alloc (Nat.le_refl _) _⟩
  | true =>
    have h2 : decide ((0 : Int) < (k : Int) % 2) = r := by rw [hr, Bool.true_and, decide_eq_decide]; omega
    clear hr
    go_enter Tryz.func285, Tryz.ntmps285
    go_wp2_with fail
    go_ret
    exact ⟨rfl, (Below.refl _ _).alloc (Nat.le_refl _) _⟩
set_option maxRecDepth 100000 in
theorem full_any (c : Cont) (hp : c.parts ≤ 1000000) (w : World) (r : Bool) (hr : r = c.full) :
    Calls Tryz.prog 284 #[.agg #[.bool c.pairs, .int .i64 c.count, .int .i64 c.parts]] w fun e w' => e = .returned (.bool r) ∧ Below w.heap.size w w' := by
  have HB := fun W r hr => hide (between_any c hp W r hr)
  obtain ⟨b, n, k⟩ := c
  simp only [Cont.full] at hr hp HB ⊢
  have hk : (k : Int) ≤ 1000000 := by omega
  cases b with
  | false =>
    have h2 : ((k : Int) == n) = r := by rw [hr, Bool.eq_iff_iff]; simp
    clear hr HB
    go_enter Tryz.func284, Tryz.ntmps284
    go_wp2_with fail
    go_ret
    exact ⟨rfl, (Below.refl _ _).alloc (Nat.le_refl _) _⟩
  | true =>
    rw [if_pos rfl] at hr
    cases hbt : (Cont.mk true n k).between with
    | true =>
      rw [hbt] at hr
      simp at hr
      subst hr
      have H := HB (w.alloc (.cells #[.bool true, .int .i64 n, .int .i64 k] 351)) true hbt.symm
      clear HB hbt
      go_enter Tryz.func284, Tryz.ntmps284
      go_wp2_with fail
      refine (unhide H).mono ?_
      rintro e w1 ⟨rfl, hb⟩
      go_wp2_with fail
      go_ret
      exact ⟨rfl, ((Below.refl _ _).alloc (Nat.le_refl _) _).trans (hb.mono (by simp))⟩
    | false =>
      rw [hbt] at hr
      have h2 : ((k : Int) / 2 == n) = r := by rw [hr, Bool.eq_iff_iff]; simp
      have H := HB (w.alloc (.cells #[.bool true, .int .i64 n, .int .i64 k] 351)) false hbt.symm
      have d1 : (w.alloc (.cells #[.bool true, .int .i64 n, .int .i64 k] 351)).cell? ⟨w.heap.size, 1, none⟩ = some (.int .i64 n) := (Blk.new w 351 #[.bool true, .int .i64 n, .int .i64 k]).cellv 1 _ rfl
      have d2 : (w.alloc (.cells #[.bool true, .int .i64 n, .int .i64 k] 351)).cell? ⟨w.heap.size, 2, none⟩ = some (.int .i64 k) := (Blk.new w 351 #[.bool true, .int .i64 n, .int .i64 k]).cellv 2 _ rfl
      clear HB hbt hr
      go_enter Tryz.func284, Tryz.ntmps284
      go_wp2_with fail
      refine (unhide H).mono ?_
      rintro e w1 ⟨rfl, hb⟩
      have d3 := (hb.cell (p := ⟨w.heap.size, 1, none⟩) (by simp)).trans d1
      have d4 := (hb.cell (p := ⟨w.heap.size, 2, none⟩) (by simp)).trans d2
      clear d1 d2
      go_wp2_with fail
      go_ret
      exact ⟨rfl, ((Below.refl _ _).alloc (Nat.le_refl _) _).trans (hb.mono (by simp))⟩
end Go.Proofs.YtkccjfgkbkodiaaGreat
namespace Go.Proofs.YtkccjfgkbkodiaaGreat
open Go.RowKit
/-- A byte by the size of a number, and the number. -/
def sizedL (first : Nat) : Nat → List Nat → Nat → List UInt8
  | _, [], _ => []
  | i, n :: L, v => if n = 8 ∨ v < 2 ^ (8 * n) then bigL (first + i) 1 ++ bigL v n else sizedL first (i + 1) L v
theorem sizedL_hit {first i n : Nat} {L : List Nat} {v : Nat} (h : n = 8 ∨ v < 2 ^ (8 * n)) : sizedL first i (n :: L) v = bigL (first + i) 1 ++ bigL v n := by rw [sizedL, if_pos h]
theorem sizedL_next {first i n : Nat} {L : List Nat} {v : Nat} (h : ¬ (n = 8 ∨ v < 2 ^ (8 * n))) : sizedL first i (n :: L) v = sizedL first (i + 1) L v := by rw [sizedL, if_neg h]
theorem sizedL_length (first : Nat) : ∀ (L : List Nat) (i v : Nat), (∀ n ∈ L, n ≤ 8) → (sizedL first i L v).length ≤ 9
  | [], _, _, _ => by simp [sizedL]
  | n :: L, i, v, h => by
    unfold sizedL
    split
    · have := h n (List.mem_cons_self ..)
      simp; omega
    · exact sizedL_length first L _ v (fun x hx => h x (List.mem_cons_of_mem _ hx))
set_option maxRecDepth 100000 in
set_option maxHeartbeats 1000000 in
theorem sized_any {w : World} (first : Nat) (hf : first ≤ 240) (g0 off cap : Nat) (L : List Nat) (hL : ∀ n ∈ L, n = 1 ∨ n = 2 ∨ n = 4 ∨ n = 8) (hlen : L.length ≤ 4) (hg : g0 < w.heap.size) (hc : ∀ i (hi : i < L.length), w.cell? ⟨g0, off + i, none⟩ = some (.int .i64 (L[i] : Nat))) (v : Nat) (r : List UInt8) (hr : r = sizedL first 0 L v) :
    Calls Tryz.prog 289 #[.int .u64 first, .slice (some ⟨g0, off, none⟩) L.length cap, .int .u64 v] w fun e w' => e = .returned (.string (S r)) ∧ Below w.heap.size w w' := by
  obtain ⟨k, hk⟩ : ∃ k, k = L.length := ⟨_, rfl⟩
  rw [← hk] at hlen ⊢
  have HC := hide hc
  have HLL := hide hL
  have HR := hide hr
  have HK := hide hk
  have hk2 : (k : Int) ≤ 4 := by omega
  have hf2 : (first : Int) ≤ 240 := by omega
  clear hc hL hr hk
  go_enter Tryz.func289, Tryz.ntmps289
  go_wp2_with fail
  go_loopg [11] k (fun g s11 wr => ∃ i : Nat, s11 = .int .i64 i ∧ i + g = k ∧ Hid (r = sizedL first i (L.drop i) v) ∧ Hid (Below w.heap.size w wr))
  case atStart => exact ⟨0, rfl, by omega, HR, hide (Below.refl _ _)⟩
  case round =>
    obtain ⟨i, rfl, hi, hrr, ho⟩ := hrel
    by_cases hlt : i < k
    · have hiL : i < L.length := by rw [← HK.out]; exact hlt
      obtain ⟨x, hx⟩ : ∃ x, x = L[i] := ⟨_, rfl⟩
      have hx4 := HLL.out x (hx ▸ List.getElem_mem hiL)
      have c0 := (ho.out.cell (p := ⟨g0, off + i, none⟩) hg).trans (HC.out i hiL)
      have hrr2 := hrr.out
      rw [List.drop_eq_getElem_cons hiL, ← hx] at hrr2
      rw [← hx] at c0
      have hwi : IntKind.u64.wrap (i : Int) = i := by rw [IntKind.wrap_u64]; omega
      have hwf : IntKind.u64.wrap ((first : Int) + i) = first + i := by rw [IntKind.wrap_u64]; omega
      clear hx hrr HC HLL
      rcases hx4 with rfl | rfl | rfl | rfl
      ·
        by_cases hv : v < 256
        · have hvd : decide ((v : Int) < 256) = true := by simp; omega
          rw [sizedL_hit (.inr hv)] at hrr2
          obtain ⟨l1, hl1⟩ : ∃ l1, l1 = bigL (first + i) 1 := ⟨_, rfl⟩
          obtain ⟨l2, hl2⟩ : ∃ l2, l2 = bigL v 1 := ⟨_, rfl⟩
          have H1 := fun W => hide (big_at ((first : Int) + i) 1 (first + i) 1 (by push_cast; rfl) rfl (by omega) (by omega) l1 hl1 W)
          have H2 := fun W => hide (big_at v 1 v 1 rfl rfl (by omega) (by omega) l2 hl2 W)
          have hadd := run_add_S (P := Tryz.prog) l1 l2 (by rw [hl1, hl2, bigL_length, bigL_length]; omega)
          have Hp := hide (show r = l1 ++ l2 by rw [hrr2, hl1, hl2])
          clear hrr2 hl1 hl2
          go_wp2_with fail
          (with_reducible refine (unhide (H1 _)).mono ?_)
          rintro e w1 ⟨rfl, ho1⟩
          go_wp2_with fail
          (with_reducible refine (unhide (H2 _)).mono ?_)
          rintro e w2 ⟨rfl, ho2⟩
          go_wp2_with fail
          go_ret
          exact ⟨by rw [Hp.out]; rfl, ho.out.trans ((ho1.trans ho2).nil_below.mono ho.out.size)⟩
        · have hvd : decide ((v : Int) < 256) = false := by simp; omega
          rw [sizedL_next (by omega)] at hrr2
          have HR2 := hide hrr2
          clear hrr2 hv
          go_wp2_with fail
          go_roundg (gk - 1)
          case measure => omega
          case rel => exact ⟨i + 1, by go_num, by omega, HR2, ho⟩
      ·
        by_cases hv : v < 65536
        · have hvd : decide ((v : Int) < 65536) = true := by simp; omega
          rw [sizedL_hit (.inr hv)] at hrr2
          obtain ⟨l1, hl1⟩ : ∃ l1, l1 = bigL (first + i) 1 := ⟨_, rfl⟩
          obtain ⟨l2, hl2⟩ : ∃ l2, l2 = bigL v 2 := ⟨_, rfl⟩
          have H1 := fun W => hide (big_at ((first : Int) + i) 1 (first + i) 1 (by push_cast; rfl) rfl (by omega) (by omega) l1 hl1 W)
          have H2 := fun W => hide (big_at v 2 v 2 rfl rfl (by omega) (by omega) l2 hl2 W)
          have hadd := run_add_S (P := Tryz.prog) l1 l2 (by rw [hl1, hl2, bigL_length, bigL_length]; omega)
          have Hp := hide (show r = l1 ++ l2 by rw [hrr2, hl1, hl2])
          clear hrr2 hl1 hl2
          go_wp2_with fail
          (with_reducible refine (unhide (H1 _)).mono ?_)
          rintro e w1 ⟨rfl, ho1⟩
          go_wp2_with fail
          (with_reducible refine (unhide (H2 _)).mono ?_)
          rintro e w2 ⟨rfl, ho2⟩
          go_wp2_with fail
          go_ret
          exact ⟨by rw [Hp.out]; rfl, ho.out.trans ((ho1.trans ho2).nil_below.mono ho.out.size)⟩
        · have hvd : decide ((v : Int) < 65536) = false := by simp; omega
          rw [sizedL_next (by omega)] at hrr2
          have HR2 := hide hrr2
          clear hrr2 hv
          go_wp2_with fail
          go_roundg (gk - 1)
          case measure => omega
          case rel => exact ⟨i + 1, by go_num, by omega, HR2, ho⟩
      ·
        by_cases hv : v < 4294967296
        · have hvd : decide ((v : Int) < 4294967296) = true := by simp; omega
          rw [sizedL_hit (.inr hv)] at hrr2
          obtain ⟨l1, hl1⟩ : ∃ l1, l1 = bigL (first + i) 1 := ⟨_, rfl⟩
          obtain ⟨l2, hl2⟩ : ∃ l2, l2 = bigL v 4 := ⟨_, rfl⟩
          have H1 := fun W => hide (big_at ((first : Int) + i) 1 (first + i) 1 (by push_cast; rfl) rfl (by omega) (by omega) l1 hl1 W)
          have H2 := fun W => hide (big_at v 4 v 4 rfl rfl (by omega) (by omega) l2 hl2 W)
          have hadd := run_add_S (P := Tryz.prog) l1 l2 (by rw [hl1, hl2, bigL_length, bigL_length]; omega)
          have Hp := hide (show r = l1 ++ l2 by rw [hrr2, hl1, hl2])
          clear hrr2 hl1 hl2
          go_wp2_with fail
          (with_reducible refine (unhide (H1 _)).mono ?_)
          rintro e w1 ⟨rfl, ho1⟩
          go_wp2_with fail
          (with_reducible refine (unhide (H2 _)).mono ?_)
          rintro e w2 ⟨rfl, ho2⟩
          go_wp2_with fail
          go_ret
          exact ⟨by rw [Hp.out]; rfl, ho.out.trans ((ho1.trans ho2).nil_below.mono ho.out.size)⟩
        · have hvd : decide ((v : Int) < 4294967296) = false := by simp; omega
          rw [sizedL_next (by omega)] at hrr2
          have HR2 := hide hrr2
          clear hrr2 hv
          go_wp2_with fail
          go_roundg (gk - 1)
          case measure => omega
          case rel => exact ⟨i + 1, by go_num, by omega, HR2, ho⟩
      ·
        rw [sizedL_hit (.inl rfl)] at hrr2
        obtain ⟨l1, hl1⟩ : ∃ l1, l1 = bigL (first + i) 1 := ⟨_, rfl⟩
        obtain ⟨l2, hl2⟩ : ∃ l2, l2 = bigL v 8 := ⟨_, rfl⟩
        have H1 := fun W => hide (big_at ((first : Int) + i) 1 (first + i) 1 (by push_cast; rfl) rfl (by omega) (by omega) l1 hl1 W)
        have H2 := fun W => hide (big_at v 8 v 8 rfl rfl (by omega) (by omega) l2 hl2 W)
        have hadd := run_add_S (P := Tryz.prog) l1 l2 (by rw [hl1, hl2, bigL_length, bigL_length]; omega)
        have Hp := hide (show r = l1 ++ l2 by rw [hrr2, hl1, hl2])
        clear hrr2 hl1 hl2
        go_wp2_with fail
        (with_reducible refine (unhide (H1 _)).mono ?_)
        rintro e w1 ⟨rfl, ho1⟩
        go_wp2_with fail
        (with_reducible refine (unhide (H2 _)).mono ?_)
        rintro e w2 ⟨rfl, ho2⟩
        go_wp2_with fail
        go_ret
        exact ⟨by rw [Hp.out]; rfl, ho.out.trans ((ho1.trans ho2).nil_below.mono ho.out.size)⟩
    · obtain rfl : i = k := by omega
      have hrr2 := hrr.out
      rw [HK.out, List.drop_length] at hrr2
      simp only [sizedL] at hrr2
      subst hrr2
      clear hrr
      go_wp2_with fail
      go_ret
      exact ⟨rfl, ho.out⟩
theorem sized_blk {W : World} {t : TypeId} (first a : Nat) (hf : first ≤ 240) (L : List Nat) (hL : ∀ n ∈ L, n = 1 ∨ n = 2 ∨ n = 4 ∨ n = 8) (hlen : L.length ≤ 4) (cs : Array Value) (hcs : cs = (L.map fun (n : Nat) => Value.int .i64 n).toArray) (h : Blk W a t cs) (k : Nat) (hk : k = L.length) (v : Nat) (fi : Int) (hfi : fi = first) (r : List UInt8) (hr : r = sizedL first 0 L v) :
    Calls Tryz.prog 289 #[.int .u64 fi, .slice (some ⟨a, 0, none⟩) k k, .int .u64 v] W fun e w' => e = .returned (.string (S r)) ∧ Below W.heap.size W w' := by
  subst hcs hk hfi
  exact sized_any first hf a 0 L.length L hL hlen h.lt (fun i hi => by
    rw [Nat.zero_add]
    exact h.cellv i _ (by simp [hi])) v r hr
/-- A number below 0. -/
def belowL (m : Nat) : List UInt8 :=
  if m < 32 then bigL (18446744073709551615 - m) 1
  else if m < 128 then bigL 208 1 ++ bigL (18446744073709551615 - m) 1
  else if m < 32768 then bigL 209 1 ++ bigL (18446744073709551615 - m) 2
  else if m < 2147483648 then bigL 210 1 ++ bigL (18446744073709551615 - m) 4
  else 211 :: bigL (18446744073709551615 - m) 8
def belowR (m : Nat) : List UInt8 × Int := if 9223372036854775807 < m then ([], 7) else (belowL m, 0)
def headB (m : Bool) (n : Nat) : List UInt8 := if n < 16 then bigL ((if m then 128 else 144) + n) 1 else sizedL (if m then 222 else 220) 0 [2, 4] n
def beginR (m : Bool) (n : Int) : List UInt8 × Int := if n < 0 ∨ 4294967295 < n then ([], 7) else (headB m n.toNat, 0)
def wordB (l : List UInt8) : List UInt8 := if l.length < 32 then bigL (160 + l.length) 1 ++ l else sizedL 217 0 [1, 2, 4] l.length ++ l
def plainR : Part → List UInt8 × Int
  | .bool b => (if b then [0xc3] else [0xc2], 0)
  | .whole g m => if g then belowR m.toNat else if m < 128 then (bigL m.toNat 1, 0) else (sizedL 204 0 [1, 2, 4, 8] m.toNat, 0)
  | .word l => (wordB l, 0)
  | .blob l => (sizedL 196 0 [1, 2, 4] l.length ++ l, 0)
  | _ => ([0xc0], 0)
theorem u64_or_low (C c : Nat) (hC : C % 16 = 0 ∧ C < 256) (hc : c < 16) : bits .or .u64 (C : Int) (c : Int) = ((C + c : Nat) : Int) := by
  have h7 : (BitVec.ofInt 64 (C : Int) ||| BitVec.ofInt 64 (c : Int)).toNat = C + c := by
    rw [BitVec.ofInt_natCast, BitVec.ofInt_natCast, BitVec.toNat_or, BitVec.toNat_ofNat, BitVec.toNat_ofNat, Nat.mod_eq_of_lt (by omega), Nat.mod_eq_of_lt (by omega)]
    have h2 := Nat.shiftLeft_add_eq_or_of_lt (i := 4) (b := c) hc (C / 16)
    rw [Nat.shiftLeft_eq, show 2 ^ 4 = 16 from rfl, show C / 16 * 16 = C by omega] at h2
    omega
  show IntKind.u64.wrap ((BitVec.ofInt 64 (C : Int) ||| BitVec.ofInt 64 (c : Int)).toNat : Int) = _
  rw [h7, IntKind.wrap_u64]
  omega
theorem u64_not (m : Nat) (hm : m < 18446744073709551616) : bits .xor .u64 IntKind.u64.max (m : Int) = ((18446744073709551615 - m : Nat) : Int) := by
  have h7 : (BitVec.ofInt 64 IntKind.u64.max ^^^ BitVec.ofInt 64 (m : Int)).toNat = 18446744073709551615 - m := by
    rw [show BitVec.ofInt 64 IntKind.u64.max = BitVec.allOnes 64 from by decide, BitVec.allOnes_xor, BitVec.toNat_not, BitVec.ofInt_natCast, BitVec.toNat_ofNat, Nat.mod_eq_of_lt (by omega)]
  show IntKind.u64.wrap ((BitVec.ofInt 64 IntKind.u64.max ^^^ BitVec.ofInt 64 (m : Int)).toNat : Int) = _
  rw [h7, IntKind.wrap_u64]
  omega
set_option maxRecDepth 100000 in
set_option maxHeartbeats 1000000 in
theorem below_any (m : Nat) (hm : Hid (m < 18446744073709551616)) (w : World) (r : List UInt8) (k : Int) (hr : (r, k) = belowR m) :
    Calls Tryz.prog 288 #[.int .u64 m] w fun e w' => e = .returned (.tuple #[.string (S r), .int .i64 k]) ∧ Below w.heap.size w w' := by
  unfold belowR at hr
  by_cases h0 : 9223372036854775807 < m
  · rw [if_pos h0] at hr
    injection hr with e1 e2
    subst e1 e2
    have h0' : decide ((9223372036854775807 : Int) < m) = true := by simp; omega
    clear h0
    go_enter Tryz.func288, Tryz.ntmps288
    go_wp2_with fail
    go_ret2
    exact ⟨rfl, Below.refl _ _⟩
  rw [if_neg h0] at hr
  injection hr with e1 e2
  subst e2
  have h0' : decide ((9223372036854775807 : Int) < m) = false := by simp; omega
  obtain ⟨q, hq⟩ : ∃ q, q = 18446744073709551615 - m := ⟨_, rfl⟩
  have hcm : bits .xor .u64 IntKind.u64.max (m : Int) = (q : Int) := by rw [u64_not m hm.out, hq]
  unfold belowL at e1
  rw [← hq] at e1
  by_cases h1 : m < 32
  · rw [if_pos h1] at e1
    have h1' : decide ((m : Int) < 32) = true := by simp; omega
    have H1 := fun W => hide (big_at (bits .xor .u64 IntKind.u64.max (m : Int)) 1 q 1 hcm rfl (by omega) (by omega) r e1 W)
    clear h0 h1 e1 hq hcm
    go_enter Tryz.func288, Tryz.ntmps288
    go_wp2_with fail
    (with_reducible refine (unhide (H1 _)).mono ?_)
    rintro e w1 ⟨rfl, ho1⟩
    go_wp2_with fail
    go_ret2
    exact ⟨rfl, ho1.nil_below⟩
  rw [if_neg h1] at e1
  have h1' : decide ((m : Int) < 32) = false := by simp; omega
  have HE := hide e1
  have HCM := hide hcm
  have hm32 : 32 ≤ m := by omega
  have bk := Blk.new w 3 #[.int .i64 1, .int .i64 2, .int .i64 4]
  have Z := hide (And.intro (bk.cellv 0 _ rfl) (And.intro (bk.cellv 1 _ rfl) (bk.cellv 2 _ rfl)))
  have HB0 := hide (Below.more (Below.refl w.heap.size w) (Nat.le_refl _) (.cells #[.int .i64 1, .int .i64 2, .int .i64 4] 3))
  clear h0 h1 e1 hq hcm bk
  go_enter Tryz.func288, Tryz.ntmps288
  go_wp2_with fail
  go_loopg [15] 3 (fun g s15 wr => ∃ (i : Nat) (ii : Int), s15 = .int .i64 ii ∧ ii = i ∧ i + g = 3 ∧ Hid ((1 ≤ i → 128 ≤ m) ∧ (2 ≤ i → 32768 ≤ m) ∧ (3 ≤ i → 2147483648 ≤ m)) ∧ wr = w.alloc (.cells #[.int .i64 1, .int .i64 2, .int .i64 4] 3))
  case atStart => exact ⟨0, 0, rfl, rfl, rfl, hide ⟨fun h => by omega, fun h => by omega, fun h => by omega⟩, rfl⟩
  case round =>
    obtain ⟨i, ii, rfl, hii, hi, hbd, rfl⟩ := hrel
    have z0 : (w.alloc (.cells #[.int .i64 1, .int .i64 2, .int .i64 4] 3)).cell? ⟨w.heap.size, 0, none⟩ = some (.int .i64 1) := Z.out.1
    have z1 : (w.alloc (.cells #[.int .i64 1, .int .i64 2, .int .i64 4] 3)).cell? ⟨w.heap.size, 1, none⟩ = some (.int .i64 2) := Z.out.2.1
    have z2 : (w.alloc (.cells #[.int .i64 1, .int .i64 2, .int .i64 4] 3)).cell? ⟨w.heap.size, 2, none⟩ = some (.int .i64 4) := Z.out.2.2
    have hi4 : i = 0 ∨ i = 1 ∨ i = 2 ∨ i = 3 := by omega
    obtain ⟨hb1, hb2, hb3⟩ := hbd.out
    clear hbd
    rcases hi4 with rfl | rfl | rfl | rfl
    ·
      obtain rfl : ii = 0 := by omega
      clear hii
      by_cases hv : m < 128
      · have hvd : decide ((m : Int) < 128) = true := by simp; omega
        have hr2 := HE.out
        rw [if_pos hv] at hr2
        obtain ⟨l1, hl1⟩ : ∃ l1, l1 = bigL 208 1 := ⟨_, rfl⟩
        obtain ⟨l2, hl2⟩ : ∃ l2, l2 = bigL q 1 := ⟨_, rfl⟩
        have H1 := fun W => hide (big_at 208 1 208 1 rfl rfl (by omega) (by omega) l1 hl1 W)
        have H2 := fun W => hide (big_at (bits .xor .u64 IntKind.u64.max (m : Int)) 1 q 1 HCM.out rfl (by omega) (by omega) l2 hl2 W)
        have hadd := run_add_S (P := Tryz.prog) l1 l2 (by rw [hl1, hl2, bigL_length, bigL_length]; omega)
        have Hp := hide (show r = l1 ++ l2 by rw [hr2, hl1, hl2])
        clear hr2 hl1 hl2 hb1 hb2 hb3 hi hv
        go_wp2_with fail
        (with_reducible refine (unhide (H1 _)).mono ?_)
        rintro e w1 ⟨rfl, ho1⟩
        clear hvd h1' h0' hm32
        go_wp2_with fail
        (with_reducible refine (unhide (H2 _)).mono ?_)
        rintro e w2 ⟨rfl, ho2⟩
        go_wp2_with fail
        go_ret2
        exact ⟨by rw [Hp.out]; rfl, HB0.out.trans ((ho1.trans ho2).nil_below.mono (by simp))⟩
      · have hvd : decide ((m : Int) < 128) = false := by simp; omega
        clear hb1 hb2 hb3
        go_wp2_with fail
        go_roundg (gk - 1)
        case measure => omega
        case rel => exact ⟨1, 1, rfl, rfl, by omega, hide ⟨fun h => by omega, fun h => by omega, fun h => by omega⟩, rfl⟩
    ·
      obtain rfl : ii = 1 := by omega
      clear hii
      by_cases hv : m < 32768
      · have hvd : decide ((m : Int) < 32768) = true := by simp; omega
        have hr2 := HE.out
        rw [if_neg (by omega), if_pos hv] at hr2
        obtain ⟨l1, hl1⟩ : ∃ l1, l1 = bigL 209 1 := ⟨_, rfl⟩
        obtain ⟨l2, hl2⟩ : ∃ l2, l2 = bigL q 2 := ⟨_, rfl⟩
        have H1 := fun W => hide (big_at 209 1 209 1 rfl rfl (by omega) (by omega) l1 hl1 W)
        have H2 := fun W => hide (big_at (bits .xor .u64 IntKind.u64.max (m : Int)) 2 q 2 HCM.out rfl (by omega) (by omega) l2 hl2 W)
        have hadd := run_add_S (P := Tryz.prog) l1 l2 (by rw [hl1, hl2, bigL_length, bigL_length]; omega)
        have Hp := hide (show r = l1 ++ l2 by rw [hr2, hl1, hl2])
        clear hr2 hl1 hl2 hb1 hb2 hb3 hi hv
        go_wp2_with fail
        (with_reducible refine (unhide (H1 _)).mono ?_)
        rintro e w1 ⟨rfl, ho1⟩
        clear hvd h1' h0' hm32
        go_wp2_with fail
        (with_reducible refine (unhide (H2 _)).mono ?_)
        rintro e w2 ⟨rfl, ho2⟩
        go_wp2_with fail
        go_ret2
        exact ⟨by rw [Hp.out]; rfl, HB0.out.trans ((ho1.trans ho2).nil_below.mono (by simp))⟩
      · have hvd : decide ((m : Int) < 32768) = false := by simp; omega
        clear hb1 hb2 hb3
        go_wp2_with fail
        go_roundg (gk - 1)
        case measure => omega
        case rel => exact ⟨2, 2, rfl, rfl, by omega, hide ⟨fun h => by omega, fun h => by omega, fun h => by omega⟩, rfl⟩
    ·
      obtain rfl : ii = 2 := by omega
      clear hii
      by_cases hv : m < 2147483648
      · have hvd : decide ((m : Int) < 2147483648) = true := by simp; omega
        have hr2 := HE.out
        rw [if_neg (by omega), if_neg (by omega), if_pos hv] at hr2
        obtain ⟨l1, hl1⟩ : ∃ l1, l1 = bigL 210 1 := ⟨_, rfl⟩
        obtain ⟨l2, hl2⟩ : ∃ l2, l2 = bigL q 4 := ⟨_, rfl⟩
        have H1 := fun W => hide (big_at 210 1 210 1 rfl rfl (by omega) (by omega) l1 hl1 W)
        have H2 := fun W => hide (big_at (bits .xor .u64 IntKind.u64.max (m : Int)) 4 q 4 HCM.out rfl (by omega) (by omega) l2 hl2 W)
        have hadd := run_add_S (P := Tryz.prog) l1 l2 (by rw [hl1, hl2, bigL_length, bigL_length]; omega)
        have Hp := hide (show r = l1 ++ l2 by rw [hr2, hl1, hl2])
        clear hr2 hl1 hl2 hb1 hb2 hb3 hi hv
        go_wp2_with fail
        (with_reducible refine (unhide (H1 _)).mono ?_)
        rintro e w1 ⟨rfl, ho1⟩
        clear hvd h1' h0' hm32
        go_wp2_with fail
        (with_reducible refine (unhide (H2 _)).mono ?_)
        rintro e w2 ⟨rfl, ho2⟩
        go_wp2_with fail
        go_ret2
        exact ⟨by rw [Hp.out]; rfl, HB0.out.trans ((ho1.trans ho2).nil_below.mono (by simp))⟩
      · have hvd : decide ((m : Int) < 2147483648) = false := by simp; omega
        clear hb1 hb2 hb3
        go_wp2_with fail
        go_roundg (gk - 1)
        case measure => omega
        case rel => exact ⟨3, 3, rfl, rfl, by omega, hide ⟨fun h => by omega, fun h => by omega, fun h => by omega⟩, rfl⟩
    ·
      obtain rfl : ii = 3 := by omega
      clear hii
      have hr2 := HE.out
      rw [if_neg (by omega), if_neg (by omega), if_neg (by omega)] at hr2
      obtain ⟨l2, hl2⟩ : ∃ l2, l2 = bigL q 8 := ⟨_, rfl⟩
      have H2 := fun W => hide (big_at (bits .xor .u64 IntKind.u64.max (m : Int)) 8 q 8 HCM.out rfl (by omega) (by omega) l2 hl2 W)
      have hadd := run_add_S (P := Tryz.prog) [211] l2 (by rw [hl2, bigL_length]; simp)
      have hSS : S [211] = ⟨#[211]⟩ := rfl
      rw [hSS] at hadd
      have Hp := hide (show r = [211] ++ l2 by rw [hr2, hl2]; rfl)
      clear hr2 hl2 hb1 hb2 hb3 hSS
      go_wp2_with fail
      (with_reducible refine (unhide (H2 _)).mono ?_)
      rintro e w2 ⟨rfl, ho2⟩
      go_wp2_with fail
      go_ret2
      exact ⟨by rw [Hp.out]; rfl, HB0.out.trans (ho2.nil_below.mono (by simp))⟩
set_option maxRecDepth 100000 in
set_option maxHeartbeats 1000000 in
theorem begin_any (m : Bool) (n : Int) (hn : n ≤ 9223372036854775807) (hn1 : -1 ≤ n) (w : World) (r : List UInt8) (k : Int) (hr : (r, k) = beginR m n) :
    Calls Tryz.prog 287 #[.agg #[.bool m, .int .i64 n]] w fun e w' => e = .returned (.tuple #[.string (S r), .int .i64 k]) ∧ Below w.heap.size w w' := by
  unfold beginR at hr
  by_cases h0 : n < 0 ∨ 4294967295 < n
  · rw [if_pos h0] at hr
    injection hr with e1 e2
    subst e1 e2
    by_cases h1 : n < 0
    · have h1' : decide (n < 0) = true := by simp; omega
      clear h0 hn hn1
      cases m with
      | true =>
        go_enter Tryz.func287, Tryz.ntmps287
        go_wp2_with fail
        go_ret2
        exact ⟨rfl, Below.more (Below.refl _ _) (Nat.le_refl _) _⟩
      | false =>
        go_enter Tryz.func287, Tryz.ntmps287
        go_wp2_with fail
        go_ret2
        exact ⟨rfl, Below.more (Below.refl _ _) (Nat.le_refl _) _⟩
    · have h1' : decide (n < 0) = false := by simp; omega
      have hw : IntKind.u64.wrap n = n := by rw [IntKind.wrap_u64]; omega
      have h2 : decide (4294967295 < n) = true := by simp; omega
      clear h0 hn hn1 h1
      cases m with
      | true =>
        go_enter Tryz.func287, Tryz.ntmps287
        go_wp2_with fail
        go_ret2
        exact ⟨rfl, Below.more (Below.refl _ _) (Nat.le_refl _) _⟩
      | false =>
        go_enter Tryz.func287, Tryz.ntmps287
        go_wp2_with fail
        go_ret2
        exact ⟨rfl, Below.more (Below.refl _ _) (Nat.le_refl _) _⟩
  rw [if_neg h0] at hr
  injection hr with e1 e2
  subst e2
  obtain ⟨c, rfl⟩ := Int.eq_ofNat_of_zero_le (show 0 ≤ n by omega)
  rw [Int.toNat_natCast] at e1
  have h1' : decide ((c : Int) < 0) = false := by simp
  have hw : IntKind.u64.wrap (c : Int) = c := by rw [IntKind.wrap_u64]; omega
  have h2 : decide (4294967295 < (c : Int)) = false := by simp; omega
  have hc64 : Hid (c ≤ 4294967295) := hide (by omega)
  unfold headB at e1
  by_cases h3 : c < 16
  · rw [if_pos h3] at e1
    have h3' : decide ((c : Int) < 16) = true := by simp; omega
    cases m with
    | true =>
      have hor := u64_or_low 128 c (by decide) h3
      have H1 := fun W => hide (big_at (bits .or .u64 128 (c : Int)) 1 (128 + c) 1 hor rfl (by omega) (by omega) r e1 W)
      clear h0 hn hn1 e1 h3 hor
      go_enter Tryz.func287, Tryz.ntmps287
      go_wp2_with fail
      (with_reducible refine (unhide (H1 _)).mono ?_)
      rintro e w1 ⟨rfl, ho1⟩
      go_wp2_with fail
      go_ret2
      exact ⟨rfl, (Below.more (Below.refl _ _) (Nat.le_refl _) _).trans (ho1.nil_below.mono (by simp))⟩
    | false =>
      have hor := u64_or_low 144 c (by decide) h3
      have H1 := fun W => hide (big_at (bits .or .u64 144 (c : Int)) 1 (144 + c) 1 hor rfl (by omega) (by omega) r e1 W)
      clear h0 hn hn1 e1 h3 hor
      go_enter Tryz.func287, Tryz.ntmps287
      go_wp2_with fail
      (with_reducible refine (unhide (H1 _)).mono ?_)
      rintro e w1 ⟨rfl, ho1⟩
      go_wp2_with fail
      go_ret2
      exact ⟨rfl, (Below.more (Below.refl _ _) (Nat.le_refl _) _).trans (ho1.nil_below.mono (by simp))⟩
  · rw [if_neg h3] at e1
    have h3' : decide ((c : Int) < 16) = false := by simp; omega
    cases m with
    | true =>
      have bk : Blk ((w.alloc (.cells #[.bool true, .int .i64 c] 243)).alloc (.cells #[.int .i64 2, .int .i64 4] 3)) (w.heap.size + 1) 3 #[.int .i64 2, .int .i64 4] := by simpa using Blk.new (w.alloc (.cells #[.bool true, .int .i64 c] 243)) 3 #[.int .i64 2, .int .i64 4]
      have H1 := hide (sized_blk 222 (w.heap.size + 1) (by omega) [2, 4] (by simp) (by simp) _ rfl bk 2 rfl c 222 rfl r e1)
      clear h0 hn hn1 e1 h3 bk
      go_enter Tryz.func287, Tryz.ntmps287
      go_wp2_with fail
      (with_reducible refine (unhide H1).mono ?_)
      rintro e w1 ⟨rfl, ho1⟩
      go_wp2_with fail
      go_ret2
      exact ⟨rfl, (Below.more (Below.more (Below.refl _ _) (Nat.le_refl _) _) (Nat.le_refl _) _).trans (ho1.mono (by simp; omega))⟩
    | false =>
      have bk : Blk ((w.alloc (.cells #[.bool false, .int .i64 c] 243)).alloc (.cells #[.int .i64 2, .int .i64 4] 3)) (w.heap.size + 1) 3 #[.int .i64 2, .int .i64 4] := by simpa using Blk.new (w.alloc (.cells #[.bool false, .int .i64 c] 243)) 3 #[.int .i64 2, .int .i64 4]
      have H1 := hide (sized_blk 220 (w.heap.size + 1) (by omega) [2, 4] (by simp) (by simp) _ rfl bk 2 rfl c 220 rfl r e1)
      clear h0 hn hn1 e1 h3 bk
      go_enter Tryz.func287, Tryz.ntmps287
      go_wp2_with fail
      (with_reducible refine (unhide H1).mono ?_)
      rintro e w1 ⟨rfl, ho1⟩
      go_wp2_with fail
      go_ret2
      exact ⟨rfl, (Below.more (Below.more (Below.refl _ _) (Nat.le_refl _) _) (Nat.le_refl _) _).trans (ho1.mono (by simp; omega))⟩
end Go.Proofs.YtkccjfgkbkodiaaGreat
