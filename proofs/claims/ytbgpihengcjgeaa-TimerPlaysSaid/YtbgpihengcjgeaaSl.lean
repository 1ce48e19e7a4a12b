/-
  Slices of one-cell elements in blocks of the call's own, that may begin inside their block: append, cut at the front, read and write.
-/
import Derived.Test.YtbgpihengcjgeaaWords
import Derived.ArgAppend
import Derived.Deep.AppendLies
namespace Go.Proofs.Ytbgpihengcjgeaa
open Go.RowKit

/-- The slice value v shows the cells xs, in a block (from base on) of elements of type t. -/
def Sl (w : World) (base : Nat) (t : TypeId) (v : Value) (xs : List Value) : Prop :=
  (v = .slice none 0 0 ∧ xs = []) ∨ ∃ (g off cap : Nat) (cs : Array Value), v = .slice (some ⟨g, off, none⟩) xs.length cap ∧ base ≤ g ∧ Blk w g t cs ∧ off + cap ≤ cs.size ∧ xs.length ≤ cap ∧ cap ≤ maxLen ∧ ∀ j, j < xs.length → cs[off + j]? = xs[j]?
/-- The block that a slice value leads to. -/
def slB : Value → List Nat
  | .slice (some a) _ _ => [a.block]
  | _ => []

section
variable {w w' : World} {base : Nat} {t : TypeId} {v : Value} {xs : List Value}
theorem Sl.nil (w : World) (base : Nat) (t : TypeId) : Sl w base t (.slice none 0 0) [] := .inl ⟨rfl, rfl⟩
theorem Sl.lt (h : Sl w base t v xs) : ∀ k ∈ slB v, base ≤ k ∧ k < w.heap.size := by
  rcases h with ⟨rfl, _⟩ | ⟨g, off, cap, cs, rfl, hb, hg, _⟩
  · intro k hk; simp [slB] at hk
  · intro k hk
    simp [slB] at hk
    subst hk
    exact ⟨hb, hg.lt⟩
theorem Sl.keep {S : List Nat} (h : Sl w base t v xs) (ho : Only S w w') (hn : ∀ k ∈ slB v, k ∉ S) : Sl w' base t v xs := by
  rcases h with h | ⟨g, off, cap, cs, rfl, hb, hg, h⟩
  · exact .inl h
  · exact .inr ⟨g, off, cap, cs, rfl, hb, ho.blk hg (hn g (by simp [slB])), h⟩
theorem Sl.drewN (h : Sl w base t v xs) (n : Nat) : Sl (w.drewN n) base t v xs := h
theorem Sl.drew (h : Sl w base t v xs) : Sl w.drew base t v xs := h
theorem Sl.alloc (h : Sl w base t v xs) (o : Obj) : Sl (w.alloc o) base t v xs := by
  rcases h with h | ⟨g, off, cap, cs, rfl, hb, hg, h⟩
  · exact .inl h
  · exact .inr ⟨g, off, cap, cs, rfl, hb, hg.alloc o, h⟩
theorem Sl.far (h : Sl w base t v xs) {p : Addr} (hp : p.block ∉ slB v) (u : Value) : Sl (w.setCell p u) base t v xs := by
  rcases h with h | ⟨g, off, cap, cs, rfl, hb, hg, h⟩
  · exact .inl h
  · exact .inr ⟨g, off, cap, cs, rfl, hb, hg.far (by simp [slB] at hp; exact fun e => hp e.symm) u, h⟩
theorem Sl.mono {base' : Nat} (h : Sl w base t v xs) (hb : base' ≤ base) : Sl w base' t v xs := by
  rcases h with h | ⟨g, off, cap, cs, e, hb', h⟩
  · exact .inl h
  · exact .inr ⟨g, off, cap, cs, e, by omega, h⟩
theorem Sl.notBlk {g' : Nat} {t' : TypeId} {cs' : Array Value} (h : Sl w base t v xs) (hb : Blk w g' t' cs') (hne : t ≠ t') : g' ∉ slB v := by
  rcases h with ⟨rfl, _⟩ | ⟨g, off, cap, cs, rfl, _, hg, _⟩
  · simp [slB]
  · simp [slB]
    exact fun e => hg.ne_ hb hne e.symm
theorem Sl.of_row {n : Nat} (h : w.ownsRow base t 1 v n xs) : Sl w base t v xs := by
  obtain ⟨hl, h⟩ := h
  rw [Nat.mul_one] at hl
  rcases h with ⟨rfl, hn⟩ | ⟨g, cap, cur, rfl, hb, hh, hnc, hcm, hcs, htake⟩
  · exact .inl ⟨rfl, List.eq_nil_of_length_eq_zero (by omega)⟩
  · refine .inr ⟨g, 0, cap, cur, by rw [hl], hb, hh, by omega, by omega, hcm, fun j hj => ?_⟩
    rw [Nat.zero_add, ← htake, List.getElem?_take_of_lt (by omega), Array.getElem?_toList]
/-- .. known whole, at the head of a block. -/
theorem Sl.of_blk {g : Nat} (hb : base ≤ g) (h : Blk w g t xs.toArray) (hm : xs.length ≤ maxLen) : Sl w base t (.slice (some ⟨g, 0, none⟩) xs.length xs.length) xs :=
  .inr ⟨g, 0, xs.length, xs.toArray, rfl, hb, h, by simp, Nat.le_refl _, hm, fun j _ => by simp⟩
theorem Sl.cell (h : Sl w base t v xs) (j : Nat) (hj : j < xs.length) : ∃ g off cap, v = .slice (some ⟨g, off, none⟩) xs.length cap ∧ w.cell? ⟨g, off + j, none⟩ = some xs[j] := by
  rcases h with ⟨rfl, rfl⟩ | ⟨g, off, cap, cs, rfl, hb, hg, h1, h2, h3, h4⟩
  · simp at hj
  · refine ⟨g, off, cap, rfl, ?_⟩
    rw [hg.cell, h4 j hj]
    exact List.getElem?_eq_getElem hj
end

theorem only_grown {w w' : World} {v : Value} (h : w.grownBy w' v.ownBlock) : Only (slB v) w w' := by
  refine ⟨h.os, h.tape, h.output, h.size, fun k hk hn => h.block k hk fun he => hn ?_⟩
  cases v with
  | slice a n c =>
    cases a with
    | none => simp [Value.ownBlock] at he
    | some a => simp [Value.ownBlock] at he; simp [slB, he]
  | _ => simp [Value.ownBlock] at he
theorem only_grown_none {w w' : World} (S : List Nat) (h : w.grownBy w' none) : Only S w w' := ⟨h.os, h.tape, h.output, h.size, fun k hk _ => h.block k hk (by simp)⟩

theorem run_append_sl {P : Program} {t e : TypeId} (ty : TypeId) (z : Value) (bytes : Nat) (ht : P.underlying t = some (.slice e)) (hinfo : (P.info? e).map (fun i => (i.zero, i.size, i.bytes)) = some (some z, 1, bytes)) (hzs : z.cells.size = 1)
    {w : World} {base : Nat} {v : Value} {xs : List Value} (h : Sl w base e v xs) (g : Nat) (u : Value) (hc : w.cell? ⟨g, 0, none⟩ = some u) (h1 : u.oneCell' = true)
    (h63 : xs.length + 1 ≤ maxLen) (hbytes : (xs.length + 1) * bytes ≤ 140737488355328) (hbase : base ≤ w.heap.size) :
    ∃ v' w', (Builtin.append_ #[t, t] ty #[v, .slice (some ⟨g, 0, none⟩) 1 1]).run P w = .ok v' w' ∧ Sl w' base e v' (xs ++ [u]) ∧ Only (slB v) w w' ∧ ∀ k ∈ slB v', k ∈ slB v ∨ w.heap.size ≤ k := by
  obtain ⟨i0, hi, hz0, hz1, hz2⟩ := info_parts hinfo
  have hnews : ∀ j y, [u][j]? = some y → w.cell? ((⟨g, 0, none⟩ : Addr).add j) = some y := by
    intro j y hj
    match j, hj with
    | 0, hj => simp at hj; subst hj; simpa [Addr.add] using hc
  have hone : ∀ y ∈ [u], y.oneCell' = true := by intro y hy; simp at hy; subst hy; exact h1
  have newRow : ∀ {v' : Value} {w' : World} {n : Nat} {ys : List Value}, w'.ownsRow w.heap.size e 1 v' n ys → ∀ k ∈ slB v', k ∈ slB v ∨ w.heap.size ≤ k := by
    intro v' w' n ys hr k hk
    exact .inr ((Sl.of_row hr).lt k hk).1
  rcases h with ⟨rfl, rfl⟩ | ⟨gb, off, cap, cs, rfl, hb, hg, hoc, hlc, hcm, hcells⟩
  · obtain ⟨v', w', hr, r1, r2, _⟩ := run_append_own (P := P) w w.heap.size t ty e i0 z 1 bytes ht hi hz0 hz1 hz2 hzs (by omega) (.slice none 0 0) 0 [] (World.ownsRow_nil w _ e 1) ⟨g, 0, none⟩ 1 1 [u] rfl hnews hone (by simpa using h63) (by simpa using hbytes) (Nat.le_refl _)
    exact ⟨v', w', hr, (Sl.of_row r1).mono hbase, only_grown r2, newRow r1⟩
  · by_cases hroom : xs.length + 1 ≤ cap
    · have hcell : w.cell? ⟨gb, off + xs.length, none⟩ = some (cs[off + xs.length]'(by omega)) := hg.cellv _ _ (Array.getElem?_eq_getElem (by omega))
      have hr := run_append_room_cells (P := P) w t ty e i0 ht hi gb off xs.length cap ⟨g, 0, none⟩ 1 1 [u] (by rw [hz1]; rfl) hnews hone hroom
        (fun j hj => by simp at hj; subst hj; rw [hz1, Nat.mul_one, Nat.add_zero, hcell]; rfl) (fun j hj => by simp at hj; subst hj; exact hg.frozen _)
      rw [hz1, Nat.mul_one] at hr
      refine ⟨_, _, hr, ?_, ?_, fun k hk => .inl (by simpa [slB] using hk)⟩
      · refine .inr ⟨gb, off, cap, _, by simp, hb, hg.set_ (off + xs.length) u, by simpa using hoc, by simpa using hroom, hcm, fun j hj => ?_⟩
        rw [Array.getElem?_setIfInBounds]
        simp at hj
        by_cases hjx : j = xs.length
        · subst hjx
          rw [if_pos rfl, if_pos (by omega), List.getElem?_append_right (by omega)]
          simp
        · rw [if_neg (by omega), hcells j (by omega), List.getElem?_append_left (by omega)]
      · exact (Only.refl _ w).setCell (by simp [slB]) u
    · obtain ⟨v', w', hr, r1, r2⟩ := run_append_arg_grows (P := P) w t ty e i0 z 1 bytes ht hi hz0 hz1 hz2 hzs (by omega) ⟨gb, off, none⟩ xs.length cap xs (by omega)
        (fun j y hj => by
          have hjl : j < xs.length := (List.getElem?_eq_some_iff.1 hj).1
          rw [Addr.add_lit]
          exact hg.cellv _ _ ((hcells j hjl).trans hj)) ⟨g, 0, none⟩ 1 1 [u] rfl hnews (by omega) h63 hbytes
      exact ⟨v', w', hr, (Sl.of_row r1).mono hbase, only_grown_none _ r2, newRow r1⟩

/-- append(v, u) at the operation. -/
theorem wp_append_sl {P : Program} {w : World} {o : Oper} {a : Act} {K : Act → World → Prop} {Q : Exit → Act → World → Prop} (s x : Operand) (t : TypeId)
    (ho : o.op = .call { callee := .builtin .append, args := #[s, x], argTypes := #[t, t] })
    (base : Nat) (e : TypeId) (z : Value) (bytes : Nat) (ht : P.underlying t = some (.slice e)) (hinfo : (P.info? e).map (fun i => (i.zero, i.size, i.bytes)) = some (some z, 1, bytes))
    (hzs : z.cells.size = 1) (v : Value) (xs : List Value) (hs : a.eval s = v) (hown : Sl w base e v xs)
    (g : Nat) (u : Value) (hx : a.eval x = .slice (some ⟨g, 0, none⟩) 1 1) (hc : w.cell? ⟨g, 0, none⟩ = some u) (h1 : u.oneCell' = true)
    (h63 : xs.length + 1 ≤ maxLen) (hbytes : (xs.length + 1) * bytes ≤ 140737488355328) (hbase : base ≤ w.heap.size)
    (h : ∀ v' w', Sl w' base e v' (xs ++ [u]) → Only (slB v) w w' → (∀ k ∈ slB v', k ∈ slB v ∨ w.heap.size ≤ k) → K (a.put o.dst v') w') : o.wp P a w K Q := by
  obtain ⟨v', w', hr, h2, h3, h4⟩ := run_append_sl (P := P) o.type z bytes ht hinfo hzs hown g u hc h1 h63 hbytes hbase
  unfold Oper.wp execOp
  simp only [ho, resolve, invoke, builtin, Sem.run_bind, Sem.run_pure, Result.andThen_ok, List.map_toArray, List.map_cons, List.map_nil, hs, hx, hr]
  exact h v' w' h2 h3 h4
theorem wpList_append_sl {P : Program} {w : World} {ops : Array Oper} {rest : List Oper} {o : Oper} {a : Act} {Q : Exit → Act → World → Prop} (hgd : o.guard = none) (s x : Operand) (t : TypeId)
    (ho : o.op = .call { callee := .builtin .append, args := #[s, x], argTypes := #[t, t] })
    (base : Nat) (e : TypeId) (z : Value) (bytes : Nat) (ht : P.underlying t = some (.slice e)) (hinfo : (P.info? e).map (fun i => (i.zero, i.size, i.bytes)) = some (some z, 1, bytes))
    (hzs : z.cells.size = 1) (v : Value) (xs : List Value) (hs : a.eval s = v) (hown : Sl w base e v xs)
    (g : Nat) (u : Value) (hx : a.eval x = .slice (some ⟨g, 0, none⟩) 1 1) (hc : w.cell? ⟨g, 0, none⟩ = some u) (h1 : u.oneCell' = true)
    (h63 : xs.length + 1 ≤ maxLen) (hbytes : (xs.length + 1) * bytes ≤ 140737488355328) (hbase : base ≤ w.heap.size)
    (h : ∀ v' w', Sl w' base e v' (xs ++ [u]) → Only (slB v) w w' → (∀ k ∈ slB v', k ∈ slB v ∨ w.heap.size ≤ k) → wpList P ops Q rest (a.put o.dst v') w') : wpList P ops Q (o :: rest) a w :=
  wpList_plain hgd fun _ hK => wp_append_sl s x t ho base e z bytes ht hinfo hzs v xs hs hown g u hx hc h1 h63 hbytes hbase fun v' w' h2 h3 h4 => hK _ _ (h v' w' h2 h3 h4)
theorem step_append_sl {P : Program} {w : World} {ops : Array Oper} {o : Oper} {a : Act} {K : Act → World → Prop} {Q : Exit → Act → World → Prop} {E : Prop} (hgd : o.guard = none) (s x : Operand) (t : TypeId)
    (ho : o.op = .call { callee := .builtin .append, args := #[s, x], argTypes := #[t, t] })
    (base : Nat) (e : TypeId) (z : Value) (bytes : Nat) (ht : P.underlying t = some (.slice e)) (hinfo : (P.info? e).map (fun i => (i.zero, i.size, i.bytes)) = some (some z, 1, bytes))
    (hzs : z.cells.size = 1) (v : Value) (xs : List Value) (hs : a.eval s = v) (hown : Sl w base e v xs)
    (g : Nat) (u : Value) (hx : a.eval x = .slice (some ⟨g, 0, none⟩) 1 1) (hc : w.cell? ⟨g, 0, none⟩ = some u) (h1 : u.oneCell' = true)
    (h63 : xs.length + 1 ≤ maxLen) (hbytes : (xs.length + 1) * bytes ≤ 140737488355328) (hbase : base ≤ w.heap.size)
    (h : ∀ v' w', Sl w' base e v' (xs ++ [u]) → Only (slB v) w w' → (∀ k ∈ slB v', k ∈ slB v ∨ w.heap.size ≤ k) → K (a.put o.dst v') w') : if Region.wanted o (yielded ops a.tmps) = true then Oper.wp P o a w K Q else E := by
  have hw : Region.wanted o (yielded ops a.tmps) = true := by simp [Region.wanted, hgd]
  rw [if_pos hw]
  exact wp_append_sl s x t ho base e z bytes ht hinfo hzs v xs hs hown g u hx hc h1 h63 hbytes hbase h
/-- s[1:] -/
theorem slice1_sl {P : Program} {t e : TypeId} (hte : P.underlying t = some (.slice (P.elem t))) (hz : ∀ w, (sizeOf (P.elem t)).run P w = .ok 1 w) {w : World} {base : Nat} {v : Value} {xs : List Value} (h : Sl w base e v xs) (h0 : 0 < xs.length) :
    ∃ v', (∀ W, (Instr.slice t v (some (.int .i64 1)) none none).run P W = .ok v' W) ∧ slB v' = slB v ∧ (∀ W ys, Sl W base e v ys → Sl W base e v' ys.tail) := by
  rcases h with ⟨rfl, rfl⟩ | ⟨g, off, cap, cs, rfl, hb, hg, h1, h2, h3, h4⟩
  · simp at h0
  · refine ⟨sliced (some ⟨g, off, none⟩) 1 xs.length cap 1, fun W => ?_, ?_, fun W ys hW => ?_⟩
    · rw [run_slice_l W t _ _ _ hte .i64 1 (by omega) (by omega), hz]
      rfl
    · unfold sliced
      split <;> simp [slB, Addr.add]
    · rcases hW with ⟨hv, _⟩ | ⟨g', off', cap', cs', hv, hb', hg', h1', h2', h3', h4'⟩
      · cases hv
      · injection hv with e1 e2 e3
        injection e1 with e1
        injection e1 with e4 e5
        subst e3 e4 e5
        by_cases hc : cap = 1
        · refine .inr ⟨g, off, 0, cs', ?_, hb', hg', by omega, ?_, by omega, fun j hj => ?_⟩
          · unfold sliced
            rw [if_pos hc, List.length_tail]
            congr 1 <;> omega
          · rw [List.length_tail]; omega
          · rw [List.length_tail] at hj; omega
        · refine .inr ⟨g, off + 1, cap - 1, cs', ?_, hb', hg', by omega, ?_, by omega, fun j hj => ?_⟩
          · unfold sliced
            rw [if_neg hc, List.length_tail, e2]
            rfl
          · rw [List.length_tail]; omega
          · rw [List.length_tail] at hj
            rw [show off + 1 + j = off + (j + 1) by omega, h4' (j + 1) (by omega), List.getElem?_tail]
theorem Sl.below {w w' : World} {base B : Nat} {t : TypeId} {v : Value} {xs : List Value} (h : Sl w base t v xs) (hb : Below B w w') (hv : ∀ k ∈ slB v, k < B) : Sl w' base t v xs := by
  rcases h with h | ⟨g, off, cap, cs, rfl, hb', hg, h⟩
  · exact .inl h
  · exact .inr ⟨g, off, cap, cs, rfl, hb', hg.below hb (hv g (by simp [slB])), h⟩
/-- The first cell is written. -/
theorem Sl.put {w : World} {base : Nat} {t : TypeId} {x : Value} {xs : List Value} {g off cap : Nat} (h : Sl w base t (.slice (some ⟨g, off, none⟩) (x :: xs).length cap) (x :: xs)) (u : Value) :
    Sl (w.setCell ⟨g, off, none⟩ u) base t (.slice (some ⟨g, off, none⟩) (x :: xs).length cap) (u :: xs) := by
  rcases h with ⟨hv, _⟩ | ⟨g', off', cap', cs', hv, hb', hg', h1', h2', h3', h4'⟩
  · cases hv
  · injection hv with e1 e2 e3
    injection e1 with e1
    injection e1 with e4 e5
    subst e3 e4 e5
    refine .inr ⟨g, off, cap, _, rfl, hb', hg'.set_ off u, by simpa using h1', h2', h3', fun j hj => ?_⟩
    rw [Array.getElem?_setIfInBounds]
    cases j with
    | zero =>
      have : off < cs'.size := by simp at h2'; omega
      simp [this]
    | succ j =>
      rw [if_neg (by omega), h4' (j + 1) hj]
      rfl
end Go.Proofs.Ytbgpihengcjgeaa
