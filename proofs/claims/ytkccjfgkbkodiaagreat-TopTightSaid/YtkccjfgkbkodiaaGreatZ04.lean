/-
  Bld · Sl · BldB · BldC: parts of the walk of TopTight, under no condition.
-/
import Derived.Shelf.Strings.Builder1
import Derived.ArgAppend
import Derived.Deep.AppendLies
import Derived.Lib.UnsafeStr
import Derived.BigRegion
import Derived.Test.YtkccjfgkbkodiaaGreatZ01
import Derived.Test.YtkccjfgkbkodiaaGreatZ02
namespace Go.Proofs.YtkccjfgkbkodiaaGreat
open Go.RowKit
/-- The builder in the parser at b holds the bytes xs (as cells), in a row of its own from B on. -/
structure Bld (w : World) (b : Nat) (pre post : List Value) (B : Nat) (a v : Value) (xs : List Value) : Prop where
  mid : Mid w b 201 pre [a, v] post 10
  len : post.length = 15
  addr : a = .pointer none ∨ a = .pointer (some ⟨b, 10, none⟩)
  own : w.ownsRow B 5 1 v xs.length xs
theorem info_bld : ∃ j, Tryz.prog.info? 122 = some j ∧ j.size = 2 := by
  have h : (Tryz.prog.info? 122).map (fun i => i.size) = some 2 := by kernel_rfl
  obtain ⟨j, hj, hs⟩ := Option.map_eq_some_iff.1 h
  exact ⟨j, hj, hs⟩
theorem lies_bld : liesAt Tryz.prog Tryz.prog.depth 201 (27 / Tryz.prog.cellsOf 201) 10 122 1 = true := by kernel_rfl
theorem info_u8 : (Tryz.prog.info? 5).map (fun i => (i.zero, i.size, i.bytes)) = some (some (.int .u8 0), 1, 1) := by kernel_rfl
section
variable {w : World} {b B : Nat} {pre post : List Value} {a v : Value} {xs : List Value}
theorem Bld.shape (h : Bld w b pre post B a v xs) : w.shape? b = some (201, 27) := by
  have h1 := h.mid.2
  unfold Blk at h1
  have h2 := h.mid.1
  have h3 := h.len
  simp [World.shape?, h1]
  omega
theorem Bld.out (h : Bld w b pre post B a v xs) : v.ownBlock ≠ some b := own_blk_ne h.own h.mid.2 (by decide)
end
set_option maxRecDepth 100000 in
set_option maxHeartbeats 1000000 in
theorem copycheck_any {w : World} {b B : Nat} {pre post : List Value} {a v : Value} {xs : List Value} (h : Bld w b pre post B a v xs) :
    Calls Tryz.prog 109 #[.pointer (some ⟨b, 10, none⟩)] w fun e w' => e = .returned (.tuple #[]) ∧ Bld w' b pre post B (.pointer (some ⟨b, 10, none⟩)) v xs ∧ Only [b] w w' := by
  have c0 : w.cell? ⟨b, 10, none⟩ = some a := h.mid.cell0 _ rfl
  have f0 := h.mid.frozen 10
  have hsh := h.shape
  obtain ⟨j, hj, hjs⟩ := info_bld
  have H := hide h
  rcases h.addr with rfl | rfl
  · clear h
    go_enter Tryz.func109, Tryz.ntmps109
    go_wp2_with fail
    rw [Lib.run_to_unsafe w ⟨b, 10, none⟩ Tryz.underlying120 Tryz.underlying220 hj (by rw [hjs]; decide) hsh (by show 10 < 27; omega)]
    simp only [Result.andThen]
    rw [Oper.upon_value]
    go_wp2_with fail
    rw [run_callFunc_extern Tryz.func124 (by kernel_rfl) (by kernel_rfl) (by kernel_rfl) (e := Extern.AbiNoEscape.same) (by kernel_rfl)]
    rw [Lib.run_noEscape]
    simp only [Result.andThen]
    rw [Oper.upon_value]
    go_wp2_with fail
    rw [Lib.run_from_unsafe w ⟨b, 10, none⟩ Tryz.underlying220 Tryz.underlying120 hj hsh lies_bld]
    simp only [Result.andThen]
    rw [Oper.upon_value]
    go_wp2_with fail
    go_end0
    have hset := H.out.mid.set 0 (by simp) (.pointer (some ⟨b, 10, none⟩))
    have ho : Only [b] w (w.setCell ⟨b, 10, none⟩ (.pointer (some ⟨b, 10, none⟩))) := (Only.refl _ _).setCell (by simp) _
    refine ⟨rfl, ⟨hset, H.out.len, .inr rfl, ?_⟩, ho⟩
    exact H.out.own.kept (row := some b) ⟨rfl, rfl, rfl, by simp [World.setCell], fun k _ hk => Below.heap_setCell _ _ _ _ (fun e => hk (by simp [e]))⟩ (Or.inr H.out.out)
  · clear h
    go_enter Tryz.func109, Tryz.ntmps109
    go_wp2_with fail
    rw [Lib.run_neq_ptr_same w _ Tryz.underlying120 hj]
    go_wp2_with fail
    go_end0
    exact ⟨rfl, H.out, Only.refl _ _⟩
end Go.Proofs.YtkccjfgkbkodiaaGreat
namespace Go.Proofs.YtkccjfgkbkodiaaGreat
open Go.RowKit
/-- The slice value v shows the cells xs, in a block (from base on) of elements of type t. -/
def Sl (w : World) (base : Nat) (t : TypeId) (v : Value) (xs : List Value) : Prop :=
  (v = .slice none 0 0 ∧ xs = []) ∨ ∃ (g off cap : Nat) (cs : Array Value), v = .slice (some ⟨g, off, none⟩) xs.length cap ∧ base ≤ g ∧ Blk w g t cs ∧ off + cap ≤ cs.size ∧ xs.length ≤ cap ∧ cap ≤ maxLen ∧ ∀ j, j < xs.length → cs[off + j]? = xs[j]?
/-- The block that a slice value leads to. -/
def slB : Value → List Nat
  | .slice (some a) _ _ => [a.block]
  | _ => []
section
variable {w w' : World} {base : Nat} {t : TypeId} {v : Value} {xs : List Value}
theorem Sl.nil (w : World) (base : Nat) (t : TypeId) : Sl w base t (.slice none 0 0) [] := .inl ⟨rfl, rfl⟩
theorem Sl.lt (h : Sl w base t v xs) : ∀ k ∈ slB v, base ≤ k ∧ k < w.heap.size := by
  rcases h with ⟨rfl, _⟩ | ⟨g, off, cap, cs, rfl, hb, hg, _⟩
  · intro k hk; simp [slB] at hk
  · intro k hk
    simp [slB] at hk
    subst hk
    exact ⟨hb, hg.lt⟩
theorem Sl.keep {S : List Nat} (h : Sl w base t v xs) (ho : Only S w w') (hn : ∀ k ∈ slB v, k ∉ S) : Sl w' base t v xs := by
  rcases h with h | ⟨g, off, cap, cs, rfl, hb, hg, h⟩
  · exact .inl h
  · exact .inr ⟨g, off, cap, cs, rfl, hb, ho.blk hg (hn g (by simp [slB])), h⟩
theorem Sl.drewN (h : Sl w base t v xs) (n : Nat) : Sl (w.drewN n) base t v xs := h
theorem Sl.drew (h : Sl w base t v xs) : Sl w.drew base t v xs := h
theorem Sl.alloc (h : Sl w base t v xs) (o : Obj) : Sl (w.alloc o) base t v xs := by
  rcases h with h | ⟨g, off, cap, cs, rfl, hb, hg, h⟩
  · exact .inl h
  · exact .inr ⟨g, off, cap, cs, rfl, hb, hg.alloc o, h⟩
theorem Sl.far (h : Sl w base t v xs) {p : Addr} (hp : p.block ∉ slB v) (u : Value) : Sl (w.setCell p u) base t v xs := by
  rcases h with h | ⟨g, off, cap, cs, rfl, hb, hg, h⟩
  · exact .inl h
  · exact .inr ⟨g, off, cap, cs, rfl, hb, hg.far (by simp [slB] at hp; exact fun e => hp e.symm) u, h⟩
theorem Sl.mono {base' : Nat} (h : Sl w base t v xs) (hb : base' ≤ base) : Sl w base' t v xs := by
  rcases h with h | ⟨g, off, cap, cs, e, hb', h⟩
  · exact .inl h
  · exact .inr ⟨g, off, cap, cs, e, by omega, h⟩
theorem Sl.notBlk {g' : Nat} {t' : TypeId} {cs' : Array Value} (h : Sl w base t v xs) (hb : Blk w g' t' cs') (hne : t ≠ t') : g' ∉ slB v := by
  rcases h with ⟨rfl, _⟩ | ⟨g, off, cap, cs, rfl, _, hg, _⟩
  · simp [slB]
  · simp [slB]
    exact fun e => hg.ne_ hb hne e.symm
theorem Sl.of_row {n : Nat} (h : w.ownsRow base t 1 v n xs) : Sl w base t v xs := by
  obtain ⟨hl, h⟩ := h
  rw [Nat.mul_one] at hl
  rcases h with ⟨rfl, hn⟩ | ⟨g, cap, cur, rfl, hb, hh, hnc, hcm, hcs, htake⟩
  · exact .inl ⟨rfl, List.eq_nil_of_length_eq_zero (by omega)⟩
  · refine .inr ⟨g, 0, cap, cur, by rw [hl], hb, hh, by omega, by omega, hcm, fun j hj => ?_⟩
    rw [Nat.zero_add, ← htake, List.getElem?_take_of_lt (by omega), Array.getElem?_toList]
/-- .. known whole, at the head of a block. -/
theorem Sl.of_blk {g : Nat} (hb : base ≤ g) (h : Blk w g t xs.toArray) (hm : xs.length ≤ maxLen) : Sl w base t (.slice (some ⟨g, 0, none⟩) xs.length xs.length) xs :=
  .inr ⟨g, 0, xs.length, xs.toArray, rfl, hb, h, by simp, Nat.le_refl _, hm, fun j _ => by simp⟩
theorem Sl.cell (h : Sl w base t v xs) (j : Nat) (hj : j < xs.length) : ∃ g off cap, v = .slice (some ⟨g, off, none⟩) xs.length cap ∧ w.cell? ⟨g, off + j, none⟩ = some xs[j] := by
  rcases h with ⟨rfl, rfl⟩ | ⟨g, off, cap, cs, rfl, hb, hg, h1, h2, h3, h4⟩
  · simp at hj
  · refine ⟨g, off, cap, rfl, ?_⟩
    rw [hg.cell, h4 j hj]
    exact List.getElem?_eq_getElem hj
end
theorem only_grown {w w' : World} {v : Value} (h : w.grownBy w' v.ownBlock) : Only (slB v) w w' := by
  refine ⟨h.os, h.tape, h.output, h.size, fun k hk hn => h.block k hk fun he => hn ?_⟩
  cases v with
  | slice a n c =>
    cases a with
    | none => simp [Value.ownBlock] at he
    | some a => simp [Value.ownBlock] at he; simp [slB, he]
  | _ => simp [Value.ownBlock] at he
theorem only_grown_none {w w' : World} (S : List Nat) (h : w.grownBy w' none) : Only S w w' := ⟨h.os, h.tape, h.output, h.size, fun k hk _ => h.block k hk (by simp)⟩
theorem run_append_sl {P : Program} {t e : TypeId} (ty : TypeId) (z : Value) (bytes : Nat) (ht : P.underlying t = some (.slice e)) (hinfo : (P.info? e).map (fun i => (i.zero, i.size, i.bytes)) = some (some z, 1, bytes)) (hzs : z.cells.size = 1)
    {w : World} {base : Nat} {v : Value} {xs : List Value} (h : Sl w base e v xs) (g : Nat) (u : Value) (hc : w.cell? ⟨g, 0, none⟩ = some u) (h1 : u.oneCell' = true)
    (h63 : xs.length + 1 ≤ maxLen) (hbytes : (xs.length + 1) * bytes ≤ 140737488355328) (hbase : base ≤ w.heap.size) :
    ∃ v' w', (Builtin.append_ #[t, t] ty #[v, .slice (some ⟨g, 0, none⟩) 1 1]).run P w = .ok v' w' ∧ Sl w' base e v' (xs ++ [u]) ∧ Only (slB v) w w' ∧ ∀ k ∈ slB v', k ∈ slB v ∨ w.heap.size ≤ k := by
  obtain ⟨i0, hi, hz0, hz1, hz2⟩ := info_parts hinfo
  have hnews : ∀ j y, [u][j]? = some y → w.cell? ((⟨g, 0, none⟩ : Addr).add j) = some y := by
    intro j y hj
    match j, hj with
    | 0, hj => simp at hj; subst hj; simpa [Addr.add] using hc
  have hone : ∀ y ∈ [u], y.oneCell' = true := by intro y hy; simp at hy; subst hy; exact h1
  have newRow : ∀ {v' : Value} {w' : World} {n : Nat} {ys : List Value}, w'.ownsRow w.heap.size e 1 v' n ys → ∀ k ∈ slB v', k ∈ slB v ∨ w.heap.size ≤ k := by
    intro v' w' n ys hr k hk
    exact .inr ((Sl.of_row hr).lt k hk).1
  rcases h with ⟨rfl, rfl⟩ | ⟨gb, off, cap, cs, rfl, hb, hg, hoc, hlc, hcm, hcells⟩
  · obtain ⟨v', w', hr, r1, r2, _⟩ := run_append_own (P := P) w w.heap.size t ty e i0 z 1 bytes ht hi hz0 hz1 hz2 hzs (by omega) (.slice none 0 0) 0 [] (World.ownsRow_nil w _ e 1) ⟨g, 0, none⟩ 1 1 [u] rfl hnews hone (by simpa using h63) (by simpa using hbytes) (Nat.le_refl _)
    exact ⟨v', w', hr, (Sl.of_row r1).mono hbase, only_grown r2, newRow r1⟩
  · by_cases hroom : xs.length + 1 ≤ cap
    · have hcell : w.cell? ⟨gb, off + xs.length, none⟩ = some (cs[off + xs.length]'(by omega)) := hg.cellv _ _ (Array.getElem?_eq_getElem (by omega))
      have hr := run_append_room_cells (P := P) w t ty e i0 ht hi gb off xs.length cap ⟨g, 0, none⟩ 1 1 [u] (by rw [hz1]; rfl) hnews hone hroom
        (fun j hj => by simp at hj; subst hj; rw [hz1, Nat.mul_one, Nat.add_zero, hcell]; rfl) (fun j hj => by simp at hj; subst hj; exact hg.frozen _)
      rw [hz1, Nat.mul_one] at hr
      refine ⟨_, _, hr, ?_, ?_, fun k hk => .inl (by simpa [slB] using hk)⟩
      · refine .inr ⟨gb, off, cap, _, by simp, hb, hg.set_ (off + xs.length) u, by simpa using hoc, by simpa using hroom, hcm, fun j hj => ?_⟩
        rw [Array.getElem?_setIfInBounds]
        simp at hj
        by_cases hjx : j = xs.length
        · subst hjx
          rw [if_pos rfl, if_pos (by omega), List.getElem?_append_right (by omega)]
          simp
        · rw [if_neg (by omega), hcells j (by omega), List.getElem?_append_left (by omega)]
      · exact (Only.refl _ w).setCell (by simp [slB]) u
    · obtain ⟨v', w', hr, r1, r2⟩ := run_append_arg_grows (P := P) w t ty e i0 z 1 bytes ht hi hz0 hz1 hz2 hzs (by omega) ⟨gb, off, none⟩ xs.length cap xs (by omega)
        (fun j y hj => by
          have hjl : j < xs.length := (List.getElem?_eq_some_iff.1 hj).1
          rw [Addr.add_lit]
          exact hg.cellv _ _ ((hcells j hjl).trans hj)) ⟨g, 0, none⟩ 1 1 [u] rfl hnews (by omega) h63 hbytes
      exact ⟨v', w', hr, (Sl.of_row r1).mono hbase, only_grown_none _ r2, newRow r1⟩
/-- append(v, u) at the operation. -/
theorem wp_append_sl {P : Program} {w : World} {o : Oper} {a : Act} {K : Act → World → Prop} {Q : Exit → Act → World → Prop} (s x : Operand) (t : TypeId)
    (ho : o.op = .call { callee := .builtin .append, args := #[s, x], argTypes := #[t, t] })
    (base : Nat) (e : TypeId) (z : Value) (bytes : Nat) (ht : P.underlying t = some (.slice e)) (hinfo : (P.info? e).map (fun i => (i.zero, i.size, i.bytes)) = some (some z, 1, bytes))
    (hzs : z.cells.size = 1) (v : Value) (xs : List Value) (hs : a.eval s = v) (hown : Sl w base e v xs)
    (g : Nat) (u : Value) (hx : a.eval x = .slice (some ⟨g, 0, none⟩) 1 1) (hc : w.cell? ⟨g, 0, none⟩ = some u) (h1 : u.oneCell' = true)
    (h63 : xs.length + 1 ≤ maxLen) (hbytes : (xs.length + 1) * bytes ≤ 140737488355328) (hbase : base ≤ w.heap.size)
    (h : ∀ v' w', Sl w' base e v' (xs ++ [u]) → Only (slB v) w w' → (∀ k ∈ slB v', k ∈ slB v ∨ w.heap.size ≤ k) → K (a.put o.dst v') w') : o.wp P a w K Q := by
  obtain ⟨v', w', hr, h2, h3, h4⟩ := run_append_sl (P := P) o.type z bytes ht hinfo hzs hown g u hc h1 h63 hbytes hbase
  unfold Oper.wp execOp
  simp only [ho, resolve, invoke, builtin, Sem.run_bind, Sem.run_pure, Result.andThen_ok, List.map_toArray, List.map_cons, List.map_nil, hs, hx, hr]
  exact h v' w' h2 h3 h4
theorem wpList_append_sl {P : Program} {w : World} {ops : Array Oper} {rest : List Oper} {o : Oper} {a : Act} {Q : Exit → Act → World → Prop} (hgd : o.guard = none) (s x : Operand) (t : TypeId)
    (ho : o.op = .call { callee := .builtin .append, args := #[s, x], argTypes := #[t, t] })
    (base : Nat) (e : TypeId) (z : Value) (bytes : Nat) (ht : P.underlying t = some (.slice e)) (hinfo : (P.info? e).map (fun i => (i.zero, i.size, i.bytes)) = some (some z, 1, bytes))
    (hzs : z.cells.size = 1) (v : Value) (xs : List Value) (hs : a.eval s = v) (hown : Sl w base e v xs)
    (g : Nat) (u : Value) (hx : a.eval x = .slice (some ⟨g, 0, none⟩) 1 1) (hc : w.cell? ⟨g, 0, none⟩ = some u) (h1 : u.oneCell' = true)
    (h63 : xs.length + 1 ≤ maxLen) (hbytes : (xs.length + 1) * bytes ≤ 140737488355328) (hbase : base ≤ w.heap.size)
    (h : ∀ v' w', Sl w' base e v' (xs ++ [u]) → Only (slB v) w w' → (∀ k ∈ slB v', k ∈ slB v ∨ w.heap.size ≤ k) → wpList P ops Q rest (a.put o.dst v') w') : wpList P ops Q (o :: rest) a w :=
  wpList_plain hgd fun _ hK => wp_append_sl s x t ho base e z bytes ht hinfo hzs v xs hs hown g u hx hc h1 h63 hbytes hbase fun v' w' h2 h3 h4 => hK _ _ (h v' w' h2 h3 h4)
theorem step_append_sl {P : Program} {w : World} {ops : Array Oper} {o : Oper} {a : Act} {K : Act → World → Prop} {Q : Exit → Act → World → Prop} {E : Prop} (hgd : o.guard = none) (s x : Operand) (t : TypeId)
    (ho : o.op = .call { callee := .builtin .append, args := #[s, x], argTypes := #[t, t] })
    (base : Nat) (e : TypeId) (z : Value) (bytes : Nat) (ht : P.underlying t = some (.slice e)) (hinfo : (P.info? e).map (fun i => (i.zero, i.size, i.bytes)) = some (some z, 1, bytes))
    (hzs : z.cells.size = 1) (v : Value) (xs : List Value) (hs : a.eval s = v) (hown : Sl w base e v xs)
    (g : Nat) (u : Value) (hx : a.eval x = .slice (some ⟨g, 0, none⟩) 1 1) (hc : w.cell? ⟨g, 0, none⟩ = some u) (h1 : u.oneCell' = true)
    (h63 : xs.length + 1 ≤ maxLen) (hbytes : (xs.length + 1) * bytes ≤ 140737488355328) (hbase : base ≤ w.heap.size)
    (h : ∀ v' w', Sl w' base e v' (xs ++ [u]) → Only (slB v) w w' → (∀ k ∈ slB v', k ∈ slB v ∨ w.heap.size ≤ k) → K (a.put o.dst v') w') : if Region.wanted o (yielded ops a.tmps) = true then Oper.wp P o a w K Q else E := by
  have hw : Region.wanted o (yielded ops a.tmps) = true := by simp [Region.wanted, hgd]
  rw [if_pos hw]
  exact wp_append_sl s x t ho base e z bytes ht hinfo hzs v xs hs hown g u hx hc h1 h63 hbytes hbase h
/-- s[1:] -/
theorem slice1_sl {P : Program} {t e : TypeId} (hte : P.underlying t = some (.slice (P.elem t))) (hz : ∀ w, (sizeOf (P.elem t)).run P w = .ok 1 w) {w : World} {base : Nat} {v : Value} {xs : List Value} (h : Sl w base e v xs) (h0 : 0 < xs.length) :
    ∃ v', (∀ W, (Instr.slice t v (some (.int .i64 1)) none none).run P W = .ok v' W) ∧ slB v' = slB v ∧ (∀ W ys, Sl W base e v ys → Sl W base e v' ys.tail) := by
  rcases h with ⟨rfl, rfl⟩ | ⟨g, off, cap, cs, rfl, hb, hg, h1, h2, h3, h4⟩
  · simp at h0
  · refine ⟨sliced (some ⟨g, off, none⟩) 1 xs.length cap 1, fun W => ?_, ?_, fun W ys hW => ?_⟩
    · rw [run_slice_l W t _ _ _ hte .i64 1 (by omega) (by omega), hz]
      rfl
    · unfold sliced
      split <;> simp [slB, Addr.add]
    · rcases hW with ⟨hv, _⟩ | ⟨g', off', cap', cs', hv, hb', hg', h1', h2', h3', h4'⟩
      · cases hv
      · injection hv with e1 e2 e3
        injection e1 with e1
        injection e1 with e4 e5
        subst e3 e4 e5
        by_cases hc : cap = 1
        · refine .inr ⟨g, off, 0, cs', ?_, hb', hg', by omega, ?_, by omega, fun j hj => ?_⟩
          · unfold sliced
            rw [if_pos hc, List.length_tail]
            congr 1 <;> omega
          · rw [List.length_tail]; omega
          · rw [List.length_tail] at hj; omega
        · refine .inr ⟨g, off + 1, cap - 1, cs', ?_, hb', hg', by omega, ?_, by omega, fun j hj => ?_⟩
          · unfold sliced
            rw [if_neg hc, List.length_tail, e2]
            rfl
          · rw [List.length_tail]; omega
          · rw [List.length_tail] at hj
            rw [show off + 1 + j = off + (j + 1) by omega, h4' (j + 1) (by omega), List.getElem?_tail]
theorem Sl.below {w w' : World} {base B : Nat} {t : TypeId} {v : Value} {xs : List Value} (h : Sl w base t v xs) (hb : Below B w w') (hv : ∀ k ∈ slB v, k < B) : Sl w' base t v xs := by
  rcases h with h | ⟨g, off, cap, cs, rfl, hb', hg, h⟩
  · exact .inl h
  · exact .inr ⟨g, off, cap, cs, rfl, hb', hg.below hb (hv g (by simp [slB])), h⟩
/-- The first cell is written. -/
theorem Sl.put {w : World} {base : Nat} {t : TypeId} {x : Value} {xs : List Value} {g off cap : Nat} (h : Sl w base t (.slice (some ⟨g, off, none⟩) (x :: xs).length cap) (x :: xs)) (u : Value) :
    Sl (w.setCell ⟨g, off, none⟩ u) base t (.slice (some ⟨g, off, none⟩) (x :: xs).length cap) (u :: xs) := by
  rcases h with ⟨hv, _⟩ | ⟨g', off', cap', cs', hv, hb', hg', h1', h2', h3', h4'⟩
  · cases hv
  · injection hv with e1 e2 e3
    injection e1 with e1
    injection e1 with e4 e5
    subst e3 e4 e5
    refine .inr ⟨g, off, cap, _, rfl, hb', hg'.set_ off u, by simpa using h1', h2', h3', fun j hj => ?_⟩
    rw [Array.getElem?_setIfInBounds]
    cases j with
    | zero =>
      have : off < cs'.size := by simp at h2'; omega
      simp [this]
    | succ j =>
      rw [if_neg (by omega), h4' (j + 1) hj]
      rfl
end Go.Proofs.YtkccjfgkbkodiaaGreat
namespace Go.Proofs.YtkccjfgkbkodiaaGreat
open Go.RowKit
theorem slB_own {v : Value} {g : Nat} : g ∈ slB v ↔ v.ownBlock = some g := by
  cases v with
  | slice a n c =>
    cases a with
    | none => simp [slB, Value.ownBlock]
    | some a => simp [slB, Value.ownBlock, eq_comm]
  | _ => simp [slB, Value.ownBlock]
theorem run_append_string_at {P : Program} {w : World} (base : Nat) (t u ty e : TypeId) (i : TypeInfo) (ht : P.underlying t = some (.slice e)) (hu : P.underlying u = some .string) (hi : P.info? e = some i) (hz : i.zero = some (.int .u8 0)) (hsize : i.size = 1) (hby : i.bytes = 1)
    (v : Value) (n : Nat) (xs : List Value) (hown : w.ownsRow base e 1 v n xs) (s : ByteArray) (h63 : n + s.size ≤ maxLen) (hbytes : n + s.size ≤ 140737488355328) (hbase : base ≤ w.heap.size) :
    ∃ v' w', (Builtin.append_ #[t, u] ty #[v, .string s]).run P w = .ok v' w' ∧ w'.ownsRow base e 1 v' (n + s.size) (xs ++ Lib.strCells s) ∧ w.grownBy w' v.ownBlock ∧
      ∀ k ∈ slB v', k ∈ slB v ∨ w.heap.size ≤ k := by
  obtain ⟨v', w', hr, h2, h3, _⟩ := Lib.run_append_own_string (P := P) w base t u ty e i ht hu hi hz hsize hby v n xs hown s h63 hbytes hbase
  refine ⟨v', w', hr, h2, h3, ?_⟩
  have hxl : xs.length = n := by simpa using hown.1
  rcases hown.2 with ⟨rfl, rfl⟩ | ⟨g, cap, cur, rfl, hbg, hg, hnc, hcm, hcs, htake⟩
  · have hx : xs = [] := List.eq_nil_of_length_eq_zero hxl
    subst hx
    obtain ⟨v2, w2, hr2, h22, _⟩ := Lib.run_append_own_string (P := P) w w.heap.size t u ty e i ht hu hi hz hsize hby _ 0 [] (World.ownsRow_nil w _ e 1) s h63 hbytes (Nat.le_refl _)
    have he := hr2.symm.trans hr
    injection he with hv hw
    subst hv
    intro k hk
    refine .inr ?_
    rcases h22.2 with ⟨h, _⟩ | ⟨g, _, _, h, hb, _⟩
    · subst h
      simp [slB] at hk
    · subst h
      simp [slB] at hk
      omega
  · by_cases hroom : n + s.size ≤ cap
    · have hcs' : cur.size = cap := by simpa using hcs
      have hr2 := Lib.run_append_room_string (P := P) w t u ty e i ht hu hi hsize g n cap cur hg s hroom (by omega)
      have he := hr2.symm.trans hr
      injection he with hv hw
      subst hv
      intro k hk
      exact .inl (by simpa [slB] using hk)
    · have holds : ∀ j u, xs[j]? = some u → w.cell? ((⟨g, 0, none⟩ : Addr).add j) = some u := hown.cells (g := g) rfl
      have h63' : n + s.size ≤ 9223372036854775807 := by simp only [maxLen] at h63; omega
      have hr2 := Lib.run_append_grow_string (P := P) w t u ty e i (.int .u8 0) ht hu hi hz ⟨g, 0, none⟩ n cap xs (by rw [hsize]; simpa using hxl) holds s (by omega) (by omega) (by rw [hby]; exact growslice_fits (by omega) (by omega))
      have he := hr2.symm.trans hr
      injection he with hv hw
      subst hv
      intro k hk
      refine .inr ?_
      simp [slB] at hk
      omega
theorem wpList_append_string_at {P : Program} (w : World) {ops : Array Oper} {rest : List Oper} {o : Oper} {a : Act} {Q : Exit → Act → World → Prop} (hgd : o.guard = none) (sl x : Operand) (t u : TypeId)
    (ho : o.op = .call { callee := .builtin .append, args := #[sl, x], argTypes := #[t, u] })
    (base : Nat) (e : TypeId) (i : TypeInfo) (ht : P.underlying t = some (.slice e)) (hu : P.underlying u = some .string) (hi : P.info? e = some i) (hz : i.zero = some (.int .u8 0)) (hsize : i.size = 1) (hby : i.bytes = 1)
    (v : Value) (n : Nat) (xs : List Value) (hs : a.eval sl = v) (hown : w.ownsRow base e 1 v n xs) (s : ByteArray) (hx : a.eval x = .string s)
    (h63 : n + s.size ≤ maxLen) (hbytes : n + s.size ≤ 140737488355328) (hbase : base ≤ w.heap.size)
    (h : ∀ v' w', w'.ownsRow base e 1 v' (n + s.size) (xs ++ Lib.strCells s) → w.grownBy w' v.ownBlock → (∀ k ∈ slB v', k ∈ slB v ∨ w.heap.size ≤ k) → wpList P ops Q rest (a.put o.dst v') w') : wpList P ops Q (o :: rest) a w := by
  refine wpList_plain hgd fun K hK => ?_
  obtain ⟨v', w', hr, h2, h3, h4⟩ := run_append_string_at (P := P) base t u o.type e i ht hu hi hz hsize hby v n xs hown s h63 hbytes hbase
  unfold Oper.wp execOp
  simp only [ho, resolve, invoke, builtin, Sem.run_bind, Sem.run_pure, Result.andThen_ok, List.map_toArray, List.map_cons, List.map_nil, hs, hx, hr]
  exact hK _ _ (h v' w' h2 h3 h4)
set_option maxRecDepth 100000 in
set_option maxHeartbeats 1000000 in
theorem bwrite_any {w : World} {b B : Nat} {pre post : List Value} {a v : Value} {xs : List Value} (h : Bld w b pre post B a v xs) (s : ByteArray) (hl : xs.length + s.size ≤ 1000000) (hB : B ≤ w.heap.size) :
    Calls Tryz.prog 90 #[.pointer (some ⟨b, 10, none⟩), .string s] w fun e w' => ∃ v', e = .returned (.tuple #[.int .i64 s.size, .nilIface]) ∧ Bld w' b pre post B (.pointer (some ⟨b, 10, none⟩)) v' (xs ++ Lib.strCells s) ∧
      Only (b :: slB v) w w' ∧ ∀ k ∈ slB v', k ∈ slB v ∨ w.heap.size ≤ k := by
  obtain ⟨i0, hi, hz0, hz1, hz2⟩ := info_parts info_u8
  have HC := hide (copycheck_any h)
  have hls : s.size ≤ 9223372036854775807 := by omega
  have HL := hide hl
  have HB := hide hB
  clear h hl hB
  go_enter Tryz.func90, Tryz.ntmps90
  go_wp2_with fail
  (with_reducible refine (unhide HC).mono ?_)
  rintro e w1 ⟨rfl, h1, ho1⟩
  have c1 : w1.cell? ⟨b, 11, none⟩ = some v := h1.mid.cell 1 _ rfl
  have hs1 := ho1.size
  have H1 := hide h1
  have HO1 := hide ho1
  clear HC h1 ho1
  go_wp2_with (at_builtin; go_loud (refine wpList_append_string_at _ rfl _ _ 63 9 rfl B 5 i0 Tryz.underlying63 Tryz.underlying9 hi hz0 hz1 hz2 _ _ _ rfl H1.out.own s rfl ?c3 ?c4 ?c5 ?_))
  case c3 => have := HL.out; unfold maxLen; omega
  case c4 => have := HL.out; omega
  case c5 => have := HB.out; omega
  intro v' w2 hown' hgrow hfresh
  have hm2 : Mid w2 b 201 pre [.pointer (some ⟨b, 10, none⟩), v] post 10 := ⟨H1.out.mid.1, H1.out.mid.2.grown hgrow (fun e => H1.out.out e.symm)⟩
  have d1 : w2.cell? ⟨b, 11, none⟩ = some v := hm2.cell 1 _ rfl
  have f1 := hm2.frozen 11
  have hne : v'.ownBlock ≠ some b := own_blk_ne hown' hm2.2 (by decide)
  have hset := hm2.set 1 (by simp) v'
  have hkept : (w2.setCell ⟨b, 11, none⟩ v').ownsRow B 5 1 v' (xs.length + s.size) (xs ++ Lib.strCells s) := hown'.kept (row := some b) ⟨rfl, rfl, rfl, by simp [World.setCell], fun k _ hk => Below.heap_setCell _ _ _ _ (fun e => hk (by simp [e]))⟩ (Or.inr hne)
  have hfin : Bld (w2.setCell ⟨b, 11, none⟩ v') b pre post B (.pointer (some ⟨b, 10, none⟩)) v' (xs ++ Lib.strCells s) := ⟨hset, H1.out.len, .inr rfl, by rw [List.length_append, Lib.strCells_length]; exact hkept⟩
  have HF := hide hfin
  have HO : Hid (Only (b :: slB v) w (w2.setCell ⟨b, 11, none⟩ v')) := hide (((HO1.out.mono (by intro k hk; rw [List.mem_singleton.1 hk]; exact List.mem_cons_self ..)).trans ((only_grown hgrow).mono (fun k hk => List.mem_cons_of_mem _ hk))).setCell (p := ⟨b, 11, none⟩) (List.mem_cons_self ..) _)
  have HFR : Hid (∀ k ∈ slB v', k ∈ slB v ∨ w.heap.size ≤ k) := hide (fun k hk => (hfresh k hk).imp_right (fun h9 => by omega))
  obtain ⟨ao, n', cap, rfl⟩ : ∃ ao n' cap, v' = .slice ao n' cap := by
    rcases hown'.2 with ⟨hv, _⟩ | ⟨g, cap, cur, hv, _⟩
    · exact ⟨_, _, _, hv⟩
    · exact ⟨_, _, _, hv⟩
  clear hown' hgrow hm2 hne hset hkept hfin hfresh c1 hs1 H1 HO1
  go_wp2_with fail
  go_ret2
  exact ⟨_, rfl, HF.out, HO.out, HFR.out⟩
end Go.Proofs.YtkccjfgkbkodiaaGreat
namespace Go.Proofs.YtkccjfgkbkodiaaGreat
open Go.Shelf Go.RowKit
theorem Only.freeze {S : List Nat} {a w : World} (h : Only S a w) {p : Addr} (hp : p.block ∈ S) (n : Nat) : Only S a (w.freeze p n) := by
  refine h.trans ?_
  unfold World.freeze
  split
  · exact Only.refl S w
  · exact ⟨rfl, rfl, rfl, by simp, fun k hk hn => by
      simp only [Array.getElem?_modify]
      rw [if_neg (fun e => hn (by rw [← e]; exact hp))]⟩
set_option maxRecDepth 100000 in
set_option maxHeartbeats 1000000 in
theorem blen_any {w : World} {b B : Nat} {pre post : List Value} {a v : Value} {xs : List Value} (h : Bld w b pre post B a v xs) :
    Calls Tryz.prog 189 #[.pointer (some ⟨b, 10, none⟩)] w fun e w' => e = .returned (.int .i64 xs.length) ∧ w' = w := by
  obtain ⟨ao, cap, rfl⟩ : ∃ ao cap, v = .slice ao xs.length cap := by
    rcases h.own.2 with ⟨hv, h0⟩ | ⟨g, cap, cur, hv, _⟩
    · exact ⟨none, 0, by rw [hv, h0]⟩
    · exact ⟨_, _, hv⟩
  have c1 : w.cell? ⟨b, 11, none⟩ = some (.slice ao xs.length cap) := h.mid.cell 1 _ rfl
  clear h
  go_enter Tryz.func189, Tryz.ntmps189
  go_wp2_with fail
  go_ret
  exact ⟨rfl, rfl⟩
set_option maxRecDepth 100000 in
set_option maxHeartbeats 1000000 in
theorem breset_any {w : World} {b : Nat} {pre post : List Value} {a v : Value} (h : Mid w b 201 pre [a, v] post 10) :
    Calls Tryz.prog 183 #[.pointer (some ⟨b, 10, none⟩)] w fun e w' => e = .returned (.tuple #[]) ∧ Mid w' b 201 pre [.pointer none, .slice none 0 0] post 10 ∧ Only [b] w w' := by
  have c0 : w.cell? ⟨b, 10, none⟩ = some a := h.cell 0 _ rfl
  have c1 : w.cell? ⟨b, 11, none⟩ = some v := h.cell 1 _ rfl
  have f0 := h.frozen 10
  have f1 := h.frozen 11
  have H := hide h
  clear h
  go_enter Tryz.func183, Tryz.ntmps183
  go_wp2_with fail
  all_goals
    go_end0
    first
    | exact ⟨rfl, (H.out.set 0 (by simp) _).set 1 (by simp) _, ((Only.refl _ _).setCell (p := ⟨b, 10, none⟩) (by simp) _).setCell (p := ⟨b, 11, none⟩) (by simp) _⟩
    | exact ⟨rfl, H.out.set2 _ _, Only.refl _ _⟩
theorem cellsByte : Tryz.prog.cellsOf 5 = 1 := by kernel_rfl
set_option maxRecDepth 100000 in
set_option maxHeartbeats 2000000 in
theorem bstring_any {w : World} {b B : Nat} {pre post : List Value} {a v : Value} {l : List UInt8} (h : Bld w b pre post B a v (Lib.byteCells l)) :
    Calls Tryz.prog 91 #[.pointer (some ⟨b, 10, none⟩)] w fun e w' => e = .returned (.string ⟨l.toArray⟩) ∧ Only (slB v) w w' := by
  have hUS := fun (W : World) (q : Option Addr) => Lib.run_unsafeString_none (P := Tryz.prog) W 178 3 9 q
  have hmid := h.mid
  rcases h.own.2 with ⟨rfl, h0⟩ | ⟨g, cap, cur, rfl, hbg, hg, hnc, hcm, hcs, htake⟩
  · have hl : l = [] := List.eq_nil_of_length_eq_zero (by rw [← Lib.byteCells_length]; exact h0)
    subst hl
    have c1 : w.drew.cell? ⟨b, 11, none⟩ = some (.slice none 0 0) := h.mid.cell 1 _ rfl
    have hSD : (Builtin.unsafeSliceData_ #[63] 178 #[.slice none 0 0]).run Tryz.prog w.drew = .ok (.pointer none) w.drew := rfl
    clear h hmid h0
    go_enter Tryz.func91, Tryz.ntmps91
    go_wp2_with fail
    go_region
    all_goals (go_wp2; go_ret; exact ⟨rfl, (Only.refl _ w).drew⟩)
  · by_cases hl : l = []
    · subst hl
      have h0 : (Lib.byteCells []).length = 0 := rfl
      rw [h0] at hmid hnc htake ⊢
      by_cases hc0 : cap = 0
      · subst hc0
        have c1 : w.drew.cell? ⟨b, 11, none⟩ = some (.slice (some ⟨g, 0, none⟩) 0 0) := hmid.cell 1 _ rfl
        have hSD : (Builtin.unsafeSliceData_ #[63] 178 #[.slice (some ⟨g, 0, none⟩) 0 0]).run Tryz.prog w.drew = .ok (.pointer (some ⟨w.drew.heap.size, 0, none⟩)) (w.drew.alloc (.view ⟨g, 0, none⟩ 5)) :=
          Lib.run_unsafeSliceData_zero w.drew _ _ 5 Tryz.underlying178 ⟨g, 0, none⟩ 0 (5, cur.size) (by have hg' : w.drew.heap[g]? = some (.cells cur 5 (0, 0)) := hg; simp [World.shape?, hg'])
        have c2 : (w.drew.alloc (.view ⟨g, 0, none⟩ 5)).cell? ⟨b, 11, none⟩ = some (.slice (some ⟨g, 0, none⟩) 0 0) := (hmid.alloc _).cell 1 _ rfl
        have c3 : (w.alloc (.view ⟨g, 0, none⟩ 5)).drew.cell? ⟨b, 11, none⟩ = some (.slice (some ⟨g, 0, none⟩) 0 0) := c2
        have c0 : w.cell? ⟨b, 11, none⟩ = some (.slice (some ⟨g, 0, none⟩) 0 0) := c1
        clear h hmid h0 hnc hcm hcs htake hbg
        go_enter Tryz.func91, Tryz.ntmps91
        go_wp2_with fail
        go_region
        all_goals (go_wp2; go_ret; exact ⟨rfl, ((Only.refl _ w).drew).alloc _⟩)
      · have c1 : w.drew.cell? ⟨b, 11, none⟩ = some (.slice (some ⟨g, 0, none⟩) 0 cap) := hmid.cell 1 _ rfl
        have hSD : (Builtin.unsafeSliceData_ #[63] 178 #[.slice (some ⟨g, 0, none⟩) 0 cap]).run Tryz.prog w.drew = .ok (.pointer (some ⟨g, 0, none⟩)) w.drew :=
          Lib.run_unsafeSliceData_row _ _ _ _ _ _ hc0
        clear h hmid h0 hnc hcm hcs htake hbg hc0 hg
        go_enter Tryz.func91, Tryz.ntmps91
        go_wp2_with fail
        go_region
        all_goals (go_wp2; go_ret; exact ⟨rfl, (Only.refl _ w).drew⟩)
    · have hl0 : l.length ≠ 0 := by simpa using hl
      have hlen : (Lib.byteCells l).length = l.length := Lib.byteCells_length l
      rw [hlen] at hnc
      have hown := h.own
      rw [hlen] at hown hmid ⊢
      have c1 : w.drew.cell? ⟨b, 11, none⟩ = some (.slice (some ⟨g, 0, none⟩) l.length cap) := hmid.cell 1 _ rfl
      have hSD : (Builtin.unsafeSliceData_ #[63] 178 #[.slice (some ⟨g, 0, none⟩) l.length cap]).run Tryz.prog w.drew = .ok (.pointer (some ⟨g, 0, none⟩)) w.drew :=
        Lib.run_unsafeSliceData_row _ _ _ _ _ _ (by omega)
      have hUS2 : (Builtin.unsafeString_ #[178, 3] 9 #[.pointer (some ⟨g, 0, none⟩), .int .i64 l.length]).run Tryz.prog w.drew = .ok (.string ⟨l.toArray⟩) (w.drew.freeze ⟨g, 0, none⟩ l.length) := by
        refine Lib.run_unsafeString_row w.drew 178 3 9 5 Tryz.underlying178 cellsByte g cur.size (by have hg' : w.drew.heap[g]? = some (.cells cur 5 (0, 0)) := hg; simp [World.shape?, hg']) l hl (by omega) (by unfold maxLen at hcm; omega) ?_
        intro j x hx
        exact hown.cells (g := g) rfl j (.int .u8 x.toNat) (by simp [Lib.byteCells, hx])
      clear hUS h hmid hnc hcm hcs htake hbg hlen hown hg hl hl0
      go_enter Tryz.func91, Tryz.ntmps91
      go_wp2_with fail
      go_region
      all_goals (go_wp2; go_ret; exact ⟨rfl, ((Only.refl _ w).drew).freeze (by simp [slB]) _⟩)
end Go.Proofs.YtkccjfgkbkodiaaGreat
