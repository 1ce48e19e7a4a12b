/-
  Append, and what stays in sight behind it: an elder slice of the same array that ends ahead of the place that is written.
-/
import Derived.Test.YtbgpihengcjgeaaSlN
namespace Go.Proofs.Ytbgpihengcjgeaa
open Go.RowKit

def intsL (L : List Int) : List Value := L.map fun x => Value.int .i64 x
theorem intsL_length (L : List Int) : (intsL L).length = L.length := by simp [intsL]
theorem intsL_append (L M : List Int) : intsL (L ++ M) = intsL L ++ intsL M := by simp [intsL]
theorem intsL_one (L : List Int) : ∀ y ∈ intsL L, y.oneCell' = true := by
  intro y hy
  simp only [intsL, List.mem_map] at hy
  obtain ⟨x, _, rfl⟩ := hy
  rfl
/-- The two lie apart; or they begin at the same place, and the second one is no shorter. -/
def Ahead : Value → Value → Prop
  | .slice (some a) n _, .slice (some b) m _ => a.block = b.block → a = b ∧ n ≤ m
  | _, _ => True
theorem ahead_fresh {w : World} {B : Nat} {t : TypeId} {s n : Nat} {q v : Value} {xs : List Value} (h : SlN w B t s q n xs) (hf : ∀ k ∈ slB v, w.heap.size ≤ k) : Ahead q v := by
  rcases h with ⟨rfl, _⟩ | ⟨g, off, cap, cs, rfl, _, hg, _⟩
  · cases v <;> trivial
  · cases v with
    | slice a m c =>
      cases a with
      | none => trivial
      | some b =>
        intro he
        have h1 := hf b.block (by simp [slB])
        have h2 := hg.lt
        simp only at he
        omega
    | _ => trivial
theorem ahead_refl {w : World} {B : Nat} {t : TypeId} {s n : Nat} {q : Value} {xs : List Value} (h : SlN w B t s q n xs) : Ahead q q := by
  rcases h with ⟨rfl, _⟩ | ⟨g, off, cap, cs, rfl, _⟩
  · trivial
  · exact fun _ => ⟨rfl, Nat.le_refl _⟩
theorem run_append_ahead {P : Program} {t e : TypeId} {s : Nat} (ty : TypeId) (z : Value) (bytes : Nat) (ht : P.underlying t = some (.slice e)) (hinfo : (P.info? e).map (fun i => (i.zero, i.size, i.bytes)) = some (some z, s, bytes)) (hzs : z.cells.size = s) (hs0 : 0 < s)
    {w : World} {base : Nat} {v : Value} {n : Nat} {xs : List Value} (h : SlN w base e s v n xs) {u : Value} {m : Nat} {ys : List Value} (hu : Src w u m ys) (hyl : ys.length = m * s) (h1 : ∀ y ∈ ys, y.oneCell' = true)
    (h63 : n + m ≤ maxLen) (hbytes : (n + m) * bytes ≤ 140737488355328) (hbase : base ≤ w.heap.size) :
    ∃ v' w', (Builtin.append_ #[t, t] ty #[v, u]).run P w = .ok v' w' ∧ SlN w' base e s v' (n + m) (xs ++ ys) ∧ Only (slB v) w w' ∧ (∀ k ∈ slB v', k ∈ slB v ∨ w.heap.size ≤ k) ∧ ∀ B' q nq qs, SlN w B' e s q nq qs → Ahead q v → SlN w' B' e s q nq qs ∧ Ahead q v' := by
  obtain ⟨i0, hi, hz0, hz1, hz2⟩ := info_parts hinfo
  obtain ⟨a, c, rfl, hsrc⟩ := hu
  have newRow : ∀ {v' : Value} {w' : World} {n : Nat} {ys : List Value}, w'.ownsRow w.heap.size e s v' n ys → ∀ k ∈ slB v', k ∈ slB v ∨ w.heap.size ≤ k := by
    intro v' w' n ys hr k hk
    exact .inr ((SlN.of_row hr).lt k hk).1
  cases a with
  | none =>
    have h0 : m = 0 ∧ ys = [] := by
      rcases hsrc with h | ⟨g, off, h, _⟩
      · exact h
      · cases h
    obtain ⟨rfl, rfl⟩ := h0
    refine ⟨v, w, ?_, by simpa using h, Only.refl _ _, fun k hk => .inl hk, fun _ _ _ _ h1 h2 => ⟨h1, h2⟩⟩
    rcases h with ⟨rfl, rfl, _⟩ | ⟨g, off, cap, cs, rfl, _, _, _, hnc, _⟩
    · simp [Builtin.append_, run_underlying ht, sizeOf, typeInfo, hi, Builtin.lenOf, Builtin.firstCells]
    · simp [Builtin.append_, run_underlying ht, sizeOf, typeInfo, hi, Builtin.lenOf, Builtin.firstCells, hnc, storeCells]
  | some ad =>
    have hnews : ∀ j y, ys[j]? = some y → w.cell? (ad.add j) = some y := by
      intro j y hj
      rcases hsrc with ⟨_, rfl⟩ | ⟨g, off, he, hc⟩
      · simp at hj
      · injection he with he
        subst he
        obtain ⟨hjl, hjv⟩ := List.getElem?_eq_some_iff.1 hj
        rw [Addr.add_lit, hc j hjl, hjv]
    have h' := h
    rcases h with ⟨rfl, rfl, rfl⟩ | ⟨gb, off, cap, cs, rfl, hb, hg, hoc, hlc, hcm, hxl, hcells⟩
    · obtain ⟨v', w', hr, r1, r2, _⟩ := run_append_own (P := P) w w.heap.size t ty e i0 z s bytes ht hi hz0 hz1 hz2 hzs hs0 (.slice none 0 0) 0 [] (World.ownsRow_nil w _ e s) ad m c ys hyl hnews h1 h63 hbytes (Nat.le_refl _)
      exact ⟨v', w', hr, (SlN.of_row r1).mono hbase, only_grown r2, newRow r1, fun B' q nq qs hq _ => ⟨hq.keep (only_grown r2) (by intro k _; simp [slB]), ahead_fresh hq (fun k hk => ((SlN.of_row r1).lt k hk).1)⟩⟩
    · by_cases hroom : n + m ≤ cap
      · have hle : n * s + m * s ≤ cap * s := by rw [← Nat.add_mul]; exact Nat.mul_le_mul_right _ hroom
        have hr := run_append_room_cells (P := P) w t ty e i0 ht hi gb off n cap ad m c ys (by rw [hz1]; exact hyl) hnews h1 hroom
          (fun j hj => by
            rw [hz1, hg.cell]
            have : off + n * s + j < cs.size := by omega
            rw [Array.getElem?_eq_getElem this]
            rfl) (fun j _ => hg.frozen _)
        rw [hz1] at hr
        obtain ⟨cs', e1, e2, e3, e4⟩ := setCells_blkN ys (off + n * s) w cs hg (by omega)
        refine ⟨_, _, hr, .inr ⟨gb, off, cap, cs', rfl, hb, e1, by omega, hroom, hcm, by rw [List.length_append, hxl, hyl, Nat.add_mul], fun j hj => ?_⟩, by simpa [slB] using setCells_onlyN gb ys (off + n * s) w, fun k hk => .inl (by simpa [slB] using hk), fun B' q nq qs hq hah => ?_⟩
        · rw [List.length_append, hxl] at hj
          by_cases hjx : j < n * s
          · rw [e4 _ (by omega), hcells j (by omega), List.getElem?_append_left (by omega)]
          · rw [show off + j = off + n * s + (j - n * s) by omega, e3 _ (by omega), List.getElem?_append_right (by omega), hxl]
        · rcases hq with ⟨rfl, rfl, rfl⟩ | ⟨g2, off2, cap2, cs2, rfl, hb2, hg2, hoc2, hlc2, hcm2, hxl2, hcells2⟩
          · exact ⟨SlN.nil _ _ _ _, trivial⟩
          · by_cases hgg : g2 = gb
            · subst hgg
              obtain ⟨hoff, hnn⟩ := hah rfl
              injection hoff with _ hoff
              subst hoff
              have hcs : cs2 = cs := by
                unfold Blk at hg hg2
                rw [hg] at hg2
                injection hg2 with hg2
                injection hg2 with hg2
                exact hg2.symm
              subst hcs
              have hns : nq * s ≤ n * s := Nat.mul_le_mul_right _ hnn
              exact ⟨.inr ⟨g2, off2, cap2, cs', rfl, hb2, e1, by omega, hlc2, hcm2, hxl2, fun j hj => by rw [e4 _ (by omega), hcells2 j hj]⟩, fun _ => ⟨rfl, by omega⟩⟩
            · exact ⟨.inr ⟨g2, off2, cap2, cs2, rfl, hb2, (setCells_onlyN gb ys (off + n * s) w).blk hg2 (by simpa using hgg), hoc2, hlc2, hcm2, hxl2, hcells2⟩, fun h => absurd h hgg⟩
      · obtain ⟨v', w', hr, r1, r2⟩ := run_append_arg_grows (P := P) w t ty e i0 z s bytes ht hi hz0 hz1 hz2 hzs hs0 ⟨gb, off, none⟩ n cap xs hxl
          (fun j y hj => by
            have hjl : j < xs.length := (List.getElem?_eq_some_iff.1 hj).1
            rw [Addr.add_lit]
            exact hg.cellv _ _ ((hcells j hjl).trans hj)) ad m c ys hyl hnews (by omega) h63 hbytes
        exact ⟨v', w', hr, (SlN.of_row r1).mono hbase, only_grown_none _ r2, newRow r1, fun B' q nq qs hq _ => ⟨hq.keep (only_grown_none [] r2) (by intro k _; simp), ahead_fresh hq (fun k hk => ((SlN.of_row r1).lt k hk).1)⟩⟩
/-- append(v, u...) at the operation. -/
theorem wp_append_ahead {P : Program} {w : World} {o : Oper} {a : Act} {K : Act → World → Prop} {Q : Exit → Act → World → Prop} (x1 x2 : Operand) (t : TypeId)
    (ho : o.op = .call { callee := .builtin .append, args := #[x1, x2], argTypes := #[t, t] }) {e : TypeId} {s : Nat}
    (z : Value) (bytes : Nat) (ht : P.underlying t = some (.slice e)) (hinfo : (P.info? e).map (fun i => (i.zero, i.size, i.bytes)) = some (some z, s, bytes)) (hzs : z.cells.size = s) (hs0 : 0 < s)
    {base : Nat} {v : Value} {n : Nat} {xs : List Value} (h : SlN w base e s v n xs) {u : Value} {m : Nat} {ys : List Value} (hu : Src w u m ys) (hv : a.eval x1 = v) (hx : a.eval x2 = u) (hyl : ys.length = m * s) (h1 : ∀ y ∈ ys, y.oneCell' = true)
    (h63 : n + m ≤ maxLen) (hbytes : (n + m) * bytes ≤ 140737488355328) (hbase : base ≤ w.heap.size)
    (hK : ∀ v' w', SlN w' base e s v' (n + m) (xs ++ ys) → Only (slB v) w w' → (∀ k ∈ slB v', k ∈ slB v ∨ w.heap.size ≤ k) → (∀ B' q nq qs, SlN w B' e s q nq qs → Ahead q v → SlN w' B' e s q nq qs ∧ Ahead q v') → K (a.put o.dst v') w') : o.wp P a w K Q := by
  obtain ⟨v', w', hr, h2, h3, h4, h5⟩ := run_append_ahead (P := P) o.type z bytes ht hinfo hzs hs0 h hu hyl h1 h63 hbytes hbase
  unfold Oper.wp execOp
  simp only [ho, resolve, invoke, builtin, Sem.run_bind, Sem.run_pure, Result.andThen_ok, List.map_toArray, List.map_cons, List.map_nil, hv, hx, hr]
  exact hK v' w' h2 h3 h4 h5
theorem wpList_append_ahead {P : Program} {w : World} {ops : Array Oper} {rest : List Oper} {o : Oper} {a : Act} {Q : Exit → Act → World → Prop} (hgd : o.guard = none) (x1 x2 : Operand) (t : TypeId)
    (ho : o.op = .call { callee := .builtin .append, args := #[x1, x2], argTypes := #[t, t] }) {e : TypeId} {s : Nat}
    (z : Value) (bytes : Nat) (ht : P.underlying t = some (.slice e)) (hinfo : (P.info? e).map (fun i => (i.zero, i.size, i.bytes)) = some (some z, s, bytes)) (hzs : z.cells.size = s) (hs0 : 0 < s)
    {base : Nat} {v : Value} {n : Nat} {xs : List Value} (h : SlN w base e s v n xs) {u : Value} {m : Nat} {ys : List Value} (hu : Src w u m ys) (hv : a.eval x1 = v) (hx : a.eval x2 = u) (hyl : ys.length = m * s) (h1 : ∀ y ∈ ys, y.oneCell' = true)
    (h63 : n + m ≤ maxLen) (hbytes : (n + m) * bytes ≤ 140737488355328) (hbase : base ≤ w.heap.size)
    (hK : ∀ v' w', SlN w' base e s v' (n + m) (xs ++ ys) → Only (slB v) w w' → (∀ k ∈ slB v', k ∈ slB v ∨ w.heap.size ≤ k) → (∀ B' q nq qs, SlN w B' e s q nq qs → Ahead q v → SlN w' B' e s q nq qs ∧ Ahead q v') → wpList P ops Q rest (a.put o.dst v') w') : wpList P ops Q (o :: rest) a w :=
  wpList_plain hgd fun _ hK' => wp_append_ahead x1 x2 t ho z bytes ht hinfo hzs hs0 h hu hv hx hyl h1 h63 hbytes hbase fun v' w' h2 h3 h4 h5 => hK' _ _ (hK v' w' h2 h3 h4 h5)
end Go.Proofs.Ytbgpihengcjgeaa
