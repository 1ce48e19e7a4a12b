/-
  SlN · Lex · LexB: parts of the walk of TopTight, under no condition.
-/
import Derived.Test.YtkccjfgkbkodiaaGreatZ03
import Derived.Test.YtkccjfgkbkodiaaGreatZ04
namespace Go.Proofs.YtkccjfgkbkodiaaGreat
open Go.RowKit
theorem setCells_blkN {g : Nat} {t : TypeId} : ∀ (vs : List Value) (off : Nat) (w : World) (cs : Array Value), Blk w g t cs → off + vs.length ≤ cs.size →
    ∃ cs', Blk (w.setCells g off vs) g t cs' ∧ cs'.size = cs.size ∧ (∀ j, j < vs.length → cs'[off + j]? = vs[j]?) ∧ ∀ k, k < off → cs'[k]? = cs[k]?
  | [], off, w, cs, h, _ => ⟨cs, h, rfl, fun j hj => by simp at hj, fun _ _ => rfl⟩
  | v :: vs, off, w, cs, h, hs => by
    simp only [List.length_cons] at hs
    obtain ⟨cs', h1, h2, h3, h4⟩ := setCells_blkN vs (off + 1) (w.setCell ⟨g, off, none⟩ v) _ (h.set_ off v) (by simp; omega)
    refine ⟨cs', h1, by simpa using h2, fun j hj => ?_, fun k hk => ?_⟩
    · cases j with
      | zero =>
        rw [Nat.add_zero, h4 off (by omega)]
        have : off < cs.size := by omega
        simp [this]
      | succ j =>
        rw [show off + (j + 1) = off + 1 + j by omega, h3 j (by simp at hj; omega)]
        rfl
    · rw [h4 k (by omega), Array.getElem?_setIfInBounds, if_neg (by omega)]
theorem setCells_onlyN (g : Nat) : ∀ (vs : List Value) (off : Nat) (w : World), Only [g] w (w.setCells g off vs)
  | [], off, w => Only.refl _ _
  | v :: vs, off, w => ((Only.refl [g] w).setCell (p := ⟨g, off, none⟩) (by simp) v).trans (setCells_onlyN g vs (off + 1) _)
/-- The slice value v shows n elements of s cells, xs in all. -/
def SlN (w : World) (base : Nat) (t : TypeId) (s : Nat) (v : Value) (n : Nat) (xs : List Value) : Prop :=
  (v = .slice none 0 0 ∧ n = 0 ∧ xs = []) ∨ ∃ (g off cap : Nat) (cs : Array Value), v = .slice (some ⟨g, off, none⟩) n cap ∧ base ≤ g ∧ Blk w g t cs ∧ off + cap * s ≤ cs.size ∧ n ≤ cap ∧ cap ≤ maxLen ∧ xs.length = n * s ∧ ∀ j, j < xs.length → cs[off + j]? = xs[j]?
/-- The slice value u shows the cells ys, m elements. -/
def Src (w : World) (u : Value) (m : Nat) (ys : List Value) : Prop := ∃ (a : Option Addr) (c : Nat), u = .slice a m c ∧ ((m = 0 ∧ ys = []) ∨ ∃ (g off : Nat), a = some ⟨g, off, none⟩ ∧ ∀ j (hj : j < ys.length), w.cell? ⟨g, off + j, none⟩ = some ys[j])
section
variable {w w' : World} {base : Nat} {t : TypeId} {s n : Nat} {v : Value} {xs : List Value}
theorem SlN.nil (w : World) (base : Nat) (t : TypeId) (s : Nat) : SlN w base t s (.slice none 0 0) 0 [] := .inl ⟨rfl, rfl, rfl⟩
theorem SlN.lt (h : SlN w base t s v n xs) : ∀ k ∈ slB v, base ≤ k ∧ k < w.heap.size := by
  rcases h with ⟨rfl, _⟩ | ⟨g, off, cap, cs, rfl, hb, hg, _⟩
  · intro k hk; simp [slB] at hk
  · intro k hk
    simp [slB] at hk
    subst hk
    exact ⟨hb, hg.lt⟩
theorem SlN.len (h : SlN w base t s v n xs) : xs.length = n * s := by
  rcases h with ⟨_, rfl, rfl⟩ | ⟨g, off, cap, cs, _, _, _, _, _, _, h, _⟩
  · simp
  · exact h
theorem SlN.form (h : SlN w base t s v n xs) : ∃ a c, v = .slice a n c := by
  rcases h with ⟨rfl, rfl, _⟩ | ⟨g, off, cap, cs, rfl, _⟩
  · exact ⟨none, 0, rfl⟩
  · exact ⟨_, _, rfl⟩
theorem SlN.keep {T : List Nat} (h : SlN w base t s v n xs) (ho : Only T w w') (hn : ∀ k ∈ slB v, k ∉ T) : SlN w' base t s v n xs := by
  rcases h with h | ⟨g, off, cap, cs, rfl, hb, hg, h⟩
  · exact .inl h
  · exact .inr ⟨g, off, cap, cs, rfl, hb, ho.blk hg (hn g (by simp [slB])), h⟩
theorem SlN.drewN (h : SlN w base t s v n xs) (m : Nat) : SlN (w.drewN m) base t s v n xs := h
theorem SlN.drew (h : SlN w base t s v n xs) : SlN w.drew base t s v n xs := h
theorem SlN.alloc (h : SlN w base t s v n xs) (o : Obj) : SlN (w.alloc o) base t s v n xs := by
  rcases h with h | ⟨g, off, cap, cs, rfl, hb, hg, h⟩
  · exact .inl h
  · exact .inr ⟨g, off, cap, cs, rfl, hb, hg.alloc o, h⟩
theorem SlN.far (h : SlN w base t s v n xs) {p : Addr} (hp : p.block ∉ slB v) (u : Value) : SlN (w.setCell p u) base t s v n xs := by
  rcases h with h | ⟨g, off, cap, cs, rfl, hb, hg, h⟩
  · exact .inl h
  · exact .inr ⟨g, off, cap, cs, rfl, hb, hg.far (by simp [slB] at hp; exact fun e => hp e.symm) u, h⟩
theorem SlN.below {B : Nat} (h : SlN w base t s v n xs) (hb : Below B w w') (hv : ∀ k ∈ slB v, k < B) : SlN w' base t s v n xs := by
  rcases h with h | ⟨g, off, cap, cs, rfl, hb', hg, h⟩
  · exact .inl h
  · exact .inr ⟨g, off, cap, cs, rfl, hb', hg.below hb (hv g (by simp [slB])), h⟩
theorem SlN.mono {base' : Nat} (h : SlN w base t s v n xs) (hb : base' ≤ base) : SlN w base' t s v n xs := by
  rcases h with h | ⟨g, off, cap, cs, e, hb', h⟩
  · exact .inl h
  · exact .inr ⟨g, off, cap, cs, e, by omega, h⟩
theorem SlN.notBlk {g' : Nat} {t' : TypeId} {cs' : Array Value} (h : SlN w base t s v n xs) (hb : Blk w g' t' cs') (hne : t ≠ t') : g' ∉ slB v := by
  rcases h with ⟨rfl, _⟩ | ⟨g, off, cap, cs, rfl, _, hg, _⟩
  · simp [slB]
  · simp [slB]
    exact fun e => hg.ne_ hb hne e.symm
theorem SlN.of_row (h : w.ownsRow base t s v n xs) : SlN w base t s v n xs := by
  obtain ⟨hl, h⟩ := h
  rcases h with ⟨rfl, hn⟩ | ⟨g, cap, cur, rfl, hb, hh, hnc, hcm, hcs, htake⟩
  · exact .inl ⟨rfl, hn, List.eq_nil_of_length_eq_zero (by rw [hl, hn]; simp)⟩
  · refine .inr ⟨g, 0, cap, cur, rfl, hb, hh, by omega, by omega, hcm, hl, fun j hj => ?_⟩
    rw [Nat.zero_add, ← htake, List.getElem?_take_of_lt (by rw [← hl]; exact hj), Array.getElem?_toList]
theorem SlN.of_sl {xs : List Value} (h : Sl w base t v xs) : SlN w base t 1 v xs.length xs := by
  rcases h with ⟨rfl, rfl⟩ | ⟨g, off, cap, cs, rfl, hb, hg, h1, h2, h3, h4⟩
  · exact .inl ⟨rfl, rfl, rfl⟩
  · exact .inr ⟨g, off, cap, cs, rfl, hb, hg, by omega, h2, h3, by omega, h4⟩
theorem SlN.to_sl (h : SlN w base t 1 v n xs) : Sl w base t v xs := by
  rcases h with ⟨rfl, rfl, rfl⟩ | ⟨g, off, cap, cs, rfl, hb, hg, h1, h2, h3, h4, h5⟩
  · exact .inl ⟨rfl, rfl⟩
  · rw [Nat.mul_one] at h1 h4
    subst h4
    exact .inr ⟨g, off, cap, cs, rfl, hb, hg, h1, h2, h3, h5⟩
theorem SlN.src (h : SlN w base t s v n xs) : Src w v n xs := by
  rcases h with ⟨rfl, rfl, rfl⟩ | ⟨g, off, cap, cs, rfl, hb, hg, h1, h2, h3, h4, h5⟩
  · exact ⟨none, 0, rfl, .inl ⟨rfl, rfl⟩⟩
  · refine ⟨_, cap, rfl, .inr ⟨g, off, rfl, fun j hj => ?_⟩⟩
    rw [hg.cell, h5 j hj]
    exact List.getElem?_eq_getElem hj
theorem SlN.cell (h : SlN w base t s v n xs) (j : Nat) (hj : j < xs.length) : ∃ g off cap, v = .slice (some ⟨g, off, none⟩) n cap ∧ w.cell? ⟨g, off + j, none⟩ = some xs[j] ∧ w.frozen? ⟨g, off + j, none⟩ = false := by
  rcases h with ⟨rfl, rfl, rfl⟩ | ⟨g, off, cap, cs, rfl, hb, hg, h1, h2, h3, h4, h5⟩
  · simp at hj
  · refine ⟨g, off, cap, rfl, ?_, hg.frozen _⟩
    rw [hg.cell, h5 j hj]
    exact List.getElem?_eq_getElem hj
end
theorem run_append_slN {P : Program} {t e : TypeId} {s : Nat} (ty : TypeId) (z : Value) (bytes : Nat) (ht : P.underlying t = some (.slice e)) (hinfo : (P.info? e).map (fun i => (i.zero, i.size, i.bytes)) = some (some z, s, bytes)) (hzs : z.cells.size = s) (hs0 : 0 < s)
    {w : World} {base : Nat} {v : Value} {n : Nat} {xs : List Value} (h : SlN w base e s v n xs) {u : Value} {m : Nat} {ys : List Value} (hu : Src w u m ys) (hyl : ys.length = m * s) (h1 : ∀ y ∈ ys, y.oneCell' = true)
    (h63 : n + m ≤ maxLen) (hbytes : (n + m) * bytes ≤ 140737488355328) (hbase : base ≤ w.heap.size) :
    ∃ v' w', (Builtin.append_ #[t, t] ty #[v, u]).run P w = .ok v' w' ∧ SlN w' base e s v' (n + m) (xs ++ ys) ∧ Only (slB v) w w' ∧ ∀ k ∈ slB v', k ∈ slB v ∨ w.heap.size ≤ k := by
  obtain ⟨i0, hi, hz0, hz1, hz2⟩ := info_parts hinfo
  obtain ⟨a, c, rfl, hsrc⟩ := hu
  have newRow : ∀ {v' : Value} {w' : World} {n : Nat} {ys : List Value}, w'.ownsRow w.heap.size e s v' n ys → ∀ k ∈ slB v', k ∈ slB v ∨ w.heap.size ≤ k := by
    intro v' w' n ys hr k hk
    exact .inr ((SlN.of_row hr).lt k hk).1
  cases a with
  | none =>
    have h0 : m = 0 ∧ ys = [] := by
      rcases hsrc with h | ⟨g, off, h, _⟩
      · exact h
      · cases h
    obtain ⟨rfl, rfl⟩ := h0
    refine ⟨v, w, ?_, by simpa using h, Only.refl _ _, fun k hk => .inl hk⟩
    rcases h with ⟨rfl, rfl, _⟩ | ⟨g, off, cap, cs, rfl, _, _, _, hnc, _⟩
    · simp [Builtin.append_, run_underlying ht, sizeOf, typeInfo, hi, Builtin.lenOf, Builtin.firstCells]
    · simp [Builtin.append_, run_underlying ht, sizeOf, typeInfo, hi, Builtin.lenOf, Builtin.firstCells, hnc, storeCells]
  | some ad =>
    have hnews : ∀ j y, ys[j]? = some y → w.cell? (ad.add j) = some y := by
      intro j y hj
      rcases hsrc with ⟨_, rfl⟩ | ⟨g, off, he, hc⟩
      · simp at hj
      · injection he with he
        subst he
        obtain ⟨hjl, hjv⟩ := List.getElem?_eq_some_iff.1 hj
        rw [Addr.add_lit, hc j hjl, hjv]
    have h' := h
    rcases h with ⟨rfl, rfl, rfl⟩ | ⟨gb, off, cap, cs, rfl, hb, hg, hoc, hlc, hcm, hxl, hcells⟩
    · obtain ⟨v', w', hr, r1, r2, _⟩ := run_append_own (P := P) w w.heap.size t ty e i0 z s bytes ht hi hz0 hz1 hz2 hzs hs0 (.slice none 0 0) 0 [] (World.ownsRow_nil w _ e s) ad m c ys hyl hnews h1 h63 hbytes (Nat.le_refl _)
      exact ⟨v', w', hr, (SlN.of_row r1).mono hbase, only_grown r2, newRow r1⟩
    · by_cases hroom : n + m ≤ cap
      · have hle : n * s + m * s ≤ cap * s := by rw [← Nat.add_mul]; exact Nat.mul_le_mul_right _ hroom
        have hr := run_append_room_cells (P := P) w t ty e i0 ht hi gb off n cap ad m c ys (by rw [hz1]; exact hyl) hnews h1 hroom
          (fun j hj => by
            rw [hz1, hg.cell]
            have : off + n * s + j < cs.size := by omega
            rw [Array.getElem?_eq_getElem this]
            rfl) (fun j _ => hg.frozen _)
        rw [hz1] at hr
        obtain ⟨cs', e1, e2, e3, e4⟩ := setCells_blkN ys (off + n * s) w cs hg (by omega)
        refine ⟨_, _, hr, .inr ⟨gb, off, cap, cs', rfl, hb, e1, by omega, hroom, hcm, by rw [List.length_append, hxl, hyl, Nat.add_mul], fun j hj => ?_⟩, by simpa [slB] using setCells_onlyN gb ys (off + n * s) w, fun k hk => .inl (by simpa [slB] using hk)⟩
        rw [List.length_append, hxl] at hj
        by_cases hjx : j < n * s
        · rw [e4 _ (by omega), hcells j (by omega), List.getElem?_append_left (by omega)]
        · rw [show off + j = off + n * s + (j - n * s) by omega, e3 _ (by omega), List.getElem?_append_right (by omega), hxl]
      · obtain ⟨v', w', hr, r1, r2⟩ := run_append_arg_grows (P := P) w t ty e i0 z s bytes ht hi hz0 hz1 hz2 hzs hs0 ⟨gb, off, none⟩ n cap xs hxl
          (fun j y hj => by
            have hjl : j < xs.length := (List.getElem?_eq_some_iff.1 hj).1
            rw [Addr.add_lit]
            exact hg.cellv _ _ ((hcells j hjl).trans hj)) ad m c ys hyl hnews (by omega) h63 hbytes
        exact ⟨v', w', hr, (SlN.of_row r1).mono hbase, only_grown_none _ r2, newRow r1⟩
/-- append(v, u...) at the operation. -/
theorem wp_append_slN {P : Program} {w : World} {o : Oper} {a : Act} {K : Act → World → Prop} {Q : Exit → Act → World → Prop} (x1 x2 : Operand) (t : TypeId)
    (ho : o.op = .call { callee := .builtin .append, args := #[x1, x2], argTypes := #[t, t] }) {e : TypeId} {s : Nat}
    (z : Value) (bytes : Nat) (ht : P.underlying t = some (.slice e)) (hinfo : (P.info? e).map (fun i => (i.zero, i.size, i.bytes)) = some (some z, s, bytes)) (hzs : z.cells.size = s) (hs0 : 0 < s)
    {base : Nat} {v : Value} {n : Nat} {xs : List Value} (h : SlN w base e s v n xs) {u : Value} {m : Nat} {ys : List Value} (hu : Src w u m ys) (hv : a.eval x1 = v) (hx : a.eval x2 = u) (hyl : ys.length = m * s) (h1 : ∀ y ∈ ys, y.oneCell' = true)
    (h63 : n + m ≤ maxLen) (hbytes : (n + m) * bytes ≤ 140737488355328) (hbase : base ≤ w.heap.size)
    (hK : ∀ v' w', SlN w' base e s v' (n + m) (xs ++ ys) → Only (slB v) w w' → (∀ k ∈ slB v', k ∈ slB v ∨ w.heap.size ≤ k) → K (a.put o.dst v') w') : o.wp P a w K Q := by
  obtain ⟨v', w', hr, h2, h3, h4⟩ := run_append_slN (P := P) o.type z bytes ht hinfo hzs hs0 h hu hyl h1 h63 hbytes hbase
  unfold Oper.wp execOp
  simp only [ho, resolve, invoke, builtin, Sem.run_bind, Sem.run_pure, Result.andThen_ok, List.map_toArray, List.map_cons, List.map_nil, hv, hx, hr]
  exact hK v' w' h2 h3 h4
theorem wpList_append_slN {P : Program} {w : World} {ops : Array Oper} {rest : List Oper} {o : Oper} {a : Act} {Q : Exit → Act → World → Prop} (hgd : o.guard = none) (x1 x2 : Operand) (t : TypeId)
    (ho : o.op = .call { callee := .builtin .append, args := #[x1, x2], argTypes := #[t, t] }) {e : TypeId} {s : Nat}
    (z : Value) (bytes : Nat) (ht : P.underlying t = some (.slice e)) (hinfo : (P.info? e).map (fun i => (i.zero, i.size, i.bytes)) = some (some z, s, bytes)) (hzs : z.cells.size = s) (hs0 : 0 < s)
    {base : Nat} {v : Value} {n : Nat} {xs : List Value} (h : SlN w base e s v n xs) {u : Value} {m : Nat} {ys : List Value} (hu : Src w u m ys) (hv : a.eval x1 = v) (hx : a.eval x2 = u) (hyl : ys.length = m * s) (h1 : ∀ y ∈ ys, y.oneCell' = true)
    (h63 : n + m ≤ maxLen) (hbytes : (n + m) * bytes ≤ 140737488355328) (hbase : base ≤ w.heap.size)
    (hK : ∀ v' w', SlN w' base e s v' (n + m) (xs ++ ys) → Only (slB v) w w' → (∀ k ∈ slB v', k ∈ slB v ∨ w.heap.size ≤ k) → wpList P ops Q rest (a.put o.dst v') w') : wpList P ops Q (o :: rest) a w :=
  wpList_plain hgd fun _ hK' => wp_append_slN x1 x2 t ho z bytes ht hinfo hzs hs0 h hu hv hx hyl h1 h63 hbytes hbase fun v' w' h2 h3 h4 => hK' _ _ (hK v' w' h2 h3 h4)
theorem step_append_slN {P : Program} {w : World} {ops : Array Oper} {o : Oper} {a : Act} {K : Act → World → Prop} {Q : Exit → Act → World → Prop} {E : Prop} (hgd : o.guard = none) (x1 x2 : Operand) (t : TypeId)
    (ho : o.op = .call { callee := .builtin .append, args := #[x1, x2], argTypes := #[t, t] }) {e : TypeId} {s : Nat}
    (z : Value) (bytes : Nat) (ht : P.underlying t = some (.slice e)) (hinfo : (P.info? e).map (fun i => (i.zero, i.size, i.bytes)) = some (some z, s, bytes)) (hzs : z.cells.size = s) (hs0 : 0 < s)
    {base : Nat} {v : Value} {n : Nat} {xs : List Value} (h : SlN w base e s v n xs) {u : Value} {m : Nat} {ys : List Value} (hu : Src w u m ys) (hv : a.eval x1 = v) (hx : a.eval x2 = u) (hyl : ys.length = m * s) (h1 : ∀ y ∈ ys, y.oneCell' = true)
    (h63 : n + m ≤ maxLen) (hbytes : (n + m) * bytes ≤ 140737488355328) (hbase : base ≤ w.heap.size)
    (hK : ∀ v' w', SlN w' base e s v' (n + m) (xs ++ ys) → Only (slB v) w w' → (∀ k ∈ slB v', k ∈ slB v ∨ w.heap.size ≤ k) → K (a.put o.dst v') w') : if Region.wanted o (yielded ops a.tmps) = true then Oper.wp P o a w K Q else E := by
  have hw : Region.wanted o (yielded ops a.tmps) = true := by simp [Region.wanted, hgd]
  rw [if_pos hw]
  exact wp_append_slN x1 x2 t ho z bytes ht hinfo hzs hs0 h hu hv hx hyl h1 h63 hbytes hbase hK
theorem SlN.one {w : World} {base g : Nat} {t : TypeId} {u : Value} (hb : base ≤ g) (h : Blk w g t #[u]) : SlN w base t 1 (.slice (some ⟨g, 0, none⟩) 1 1) 1 [u] :=
  .inr ⟨g, 0, 1, #[u], rfl, hb, h, by simp, Nat.le_refl _, by unfold maxLen; omega, rfl, fun j _ => by simp⟩
end Go.Proofs.YtkccjfgkbkodiaaGreat
namespace Go.Proofs.YtkccjfgkbkodiaaGreat
open Go.RowKit
section
variable {w w' : World} {b off : Nat} {t : TypeId} {pre post m1 m2 m3 : List Value}
theorem Mid.sub (h : Mid w b t pre (m1 ++ (m2 ++ m3)) post off) {k : Nat} (hk : k = off + m1.length) : Mid w b t (pre ++ m1) m2 (m3 ++ post) k := by
  refine ⟨by rw [List.length_append, hk, h.1], ?_⟩
  have h2 := h.2
  simpa [List.append_assoc] using h2
theorem Mid.join (h : Mid w b t (pre ++ m1) m2 (m3 ++ post) off) : Mid w b t pre (m1 ++ (m2 ++ m3)) post pre.length := by
  refine ⟨rfl, ?_⟩
  have h2 := h.2
  simpa [List.append_assoc] using h2
end
/-- A token: its kind, its text, its number. -/
structure Tok where
  kind : Int
  text : List UInt8
  neg : Bool
  mag : Nat
def Tok.enc (x : Tok) : List Value := [.int .u8 x.kind, .string (S x.text), .bool x.neg, .int .u64 (x.mag : Int)]
def toksEnc (l : List Tok) : List Value := l.flatMap Tok.enc
theorem toksEnc_length (l : List Tok) : (toksEnc l).length = l.length * 4 := by
  induction l with
  | nil => rfl
  | cons x l ih =>
    have : toksEnc (x :: l) = x.enc ++ toksEnc l := rfl
    rw [this, List.length_append, ih, List.length_cons]
    show 4 + _ = _
    omega
/-- What is told exactly of a Lexer. -/
structure Lex where
  st : Int
  n : Num
  rest : List UInt8
  kind : Int
  e : Int
def Lex.enc (x : Lex) (es : List Value) (a v : Value) : List Value :=
  [.int .i64 x.st] ++ (es ++ ([a, v] ++ (x.n.enc ++ [.string (S x.rest), .int .u8 x.kind, .int .i64 x.e])))
structure LexM (w : World) (b : Nat) (post : List Value) (x : Lex) (es : List Value) (a v : Value) : Prop where
  mid : Mid w b 201 [] (x.enc es a v) post 0
  len : es.length = 9
  ok : x.n.Ok
  e0 : 0 ≤ x.e
  e10 : x.e ≤ 10
section
variable {w : World} {b : Nat} {post es : List Value} {x : Lex} {a v : Value}
theorem LexM.head (h : LexM w b post x es a v) : ∃ p2, Mid w b 201 [] [.int .i64 x.st] p2 0 ∧ ∀ (w' : World) (s : Int), Mid w' b 201 [] [.int .i64 s] p2 0 → LexM w' b post { x with st := s } es a v := by
  refine ⟨_, Mid.sub (m1 := []) (pre := []) (m2 := [.int .i64 x.st]) (k := 0) h.mid rfl, fun w' s h' => ⟨?_, h.len, h.ok, h.e0, h.e10⟩⟩
  exact Mid.join (pre := []) (m1 := []) h'
theorem LexM.num (h : LexM w b post x es a v) : ∃ pre p2, Mid w b 201 pre x.n.enc p2 12 ∧ ∀ (w' : World) (n : Num), n.Ok → Mid w' b 201 pre n.enc p2 12 → LexM w' b post { x with n := n } es a v := by
  have e : ∀ n : Num, Lex.enc { x with n := n } es a v = ([.int .i64 x.st] ++ es ++ [a, v]) ++ (n.enc ++ [.string (S x.rest), .int .u8 x.kind, .int .i64 x.e]) := fun n => by
    simp only [Lex.enc, List.append_assoc]
  have h1 := h.mid
  rw [show x.enc es a v = _ from e x.n] at h1
  refine ⟨_, _, Mid.sub (k := 12) h1 (by simp [h.len]), fun w' n hn h' => ⟨?_, h.len, hn, h.e0, h.e10⟩⟩
  rw [e n]
  exact Mid.join (pre := []) h'
theorem LexM.tail (h : LexM w b post x es a v) : ∃ pre, Mid w b 201 pre [.string (S x.rest), .int .u8 x.kind, .int .i64 x.e] post 20 ∧
    ∀ (w' : World) (r : List UInt8) (k e : Int), 0 ≤ e → e ≤ 10 → Mid w' b 201 pre [.string (S r), .int .u8 k, .int .i64 e] post 20 → LexM w' b post { x with rest := r, kind := k, e := e } es a v := by
  have e : ∀ (r : List UInt8) (k e : Int), Lex.enc { x with rest := r, kind := k, e := e } es a v = ([.int .i64 x.st] ++ es ++ [a, v] ++ x.n.enc) ++ ([.string (S r), .int .u8 k, .int .i64 e] ++ []) := fun r k e => by
    simp only [Lex.enc, List.append_assoc, List.append_nil]
  have h1 := h.mid
  rw [show x.enc es a v = _ from e x.rest x.kind x.e] at h1
  refine ⟨_, Mid.sub (m3 := []) (k := 20) h1 (by simp [h.len, Num.enc]), fun w' r k e' h0 h9 h' => ⟨?_, h.len, h.ok, h0, h9⟩⟩
  rw [e r k e']
  exact Mid.join (pre := []) (m3 := []) h'
theorem LexM.esc (h : LexM w b post x es a v) : ∃ pre p2, Mid w b 201 pre es p2 1 ∧ ∀ (w' : World) (es' : List Value), es'.length = 9 → Mid w' b 201 pre es' p2 1 → LexM w' b post x es' a v := by
  refine ⟨_, _, Mid.sub (pre := []) (m1 := [.int .i64 x.st]) (k := 1) h.mid rfl, fun w' es' hl h' => ⟨?_, hl, h.ok, h.e0, h.e10⟩⟩
  exact Mid.join (pre := []) h'
theorem LexM.bld (h : LexM w b post x es a v) : ∃ pre p2, p2.length = 11 + post.length ∧ Mid w b 201 pre [a, v] p2 10 ∧ ∀ (w' : World) (a' v' : Value), Mid w' b 201 pre [a', v'] p2 10 → LexM w' b post x es a' v' := by
  have e : ∀ a v : Value, Lex.enc x es a v = ([.int .i64 x.st] ++ es) ++ ([a, v] ++ (x.n.enc ++ [.string (S x.rest), .int .u8 x.kind, .int .i64 x.e])) := fun a v => by
    simp only [Lex.enc, List.append_assoc]
  have h1 := h.mid
  rw [e a v] at h1
  refine ⟨_, _, ?_, Mid.sub (k := 10) h1 (by simp [h.len]), fun w' a' v' h' => ⟨?_, h.len, h.ok, h.e0, h.e10⟩⟩
  · simp [Num.enc]; omega
  · rw [e a' v']
    exact Mid.join (pre := []) h'
end
end Go.Proofs.YtkccjfgkbkodiaaGreat
namespace Go.Proofs.YtkccjfgkbkodiaaGreat
open Go.RowKit
def Lex.ended (x : Lex) : Lex × List Tok :=
  if x.n.fin.2.2 ≠ 0 then ({ x with e := x.n.fin.2.2 }, []) else ({ x with e := 0, st := 0 }, [⟨110, [], x.n.fin.1, x.n.fin.2.1⟩])
/-- Tokens are handed back, in new blocks. -/
def ToksPost (w : World) (b : Nat) (post : List Value) (es : List Value) (a v : Value) (r : Lex × List Tok) (e : Ending) (w' : World) : Prop :=
  ∃ u, e = .returned u ∧ SlN w' w.heap.size 237 4 u r.2.length (toksEnc r.2) ∧ LexM w' b post r.1 es a v ∧ Only [b] w w'
theorem SlN.row {w : World} {base g n s : Nat} {t : TypeId} {cs : List Value} (hb : base ≤ g) (h : Blk w g t cs.toArray) (hl : cs.length = n * s) (hn : n ≤ 1000) : SlN w base t s (.slice (some ⟨g, 0, none⟩) n n) n cs := by
  refine SlN.of_row ⟨hl, .inr ⟨g, n, cs.toArray, rfl, hb, h, Nat.le_refl _, by unfold maxLen; omega, by simpa using hl, ?_⟩⟩
  rw [← hl]
  simp
theorem LexM.keep {w w' : World} {b : Nat} {post es : List Value} {x : Lex} {a v : Value} {T : List Nat} (h : LexM w b post x es a v) (ho : Only T w w') (hb : b ∉ T) : LexM w' b post x es a v := ⟨h.mid.keep ho hb, h.len, h.ok, h.e0, h.e10⟩
set_option maxRecDepth 100000 in
set_option maxHeartbeats 2000000 in
theorem lex_ended {w : World} {b : Nat} {post es : List Value} {x : Lex} {a v : Value} (h : LexM w b post x es a v) :
    Calls Tryz.prog 135 #[.pointer (some ⟨b, 0, none⟩)] w (ToksPost w b post es a v x.ended) := by
  obtain ⟨pre, p2, hn, hnb⟩ := h.num
  obtain ⟨hkm, hk0, hk1⟩ := Num.fin_ok h.ok
  have HN := hide (num_fin hn h.ok)
  have H := hide h
  generalize hf : x.n.fin = f at HN hk0 hk1 hkm
  obtain ⟨neg, mag, er⟩ := f
  have HF := hide hf
  have HK := hide (And.intro hk0 hk1)
  clear hf hk0 hk1 hkm hnb hn h
  go_enter Tryz.func135, Tryz.ntmps135
  go_wp2_with fail
  (with_reducible refine (unhide HN).mono ?_)
  rintro e w1 ⟨rfl, ho1⟩
  have hs1 := ho1.size
  have h1 := H.out.keep (Only.of_below ho1 []) (by simp)
  have HO1 := hide ho1
  clear ho1
  obtain ⟨p3, ht, htb⟩ := h1.tail
  obtain ⟨p4, hh, hhb⟩ := h1.head
  have c22 : w1.cell? ⟨b, 22, none⟩ = some (.int .i64 x.e) := ht.cell 2 _ rfl
  have c0 : w1.cell? ⟨b, 0, none⟩ = some (.int .i64 x.st) := hh.cell0 _ rfl
  have f22 := ht.frozen 22
  have f0 := ht.frozen 0
  have lb := ht.lt
  have H1 := hide h1
  clear h1 ht htb hh hhb HN H
  by_cases he : er = 0
  · subst he
    go_wp2_with fail
    go_ret
    have hm : x.ended = ({ x with e := 0, st := 0 }, [⟨110, [], neg, mag⟩]) := by unfold Lex.ended; rw [HF.out]; rfl
    rw [hm]
    obtain ⟨p5, ht, htb⟩ := H1.out.tail
    have h2 := htb _ x.rest x.kind 0 (by omega) (by omega) (ht.set 2 (by simp) (.int .i64 0))
    obtain ⟨p6, hh, hhb⟩ := h2.head
    have h3 := hhb _ 0 (hh.set 0 (by simp) (.int .i64 0))
    have ho : Only [b] w1 ((w1.setCell ⟨b, 22, none⟩ (.int .i64 0)).setCell ⟨b, 0, none⟩ (.int .i64 0)) := ((Only.refl _ w1).setCell (p := ⟨b, 22, none⟩) (by simp) _).setCell (p := ⟨b, 0, none⟩) (by simp) _
    have ho2 := (ho.alloc (.cells #[.bool neg, .int .u64 mag] 226)).alloc (.cells #[.int .u8 110, .string ⟨#[]⟩, .bool neg, .int .u64 mag] 237)
    have ho3 := ((Only.refl [] ((w1.setCell ⟨b, 22, none⟩ (.int .i64 0)).setCell ⟨b, 0, none⟩ (.int .i64 0))).alloc (.cells #[.bool neg, .int .u64 mag] 226)).alloc (.cells #[.int .u8 110, .string ⟨#[]⟩, .bool neg, .int .u64 mag] 237)
    refine ⟨_, rfl, ?_, h3.keep ho3 (by simp), (Only.of_below HO1.out [b]).trans ho2⟩
    refine SlN.row (cs := [.int .u8 110, .string ⟨#[]⟩, .bool neg, .int .u64 mag]) (by omega) ?_ rfl (by simp)
    have h9 := Blk.new (((w1.setCell ⟨b, 22, none⟩ (.int .i64 0)).setCell ⟨b, 0, none⟩ (.int .i64 0)).alloc (.cells #[.bool neg, .int .u64 mag] 226)) 237 #[.int .u8 110, .string ⟨#[]⟩, .bool neg, .int .u64 mag]
    have hz : (((w1.setCell ⟨b, 22, none⟩ (.int .i64 0)).setCell ⟨b, 0, none⟩ (.int .i64 0)).alloc (.cells #[.bool neg, .int .u64 mag] 226)).heap.size = w1.heap.size + 1 := by simp
    rw [hz] at h9
    exact h9
  · have e7 : (er != 0) = true := by simpa using he
    go_wp2_with fail
    go_ret
    have hm : x.ended = ({ x with e := er }, []) := by unfold Lex.ended; rw [HF.out, if_pos he]
    rw [hm]
    obtain ⟨p5, ht, htb⟩ := H1.out.tail
    have h2 := htb _ x.rest x.kind er HK.out.1 HK.out.2 (ht.set 2 (by simp) (.int .i64 er))
    exact ⟨_, rfl, SlN.nil _ _ _ _, h2.keep ((Only.refl [] _).alloc (.cells #[.bool neg, .int .u64 mag] 226)) (by simp), (Only.of_below HO1.out [b]).trans (((Only.refl _ w1).setCell (p := ⟨b, 22, none⟩) (by simp) _).alloc (.cells #[.bool neg, .int .u64 mag] 226))⟩
end Go.Proofs.YtkccjfgkbkodiaaGreat
