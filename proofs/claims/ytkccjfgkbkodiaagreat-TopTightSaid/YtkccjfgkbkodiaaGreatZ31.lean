/-
  ShelfW · WheelA · WheelB · WheelC: parts of the walk of TopTight, under no condition.
-/
import Derived.Shelf.Slices.Delete
import Derived.Shelf.Slices.Cells
import Derived.Test.YtkccjfgkbkodiaaGreatZ29
import Derived.Test.YtkccjfgkbkodiaaGreatZ30
namespace Go.Proofs.YtkccjfgkbkodiaaGreat.Wl
open Go.Shelf Go.RowKit Go.Lib
set_option maxRecDepth 100000
def ren23 : Go.Shelf.Ren := ⟨fun | 23 => 73 | n => n, fun | 0 => 0 | 3 => 3 | 4 => 4 | 22 => 30 | n => n, fun n => n⟩
theorem lays23 : Go.Proofs.Lays2.n23 Tryz.prog ren23 := {
  mixed := by kernel_rfl
  f23 := Tryz.func73.trans (congrArg some (by kernel_rfl))
  t0 := Tryz.underlying0
  a0 := Tryz.isAgg0
  z0 := Tryz.sizeOf0
  v0 := Tryz.zeroValue0
  t3 := Tryz.underlying3
  a3 := Tryz.isAgg3
  z3 := Tryz.sizeOf3
  v3 := Tryz.zeroValue3
  t4 := Tryz.underlying4
  a4 := Tryz.isAgg4
  z4 := Tryz.sizeOf4
  v4 := Tryz.zeroValue4
  t22 := Tryz.underlying30
  a22 := Tryz.isAgg30
  z22 := Tryz.sizeOf30
  v22 := Tryz.zeroValue30
  i3 := by kernel_rfl }
theorem delete_cells (b off n c i j : Nat) (zs : List Int) (w : World) (hz : n ≤ zs.length) (hcap : n ≤ c) (hm : c ≤ 9223372036854775807) (hij : i ≤ j) (hj : j ≤ n) (hc : ∀ j, j < zs.length → w.cell? ⟨b, off + j, none⟩ = some (.int .i64 (zs.getD j 0))) (hf : ∀ j, j < n → w.frozen? ⟨b, off + j, none⟩ = false) :
    Calls Tryz.prog 73 #[.slice (some ⟨b, off, none⟩) n c, .int .i64 i, .int .i64 j] w fun e w' => e = .returned (.slice (some ⟨b, off, none⟩) (n - (j - i)) c) ∧ ∃ q, w' = (w.drewN q).setCells b off (((zs.take n).take i ++ (zs.take n).drop j ++ List.replicate (j - i) 0).map (Value.int .i64)) := Any.slices_Delete_int_cells lays23 b off n c i j zs w hz hcap hm hij hj hc hf
/-- Where x first stands. -/
def idxI (L : List Int) (x : Int) : Int := if x ∈ L then (L.idxOf x : Int) else -1
theorem index_empty (a : Option Addr) (c : Nat) (x : Int) (w : World) : Calls Tryz.prog 72 #[.slice a 0 c, .int .i64 x] w fun e w' => e = .returned (.int .i64 (-1)) ∧ w' = w := by
  go_enter Tryz.func72, Tryz.ntmps72
  go_wp2_with fail
  go_loopg [5, 8] 1 (fun g s5 s8 wr => s8 = .int .i64 0 ∧ wr = w)
  case atStart => exact ⟨rfl, rfl⟩
  case round =>
    obtain ⟨rfl, rfl⟩ := hrel
    go_wp2_with fail
    go_ret
    exact ⟨rfl, rfl⟩
theorem index_some (g off c : Nat) (L : List Int) (x : Int) (w : World) (hl : L.length ≤ 1000000) (hc : ∀ j (hj : j < L.length), w.cell? ⟨g, off + j, none⟩ = some (.int .i64 L[j])) (r : Int) (hr : r = idxI L x) :
    Calls Tryz.prog 72 #[.slice (some ⟨g, off, none⟩) L.length c, .int .i64 x] w fun e w' => e = .returned (.int .i64 r) ∧ w' = w := by
  have HC := hide hc
  have HR := hide hr
  clear hc hr
  go_enter Tryz.func72, Tryz.ntmps72
  go_wp2_with fail
  go_loopg [5, 8] L.length (fun gg s5 s8 wr => ∃ j : Nat, s8 = .int .i64 j ∧ j + gg = L.length ∧ wr = w ∧ Hid (∀ i (hi : i < L.length), i < j → L[i] ≠ x))
  case atStart => exact ⟨0, rfl, by omega, rfl, fun i hi h => by omega⟩
  case round =>
    obtain ⟨j, rfl, hj, rfl, hno⟩ := hrel
    by_cases hlt : j < L.length
    · have hjl : (j : Int) < L.length := by omega
      obtain ⟨y, hy⟩ : ∃ y, y = L[j] := ⟨_, rfl⟩
      have cz := HC.out j hlt
      rw [← hy] at cz
      by_cases hxy : x = y
      · have hidx : r = j := by
          rw [HR.out, idxI, if_pos (by rw [hxy, hy]; exact List.getElem_mem _)]
          have h1 : L.idxOf x = j := by
            have hlt2 : L.idxOf x < L.length := List.idxOf_lt_length_iff.2 (by rw [hxy, hy]; exact List.getElem_mem _)
            have hget : L[L.idxOf x] = x := List.getElem_idxOf hlt2
            rcases Nat.lt_trichotomy (L.idxOf x) j with h | h | h
            · exact absurd hget (hno.out _ hlt2 h)
            · exact h
            · have := List.not_of_lt_findIdx (p := (· == x)) (xs := L) (i := j) h
              simp [← hy, hxy] at this
          rw [h1]
        subst hxy hidx
        clear hy
        go_wp2_with fail
        go_ret
        exact ⟨rfl, rfl⟩
      · have hb : (x == y) = false := by simpa using hxy
        have hno2 : Hid (∀ i (hi : i < L.length), i < j + 1 → L[i] ≠ x) := fun i hi h => by
          by_cases hij : i = j
          · subst hij; rw [← hy]; exact fun e => hxy e.symm
          · exact hno.out i hi (by omega)
        clear hy hxy
        go_wp2_with fail
        go_roundg (gk - 1)
        case measure => omega
        case rel => exact ⟨j + 1, by go_num, by omega, rfl, hno2⟩
    · have hnm : r = -1 := by
        rw [HR.out, idxI, if_neg (fun hm => by
          obtain ⟨i, hi, he⟩ := List.getElem_of_mem hm
          exact hno.out i hi (by omega) he)]
      subst hnm
      go_wp2_with fail
      go_ret
      exact ⟨rfl, rfl⟩
end Go.Proofs.YtkccjfgkbkodiaaGreat.Wl
namespace Go.Proofs.YtkccjfgkbkodiaaGreat.Wl
open Go.RowKit
set_option maxRecDepth 100000
def intL (L : List Int) : List Value := L.map fun x => Value.int .i64 x
theorem intL_length (L : List Int) : (intL L).length = L.length := by simp [intL]
theorem intL_append (L M : List Int) : intL (L ++ M) = intL L ++ intL M := by simp [intL]
/-- The wheel at p is for n, has the list L; its slice is v. -/
structure Wheel (w : World) (base p : Nat) (n : Int) (v : Value) (L : List Int) : Prop where
  blk : Blk w p 89 #[.int .i64 n, v]
  sl : Sl w base 3 v (intL L)
  n0 : 0 ≤ n
  n100 : n ≤ 100
  inside : ∀ x ∈ L, 0 ≤ x ∧ x < n
  nodup : L.Nodup
section
variable {w w' : World} {base p : Nat} {n : Int} {v : Value} {L : List Int}
theorem Wheel.out (h : Wheel w base p n v L) : p ∉ slB v := h.sl.notBlk h.blk (by decide)
theorem Wheel.lt (h : Wheel w base p n v L) : p < w.heap.size := h.blk.lt
theorem nodup_le : ∀ (m : Nat) (L : List Int), L.Nodup → (∀ x ∈ L, 0 ≤ x ∧ x < (m : Int)) → L.length ≤ m := by
  intro m
  induction m with
  | zero =>
    intro L _ h
    cases L with
    | nil => simp
    | cons x L => have := h x (List.mem_cons_self ..); omega
  | succ m ih =>
    intro L hn h
    have h1 := ih (L.erase (m : Int)) (hn.erase _) (fun x hx => by
      have hx' := hn.mem_erase_iff.1 hx
      have := h x hx'.2
      have hne := hx'.1
      push_cast at this
      omega)
    have := List.length_erase (a := (m : Int)) (l := L)
    split at this <;> omega
theorem Wheel.len (h : Wheel w base p n v L) : L.length ≤ 100 := by
  have := nodup_le n.toNat L h.nodup (fun x hx => by have := h.inside x hx; have := h.n0; omega)
  have := h.n100
  omega
theorem Wheel.only_below {c : World} {B : Nat} (h : Wheel w base p n v L) (ho : Only (p :: slB v) w c) (hB : B ≤ w.heap.size) (hp : B ≤ p) (hb : B ≤ base) : Below B w c :=
  ho.below hB (fun k hk => by
    rcases List.mem_cons.1 hk with rfl | hk
    · exact hp
    · have := (h.sl.lt k hk).1; omega)
theorem Wheel.below {C : World} (h : Wheel w base p n v L) (hb : Below w.heap.size w C) : Wheel C base p n v L :=
  ⟨h.blk.below hb h.lt, h.sl.below hb (fun k hk => (h.sl.lt k hk).2), h.n0, h.n100, h.inside, h.nodup⟩
end
theorem Sl.form {w : World} {base : Nat} {t : TypeId} {v : Value} {xs : List Value} (h : Sl w base t v xs) : ∃ a c, v = .slice a xs.length c := by
  rcases h with ⟨rfl, rfl⟩ | ⟨g, off, cap, cs, rfl, _⟩
  · exact ⟨none, 0, rfl⟩
  · exact ⟨_, _, rfl⟩
theorem new_any (ni : Int) (n : Int) (hn : n = min (max ni 0) 100) (w : World) :
    Calls Tryz.prog 23 #[.int .i64 ni] w fun e w' => e = .returned (.pointer (some ⟨w.heap.size, 0, none⟩)) ∧ w' = w.alloc (.cells #[.int .i64 n, .slice none 0 0] 89) := by
  obtain ⟨m, hm⟩ : ∃ m : Int, m = max ni 0 := ⟨_, rfl⟩
  have hmax := max_i64 (P := Tryz.prog) #[3, 3] 3 ni 0 m hm
  have hmin := min_i64 (P := Tryz.prog) #[3, 3] 3 m 100 n (by rw [hm]; exact hn)
  clear hm hn
  go_enter Tryz.func23, Tryz.ntmps23
  go_wp2
  go_ret
  exact ⟨rfl, rfl⟩
theorem wheel_new (w : World) (base : Nat) (n : Int) (h0 : 0 ≤ n) (h1 : n ≤ 100) : Wheel (w.alloc (.cells #[.int .i64 n, .slice none 0 0] 89)) base w.heap.size n (.slice none 0 0) [] :=
  ⟨Blk.new w 89 _, Sl.nil _ _ _, h0, h1, (fun _ h => by cases h), List.nodup_nil⟩
theorem index_sl {w : World} {base : Nat} {v : Value} {L : List Int} (h : Sl w base 3 v (intL L)) (hl : L.length ≤ 100) (x : Int) (r : Int) (hr : r = idxI L x) :
    Calls Tryz.prog 72 #[v, .int .i64 x] w fun e w' => e = .returned (.int .i64 r) ∧ w' = w := by
  by_cases h0 : L = []
  · subst h0
    obtain ⟨a, c, hv⟩ := h.form
    have hv' : v = .slice a 0 c := hv
    subst hv'
    rw [hr]
    exact index_empty a c x w
  · rcases h with ⟨_, hn⟩ | ⟨g, off, cap, cs, hv, hb, hg, h1, h2, h3, h4⟩
    · exact absurd (by simpa [intL] using hn) h0
    · subst hv
      have := index_some g off cap L x w (by omega) (fun j hj => by
        refine hg.cellv _ _ ?_
        rw [h4 j (by rw [intL_length]; exact hj)]
        simp [intL]) r hr
      rw [intL_length]
      exact this
theorem idxI_nonneg (L : List Int) (x : Int) : 0 ≤ idxI L x ↔ x ∈ L := by
  unfold idxI
  by_cases h : x ∈ L
  · simp [h]
  · simp [h]
theorem contains_sl {w : World} {base : Nat} {v : Value} {L : List Int} (h : Sl w base 3 v (intL L)) (hl : L.length ≤ 100) (x : Int) (r : Bool) (hr : r = decide (x ∈ L)) :
    Calls Tryz.prog 60 #[v, .int .i64 x] w fun e w' => e = .returned (.bool r) ∧ w' = w := by
  obtain ⟨xi, hxi⟩ : ∃ xi, xi = idxI L x := ⟨_, rfl⟩
  have HI := hide (index_sl h hl x xi hxi)
  have hd : decide (0 ≤ xi) = r := by rw [hxi, hr, decide_eq_decide]; exact idxI_nonneg L x
  clear hxi h hr
  go_enter Tryz.func60, Tryz.ntmps60
  go_wp2_with fail
  (with_reducible refine (unhide HI).mono ?_)
  rintro e w1 ⟨rfl, rfl⟩
  go_wp2_with fail
  go_ret
  exact ⟨rfl, rfl⟩
theorem info_int : (Tryz.prog.info? 3).map (fun i => (i.zero, i.size, i.bytes)) = some (some (.int .i64 0), 1, 8) := by kernel_rfl
theorem add_nil (id : Int) (w : World) : Calls Tryz.prog 29 #[.pointer none, .int .i64 id] w fun e w' => e = .returned (.bool false) ∧ w' = w := by
  go_enter Tryz.func29, Tryz.ntmps29
  go_wp2
  go_ret
  exact ⟨rfl, rfl⟩
theorem add_no {w : World} {base p : Nat} {n : Int} {v : Value} {L : List Int} (h : Wheel w base p n v L) (id : Int) (hno : id < 0 ∨ n ≤ id ∨ id ∈ L) :
    Calls Tryz.prog 29 #[.pointer (some ⟨p, 0, none⟩), .int .i64 id] w fun e w' => e = .returned (.bool false) ∧ w' = w := by
  have c0 := h.blk.cellv 0 _ rfl
  have c1 := h.blk.cellv 1 _ rfl
  by_cases h1 : id < 0
  · clear hno
    go_enter Tryz.func29, Tryz.ntmps29
    go_wp2
    go_ret
    exact ⟨rfl, rfl⟩
  by_cases h2 : n ≤ id
  · clear hno
    go_enter Tryz.func29, Tryz.ntmps29
    go_wp2
    go_ret
    exact ⟨rfl, rfl⟩
  have h3 : id ∈ L := by
    rcases hno with h | h | h
    · exact absurd h h1
    · exact absurd h h2
    · exact h
  have HC := hide (contains_sl h.sl h.len id true (by simpa using h3))
  clear hno h
  go_enter Tryz.func29, Tryz.ntmps29
  go_wp2_with fail
  (with_reducible refine (unhide HC).mono ?_)
  rintro e w1 ⟨rfl, rfl⟩
  go_wp2_with fail
  go_ret
  exact ⟨rfl, rfl⟩
theorem add_yes {w : World} {base p : Nat} {n : Int} {v : Value} {L : List Int} (h : Wheel w base p n v L) (id : Int) (h0 : 0 ≤ id) (h1 : id < n) (h2 : id ∉ L) (hbase : base ≤ w.heap.size) :
    Calls Tryz.prog 29 #[.pointer (some ⟨p, 0, none⟩), .int .i64 id] w fun e w' => e = .returned (.bool true) ∧ ∃ v', Wheel w' base p n v' (L ++ [id]) ∧ Only (p :: slB v) w w' ∧ (∀ k ∈ slB v', k ∈ slB v ∨ w.heap.size ≤ k) := by
  have c0 := h.blk.cellv 0 _ rfl
  have c1 := h.blk.cellv 1 _ rfl
  have HC := hide (contains_sl h.sl h.len id false (by simpa using h2))
  have HH := hide h
  have HO := hide h.out
  have hlen := h.len
  clear h
  go_enter Tryz.func29, Tryz.ntmps29
  go_wp2_with fail
  (with_reducible refine (unhide HC).mono ?_)
  rintro e w ⟨rfl, rfl⟩
  go_wp2_with (at_builtin; refine wpList_append_sl rfl (.tmp 31) (.tmp 33) 30 rfl base 3 (.int .i64 0) 8 Tryz.underlying30 info_int rfl v (intL L) rfl (HH.out.sl.alloc _) w.heap.size (.int .i64 id) rfl (Blk.cell (Blk.new _ _ _) 0) rfl (by rw [intL_length]; unfold maxLen; omega) (by rw [intL_length]; omega) (by simp; omega) ?_; intro v' w1 hown1 ho1 hfresh; obtain ⟨a', c', rfl⟩ := hown1.form; have hb1 := ho1.blk (HH.out.blk.alloc _) HO.out; have d0 := hb1.cellv 0 _ rfl; have d1 := hb1.cellv 1 _ rfl; have g0 := hb1.frozen 0; have g1 := hb1.frozen 1)
  go_ret
  have e1 : (intL L ++ [Value.int .i64 id]).length = (intL L).length + 1 := by simp
  rw [e1] at hown1 hfresh
  have hpn := hown1.notBlk hb1 (by decide)
  refine ⟨rfl, .slice a' ((intL L).length + 1) c', ⟨?_, ?_, HH.out.n0, HH.out.n100, ?_, ?_⟩, ?_, ?_⟩
  · exact hb1.set_ 1 _
  · rw [intL_append]
    exact hown1.far (p := ⟨p, 1, none⟩) hpn _
  · intro x hx
    rcases List.mem_append.1 hx with hx | hx
    · exact HH.out.inside x hx
    · rw [List.mem_singleton.1 hx]; exact ⟨h0, h1⟩
  · exact List.nodup_append.2 ⟨HH.out.nodup, by simp, fun a ha b hb => by rintro rfl; simp at hb; subst hb; exact h2 ha⟩
  · exact (((Only.refl _ _).alloc _).trans (ho1.mono (fun k hk => List.mem_cons_of_mem _ hk))).setCell (by simp) _
  · intro k hk
    rcases hfresh k hk with h | h
    · exact .inl h
    · exact .inr (by simp at h; omega)
end Go.Proofs.YtkccjfgkbkodiaaGreat.Wl
namespace Go.Proofs.YtkccjfgkbkodiaaGreat.Wl
open Go.RowKit
set_option maxRecDepth 100000
theorem setCells_blk {g : Nat} {t : TypeId} : ∀ (vs : List Value) (off : Nat) (w : World) (cs : Array Value), Blk w g t cs → off + vs.length ≤ cs.size →
    ∃ cs', Blk (w.setCells g off vs) g t cs' ∧ cs'.size = cs.size ∧ (∀ j, j < vs.length → cs'[off + j]? = vs[j]?) ∧ ∀ k, k < off → cs'[k]? = cs[k]?
  | [], off, w, cs, h, _ => ⟨cs, h, rfl, fun j hj => by simp at hj, fun _ _ => rfl⟩
  | v :: vs, off, w, cs, h, hs => by
    simp only [List.length_cons] at hs
    obtain ⟨cs', h1, h2, h3, h4⟩ := setCells_blk vs (off + 1) (w.setCell ⟨g, off, none⟩ v) _ (h.set_ off v) (by simp; omega)
    refine ⟨cs', h1, by simpa using h2, fun j hj => ?_, fun k hk => ?_⟩
    · cases j with
      | zero =>
        rw [Nat.add_zero, h4 off (by omega)]
        have : off < cs.size := by omega
        simp [this]
      | succ j =>
        rw [show off + (j + 1) = off + 1 + j by omega, h3 j (by simp at hj; omega)]
        rfl
    · rw [h4 k (by omega), Array.getElem?_setIfInBounds, if_neg (by omega)]
theorem setCells_only (g : Nat) : ∀ (vs : List Value) (off : Nat) (w : World), Only [g] w (w.setCells g off vs)
  | [], off, w => Only.refl _ _
  | v :: vs, off, w => ((Only.refl [g] w).setCell (p := ⟨g, off, none⟩) (by simp) v).trans (setCells_only g vs (off + 1) _)
theorem remove_nil (id : Int) (w : World) : Calls Tryz.prog 48 #[.pointer none, .int .i64 id] w fun e w' => e = .returned (.bool false) ∧ w' = w := by
  go_enter Tryz.func48, Tryz.ntmps48
  go_wp2
  go_ret
  exact ⟨rfl, rfl⟩
theorem remove_no {w : World} {base p : Nat} {n : Int} {v : Value} {L : List Int} (h : Wheel w base p n v L) (id : Int) (hno : id ∉ L) :
    Calls Tryz.prog 48 #[.pointer (some ⟨p, 0, none⟩), .int .i64 id] w fun e w' => e = .returned (.bool false) ∧ w' = w := by
  have c1 := h.blk.cellv 1 _ rfl
  have HI := hide (index_sl h.sl h.len id (-1) (by rw [idxI, if_neg hno]))
  clear h hno
  go_enter Tryz.func48, Tryz.ntmps48
  go_wp2_with fail
  (with_reducible refine (unhide HI).mono ?_)
  rintro e w1 ⟨rfl, rfl⟩
  go_wp2_with fail
  go_ret
  exact ⟨rfl, rfl⟩
theorem remove_yes {w : World} {base p : Nat} {n : Int} {v : Value} {L : List Int} (h : Wheel w base p n v L) (id : Int) (hin : id ∈ L) :
    Calls Tryz.prog 48 #[.pointer (some ⟨p, 0, none⟩), .int .i64 id] w fun e w' => e = .returned (.bool true) ∧ ∃ v', Wheel w' base p n v' (L.erase id) ∧ Only (p :: slB v) w w' ∧ slB v' = slB v := by
  obtain ⟨i, hi⟩ : ∃ i : Nat, i = L.idxOf id := ⟨_, rfl⟩
  have hil : i < L.length := by rw [hi]; exact List.idxOf_lt_length_iff.2 hin
  have hlen := h.len
  have HI := hide (index_sl h.sl h.len id i (by rw [idxI, if_pos hin, hi]))
  have hout := h.out
  rcases h.sl with ⟨_, hn⟩ | ⟨g, off, cap, cs, hv, hb, hg, h1, h2, h3, h4⟩
  · have : L = [] := by simpa [intL] using hn
    rw [this] at hil; simp at hil
  rw [intL_length] at hv h2 h4
  subst hv
  have hpg : p ≠ g := by simpa [slB] using hout
  have HD := hide (delete_cells g off L.length cap i (i + 1) L w (Nat.le_refl _) h2 (by unfold maxLen at h3; omega) (by omega) hil (fun j hj => by
    refine hg.cellv _ _ ?_
    rw [h4 j hj]
    simp [intL, List.getD, List.getElem?_eq_getElem hj]) (fun j _ => hg.frozen _))
  have hes : (L.take i ++ L.drop (i + 1)) = L.erase id := by
    rw [List.erase_eq_eraseIdx_of_idxOf hi.symm, List.eraseIdx_eq_take_drop_succ]
  have hel : (L.erase id).length = L.length - 1 := by rw [← hes, List.length_append, List.length_take, List.length_drop]; omega
  rw [List.take_length, hes, show i + 1 - i = 1 by omega] at HD
  have hq : ∀ (q : Nat) (X : World), X = (w.drewN q).setCells g off ((L.erase id ++ List.replicate 1 0).map (Value.int .i64)) →
      Only [g] w X ∧ Blk X p 89 #[.int .i64 n, .slice (some ⟨g, off, none⟩) L.length cap] ∧ Sl X base 3 (.slice (some ⟨g, off, none⟩) (L.length - 1) cap) (intL (L.erase id)) := by
    rintro q X rfl
    have ho : Only [g] w ((w.drewN q).setCells g off ((L.erase id ++ List.replicate 1 0).map (Value.int .i64))) := ((Only.refl _ w).drewN q).trans (setCells_only g _ off _)
    refine ⟨ho, ho.blk h.blk (by simpa using hpg), ?_⟩
    have hvl : ((L.erase id ++ List.replicate 1 0).map (Value.int .i64)).length = L.length := by simp [hel]; omega
    obtain ⟨cs', e1, e2, e3, _⟩ := setCells_blk ((L.erase id ++ List.replicate 1 0).map (Value.int .i64)) off (w.drewN q) cs (hg.drewN q) (by rw [hvl]; omega)
    refine .inr ⟨g, off, cap, cs', by rw [intL_length, hel], hb, e1, by omega, by rw [intL_length, hel]; omega, h3, fun j hj => ?_⟩
    rw [intL_length] at hj
    rw [e3 j (by rw [hvl]; omega), List.map_append, List.getElem?_append_left (by simpa using hj)]
    rfl
  have HQ := hide hq
  have HH := hide h
  have c1 := h.blk.cellv 1 _ rfl
  have hil2 : (i : Int) + 1 ≤ L.length := by omega
  have hcast : ((i + 1 : Nat) : Int) = (i : Int) + 1 := by push_cast; rfl
  rw [hcast] at HD
  clear hq hi hes hel h hg h4 hin hcast h1 h2 h3
  go_enter Tryz.func48, Tryz.ntmps48
  go_wp2_with fail
  (with_reducible refine (unhide HI).mono ?_)
  rintro e w ⟨rfl, rfl⟩
  go_wp2_with fail
  refine (unhide HD).mono ?_
  rintro e w2 ⟨rfl, q, hw2⟩
  obtain ⟨ho2, hb2, hs2⟩ := HQ.out q w2 hw2
  have d1 := hb2.cellv 1 _ rfl
  have f1 := hb2.frozen 1
  clear hw2
  go_wp2_with fail
  go_ret
  have hpv : p ∉ slB (.slice (some ⟨g, off, none⟩) (L.length - 1) cap) := by simpa [slB] using hpg
  refine ⟨rfl, _, ⟨hb2.set_ 1 _, hs2.far (p := ⟨p, 1, none⟩) hpv _, HH.out.n0, HH.out.n100, fun x hx => HH.out.inside x (List.mem_of_mem_erase hx), HH.out.nodup.erase _⟩, ?_, rfl⟩
  exact (ho2.mono (fun k hk => by simp [slB] at hk ⊢; exact .inr hk)).setCell (by simp) _
end Go.Proofs.YtkccjfgkbkodiaaGreat.Wl
namespace Go.Proofs.YtkccjfgkbkodiaaGreat.Wl
open Go.RowKit
set_option maxRecDepth 100000
/-- Is x ready? -/
def rdy (z : List Bool) (x : Int) : Bool := z.getD x.toNat false
/-- The elements of a slice of bools. -/
def IsRdy (w : World) (a : Option Addr) (z : List Bool) : Prop := ∀ j (hj : j < z.length), ∃ g off, a = some ⟨g, off, none⟩ ∧ w.cell? ⟨g, off + j, none⟩ = some (.bool z[j])
theorem IsRdy.below {w c : World} {a : Option Addr} {z : List Bool} (h : IsRdy w a z) (hb : Below w.heap.size w c) : IsRdy c a z := fun j hj => by
  obtain ⟨g, off, rfl, hc⟩ := h j hj
  exact ⟨g, off, rfl, (hb.cell (p := ⟨g, off + j, none⟩) (block_lt_of_cell hc)).trans hc⟩
theorem next_nil (v : Value) (w : World) : Calls Tryz.prog 37 #[.pointer none, v] w fun e w' => e = .returned (.tuple #[.int .i64 0, .bool false]) ∧ w' = w := by
  go_enter Tryz.func37, Tryz.ntmps37
  go_wp2
  go_ret2
  exact ⟨rfl, rfl⟩
theorem next_none {w : World} {base p : Nat} {n : Int} {v : Value} {L : List Int} (h : Wheel w base p n v L) (a : Option Addr) (c : Nat) (z : List Bool) (hz : IsRdy w a z) (hno : ∀ x ∈ L, rdy z x = false) :
    Calls Tryz.prog 37 #[.pointer (some ⟨p, 0, none⟩), .slice a z.length c] w fun e w' => e = .returned (.tuple #[.int .i64 0, .bool false]) ∧ w' = w := by
  have c1 := h.blk.cellv 1 _ rfl
  have hlen := h.len
  obtain ⟨va, vc, hv⟩ := h.sl.form
  rw [intL_length] at hv
  have hcell : ∀ j (hj : j < L.length), ∃ g off, va = some ⟨g, off, none⟩ ∧ w.cell? ⟨g, off + j, none⟩ = some (.int .i64 L[j]) := fun j hj => by
    obtain ⟨g, off, cap, hv2, hc⟩ := h.sl.cell j (by rw [intL_length]; exact hj)
    rw [hv] at hv2
    injection hv2 with hv2
    exact ⟨g, off, hv2, by rw [hc]; simp [intL]⟩
  subst hv
  have HC := hide hcell
  have HZ := hide hz
  have HN := hide hno
  have HI := hide h.inside
  clear h hcell hz hno
  go_enter Tryz.func37, Tryz.ntmps37
  go_wp2_with fail
  go_loopg [7, 15] L.length (fun g s7 s15 wr => ∃ j : Nat, s15 = .int .i64 j ∧ j + g = L.length ∧ wr = w)
  case atStart => exact ⟨0, rfl, by omega, rfl⟩
  case round =>
    obtain ⟨j, rfl, hj, rfl⟩ := hrel
    by_cases hlt : j < L.length
    · obtain ⟨g, off, rfl, cz⟩ := HC.out j hlt
      obtain ⟨x, hx⟩ : ∃ x, x = L[j] := ⟨_, rfl⟩
      have hxm : x ∈ L := by rw [hx]; exact List.getElem_mem _
      rw [← hx] at cz
      have hx0 := (HI.out x hxm).1
      have hxn := HN.out x hxm
      clear hx hxm
      by_cases hxl : x < z.length
      · have hxz : x.toNat < z.length := by omega
        obtain ⟨rg, roff, rfl, rz⟩ := HZ.out x.toNat hxz
        have hzf : z[x.toNat] = false := by
          unfold rdy at hxn
          rw [List.getD, List.getElem?_eq_getElem hxz] at hxn
          exact hxn
        rw [hzf] at rz
        clear hzf hxn hxz
        go_wp2_with fail
        go_roundg (gk - 1)
        case measure => omega
        case rel => exact ⟨j + 1, by go_num, by omega, rfl⟩
      · have hxl2 : decide (x < (z.length : Int)) = false := by simpa using hxl
        clear hxn hxl
        go_wp2_with fail
        go_roundg (gk - 1)
        case measure => omega
        case rel => exact ⟨j + 1, by go_num, by omega, rfl⟩
    · go_wp2_with fail
      go_ret2
      exact ⟨rfl, rfl⟩
theorem next_some {w : World} {base p : Nat} {n : Int} {v : Value} {L A B M : List Int} {x : Int} (h : Wheel w base p n v L) (a : Option Addr) (c : Nat) (z : List Bool) (hz : IsRdy w a z) (hbase : base ≤ w.heap.size)
    (hL : L = A ++ x :: B) (hM : M = A ++ B) (hA : ∀ y ∈ A, rdy z y = false) (hx : rdy z x = true) :
    Calls Tryz.prog 37 #[.pointer (some ⟨p, 0, none⟩), .slice a z.length c] w fun e w' => e = .returned (.tuple #[.int .i64 x, .bool true]) ∧ ∃ v', Wheel w' base p n v' (M ++ [x]) ∧ Only (p :: slB v) w w' ∧ (∀ k ∈ slB v', k ∈ slB v ∨ w.heap.size ≤ k) := by
  have c1 := h.blk.cellv 1 _ rfl
  have hlen := h.len
  obtain ⟨va, vc, hv⟩ := h.sl.form
  rw [intL_length] at hv
  have hcell : ∀ j (hj : j < L.length), ∃ g off, va = some ⟨g, off, none⟩ ∧ w.cell? ⟨g, off + j, none⟩ = some (.int .i64 L[j]) := fun j hj => by
    obtain ⟨g, off, cap, hv2, hc⟩ := h.sl.cell j (by rw [intL_length]; exact hj)
    rw [hv] at hv2
    injection hv2 with hv2
    exact ⟨g, off, hv2, by rw [hc]; simp [intL]⟩
  subst hv
  have HC := hide hcell
  have HZ := hide hz
  have HA := hide hA
  have HX := hide hx
  have HI := hide h.inside
  have HR := hide (remove_yes h x (by rw [hL]; simp))
  have hxA : x ∉ A := fun hm => by rw [HA.out x hm] at hx; cases hx
  have her : L.erase x = M := by rw [hM, hL, List.erase_append_right _ hxA, List.erase_cons_head]
  have hxin : 0 ≤ x ∧ x < n := h.inside x (by rw [hL]; simp)
  have hxAB : x ∉ M := by
    rw [hM]
    have := h.nodup
    rw [hL] at this
    intro hm
    rcases List.mem_append.1 hm with hm | hm
    · exact hxA hm
    · have := (List.nodup_append.1 this).2.1
      exact (List.nodup_cons.1 this).1 hm
  have hlenE : M.length ≤ 100 := by have := congrArg List.length hL; rw [hM]; simp at this ⊢; omega
  have hAL : A.length < L.length := by rw [hL]; simp
  have hLA : L[A.length] = x := by subst hL; simp
  have hLlt : ∀ j (hj : j < L.length) (hja : j < A.length), L[j] ∈ A := fun j hj hja => by
    subst hL
    rw [List.getElem_append_left hja]
    exact List.getElem_mem _
  have HLA := hide (And.intro hLA hLlt)
  have HAB := hide hxAB
  have hxi0 := hxin.1
  have hxin2 := hide hxin.2
  rw [her] at HR
  clear h hcell hz hA hx hxA her hxin hxAB hLA hLlt hL hM
  go_enter Tryz.func37, Tryz.ntmps37
  go_wp2_with fail
  go_loopg [7, 15] (A.length + 1) (fun g s7 s15 wr => ∃ j : Nat, s15 = .int .i64 j ∧ j + g = A.length + 1 ∧ 0 < g ∧ wr = w)
  case atStart => exact ⟨0, rfl, by omega, by omega, rfl⟩
  case round =>
    obtain ⟨j, rfl, hj, hg0, rfl⟩ := hrel
    have hlt : j < L.length := by omega
    obtain ⟨g, off, rfl, cz⟩ := HC.out j hlt
    by_cases hja : j < A.length
    · obtain ⟨y, hy⟩ : ∃ y, y = L[j] := ⟨_, rfl⟩
      have hym : y ∈ A := by rw [hy]; exact HLA.out.2 j hlt hja
      rw [← hy] at cz
      have hy0 := (HI.out y (by rw [hy]; exact List.getElem_mem _)).1
      have hyn := HA.out y hym
      clear hy hym
      by_cases hyl : y < z.length
      · have hyz : y.toNat < z.length := by omega
        obtain ⟨rg, roff, rfl, rz⟩ := HZ.out y.toNat hyz
        have hzf : z[y.toNat] = false := by
          unfold rdy at hyn
          rw [List.getD, List.getElem?_eq_getElem hyz] at hyn
          exact hyn
        rw [hzf] at rz
        clear hzf hyn hyz
        go_wp2_with fail
        go_roundg (gk - 1)
        case measure => omega
        case rel => exact ⟨j + 1, by go_num, by omega, by omega, rfl⟩
      · have hyl2 : decide (y < (z.length : Int)) = false := by simpa using hyl
        clear hyn hyl
        go_wp2_with fail
        go_roundg (gk - 1)
        case measure => omega
        case rel => exact ⟨j + 1, by go_num, by omega, by omega, rfl⟩
    · have hjA : j = A.length := by omega
      subst hjA
      rw [HLA.out.1] at cz
      have hxz : x.toNat < z.length := by
        have := HX.out
        unfold rdy at this
        rcases Nat.lt_or_ge x.toNat z.length with h | h
        · exact h
        · rw [List.getD, List.getElem?_eq_none h] at this; cases this
      have hxl : x < z.length := by omega
      obtain ⟨rg, roff, rfl, rz⟩ := HZ.out x.toNat hxz
      have hzf : z[x.toNat] = true := by
        have := HX.out
        unfold rdy at this
        rw [List.getD, List.getElem?_eq_getElem hxz] at this
        exact this
      rw [hzf] at rz
      clear hzf hxz
      go_wp2_with fail
      (with_reducible refine (unhide HR).mono ?_)
      rintro e w2 ⟨rfl, v2, hw2, ho2, hs2⟩
      have e1 := hw2.blk.cellv 1 _ rfl
      have HW := hide hw2
      have HO := hide hw2.out
      have hb2 : base ≤ w2.heap.size := Nat.le_trans hbase ho2.size
      clear hw2
      go_wp2_with (at_builtin; refine wpList_append_sl rfl (.tmp 36) (.tmp 38) 30 rfl base 3 (.int .i64 0) 8 Tryz.underlying30 info_int rfl v2 (intL M) rfl (HW.out.sl.alloc _) w2.heap.size (.int .i64 x) rfl (Blk.cell (Blk.new _ _ _) 0) rfl (by rw [intL_length]; unfold maxLen; omega) (by rw [intL_length]; omega) (by simp; omega) ?_; intro v' w1 hown1 ho1 hfresh; obtain ⟨a', c', rfl⟩ := hown1.form; have hb1 := ho1.blk (HW.out.blk.alloc _) HO.out; have d0 := hb1.cellv 0 _ rfl; have d1 := hb1.cellv 1 _ rfl; have g0 := hb1.frozen 0; have g1 := hb1.frozen 1)
      go_ret2
      have e1 : (intL M ++ [Value.int .i64 x]).length = (intL M).length + 1 := by simp
      rw [e1] at hown1 hfresh
      have hpn := hown1.notBlk hb1 (by decide)
      refine ⟨rfl, .slice a' ((intL M).length + 1) c', ⟨?_, ?_, HW.out.n0, HW.out.n100, ?_, ?_⟩, ?_, ?_⟩
      · exact hb1.set_ 1 _
      · rw [intL_append]
        exact hown1.far (p := ⟨p, 1, none⟩) hpn _
      · intro y hy
        rcases List.mem_append.1 hy with hy | hy
        · exact HW.out.inside y hy
        · rw [List.mem_singleton.1 hy]; exact ⟨hxi0, hxin2.out⟩
      · exact List.nodup_append.2 ⟨HW.out.nodup, by simp, fun a ha b hb => by rintro rfl; simp at hb; subst hb; exact HAB.out ha⟩
      · exact (ho2.trans (((Only.refl _ _).alloc _).trans (ho1.mono (fun k hk => by rw [hs2] at hk; exact List.mem_cons_of_mem _ hk)))).setCell (by simp) _
      · intro k hk
        rcases hfresh k hk with h | h
        · exact .inl (by rw [hs2] at h; exact h)
        · exact .inr (by have := ho2.size; simp at h; omega)
/-- The wheel at p, for n, has the list L; all of it lies from B on. -/
def Wh (w : World) (B p : Nat) (n : Int) (L : List Int) : Prop := B ≤ p ∧ ∃ v, Wheel w B p n v L
/-- Whose turn it is, and what is there then. -/
def turn (z : List Bool) : List Int → Option Int
  | [] => none
  | x :: L => if rdy z x then some x else turn z L
theorem turn_none {z : List Bool} : ∀ {L : List Int}, turn z L = none → ∀ x ∈ L, rdy z x = false
  | [], _, x, hx => by cases hx
  | y :: L, h, x, hx => by
    unfold turn at h
    by_cases hy : rdy z y = true
    · rw [if_pos hy] at h; cases h
    · rw [if_neg hy] at h
      rcases List.mem_cons.1 hx with rfl | hx
      · simpa using hy
      · exact turn_none h x hx
theorem turn_some {z : List Bool} {x : Int} : ∀ {L : List Int}, turn z L = some x → ∃ A B, L = A ++ x :: B ∧ (∀ y ∈ A, rdy z y = false) ∧ rdy z x = true
  | [], h => by cases h
  | y :: L, h => by
    unfold turn at h
    by_cases hy : rdy z y = true
    · rw [if_pos hy] at h
      cases h
      exact ⟨[], L, rfl, (fun _ h => by cases h), hy⟩
    · rw [if_neg hy] at h
      obtain ⟨A, B, rfl, h1, h2⟩ := turn_some h
      exact ⟨y :: A, B, rfl, fun a ha => by
        rcases List.mem_cons.1 ha with rfl | ha
        · simpa using hy
        · exact h1 a ha, h2⟩
def after (z : List Bool) (L : List Int) : List Int := match turn z L with
  | none => L
  | some x => L.erase x ++ [x]
section
variable {w w' : World} {B p : Nat} {n : Int} {L : List Int}
theorem Wh.lt (h : Wh w B p n L) : B ≤ w.heap.size := by obtain ⟨h1, v, h⟩ := h; have := h.lt; omega
theorem Wh.plt (h : Wh w B p n L) : p < w.heap.size := by obtain ⟨h1, v, h⟩ := h; exact h.lt
theorem Wh.below {C : World} (h : Wh w B p n L) (hb : Below w.heap.size w C) : Wh C B p n L := by
  obtain ⟨h1, v, h⟩ := h
  exact ⟨h1, v, h.below hb⟩
theorem Wh.drewN (h : Wh w B p n L) (m : Nat) : Wh (w.drewN m) B p n L := h.below (below_drewN (Below.refl _ _) m)
theorem Wh.drew (h : Wh w B p n L) : Wh w.drew B p n L := h.below (Below.refl _ _).drew
theorem Wh.alloc (h : Wh w B p n L) (o : Obj) : Wh (w.alloc o) B p n L := h.below ((Below.refl _ _).alloc (Nat.le_refl _) _)
theorem Wh.nodup (h : Wh w B p n L) : L.Nodup := by obtain ⟨h1, v, h⟩ := h; exact h.nodup
theorem Wh.inside (h : Wh w B p n L) : ∀ x ∈ L, 0 ≤ x ∧ x < n := by obtain ⟨h1, v, h⟩ := h; exact h.inside
theorem Wh.len (h : Wh w B p n L) : L.length ≤ 100 := by obtain ⟨h1, v, h⟩ := h; exact h.len
theorem new_Wh (ni : Int) (n : Int) (hn : n = min (max ni 0) 100) (hB : B ≤ w.heap.size) :
    Calls Tryz.prog 23 #[.int .i64 ni] w fun e w' => ∃ p, e = .returned (.pointer (some ⟨p, 0, none⟩)) ∧ Wh w' B p n [] ∧ Below w.heap.size w w' := by
  refine (new_any ni n hn w).mono fun e w' h => ⟨_, h.1, ?_, ?_⟩
  · rw [h.2]; exact ⟨hB, _, wheel_new w B n (by omega) (by omega)⟩
  · rw [h.2]; exact (Below.refl _ _).alloc (Nat.le_refl _) _
theorem add_Wh (h : Wh w B p n L) (id : Int) (r : Bool) (hr : r = decide (0 ≤ id ∧ id < n ∧ id ∉ L)) (L2 : List Int) (hL2 : L2 = if r = true then L ++ [id] else L) :
    Calls Tryz.prog 29 #[.pointer (some ⟨p, 0, none⟩), .int .i64 id] w fun e w' => e = .returned (.bool r) ∧ Wh w' B p n L2 ∧ Below B w w' := by
  have hB := h.lt
  obtain ⟨h1, v, h⟩ := h
  by_cases hc : 0 ≤ id ∧ id < n ∧ id ∉ L
  · have hr' : r = true := by rw [hr]; simpa using hc
    subst hr'
    rw [if_pos rfl] at hL2
    subst hL2
    exact (add_yes h id hc.1 hc.2.1 hc.2.2 hB).mono fun e w' ⟨he, v', hq, ho, _⟩ => ⟨he, ⟨h1, v', hq⟩, h.only_below ho hB h1 (Nat.le_refl _)⟩
  · have hr' : r = false := by rw [hr]; simpa using hc
    subst hr'
    rw [if_neg (by simp)] at hL2
    subst hL2
    exact (add_no h id (by
      by_cases ha : id < 0
      · exact .inl ha
      · by_cases hb : n ≤ id
        · exact .inr (.inl hb)
        · exact .inr (.inr (Classical.byContradiction fun hm => hc ⟨by omega, by omega, hm⟩)))).mono fun e w' ⟨he, hw⟩ => ⟨he, by rw [hw]; exact ⟨h1, v, h⟩, by rw [hw]; exact Below.refl _ _⟩
theorem rem_Wh (h : Wh w B p n L) (id : Int) (r : Bool) (hr : r = decide (id ∈ L)) (L2 : List Int) (hL2 : L2 = L.erase id) :
    Calls Tryz.prog 48 #[.pointer (some ⟨p, 0, none⟩), .int .i64 id] w fun e w' => e = .returned (.bool r) ∧ Wh w' B p n L2 ∧ Below B w w' := by
  have hB := h.lt
  obtain ⟨h1, v, h⟩ := h
  subst hL2
  by_cases hc : id ∈ L
  · have hr' : r = true := by rw [hr]; simpa using hc
    subst hr'
    exact (remove_yes h id hc).mono fun e w' ⟨he, v', hq, ho, _⟩ => ⟨he, ⟨h1, v', hq⟩, h.only_below ho hB h1 (Nat.le_refl _)⟩
  · have hr' : r = false := by rw [hr]; simpa using hc
    subst hr'
    rw [List.erase_of_not_mem hc]
    exact (remove_no h id hc).mono fun e w' ⟨he, hw⟩ => ⟨he, by rw [hw]; exact ⟨h1, v, h⟩, by rw [hw]; exact Below.refl _ _⟩
theorem next_Wh (h : Wh w B p n L) (a : Option Addr) (c : Nat) (z : List Bool) (hz : IsRdy w a z) (x : Int) (r : Bool) (hx : (turn z L = none ∧ x = 0 ∧ r = false) ∨ (turn z L = some x ∧ r = true)) (L2 : List Int) (hL2 : L2 = after z L) (zl : Nat) (hzl2 : zl = z.length) :
    Calls Tryz.prog 37 #[.pointer (some ⟨p, 0, none⟩), .slice a zl c] w fun e w' => e = .returned (.tuple #[.int .i64 x, .bool r]) ∧ Wh w' B p n L2 ∧ Below B w w' := by
  have hB := h.lt
  subst hzl2
  obtain ⟨h1, v, h⟩ := h
  rcases hx with ⟨ht, rfl, rfl⟩ | ⟨ht, rfl⟩
  · have : L2 = L := by rw [hL2, after, ht]
    subst this
    exact (next_none h a c z hz (turn_none ht)).mono fun e w' ⟨he, hw⟩ => ⟨he, by rw [hw]; exact ⟨h1, v, h⟩, by rw [hw]; exact Below.refl _ _⟩
  · obtain ⟨A, C, hL, hA, hx⟩ := turn_some ht
    have hxA : x ∉ A := fun hm => by rw [hA x hm] at hx; cases hx
    have her : L.erase x = A ++ C := by rw [hL, List.erase_append_right _ hxA, List.erase_cons_head]
    have : L2 = (A ++ C) ++ [x] := by rw [hL2, after, ht, ← her]
    subst this
    exact (next_some h a c z hz hB hL rfl hA hx).mono fun e w' ⟨he, v', hq, ho, _⟩ => ⟨he, ⟨h1, v', hq⟩, h.only_below ho hB h1 (Nat.le_refl _)⟩
end
end Go.Proofs.YtkccjfgkbkodiaaGreat.Wl
