/-
  Wheels: Next; each contract with the wheel's slice left open; alive.
-/
import Derived.Test.YtlkedcdhboahbaaWheelB
namespace Go.Proofs.Ytlkedcdhboahbaa
open Go.RowKit

/-- Is x ready? -/
def rdy (z : List Bool) (x : Int) : Bool := z.getD x.toNat false
/-- The elements of a slice of bools. -/
def IsRdy (w : World) (a : Option Addr) (z : List Bool) : Prop := ∀ j (hj : j < z.length), ∃ g off, a = some ⟨g, off, none⟩ ∧ w.cell? ⟨g, off + j, none⟩ = some (.bool z[j])
theorem IsRdy.below {w c : World} {a : Option Addr} {z : List Bool} (h : IsRdy w a z) (hb : Below w.heap.size w c) : IsRdy c a z := fun j hj => by
  obtain ⟨g, off, rfl, hc⟩ := h j hj
  exact ⟨g, off, rfl, (hb.cell (p := ⟨g, off + j, none⟩) (block_lt_of_cell hc)).trans hc⟩

theorem next_nil (v : Value) (w : World) : Calls Try.prog 14 #[.pointer none, v] w fun e w' => e = .returned (.tuple #[.int .i64 0, .bool false]) ∧ w' = w := by
  go_enter Try.func14, Try.ntmps14
  go_wp2
  go_ret2
  exact ⟨rfl, rfl⟩

theorem next_none {w : World} {base p : Nat} {n : Int} {v : Value} {L : List Int} (h : Wheel w base p n v L) (a : Option Addr) (c : Nat) (z : List Bool) (hz : IsRdy w a z) (hno : ∀ x ∈ L, rdy z x = false) :
    Calls Try.prog 14 #[.pointer (some ⟨p, 0, none⟩), .slice a z.length c] w fun e w' => e = .returned (.tuple #[.int .i64 0, .bool false]) ∧ w' = w := by
  have c1 := h.blk.cellv 1 _ rfl
  have hlen := h.len
  obtain ⟨va, vc, hv⟩ := h.sl.form
  rw [intL_length] at hv
  have hcell : ∀ j (hj : j < L.length), ∃ g off, va = some ⟨g, off, none⟩ ∧ w.cell? ⟨g, off + j, none⟩ = some (.int .i64 L[j]) := fun j hj => by
    obtain ⟨g, off, cap, hv2, hc⟩ := h.sl.cell j (by rw [intL_length]; exact hj)
    rw [hv] at hv2
    injection hv2 with hv2
    exact ⟨g, off, hv2, by rw [hc]; simp [intL]⟩
  subst hv
  have HC := hide hcell
  have HZ := hide hz
  have HN := hide hno
  have HI := hide h.inside
  clear h hcell hz hno
  go_enter Try.func14, Try.ntmps14
  go_wp2_with fail
  go_loopg [7, 15] L.length (fun g s7 s15 wr => ∃ j : Nat, s15 = .int .i64 j ∧ j + g = L.length ∧ wr = w)
  case atStart => exact ⟨0, rfl, by omega, rfl⟩
  case round =>
    obtain ⟨j, rfl, hj, rfl⟩ := hrel
    by_cases hlt : j < L.length
    · obtain ⟨g, off, rfl, cz⟩ := HC.out j hlt
      obtain ⟨x, hx⟩ : ∃ x, x = L[j] := ⟨_, rfl⟩
      have hxm : x ∈ L := by rw [hx]; exact List.getElem_mem _
      rw [← hx] at cz
      have hx0 := (HI.out x hxm).1
      have hxn := HN.out x hxm
      clear hx hxm
      by_cases hxl : x < z.length
      · have hxz : x.toNat < z.length := by omega
        obtain ⟨rg, roff, rfl, rz⟩ := HZ.out x.toNat hxz
        have hzf : z[x.toNat] = false := by
          unfold rdy at hxn
          rw [List.getD, List.getElem?_eq_getElem hxz] at hxn
          exact hxn
        rw [hzf] at rz
        clear hzf hxn hxz
        go_wp2_with fail
        go_roundg (gk - 1)
        case measure => omega
        case rel => exact ⟨j + 1, by go_num, by omega, rfl⟩
      · have hxl2 : decide (x < (z.length : Int)) = false := by simpa using hxl
        clear hxn hxl
        go_wp2_with fail
        go_roundg (gk - 1)
        case measure => omega
        case rel => exact ⟨j + 1, by go_num, by omega, rfl⟩
    · go_wp2_with fail
      go_ret2
      exact ⟨rfl, rfl⟩

theorem next_some {w : World} {base p : Nat} {n : Int} {v : Value} {L A B M : List Int} {x : Int} (h : Wheel w base p n v L) (a : Option Addr) (c : Nat) (z : List Bool) (hz : IsRdy w a z) (hbase : base ≤ w.heap.size)
    (hL : L = A ++ x :: B) (hM : M = A ++ B) (hA : ∀ y ∈ A, rdy z y = false) (hx : rdy z x = true) :
    Calls Try.prog 14 #[.pointer (some ⟨p, 0, none⟩), .slice a z.length c] w fun e w' => e = .returned (.tuple #[.int .i64 x, .bool true]) ∧ ∃ v', Wheel w' base p n v' (M ++ [x]) ∧ Only (p :: slB v) w w' ∧ (∀ k ∈ slB v', k ∈ slB v ∨ w.heap.size ≤ k) := by
  have c1 := h.blk.cellv 1 _ rfl
  have hlen := h.len
  obtain ⟨va, vc, hv⟩ := h.sl.form
  rw [intL_length] at hv
  have hcell : ∀ j (hj : j < L.length), ∃ g off, va = some ⟨g, off, none⟩ ∧ w.cell? ⟨g, off + j, none⟩ = some (.int .i64 L[j]) := fun j hj => by
    obtain ⟨g, off, cap, hv2, hc⟩ := h.sl.cell j (by rw [intL_length]; exact hj)
    rw [hv] at hv2
    injection hv2 with hv2
    exact ⟨g, off, hv2, by rw [hc]; simp [intL]⟩
  subst hv
  have HC := hide hcell
  have HZ := hide hz
  have HA := hide hA
  have HX := hide hx
  have HI := hide h.inside
  have HR := hide (remove_yes h x (by rw [hL]; simp))
  have hxA : x ∉ A := fun hm => by rw [HA.out x hm] at hx; cases hx
  have her : L.erase x = M := by rw [hM, hL, List.erase_append_right _ hxA, List.erase_cons_head]
  have hxin : 0 ≤ x ∧ x < n := h.inside x (by rw [hL]; simp)
  have hxAB : x ∉ M := by
    rw [hM]
    have := h.nodup
    rw [hL] at this
    intro hm
    rcases List.mem_append.1 hm with hm | hm
    · exact hxA hm
    · have := (List.nodup_append.1 this).2.1
      exact (List.nodup_cons.1 this).1 hm
  have hlenE : M.length ≤ 100 := by have := congrArg List.length hL; rw [hM]; simp at this ⊢; omega
  have hAL : A.length < L.length := by rw [hL]; simp
  have hLA : L[A.length] = x := by subst hL; simp
  have hLlt : ∀ j (hj : j < L.length) (hja : j < A.length), L[j] ∈ A := fun j hj hja => by
    subst hL
    rw [List.getElem_append_left hja]
    exact List.getElem_mem _
  have HLA := hide (And.intro hLA hLlt)
  have HAB := hide hxAB
  have hxi0 := hxin.1
  have hxin2 := hide hxin.2
  rw [her] at HR
  clear h hcell hz hA hx hxA her hxin hxAB hLA hLlt hL hM
  go_enter Try.func14, Try.ntmps14
  go_wp2_with fail
  go_loopg [7, 15] (A.length + 1) (fun g s7 s15 wr => ∃ j : Nat, s15 = .int .i64 j ∧ j + g = A.length + 1 ∧ 0 < g ∧ wr = w)
  case atStart => exact ⟨0, rfl, by omega, by omega, rfl⟩
  case round =>
    obtain ⟨j, rfl, hj, hg0, rfl⟩ := hrel
    have hlt : j < L.length := by omega
    obtain ⟨g, off, rfl, cz⟩ := HC.out j hlt
    by_cases hja : j < A.length
    · obtain ⟨y, hy⟩ : ∃ y, y = L[j] := ⟨_, rfl⟩
      have hym : y ∈ A := by rw [hy]; exact HLA.out.2 j hlt hja
      rw [← hy] at cz
      have hy0 := (HI.out y (by rw [hy]; exact List.getElem_mem _)).1
      have hyn := HA.out y hym
      clear hy hym
      by_cases hyl : y < z.length
      · have hyz : y.toNat < z.length := by omega
        obtain ⟨rg, roff, rfl, rz⟩ := HZ.out y.toNat hyz
        have hzf : z[y.toNat] = false := by
          unfold rdy at hyn
          rw [List.getD, List.getElem?_eq_getElem hyz] at hyn
          exact hyn
        rw [hzf] at rz
        clear hzf hyn hyz
        go_wp2_with fail
        go_roundg (gk - 1)
        case measure => omega
        case rel => exact ⟨j + 1, by go_num, by omega, by omega, rfl⟩
      · have hyl2 : decide (y < (z.length : Int)) = false := by simpa using hyl
        clear hyn hyl
        go_wp2_with fail
        go_roundg (gk - 1)
        case measure => omega
        case rel => exact ⟨j + 1, by go_num, by omega, by omega, rfl⟩
    · have hjA : j = A.length := by omega
      subst hjA
      rw [HLA.out.1] at cz
      have hxz : x.toNat < z.length := by
        have := HX.out
        unfold rdy at this
        rcases Nat.lt_or_ge x.toNat z.length with h | h
        · exact h
        · rw [List.getD, List.getElem?_eq_none h] at this; cases this
      have hxl : x < z.length := by omega
      obtain ⟨rg, roff, rfl, rz⟩ := HZ.out x.toNat hxz
      have hzf : z[x.toNat] = true := by
        have := HX.out
        unfold rdy at this
        rw [List.getD, List.getElem?_eq_getElem hxz] at this
        exact this
      rw [hzf] at rz
      clear hzf hxz
      go_wp2_with fail
      (with_reducible refine (unhide HR).mono ?_)
      rintro e w2 ⟨rfl, v2, hw2, ho2, hs2⟩
      have e1 := hw2.blk.cellv 1 _ rfl
      have HW := hide hw2
      have HO := hide hw2.out
      have hb2 : base ≤ w2.heap.size := Nat.le_trans hbase ho2.size
      clear hw2
      go_wp2_with (at_builtin; refine wpList_append_sl rfl (.tmp 36) (.tmp 38) 26 rfl base 3 (.int .i64 0) 8 Try.underlying26 info_int rfl v2 (intL M) rfl (HW.out.sl.alloc _) w2.heap.size (.int .i64 x) rfl (Blk.cell (Blk.new _ _ _) 0) rfl (by rw [intL_length]; unfold maxLen; omega) (by rw [intL_length]; omega) (by simp; omega) ?_; intro v' w1 hown1 ho1 hfresh; obtain ⟨a', c', rfl⟩ := hown1.form; have hb1 := ho1.blk (HW.out.blk.alloc _) HO.out; have d0 := hb1.cellv 0 _ rfl; have d1 := hb1.cellv 1 _ rfl; have g0 := hb1.frozen 0; have g1 := hb1.frozen 1)
      go_ret2
      have e1 : (intL M ++ [Value.int .i64 x]).length = (intL M).length + 1 := by simp
      rw [e1] at hown1 hfresh
      have hpn := hown1.notBlk hb1 (by decide)
      refine ⟨rfl, .slice a' ((intL M).length + 1) c', ⟨?_, ?_, HW.out.n0, HW.out.n100, ?_, ?_⟩, ?_, ?_⟩
      · exact hb1.set_ 1 _
      · rw [intL_append]
        exact hown1.far (p := ⟨p, 1, none⟩) hpn _
      · intro y hy
        rcases List.mem_append.1 hy with hy | hy
        · exact HW.out.inside y hy
        · rw [List.mem_singleton.1 hy]; exact ⟨hxi0, hxin2.out⟩
      · exact List.nodup_append.2 ⟨HW.out.nodup, by simp, fun a ha b hb => by rintro rfl; simp at hb; subst hb; exact HAB.out ha⟩
      · exact (ho2.trans (((Only.refl _ _).alloc _).trans (ho1.mono (fun k hk => by rw [hs2] at hk; exact List.mem_cons_of_mem _ hk)))).setCell (by simp) _
      · intro k hk
        rcases hfresh k hk with h | h
        · exact .inl (by rw [hs2] at h; exact h)
        · exact .inr (by have := ho2.size; simp at h; omega)

/-- The wheel at p, for n, has the list L; all of it lies from B on. -/
def Wh (w : World) (B p : Nat) (n : Int) (L : List Int) : Prop := B ≤ p ∧ ∃ v, Wheel w B p n v L
/-- Whose turn it is, and what is there then. -/
def turn (z : List Bool) : List Int → Option Int
  | [] => none
  | x :: L => if rdy z x then some x else turn z L
theorem turn_none {z : List Bool} : ∀ {L : List Int}, turn z L = none → ∀ x ∈ L, rdy z x = false
  | [], _, x, hx => by cases hx
  | y :: L, h, x, hx => by
    unfold turn at h
    by_cases hy : rdy z y = true
    · rw [if_pos hy] at h; cases h
    · rw [if_neg hy] at h
      rcases List.mem_cons.1 hx with rfl | hx
      · simpa using hy
      · exact turn_none h x hx
theorem turn_some {z : List Bool} {x : Int} : ∀ {L : List Int}, turn z L = some x → ∃ A B, L = A ++ x :: B ∧ (∀ y ∈ A, rdy z y = false) ∧ rdy z x = true
  | [], h => by cases h
  | y :: L, h => by
    unfold turn at h
    by_cases hy : rdy z y = true
    · rw [if_pos hy] at h
      cases h
      exact ⟨[], L, rfl, (fun _ h => by cases h), hy⟩
    · rw [if_neg hy] at h
      obtain ⟨A, B, rfl, h1, h2⟩ := turn_some h
      exact ⟨y :: A, B, rfl, fun a ha => by
        rcases List.mem_cons.1 ha with rfl | ha
        · simpa using hy
        · exact h1 a ha, h2⟩
def after (z : List Bool) (L : List Int) : List Int := match turn z L with
  | none => L
  | some x => L.erase x ++ [x]
section
variable {w w' : World} {B p : Nat} {n : Int} {L : List Int}
theorem Wh.lt (h : Wh w B p n L) : B ≤ w.heap.size := by obtain ⟨h1, v, h⟩ := h; have := h.lt; omega
theorem Wh.plt (h : Wh w B p n L) : p < w.heap.size := by obtain ⟨h1, v, h⟩ := h; exact h.lt
theorem Wh.below {C : World} (h : Wh w B p n L) (hb : Below w.heap.size w C) : Wh C B p n L := by
  obtain ⟨h1, v, h⟩ := h
  exact ⟨h1, v, h.below hb⟩
theorem Wh.drewN (h : Wh w B p n L) (m : Nat) : Wh (w.drewN m) B p n L := h.below (below_drewN (Below.refl _ _) m)
theorem Wh.drew (h : Wh w B p n L) : Wh w.drew B p n L := h.below (Below.refl _ _).drew
theorem Wh.alloc (h : Wh w B p n L) (o : Obj) : Wh (w.alloc o) B p n L := h.below ((Below.refl _ _).alloc (Nat.le_refl _) _)
theorem Wh.nodup (h : Wh w B p n L) : L.Nodup := by obtain ⟨h1, v, h⟩ := h; exact h.nodup
theorem Wh.inside (h : Wh w B p n L) : ∀ x ∈ L, 0 ≤ x ∧ x < n := by obtain ⟨h1, v, h⟩ := h; exact h.inside
theorem Wh.len (h : Wh w B p n L) : L.length ≤ 100 := by obtain ⟨h1, v, h⟩ := h; exact h.len
theorem new_Wh (ni : Int) (n : Int) (hn : n = min (max ni 0) 100) (hB : B ≤ w.heap.size) :
    Calls Try.prog 10 #[.int .i64 ni] w fun e w' => ∃ p, e = .returned (.pointer (some ⟨p, 0, none⟩)) ∧ Wh w' B p n [] ∧ Below w.heap.size w w' := by
  refine (new_any ni n hn w).mono fun e w' h => ⟨_, h.1, ?_, ?_⟩
  · rw [h.2]; exact ⟨hB, _, wheel_new w B n (by omega) (by omega)⟩
  · rw [h.2]; exact (Below.refl _ _).alloc (Nat.le_refl _) _
theorem add_Wh (h : Wh w B p n L) (id : Int) (r : Bool) (hr : r = decide (0 ≤ id ∧ id < n ∧ id ∉ L)) (L2 : List Int) (hL2 : L2 = if r = true then L ++ [id] else L) :
    Calls Try.prog 12 #[.pointer (some ⟨p, 0, none⟩), .int .i64 id] w fun e w' => e = .returned (.bool r) ∧ Wh w' B p n L2 ∧ Below B w w' := by
  have hB := h.lt
  obtain ⟨h1, v, h⟩ := h
  by_cases hc : 0 ≤ id ∧ id < n ∧ id ∉ L
  · have hr' : r = true := by rw [hr]; simpa using hc
    subst hr'
    rw [if_pos rfl] at hL2
    subst hL2
    exact (add_yes h id hc.1 hc.2.1 hc.2.2 hB).mono fun e w' ⟨he, v', hq, ho, _⟩ => ⟨he, ⟨h1, v', hq⟩, h.only_below ho hB h1 (Nat.le_refl _)⟩
  · have hr' : r = false := by rw [hr]; simpa using hc
    subst hr'
    rw [if_neg (by simp)] at hL2
    subst hL2
    exact (add_no h id (by
      by_cases ha : id < 0
      · exact .inl ha
      · by_cases hb : n ≤ id
        · exact .inr (.inl hb)
        · exact .inr (.inr (Classical.byContradiction fun hm => hc ⟨by omega, by omega, hm⟩)))).mono fun e w' ⟨he, hw⟩ => ⟨he, by rw [hw]; exact ⟨h1, v, h⟩, by rw [hw]; exact Below.refl _ _⟩
theorem rem_Wh (h : Wh w B p n L) (id : Int) (r : Bool) (hr : r = decide (id ∈ L)) (L2 : List Int) (hL2 : L2 = L.erase id) :
    Calls Try.prog 13 #[.pointer (some ⟨p, 0, none⟩), .int .i64 id] w fun e w' => e = .returned (.bool r) ∧ Wh w' B p n L2 ∧ Below B w w' := by
  have hB := h.lt
  obtain ⟨h1, v, h⟩ := h
  subst hL2
  by_cases hc : id ∈ L
  · have hr' : r = true := by rw [hr]; simpa using hc
    subst hr'
    exact (remove_yes h id hc).mono fun e w' ⟨he, v', hq, ho, _⟩ => ⟨he, ⟨h1, v', hq⟩, h.only_below ho hB h1 (Nat.le_refl _)⟩
  · have hr' : r = false := by rw [hr]; simpa using hc
    subst hr'
    rw [List.erase_of_not_mem hc]
    exact (remove_no h id hc).mono fun e w' ⟨he, hw⟩ => ⟨he, by rw [hw]; exact ⟨h1, v, h⟩, by rw [hw]; exact Below.refl _ _⟩
theorem next_Wh (h : Wh w B p n L) (a : Option Addr) (c : Nat) (z : List Bool) (hz : IsRdy w a z) (x : Int) (r : Bool) (hx : (turn z L = none ∧ x = 0 ∧ r = false) ∨ (turn z L = some x ∧ r = true)) (L2 : List Int) (hL2 : L2 = after z L) (zl : Nat) (hzl2 : zl = z.length) :
    Calls Try.prog 14 #[.pointer (some ⟨p, 0, none⟩), .slice a zl c] w fun e w' => e = .returned (.tuple #[.int .i64 x, .bool r]) ∧ Wh w' B p n L2 ∧ Below B w w' := by
  have hB := h.lt
  subst hzl2
  obtain ⟨h1, v, h⟩ := h
  rcases hx with ⟨ht, rfl, rfl⟩ | ⟨ht, rfl⟩
  · have : L2 = L := by rw [hL2, after, ht]
    subst this
    exact (next_none h a c z hz (turn_none ht)).mono fun e w' ⟨he, hw⟩ => ⟨he, by rw [hw]; exact ⟨h1, v, h⟩, by rw [hw]; exact Below.refl _ _⟩
  · obtain ⟨A, C, hL, hA, hx⟩ := turn_some ht
    have hxA : x ∉ A := fun hm => by rw [hA x hm] at hx; cases hx
    have her : L.erase x = A ++ C := by rw [hL, List.erase_append_right _ hxA, List.erase_cons_head]
    have : L2 = (A ++ C) ++ [x] := by rw [hL2, after, ht, ← her]
    subst this
    exact (next_some h a c z hz hB hL rfl hA hx).mono fun e w' ⟨he, v', hq, ho, _⟩ => ⟨he, ⟨h1, v', hq⟩, h.only_below ho hB h1 (Nat.le_refl _)⟩
theorem all_Wh (h : Wh w B p n L) :
    Calls Try.prog 15 #[.pointer (some ⟨p, 0, none⟩)] w fun e w' => ∃ a c, e = .returned (.slice a L.length c) ∧ w'.ownsRow w.heap.size 3 1 (.slice a L.length c) L.length (intL L) ∧ Wh w' B p n L ∧ Below w.heap.size w w' := by
  have h' := h
  obtain ⟨h1, v, h⟩ := h
  refine (all_any h).mono fun e w' ⟨v', he, hr, hb⟩ => ?_
  obtain ⟨a, c, hv⟩ := (Sl.of_row hr).form
  rw [intL_length] at hv
  subst hv
  exact ⟨a, c, he, hr, h'.below hb, hb⟩
end
end Go.Proofs.Ytlkedcdhboahbaa
