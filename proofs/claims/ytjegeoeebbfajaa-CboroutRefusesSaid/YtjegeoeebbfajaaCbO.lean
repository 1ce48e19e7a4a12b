/-
  The reference's plain parts (truchmanref1.plain, to Cbor), and the reference's writer in memory.
-/
import Derived.Test.YtjegeoeebbfajaaCbN
namespace Go.Proofs.Ytjegeoeebbfajaa
open Go.RowKit

set_option maxRecDepth 100000 in
set_option maxHeartbeats 1000000 in
theorem refplain_any (e : EvM) (pt : Part) (hp : e.part = some pt) (hb : pt.isBegin = false) (hc : pt.isClose = false) (hok : e.ok) (hm64 : Hid (e.m < 18446744073709551616)) (r : List UInt8) (hr : r = plainB pt) (w : World) :
    Calls Try.prog 31 #[.int .i64 2, .agg e.cells] w fun x w' => x = .returned (.tuple #[.string (S r), .int .i64 0]) ∧ Below w.heap.size w w' := by
  obtain ⟨k, y, m, l, c⟩ := e
  simp only [EvM.part] at hp
  simp only [EvM.cells, evV]
  unfold partOf at hp
  by_cases h0 : k = 0
  · rw [if_pos h0] at hp
    injection hp with hp
    subst h0 hp hr
    unfold plainB
    go_enter Try.func31, Try.ntmps31
    go_wp2_with fail
    go_ret2
    exact ⟨rfl, Below.more (Below.refl _ _) (Nat.le_refl _) _⟩
  rw [if_neg h0] at hp
  by_cases h1 : k = 1
  · rw [if_pos h1] at hp
    injection hp with hp
    subst h1 hp hr
    unfold plainB
    cases y with
    | true =>
      go_enter Try.func31, Try.ntmps31
      go_wp2_with fail
      go_ret2
      exact ⟨rfl, Below.more (Below.refl _ _) (Nat.le_refl _) _⟩
    | false =>
      go_enter Try.func31, Try.ntmps31
      go_wp2_with fail
      go_ret2
      exact ⟨rfl, Below.more (Below.refl _ _) (Nat.le_refl _) _⟩
  rw [if_neg h1] at hp
  by_cases h2 : k = 2
  · rw [if_pos h2] at hp
    injection hp with hp
    subst h2 hp
    obtain ⟨n, rfl⟩ := Int.eq_ofNat_of_zero_le (show 0 ≤ m from hok.1)
    cases y with
    | true =>
      have HP := fun W => hide (refhead_any 1 n W (S r) (by rw [hr]; rfl) (hide (by have := hm64.out; simp only at this; omega)))
      clear hr hok hm64
      go_enter Try.func31, Try.ntmps31
      go_wp2_with fail
      (with_reducible refine (unhide (HP _)).mono ?_)
      rintro e w1 ⟨rfl, ho1⟩
      go_wp2_with fail
      go_ret2
      exact ⟨rfl, (Below.more (Below.refl _ _) (Nat.le_refl _) _).trans (ho1.nil_below.mono (by simp))⟩
    | false =>
      have HP := fun W => hide (refhead_any 0 n W (S r) (by rw [hr]; rfl) (hide (by have := hm64.out; simp only at this; omega)))
      clear hr hok hm64
      go_enter Try.func31, Try.ntmps31
      go_wp2_with fail
      (with_reducible refine (unhide (HP _)).mono ?_)
      rintro e w1 ⟨rfl, ho1⟩
      go_wp2_with fail
      go_ret2
      exact ⟨rfl, (Below.more (Below.refl _ _) (Nat.le_refl _) _).trans (ho1.nil_below.mono (by simp))⟩
  rw [if_neg h2] at hp
  have hwr2 := hm64
  clear hm64
  by_cases h3 : k = 3
  · rw [if_pos h3] at hp
    injection hp with hp
    subst h3 hp
    have hll : l.length ≤ 1000000 := hok.2.1
    have hll2 : (l.length : Int) ≤ 1000000 := by omega
    have hwr : IntKind.u64.wrap (l.length : Int) = l.length := by rw [IntKind.wrap_u64]; omega
    obtain ⟨h, hh⟩ : ∃ h, h = putL 3 l.length := ⟨_, rfl⟩
    have hhl : h.length ≤ 9 := by rw [hh]; exact putL_length _ _
    have hrr : r = h ++ l := by rw [hr, hh]; rfl
    have hadd := run_add_S (P := Try.prog) h l (by omega)
    rw [← hrr] at hadd
    have HP := fun W => hide (refhead_any 3 l.length W (S h) (by rw [hh]) (hide (by omega)))
    have bx := (Blk.new w 34 #[.int .i64 3, .bool y, .int .u64 m, .string (S l), .int .i64 c])
    clear hr hrr hh hok hll hwr2
    go_enter Try.func31, Try.ntmps31
    go_wp2_with fail
    have c3 := bx.drew.cellv 3 _ rfl
    refine wp_region_tree (fun W => W.cell? ⟨w.heap.size, 3, none⟩ = some (.string (S l))) 10 (.take [0, 1, 2, 3, 5, 6] (.step 4 (.step 7 (.step 8 (.step 9 (.fin)))))) (by kernel_rfl) (by kernel_rfl) (by intro _ _ _ _ _ h; exact h) ?_
    refine wpTree_take (c3) ?_
    simp only [opsAt, List.getElem?_cons_zero, List.getElem?_cons_succ]
    first | (refine wpPureH_step (v := ?_) rfl (fun W hS => ?_) ?_; rotate_left; · (obtain s1 := hS; (try simp only [Act.put, List.setIfInBounds_toArray, List.set_cons_zero, List.set_cons_succ]); go_simp; with_reducible rfl)) | (refine wpPureH_want (v := ?_) (by rfl) (fun W hS => ?_) ?_; rotate_left; · (obtain s1 := hS; (try simp only [Act.put, List.setIfInBounds_toArray, List.set_cons_zero, List.set_cons_succ]); go_simp; with_reducible rfl))
    first | (refine wpPureH_step (v := ?_) rfl (fun W hS => ?_) ?_; rotate_left; · (obtain s1 := hS; (try simp only [Act.put, List.setIfInBounds_toArray, List.set_cons_zero, List.set_cons_succ]); go_simp; with_reducible rfl)) | (refine wpPureH_want (v := ?_) (by rfl) (fun W hS => ?_) ?_; rotate_left; · (obtain s1 := hS; (try simp only [Act.put, List.setIfInBounds_toArray, List.set_cons_zero, List.set_cons_succ]); go_simp; with_reducible rfl))
    first | (refine wpPureH_step (v := ?_) rfl (fun W hS => ?_) ?_; rotate_left; · (obtain s1 := hS; (try simp only [Act.put, List.setIfInBounds_toArray, List.set_cons_zero, List.set_cons_succ]); go_simp; with_reducible rfl)) | (refine wpPureH_want (v := ?_) (by rfl) (fun W hS => ?_) ?_; rotate_left; · (obtain s1 := hS; (try simp only [Act.put, List.setIfInBounds_toArray, List.set_cons_zero, List.set_cons_succ]); go_simp; with_reducible rfl))
    first | (refine wpPureH_step (v := ?_) rfl (fun W hS => ?_) ?_; rotate_left; · (obtain s1 := hS; (try simp only [Act.put, List.setIfInBounds_toArray, List.set_cons_zero, List.set_cons_succ]); go_simp; with_reducible rfl)) | (refine wpPureH_want (v := ?_) (by rfl) (fun W hS => ?_) ?_; rotate_left; · (obtain s1 := hS; (try simp only [Act.put, List.setIfInBounds_toArray, List.set_cons_zero, List.set_cons_succ]); go_simp; with_reducible rfl))
    first | (refine wpPureH_step (v := ?_) rfl (fun W hS => ?_) ?_; rotate_left; · (obtain s1 := hS; (try simp only [Act.put, List.setIfInBounds_toArray, List.set_cons_zero, List.set_cons_succ]); go_simp; with_reducible rfl)) | (refine wpPureH_want (v := ?_) (by rfl) (fun W hS => ?_) ?_; rotate_left; · (obtain s1 := hS; (try simp only [Act.put, List.setIfInBounds_toArray, List.set_cons_zero, List.set_cons_succ]); go_simp; with_reducible rfl))
    first | (refine wpPureH_step (v := ?_) rfl (fun W hS => ?_) ?_; rotate_left; · (obtain s1 := hS; (try simp only [Act.put, List.setIfInBounds_toArray, List.set_cons_zero, List.set_cons_succ]); go_simp; with_reducible rfl)) | (refine wpPureH_want (v := ?_) (by rfl) (fun W hS => ?_) ?_; rotate_left; · (obtain s1 := hS; (try simp only [Act.put, List.setIfInBounds_toArray, List.set_cons_zero, List.set_cons_succ]); go_simp; with_reducible rfl))
    refine wpPureH_nil ?_
    simp only [Act.put, List.setIfInBounds_toArray, List.set_cons_zero, List.set_cons_succ]
    refine wpTree_step ?_
    simp only [opsAt, List.getElem?_cons_zero, List.getElem?_cons_succ]
    go_wp2_with fail
    (with_reducible refine (unhide (HP _)).mono ?_)
    rintro e w1 ⟨rfl, ho1⟩
    have c4 := (ho1.nil_below.cell (p := ⟨w.heap.size, 3, none⟩) (by simp)).trans c3
    have HB := hide (((Below.more (Below.refl _ _) (Nat.le_refl _) _)).drew.trans (ho1.nil_below.mono (by simp)))
    clear c3 bx ho1
    go_wp2_with fail
    refine ⟨.inr c4, ?_⟩
    refine wpTree_step ?_
    simp only [opsAt, List.getElem?_cons_zero, List.getElem?_cons_succ]
    go_wp2_with fail
    refine ⟨.inr (c4), ?_⟩
    refine wpTree_step ?_
    simp only [opsAt, List.getElem?_cons_zero, List.getElem?_cons_succ]
    go_wp2_with fail
    refine ⟨.inr (c4), ?_⟩
    refine wpTree_step ?_
    simp only [opsAt, List.getElem?_cons_zero, List.getElem?_cons_succ]
    go_wp2_with fail
    refine ⟨.inr (c4), ?_⟩
    refine wpTree_fin ?_
    go_wp2_with fail
    go_ret2
    exact ⟨rfl, HB.out⟩
  rw [if_neg h3] at hp
  by_cases h4 : k = 4
  · rw [if_pos h4] at hp
    injection hp with hp
    subst h4 hp
    have hll : l.length ≤ 1000000 := hok.2.1
    have hll2 : (l.length : Int) ≤ 1000000 := by omega
    have hwr : IntKind.u64.wrap (l.length : Int) = l.length := by rw [IntKind.wrap_u64]; omega
    obtain ⟨h, hh⟩ : ∃ h, h = putL 2 l.length := ⟨_, rfl⟩
    have hhl : h.length ≤ 9 := by rw [hh]; exact putL_length _ _
    have hrr : r = h ++ l := by rw [hr, hh]; rfl
    have hadd := run_add_S (P := Try.prog) h l (by omega)
    rw [← hrr] at hadd
    have HP := fun W => hide (refhead_any 2 l.length W (S h) (by rw [hh]) (hide (by omega)))
    have bx := (Blk.new w 34 #[.int .i64 4, .bool y, .int .u64 m, .string (S l), .int .i64 c])
    clear hr hrr hh hok hll hwr2
    go_enter Try.func31, Try.ntmps31
    go_wp2_with fail
    have c3 := bx.drew.cellv 3 _ rfl
    refine wp_region_tree (fun W => W.cell? ⟨w.heap.size, 3, none⟩ = some (.string (S l))) 10 (.take [0, 1, 2, 3, 5, 6] (.step 4 (.step 7 (.step 8 (.step 9 (.fin)))))) (by kernel_rfl) (by kernel_rfl) (by intro _ _ _ _ _ h; exact h) ?_
    refine wpTree_take (c3) ?_
    simp only [opsAt, List.getElem?_cons_zero, List.getElem?_cons_succ]
    first | (refine wpPureH_step (v := ?_) rfl (fun W hS => ?_) ?_; rotate_left; · (obtain s1 := hS; (try simp only [Act.put, List.setIfInBounds_toArray, List.set_cons_zero, List.set_cons_succ]); go_simp; with_reducible rfl)) | (refine wpPureH_want (v := ?_) (by rfl) (fun W hS => ?_) ?_; rotate_left; · (obtain s1 := hS; (try simp only [Act.put, List.setIfInBounds_toArray, List.set_cons_zero, List.set_cons_succ]); go_simp; with_reducible rfl))
    first | (refine wpPureH_step (v := ?_) rfl (fun W hS => ?_) ?_; rotate_left; · (obtain s1 := hS; (try simp only [Act.put, List.setIfInBounds_toArray, List.set_cons_zero, List.set_cons_succ]); go_simp; with_reducible rfl)) | (refine wpPureH_want (v := ?_) (by rfl) (fun W hS => ?_) ?_; rotate_left; · (obtain s1 := hS; (try simp only [Act.put, List.setIfInBounds_toArray, List.set_cons_zero, List.set_cons_succ]); go_simp; with_reducible rfl))
    first | (refine wpPureH_step (v := ?_) rfl (fun W hS => ?_) ?_; rotate_left; · (obtain s1 := hS; (try simp only [Act.put, List.setIfInBounds_toArray, List.set_cons_zero, List.set_cons_succ]); go_simp; with_reducible rfl)) | (refine wpPureH_want (v := ?_) (by rfl) (fun W hS => ?_) ?_; rotate_left; · (obtain s1 := hS; (try simp only [Act.put, List.setIfInBounds_toArray, List.set_cons_zero, List.set_cons_succ]); go_simp; with_reducible rfl))
    first | (refine wpPureH_step (v := ?_) rfl (fun W hS => ?_) ?_; rotate_left; · (obtain s1 := hS; (try simp only [Act.put, List.setIfInBounds_toArray, List.set_cons_zero, List.set_cons_succ]); go_simp; with_reducible rfl)) | (refine wpPureH_want (v := ?_) (by rfl) (fun W hS => ?_) ?_; rotate_left; · (obtain s1 := hS; (try simp only [Act.put, List.setIfInBounds_toArray, List.set_cons_zero, List.set_cons_succ]); go_simp; with_reducible rfl))
    first | (refine wpPureH_step (v := ?_) rfl (fun W hS => ?_) ?_; rotate_left; · (obtain s1 := hS; (try simp only [Act.put, List.setIfInBounds_toArray, List.set_cons_zero, List.set_cons_succ]); go_simp; with_reducible rfl)) | (refine wpPureH_want (v := ?_) (by rfl) (fun W hS => ?_) ?_; rotate_left; · (obtain s1 := hS; (try simp only [Act.put, List.setIfInBounds_toArray, List.set_cons_zero, List.set_cons_succ]); go_simp; with_reducible rfl))
    first | (refine wpPureH_step (v := ?_) rfl (fun W hS => ?_) ?_; rotate_left; · (obtain s1 := hS; (try simp only [Act.put, List.setIfInBounds_toArray, List.set_cons_zero, List.set_cons_succ]); go_simp; with_reducible rfl)) | (refine wpPureH_want (v := ?_) (by rfl) (fun W hS => ?_) ?_; rotate_left; · (obtain s1 := hS; (try simp only [Act.put, List.setIfInBounds_toArray, List.set_cons_zero, List.set_cons_succ]); go_simp; with_reducible rfl))
    refine wpPureH_nil ?_
    simp only [Act.put, List.setIfInBounds_toArray, List.set_cons_zero, List.set_cons_succ]
    refine wpTree_step ?_
    simp only [opsAt, List.getElem?_cons_zero, List.getElem?_cons_succ]
    go_wp2_with fail
    (with_reducible refine (unhide (HP _)).mono ?_)
    rintro e w1 ⟨rfl, ho1⟩
    have c4 := (ho1.nil_below.cell (p := ⟨w.heap.size, 3, none⟩) (by simp)).trans c3
    have HB := hide (((Below.more (Below.refl _ _) (Nat.le_refl _) _)).drew.trans (ho1.nil_below.mono (by simp)))
    clear c3 bx ho1
    go_wp2_with fail
    refine ⟨.inr c4, ?_⟩
    refine wpTree_step ?_
    simp only [opsAt, List.getElem?_cons_zero, List.getElem?_cons_succ]
    go_wp2_with fail
    refine ⟨.inr (c4), ?_⟩
    refine wpTree_step ?_
    simp only [opsAt, List.getElem?_cons_zero, List.getElem?_cons_succ]
    go_wp2_with fail
    refine ⟨.inr (c4), ?_⟩
    refine wpTree_step ?_
    simp only [opsAt, List.getElem?_cons_zero, List.getElem?_cons_succ]
    go_wp2_with fail
    refine ⟨.inr (c4), ?_⟩
    refine wpTree_fin ?_
    go_wp2_with fail
    go_ret2
    exact ⟨rfl, HB.out⟩
  rw [if_neg h4] at hp
  exfalso
  split at hp
  · split at hp
    · cases hp
    · injection hp with hp
      subst hp
      simp [Part.isBegin] at hb
  · split at hp
    · injection hp with hp
      subst hp
      simp [Part.isClose] at hc
    · cases hp
end Go.Proofs.Ytjegeoeebbfajaa
