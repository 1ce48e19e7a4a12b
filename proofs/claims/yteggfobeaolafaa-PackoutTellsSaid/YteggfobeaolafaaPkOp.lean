/-
  The reference's plain parts (truchmanref1.plain, to Pack).
-/
import Derived.Test.YteggfobeaolafaaPkOw
namespace Go.Proofs.Yteggfobeaolafaa
open Go.RowKit Instr

set_option maxRecDepth 100000 in
set_option maxHeartbeats 1000000 in
theorem refplain_any (e : EvM) (pt : Part) (hp : e.part = some pt) (hb : pt.isBegin = false) (hc : pt.isClose = false) (hok : e.ok) (r : List UInt8) (kk : Int) (hr : (r, kk) = plainR pt) (w : World) :
    Calls Try.prog 30 #[.int .i64 3, .agg e.cells] w fun x w' => x = .returned (.tuple #[.string (S r), .int .i64 kk]) ∧ Below w.heap.size w w' := by
  obtain ⟨k, y, m, l, c⟩ := e
  simp only [EvM.part] at hp
  simp only [EvM.cells, evV]
  unfold partOf at hp
  by_cases h0 : k = 0
  · rw [if_pos h0] at hp
    injection hp with hp
    subst h0 hp
    simp only [plainR] at hr
    injection hr with e1 e2
    subst e1 e2
    go_enter Try.func30, Try.ntmps30
    go_wp2_with fail
    go_ret2
    exact ⟨rfl, Below.more (Below.refl _ _) (Nat.le_refl _) _⟩
  rw [if_neg h0] at hp
  by_cases h1 : k = 1
  · rw [if_pos h1] at hp
    injection hp with hp
    subst h1 hp
    simp only [plainR] at hr
    injection hr with e1 e2
    subst e1 e2
    cases y with
    | true =>
      go_enter Try.func30, Try.ntmps30
      go_wp2_with fail
      go_ret2
      exact ⟨rfl, Below.more (Below.refl _ _) (Nat.le_refl _) _⟩
    | false =>
      go_enter Try.func30, Try.ntmps30
      go_wp2_with fail
      go_ret2
      exact ⟨rfl, Below.more (Below.refl _ _) (Nat.le_refl _) _⟩
  rw [if_neg h1] at hp
  by_cases h2 : k = 2
  · rw [if_pos h2] at hp
    injection hp with hp
    subst h2 hp
    obtain ⟨n, rfl⟩ := Int.eq_ofNat_of_zero_le (show 0 ≤ m from hok.1)
    have h64 : Hid (n < 18446744073709551616) := hide (by have := hok.2.2.2; simp only at this; omega)
    have HP := fun W => hide (refwhole_any 2 y n l c n rfl h64 r kk hr W)
    clear hr hok
    go_enter Try.func30, Try.ntmps30
    go_wp2_with fail
    (with_reducible refine (unhide (HP _)).mono ?_)
    rintro e w1 ⟨rfl, hb1⟩
    go_wp2_with fail
    go_ret2
    exact ⟨rfl, (Below.more (Below.refl _ _) (Nat.le_refl _) _).trans (hb1.mono (by simp))⟩
  rw [if_neg h2] at hp
  by_cases h3 : k = 3
  · rw [if_pos h3] at hp
    injection hp with hp
    subst h3 hp
    simp only [plainR] at hr
    injection hr with e1 e2
    subst e2
    have hll : l.length ≤ 1000000 := hok.2.1
    have hll2 : (l.length : Int) ≤ 1000000 := by omega
    have hwr : IntKind.u64.wrap (l.length : Int) = l.length := by rw [IntKind.wrap_u64]; omega
    unfold wordB at e1
    by_cases h5 : l.length < 32
    · rw [if_pos h5] at e1
      have d1 : decide ((l.length : Int) < 32) = true := decide_eq_true (by omega)
      have hcv := run_string_one (P := Try.prog) Try.underlying59 Try.underlying5 Try.underlying9 (160 + l.length) (by omega) (160 + (l.length : Int)) (by push_cast; rfl)
      obtain ⟨h, hh⟩ : ∃ h, h = bigL (160 + l.length) 1 := ⟨_, rfl⟩
      rw [← hh] at hcv e1
      have hhl : h.length = 1 := by rw [hh]; simp
      have hw8 : IntKind.u8.wrap (160 + (l.length : Int)) = 160 + (l.length : Int) := by rw [IntKind.wrap_u8]; omega
      have hadd := run_add_S (P := Try.prog) h l (by omega)
      rw [← e1] at hadd
      clear e1 hh hhl h5 hok
      go_enter Try.func30, Try.ntmps30
      go_wp2_with fail
      go_ret2
      exact ⟨rfl, by repeat refine Below.more ?_ (Nat.le_refl _) _
                     exact Below.refl _ _⟩
    · rw [if_neg h5] at e1
      have d1 : decide ((l.length : Int) < 32) = false := decide_eq_false (by omega)
      clear h5
      obtain ⟨h, hh⟩ : ∃ h, h = sizedL 217 0 [1, 2, 4] l.length := ⟨_, rfl⟩
      rw [← hh] at e1
      have hhl : h.length ≤ 9 := by rw [hh]; exact sizedL_length _ _ _ _ (by simp)
      have hadd := run_add_S (P := Try.prog) h l (by omega)
      rw [← e1] at hadd
      have hhl2 : h = lenL 217 218 219 l.length := by rw [hh, sized_len3 _ _ (by omega) (by omega)]
      have HP := fun W => hide (reflen_any 217 218 219 l.length (by omega) (by omega) (by omega) l.length 217 218 219 rfl rfl rfl rfl (hide (by omega)) W h hhl2)
      have bx := (Blk.new w 34 #[.int .i64 3, .bool y, .int .u64 m, .string (S l), .int .i64 c])
      clear e1 hh hhl hhl2 hok hll
      go_enter Try.func30, Try.ntmps30
      go_wp2_with fail
      have c3 := bx.drew.cellv 3 _ rfl
      refine wp_region_tree (fun W => W.cell? ⟨w.heap.size, 3, none⟩ = some (.string (S l))) 10 (.take [0, 1, 2, 3, 5, 6] (.step 4 (.step 7 (.step 8 (.step 9 (.fin)))))) (by kernel_rfl) (by kernel_rfl) (by intro _ _ _ _ _ h; exact h) ?_
      refine wpTree_take (c3) ?_
      simp only [opsAt, List.getElem?_cons_zero, List.getElem?_cons_succ]
      first | (refine wpPureH_step (v := ?_) rfl (fun W hS => ?_) ?_; rotate_left; · (obtain s1 := hS; (try simp only [Act.put, List.setIfInBounds_toArray, List.set_cons_zero, List.set_cons_succ]); go_simp; with_reducible rfl)) | (refine wpPureH_want (v := ?_) (by rfl) (fun W hS => ?_) ?_; rotate_left; · (obtain s1 := hS; (try simp only [Act.put, List.setIfInBounds_toArray, List.set_cons_zero, List.set_cons_succ]); go_simp; with_reducible rfl))
      first | (refine wpPureH_step (v := ?_) rfl (fun W hS => ?_) ?_; rotate_left; · (obtain s1 := hS; (try simp only [Act.put, List.setIfInBounds_toArray, List.set_cons_zero, List.set_cons_succ]); go_simp; with_reducible rfl)) | (refine wpPureH_want (v := ?_) (by rfl) (fun W hS => ?_) ?_; rotate_left; · (obtain s1 := hS; (try simp only [Act.put, List.setIfInBounds_toArray, List.set_cons_zero, List.set_cons_succ]); go_simp; with_reducible rfl))
      first | (refine wpPureH_step (v := ?_) rfl (fun W hS => ?_) ?_; rotate_left; · (obtain s1 := hS; (try simp only [Act.put, List.setIfInBounds_toArray, List.set_cons_zero, List.set_cons_succ]); go_simp; with_reducible rfl)) | (refine wpPureH_want (v := ?_) (by rfl) (fun W hS => ?_) ?_; rotate_left; · (obtain s1 := hS; (try simp only [Act.put, List.setIfInBounds_toArray, List.set_cons_zero, List.set_cons_succ]); go_simp; with_reducible rfl))
      first | (refine wpPureH_step (v := ?_) rfl (fun W hS => ?_) ?_; rotate_left; · (obtain s1 := hS; (try simp only [Act.put, List.setIfInBounds_toArray, List.set_cons_zero, List.set_cons_succ]); go_simp; with_reducible rfl)) | (refine wpPureH_want (v := ?_) (by rfl) (fun W hS => ?_) ?_; rotate_left; · (obtain s1 := hS; (try simp only [Act.put, List.setIfInBounds_toArray, List.set_cons_zero, List.set_cons_succ]); go_simp; with_reducible rfl))
      first | (refine wpPureH_step (v := ?_) rfl (fun W hS => ?_) ?_; rotate_left; · (obtain s1 := hS; (try simp only [Act.put, List.setIfInBounds_toArray, List.set_cons_zero, List.set_cons_succ]); go_simp; with_reducible rfl)) | (refine wpPureH_want (v := ?_) (by rfl) (fun W hS => ?_) ?_; rotate_left; · (obtain s1 := hS; (try simp only [Act.put, List.setIfInBounds_toArray, List.set_cons_zero, List.set_cons_succ]); go_simp; with_reducible rfl))
      first | (refine wpPureH_step (v := ?_) rfl (fun W hS => ?_) ?_; rotate_left; · (obtain s1 := hS; (try simp only [Act.put, List.setIfInBounds_toArray, List.set_cons_zero, List.set_cons_succ]); go_simp; with_reducible rfl)) | (refine wpPureH_want (v := ?_) (by rfl) (fun W hS => ?_) ?_; rotate_left; · (obtain s1 := hS; (try simp only [Act.put, List.setIfInBounds_toArray, List.set_cons_zero, List.set_cons_succ]); go_simp; with_reducible rfl))
      refine wpPureH_nil ?_
      simp only [Act.put, List.setIfInBounds_toArray, List.set_cons_zero, List.set_cons_succ]
      refine wpTree_step ?_
      simp only [opsAt, List.getElem?_cons_zero, List.getElem?_cons_succ]
      go_wp2_with fail
      (with_reducible refine (unhide (HP _)).mono ?_)
      rintro e w1 ⟨rfl, ho1⟩
      have c4 := (ho1.nil_below.cell (p := ⟨w.heap.size, 3, none⟩) (by simp)).trans c3
      have HB := hide (((Below.more (Below.refl _ _) (Nat.le_refl _) _)).drew.trans (ho1.nil_below.mono (by simp)))
      clear c3 bx ho1
      go_wp2_with fail
      refine ⟨.inr c4, ?_⟩
      refine wpTree_step ?_
      simp only [opsAt, List.getElem?_cons_zero, List.getElem?_cons_succ]
      go_wp2_with fail
      refine ⟨.inr (c4), ?_⟩
      refine wpTree_step ?_
      simp only [opsAt, List.getElem?_cons_zero, List.getElem?_cons_succ]
      go_wp2_with fail
      refine ⟨.inr (c4), ?_⟩
      refine wpTree_step ?_
      simp only [opsAt, List.getElem?_cons_zero, List.getElem?_cons_succ]
      go_wp2_with fail
      refine ⟨.inr (c4), ?_⟩
      refine wpTree_fin ?_
      go_wp2_with fail
      go_ret2
      exact ⟨rfl, HB.out⟩
  rw [if_neg h3] at hp
  by_cases h4 : k = 4
  · rw [if_pos h4] at hp
    injection hp with hp
    subst h4 hp
    simp only [plainR] at hr
    injection hr with e1 e2
    subst e2
    have hll : l.length ≤ 1000000 := hok.2.1
    have hll2 : (l.length : Int) ≤ 1000000 := by omega
    have hwr : IntKind.u64.wrap (l.length : Int) = l.length := by rw [IntKind.wrap_u64]; omega
    obtain ⟨h, hh⟩ : ∃ h, h = sizedL 196 0 [1, 2, 4] l.length := ⟨_, rfl⟩
    rw [← hh] at e1
    have hhl : h.length ≤ 9 := by rw [hh]; exact sizedL_length _ _ _ _ (by simp)
    have hadd := run_add_S (P := Try.prog) h l (by omega)
    rw [← e1] at hadd
    have hhl2 : h = lenL 196 197 198 l.length := by rw [hh, sized_len3 _ _ (by omega) (by omega)]
    have HP := fun W => hide (reflen_any 196 197 198 l.length (by omega) (by omega) (by omega) l.length 196 197 198 rfl rfl rfl rfl (hide (by omega)) W h hhl2)
    have bx := (Blk.new w 34 #[.int .i64 4, .bool y, .int .u64 m, .string (S l), .int .i64 c])
    clear e1 hh hhl hhl2 hok hll
    go_enter Try.func30, Try.ntmps30
    go_wp2_with fail
    have c3 := bx.drew.cellv 3 _ rfl
    refine wp_region_tree (fun W => W.cell? ⟨w.heap.size, 3, none⟩ = some (.string (S l))) 10 (.take [0, 1, 2, 3, 5, 6] (.step 4 (.step 7 (.step 8 (.step 9 (.fin)))))) (by kernel_rfl) (by kernel_rfl) (by intro _ _ _ _ _ h; exact h) ?_
    refine wpTree_take (c3) ?_
    simp only [opsAt, List.getElem?_cons_zero, List.getElem?_cons_succ]
    first | (refine wpPureH_step (v := ?_) rfl (fun W hS => ?_) ?_; rotate_left; · (obtain s1 := hS; (try simp only [Act.put, List.setIfInBounds_toArray, List.set_cons_zero, List.set_cons_succ]); go_simp; with_reducible rfl)) | (refine wpPureH_want (v := ?_) (by rfl) (fun W hS => ?_) ?_; rotate_left; · (obtain s1 := hS; (try simp only [Act.put, List.setIfInBounds_toArray, List.set_cons_zero, List.set_cons_succ]); go_simp; with_reducible rfl))
    first | (refine wpPureH_step (v := ?_) rfl (fun W hS => ?_) ?_; rotate_left; · (obtain s1 := hS; (try simp only [Act.put, List.setIfInBounds_toArray, List.set_cons_zero, List.set_cons_succ]); go_simp; with_reducible rfl)) | (refine wpPureH_want (v := ?_) (by rfl) (fun W hS => ?_) ?_; rotate_left; · (obtain s1 := hS; (try simp only [Act.put, List.setIfInBounds_toArray, List.set_cons_zero, List.set_cons_succ]); go_simp; with_reducible rfl))
    first | (refine wpPureH_step (v := ?_) rfl (fun W hS => ?_) ?_; rotate_left; · (obtain s1 := hS; (try simp only [Act.put, List.setIfInBounds_toArray, List.set_cons_zero, List.set_cons_succ]); go_simp; with_reducible rfl)) | (refine wpPureH_want (v := ?_) (by rfl) (fun W hS => ?_) ?_; rotate_left; · (obtain s1 := hS; (try simp only [Act.put, List.setIfInBounds_toArray, List.set_cons_zero, List.set_cons_succ]); go_simp; with_reducible rfl))
    first | (refine wpPureH_step (v := ?_) rfl (fun W hS => ?_) ?_; rotate_left; · (obtain s1 := hS; (try simp only [Act.put, List.setIfInBounds_toArray, List.set_cons_zero, List.set_cons_succ]); go_simp; with_reducible rfl)) | (refine wpPureH_want (v := ?_) (by rfl) (fun W hS => ?_) ?_; rotate_left; · (obtain s1 := hS; (try simp only [Act.put, List.setIfInBounds_toArray, List.set_cons_zero, List.set_cons_succ]); go_simp; with_reducible rfl))
    first | (refine wpPureH_step (v := ?_) rfl (fun W hS => ?_) ?_; rotate_left; · (obtain s1 := hS; (try simp only [Act.put, List.setIfInBounds_toArray, List.set_cons_zero, List.set_cons_succ]); go_simp; with_reducible rfl)) | (refine wpPureH_want (v := ?_) (by rfl) (fun W hS => ?_) ?_; rotate_left; · (obtain s1 := hS; (try simp only [Act.put, List.setIfInBounds_toArray, List.set_cons_zero, List.set_cons_succ]); go_simp; with_reducible rfl))
    first | (refine wpPureH_step (v := ?_) rfl (fun W hS => ?_) ?_; rotate_left; · (obtain s1 := hS; (try simp only [Act.put, List.setIfInBounds_toArray, List.set_cons_zero, List.set_cons_succ]); go_simp; with_reducible rfl)) | (refine wpPureH_want (v := ?_) (by rfl) (fun W hS => ?_) ?_; rotate_left; · (obtain s1 := hS; (try simp only [Act.put, List.setIfInBounds_toArray, List.set_cons_zero, List.set_cons_succ]); go_simp; with_reducible rfl))
    refine wpPureH_nil ?_
    simp only [Act.put, List.setIfInBounds_toArray, List.set_cons_zero, List.set_cons_succ]
    refine wpTree_step ?_
    simp only [opsAt, List.getElem?_cons_zero, List.getElem?_cons_succ]
    go_wp2_with fail
    (with_reducible refine (unhide (HP _)).mono ?_)
    rintro e w1 ⟨rfl, ho1⟩
    have c4 := (ho1.nil_below.cell (p := ⟨w.heap.size, 3, none⟩) (by simp)).trans c3
    have HB := hide (((Below.more (Below.refl _ _) (Nat.le_refl _) _)).drew.trans (ho1.nil_below.mono (by simp)))
    clear c3 bx ho1
    go_wp2_with fail
    refine ⟨.inr c4, ?_⟩
    refine wpTree_step ?_
    simp only [opsAt, List.getElem?_cons_zero, List.getElem?_cons_succ]
    go_wp2_with fail
    refine ⟨.inr (c4), ?_⟩
    refine wpTree_step ?_
    simp only [opsAt, List.getElem?_cons_zero, List.getElem?_cons_succ]
    go_wp2_with fail
    refine ⟨.inr (c4), ?_⟩
    refine wpTree_step ?_
    simp only [opsAt, List.getElem?_cons_zero, List.getElem?_cons_succ]
    go_wp2_with fail
    refine ⟨.inr (c4), ?_⟩
    refine wpTree_fin ?_
    go_wp2_with fail
    go_ret2
    exact ⟨rfl, HB.out⟩
  rw [if_neg h4] at hp
  exfalso
  split at hp
  · split at hp
    · cases hp
    · injection hp with hp
      subst hp
      simp [Part.isBegin] at hb
  · split at hp
    · injection hp with hp
      subst hp
      simp [Part.isClose] at hc
    · cases hp
end Go.Proofs.Yteggfobeaolafaa
