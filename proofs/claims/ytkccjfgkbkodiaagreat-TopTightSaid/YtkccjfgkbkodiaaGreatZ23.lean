/-
  HelB: parts of the walk of TopTight, under no condition.
-/
import Derived.Test.YtkccjfgkbkodiaaGreatZ22
namespace Go.Proofs.YtkccjfgkbkodiaaGreat
open Go.RowKit
set_option maxRecDepth 100000 in
set_option maxHeartbeats 8000000 in
set_option linter.unusedSimpArgs false in
theorem put_any {d s : Nat} (hd1 : 1 ≤ d) (hd2 : d ≤ 16) (hs : s ≤ 2000) (w : World) :
    Calls Tryz.prog 9 #[setV 1 3 d s 0] w fun e w' => e = .returned (.tuple #[.string (S (hp d s)), .bool true]) ∧ Only [] w w' := by
  have HR := fun W => hide (right_js hd1 hd2 hs W)
  have HB2 := fun W => hide (big_at (s : Int) 2 s 2 rfl rfl (by omega) (by omega) [UInt8.ofNat (s / 256), UInt8.ofNat (s % 256)] (by
    simp only [bigL]
    rw [show s / 2 ^ (8 * 0) = s by simp]
    congr 2
    apply UInt8.toNat_inj.1
    simp) W)
  have HB1 := fun W => hide (big_at 0 1 0 1 rfl rfl (by omega) (by omega) [0] rfl W)
  obtain ⟨l3, h3⟩ : ∃ l3, l3 = [1, 3, UInt8.ofNat d] := ⟨_, rfl⟩
  obtain ⟨l5, h5⟩ : ∃ l5, l5 = [84, 82] ++ l3 := ⟨_, rfl⟩
  obtain ⟨b2, hb2⟩ : ∃ b2, b2 = [UInt8.ofNat (s / 256), UInt8.ofNat (s % 256)] := ⟨_, rfl⟩
  obtain ⟨b1, hb1⟩ : ∃ b1 : List UInt8, b1 = [0] := ⟨_, rfl⟩
  have h33 : l3.length = 3 := by rw [h3]; rfl
  have hbv : bytesV l3 = #[.int .u8 1, .int .u8 3, .int .u8 d] := by
    rw [h3]
    have : ((UInt8.ofNat d).toNat : Int) = (d : Int) := by simp; omega
    simp only [bytesV, List.map_cons, List.map_nil, this]
    rfl
  have hl : hp d s = l5 ++ b2 ++ b1 := by rw [h5, h3, hb2, hb1]; rfl
  rw [← hb2] at HB2
  rw [← hb1] at HB1
  have HA1 := fun W => run_add_S (P := Tryz.prog) [84, 82] l3 (by simp; omega) W
  rw [show S [84, 82] = ⟨#[84, 82]⟩ from rfl, ← h5] at HA1
  have HA2 := fun W => run_add_S (P := Tryz.prog) l5 b2 (by rw [h5, hb2]; simp; omega) W
  have HA3 := fun W => run_add_S (P := Tryz.prog) (l5 ++ b2) b1 (by rw [h5, hb2, hb1]; simp; omega) W
  rw [hl]
  generalize l5 ++ b2 ++ b1 = l8 at HA3 ⊢
  generalize l5 ++ b2 = l7 at HA2 HA3
  have H3 := hide hbv.symm
  have H33 := hide h33
  have w1' : IntKind.u8.wrap 1 = 1 := rfl
  have w3' : IntKind.u8.wrap 3 = 3 := rfl
  have wd' : IntKind.u8.wrap (d : Int) = d := by show (d : Int) % 256 = d; omega
  have ws' : IntKind.u64.wrap (s : Int) = s := by show (s : Int) % 18446744073709551616 = s; omega
  have w0' : IntKind.u64.wrap 0 = 0 := rfl
  have WW := hide (And.intro w1' (And.intro w3' (And.intro wd' (And.intro ws' w0'))))
  clear h3 h5 hb2 hb1 h33 hbv hl hd1 hd2 hs w1' w3' wd' ws' w0'
  unfold setV at HR ⊢
  go_enter Tryz.func9, Tryz.ntmps9
  go_wp2_with fail
  (with_reducible refine (unhide (HR _)).mono ?_)
  rintro e w1 ⟨rfl, ho1⟩
  have HO0 := hide (((Only.refl [] w).alloc (.cells #[.int .i64 1, .int .i64 3, .int .i64 d, .int .i64 s, .int .i64 0] 29)).trans ho1)
  have HS0 : Blk w1 w.heap.size 29 #[.int .i64 1, .int .i64 3, .int .i64 d, .int .i64 s, .int .i64 0] := ho1.blk (Blk.new w _ _) (by simp)
  have HSD : Blk w1.drew w.heap.size 29 #[.int .i64 1, .int .i64 3, .int .i64 d, .int .i64 s, .int .i64 0] := HS0
  clear ho1 HR
  have c0 : w1.cell? ⟨w.heap.size, 0, none⟩ = some (.int .i64 1) := HS0.cellv 0 _ rfl
  go_upto_region 3 with (fail)
  have C5 : ∀ W, Blk W w.heap.size 29 #[.int .i64 1, .int .i64 3, .int .i64 d, .int .i64 s, .int .i64 0] → (W.cell? ⟨w.heap.size, 0, none⟩ = some (.int .i64 1) ∧ W.cell? ⟨w.heap.size, 1, none⟩ = some (.int .i64 3) ∧ W.cell? ⟨w.heap.size, 2, none⟩ = some (.int .i64 d) ∧ W.cell? ⟨w.heap.size, 3, none⟩ = some (.int .i64 s) ∧ W.cell? ⟨w.heap.size, 4, none⟩ = some (.int .i64 0)) := fun W h => ⟨h.cellv 0 _ rfl, h.cellv 1 _ rfl, h.cellv 2 _ rfl, h.cellv 3 _ rfl, h.cellv 4 _ rfl⟩
  refine wp_region_tree (fun W => (W.cell? ⟨w.heap.size, 0, none⟩ = some (.int .i64 1) ∧ W.cell? ⟨w.heap.size, 1, none⟩ = some (.int .i64 3) ∧ W.cell? ⟨w.heap.size, 2, none⟩ = some (.int .i64 d) ∧ W.cell? ⟨w.heap.size, 3, none⟩ = some (.int .i64 s) ∧ W.cell? ⟨w.heap.size, 4, none⟩ = some (.int .i64 0))) 23 (OT.take [0,1,2,3,4,5,6,7,8,12,13,14,17,18,19] (OT.two 9 (OT.two 10 (OT.two 11 (OT.step 15 (OT.two 16 (OT.step 20 (OT.step 21 (OT.step 22 (OT.step 23 OT.fin)))) 20 (OT.step 16 (OT.step 21 (OT.step 22 (OT.step 23 OT.fin)))))) 15 (OT.two 11 (OT.two 16 (OT.step 20 (OT.step 21 (OT.step 22 (OT.step 23 OT.fin)))) 20 (OT.step 16 (OT.step 21 (OT.step 22 (OT.step 23 OT.fin))))) 20 (OT.step 11 (OT.step 16 (OT.step 21 (OT.step 22 (OT.step 23 OT.fin))))))) 15 (OT.two 10 (OT.two 11 (OT.two 16 (OT.step 20 (OT.step 21 (OT.step 22 (OT.step 23 OT.fin)))) 20 (OT.step 16 (OT.step 21 (OT.step 22 (OT.step 23 OT.fin))))) 20 (OT.step 11 (OT.step 16 (OT.step 21 (OT.step 22 (OT.step 23 OT.fin)))))) 20 (OT.step 10 (OT.step 11 (OT.step 16 (OT.step 21 (OT.step 22 (OT.step 23 OT.fin)))))))) 15 (OT.two 9 (OT.two 10 (OT.two 11 (OT.two 16 (OT.step 20 (OT.step 21 (OT.step 22 (OT.step 23 OT.fin)))) 20 (OT.step 16 (OT.step 21 (OT.step 22 (OT.step 23 OT.fin))))) 20 (OT.step 11 (OT.step 16 (OT.step 21 (OT.step 22 (OT.step 23 OT.fin)))))) 20 (OT.step 10 (OT.step 11 (OT.step 16 (OT.step 21 (OT.step 22 (OT.step 23 OT.fin))))))) 20 (OT.step 9 (OT.step 10 (OT.step 11 (OT.step 16 (OT.step 21 (OT.step 22 (OT.step 23 OT.fin)))))))))) (by kernel_rfl) (by kernel_rfl) (by intro _ _ _ _ _ h; exact h) ?_
  refine wpTree_take ((C5 _ HSD)) ?_
  simp only [opsAt, List.getElem?_cons_zero, List.getElem?_cons_succ]
  iterate 15 (first | (refine wpPureH_step (v := ?_) rfl (fun W hS => ?_) ?_; rotate_left; · (obtain ⟨s0, s1, s2, s3, s4⟩ := hS; (try simp only [Act.put, List.setIfInBounds_toArray, List.set_cons_zero, List.set_cons_succ]); go_simp; with_reducible rfl)) | (refine wpPureH_want (v := ?_) (by rfl) (fun W hS => ?_) ?_; rotate_left; · (obtain ⟨s0, s1, s2, s3, s4⟩ := hS; (try simp only [Act.put, List.setIfInBounds_toArray, List.set_cons_zero, List.set_cons_succ]); go_simp; with_reducible rfl)))
  refine wpPureH_nil ?_
  simp only [Act.put, List.setIfInBounds_toArray, List.set_cons_zero, List.set_cons_succ]
  obtain ⟨w1', w3', wd', ws', w0'⟩ := WW.out
  simp only [w1', w3', wd', ws', w0']
  clear w1' w3' wd' ws' w0' c0
  refine wpTree_two ?_ ?_
  · skip
    have hs1 : Blk (w1.alloc (.cells #[.int .u8 1, .int .u8 3, .int .u8 d] 5)).drew w.heap.size 29 #[.int .i64 1, .int .i64 3, .int .i64 d, .int .i64 s, .int .i64 0] := HS0.alloc (.cells #[.int .u8 1, .int .u8 3, .int .u8 d] 5)
    have hb1 : Blk (w1.alloc (.cells #[.int .u8 1, .int .u8 3, .int .u8 d] 5)).drew w1.heap.size 5 #[.int .u8 1, .int .u8 3, .int .u8 d] := Blk.new _ _ _
    refine wpTree_step ?_
    simp only [opsAt, List.getElem?_cons_zero, List.getElem?_cons_succ]
    go_wp2_with fail
    refine ⟨.inr (C5 _ hs1), ?_⟩
    refine wpTree_two ?_ ?_
    · skip
      have hl2 : Blk (w1.alloc (.cells #[.int .u8 1, .int .u8 3, .int .u8 d] 5)).drew w1.heap.size 5 (bytesV l3) := by rw [← H3.out]; exact hb1
      have hc2 : (convert 63 9 (.slice (some ⟨w1.heap.size, 0, none⟩) 3 3)).run Tryz.prog (w1.alloc (.cells #[.int .u8 1, .int .u8 3, .int .u8 d] 5)).drew = .ok (.string (S l3)) (w1.alloc (.cells #[.int .u8 1, .int .u8 3, .int .u8 d] 5)).drew := run_string_blk (l := l3) Tryz.underlying63 Tryz.underlying5 Tryz.underlying9 hl2 3 3 H33.out
      clear hl2
      refine wpTree_step ?_
      simp only [opsAt, List.getElem?_cons_zero, List.getElem?_cons_succ]
      go_wp2_with fail
      refine ⟨.inr (C5 _ hs1), ?_⟩
      clear hc2
      refine wpTree_two ?_ ?_
      · skip
        refine wpTree_step ?_
        simp only [opsAt, List.getElem?_cons_zero, List.getElem?_cons_succ]
        go_wp2_with fail
        refine ⟨.inr (C5 _ hs1), ?_⟩
        refine wpTree_step ?_
        simp only [opsAt, List.getElem?_cons_zero, List.getElem?_cons_succ]
        go_wp2_with fail
        (with_reducible refine (unhide (HB2 _)).mono ?_)
        rintro e x4 ⟨rfl, ho4⟩
        have hs4 : Blk x4 w.heap.size 29 #[.int .i64 1, .int .i64 3, .int .i64 d, .int .i64 s, .int .i64 0] := ho4.blk hs1 (by simp)
        have hb4 := ho4.blk hb1 (by simp)
        go_wp2_with fail
        refine ⟨.inr (C5 _ hs4), ?_⟩
        refine wpTree_two ?_ ?_
        · skip
          refine wpTree_step ?_
          simp only [opsAt, List.getElem?_cons_zero, List.getElem?_cons_succ]
          go_wp2_with fail
          refine ⟨.inr (C5 _ hs4), ?_⟩
          refine wpTree_step ?_
          simp only [opsAt, List.getElem?_cons_zero, List.getElem?_cons_succ]
          go_wp2_with fail
          (with_reducible refine (unhide (HB1 _)).mono ?_)
          rintro e x6 ⟨rfl, ho6⟩
          have hs6 : Blk x6 w.heap.size 29 #[.int .i64 1, .int .i64 3, .int .i64 d, .int .i64 s, .int .i64 0] := ho6.blk hs4 (by simp)
          have hb6 := ho6.blk hb4 (by simp)
          go_wp2_with fail
          refine ⟨.inr (C5 _ hs6), ?_⟩
          refine wpTree_step ?_
          simp only [opsAt, List.getElem?_cons_zero, List.getElem?_cons_succ]
          go_wp2_with fail
          refine ⟨.inr (C5 _ hs6), ?_⟩
          refine wpTree_step ?_
          simp only [opsAt, List.getElem?_cons_zero, List.getElem?_cons_succ]
          go_wp2_with fail
          refine ⟨.inr (C5 _ hs6), ?_⟩
          refine wpTree_step ?_
          simp only [opsAt, List.getElem?_cons_zero, List.getElem?_cons_succ]
          go_wp2_with fail
          refine ⟨.inl trivial, wpTree_fin ?_⟩
          go_wp2_with fail
          go_ret2
          exact ⟨rfl, (((HO0.out.drew).alloc (.cells #[.int .u8 1, .int .u8 3, .int .u8 d] 5)).trans ho4).trans ho6⟩
        · skip
          refine wpTree_step ?_
          simp only [opsAt, List.getElem?_cons_zero, List.getElem?_cons_succ]
          go_wp2_with fail
          (with_reducible refine (unhide (HB1 _)).mono ?_)
          rintro e x8 ⟨rfl, ho8⟩
          have hs8 : Blk x8 w.heap.size 29 #[.int .i64 1, .int .i64 3, .int .i64 d, .int .i64 s, .int .i64 0] := ho8.blk hs4 (by simp)
          have hb8 := ho8.blk hb4 (by simp)
          go_wp2_with fail
          refine ⟨.inr (C5 _ hs8), ?_⟩
          refine wpTree_step ?_
          simp only [opsAt, List.getElem?_cons_zero, List.getElem?_cons_succ]
          go_wp2_with fail
          refine ⟨.inr (C5 _ hs8), ?_⟩
          refine wpTree_step ?_
          simp only [opsAt, List.getElem?_cons_zero, List.getElem?_cons_succ]
          go_wp2_with fail
          refine ⟨.inr (C5 _ hs8), ?_⟩
          refine wpTree_step ?_
          simp only [opsAt, List.getElem?_cons_zero, List.getElem?_cons_succ]
          go_wp2_with fail
          refine ⟨.inr (C5 _ hs8), ?_⟩
          refine wpTree_step ?_
          simp only [opsAt, List.getElem?_cons_zero, List.getElem?_cons_succ]
          go_wp2_with fail
          refine ⟨.inl trivial, wpTree_fin ?_⟩
          go_wp2_with fail
          go_ret2
          exact ⟨rfl, (((HO0.out.drew).alloc (.cells #[.int .u8 1, .int .u8 3, .int .u8 d] 5)).trans ho4).trans ho8⟩
      · skip
        refine wpTree_step ?_
        simp only [opsAt, List.getElem?_cons_zero, List.getElem?_cons_succ]
        go_wp2_with fail
        (with_reducible refine (unhide (HB2 _)).mono ?_)
        rintro e x11 ⟨rfl, ho11⟩
        have hs11 : Blk x11 w.heap.size 29 #[.int .i64 1, .int .i64 3, .int .i64 d, .int .i64 s, .int .i64 0] := ho11.blk hs1 (by simp)
        have hb11 := ho11.blk hb1 (by simp)
        go_wp2_with fail
        refine ⟨.inr (C5 _ hs11), ?_⟩
        refine wpTree_two ?_ ?_
        · skip
          refine wpTree_step ?_
          simp only [opsAt, List.getElem?_cons_zero, List.getElem?_cons_succ]
          go_wp2_with fail
          refine ⟨.inr (C5 _ hs11), ?_⟩
          refine wpTree_two ?_ ?_
          · skip
            refine wpTree_step ?_
            simp only [opsAt, List.getElem?_cons_zero, List.getElem?_cons_succ]
            go_wp2_with fail
            refine ⟨.inr (C5 _ hs11), ?_⟩
            refine wpTree_step ?_
            simp only [opsAt, List.getElem?_cons_zero, List.getElem?_cons_succ]
            go_wp2_with fail
            (with_reducible refine (unhide (HB1 _)).mono ?_)
            rintro e x14 ⟨rfl, ho14⟩
            have hs14 : Blk x14 w.heap.size 29 #[.int .i64 1, .int .i64 3, .int .i64 d, .int .i64 s, .int .i64 0] := ho14.blk hs11 (by simp)
            have hb14 := ho14.blk hb11 (by simp)
            go_wp2_with fail
            refine ⟨.inr (C5 _ hs14), ?_⟩
            refine wpTree_step ?_
            simp only [opsAt, List.getElem?_cons_zero, List.getElem?_cons_succ]
            go_wp2_with fail
            refine ⟨.inr (C5 _ hs14), ?_⟩
            refine wpTree_step ?_
            simp only [opsAt, List.getElem?_cons_zero, List.getElem?_cons_succ]
            go_wp2_with fail
            refine ⟨.inr (C5 _ hs14), ?_⟩
            refine wpTree_step ?_
            simp only [opsAt, List.getElem?_cons_zero, List.getElem?_cons_succ]
            go_wp2_with fail
            refine ⟨.inl trivial, wpTree_fin ?_⟩
            go_wp2_with fail
            go_ret2
            exact ⟨rfl, (((HO0.out.drew).alloc (.cells #[.int .u8 1, .int .u8 3, .int .u8 d] 5)).trans ho11).trans ho14⟩
          · skip
            refine wpTree_step ?_
            simp only [opsAt, List.getElem?_cons_zero, List.getElem?_cons_succ]
            go_wp2_with fail
            (with_reducible refine (unhide (HB1 _)).mono ?_)
            rintro e x16 ⟨rfl, ho16⟩
            have hs16 : Blk x16 w.heap.size 29 #[.int .i64 1, .int .i64 3, .int .i64 d, .int .i64 s, .int .i64 0] := ho16.blk hs11 (by simp)
            have hb16 := ho16.blk hb11 (by simp)
            go_wp2_with fail
            refine ⟨.inr (C5 _ hs16), ?_⟩
            refine wpTree_step ?_
            simp only [opsAt, List.getElem?_cons_zero, List.getElem?_cons_succ]
            go_wp2_with fail
            refine ⟨.inr (C5 _ hs16), ?_⟩
            refine wpTree_step ?_
            simp only [opsAt, List.getElem?_cons_zero, List.getElem?_cons_succ]
            go_wp2_with fail
            refine ⟨.inr (C5 _ hs16), ?_⟩
            refine wpTree_step ?_
            simp only [opsAt, List.getElem?_cons_zero, List.getElem?_cons_succ]
            go_wp2_with fail
            refine ⟨.inr (C5 _ hs16), ?_⟩
            refine wpTree_step ?_
            simp only [opsAt, List.getElem?_cons_zero, List.getElem?_cons_succ]
            go_wp2_with fail
            refine ⟨.inl trivial, wpTree_fin ?_⟩
            go_wp2_with fail
            go_ret2
            exact ⟨rfl, (((HO0.out.drew).alloc (.cells #[.int .u8 1, .int .u8 3, .int .u8 d] 5)).trans ho11).trans ho16⟩
        · skip
          refine wpTree_step ?_
          simp only [opsAt, List.getElem?_cons_zero, List.getElem?_cons_succ]
          go_wp2_with fail
          (with_reducible refine (unhide (HB1 _)).mono ?_)
          rintro e x19 ⟨rfl, ho19⟩
          have hs19 : Blk x19 w.heap.size 29 #[.int .i64 1, .int .i64 3, .int .i64 d, .int .i64 s, .int .i64 0] := ho19.blk hs11 (by simp)
          have hb19 := ho19.blk hb11 (by simp)
          go_wp2_with fail
          refine ⟨.inr (C5 _ hs19), ?_⟩
          refine wpTree_step ?_
          simp only [opsAt, List.getElem?_cons_zero, List.getElem?_cons_succ]
          go_wp2_with fail
          refine ⟨.inr (C5 _ hs19), ?_⟩
          refine wpTree_step ?_
          simp only [opsAt, List.getElem?_cons_zero, List.getElem?_cons_succ]
          go_wp2_with fail
          refine ⟨.inr (C5 _ hs19), ?_⟩
          refine wpTree_step ?_
          simp only [opsAt, List.getElem?_cons_zero, List.getElem?_cons_succ]
          go_wp2_with fail
          refine ⟨.inr (C5 _ hs19), ?_⟩
          refine wpTree_step ?_
          simp only [opsAt, List.getElem?_cons_zero, List.getElem?_cons_succ]
          go_wp2_with fail
          refine ⟨.inr (C5 _ hs19), ?_⟩
          refine wpTree_step ?_
          simp only [opsAt, List.getElem?_cons_zero, List.getElem?_cons_succ]
          go_wp2_with fail
          refine ⟨.inl trivial, wpTree_fin ?_⟩
          go_wp2_with fail
          go_ret2
          exact ⟨rfl, (((HO0.out.drew).alloc (.cells #[.int .u8 1, .int .u8 3, .int .u8 d] 5)).trans ho11).trans ho19⟩
    · skip
      refine wpTree_step ?_
      simp only [opsAt, List.getElem?_cons_zero, List.getElem?_cons_succ]
      go_wp2_with fail
      (with_reducible refine (unhide (HB2 _)).mono ?_)
      rintro e x23 ⟨rfl, ho23⟩
      have hs23 : Blk x23 w.heap.size 29 #[.int .i64 1, .int .i64 3, .int .i64 d, .int .i64 s, .int .i64 0] := ho23.blk hs1 (by simp)
      have hb23 := ho23.blk hb1 (by simp)
      go_wp2_with fail
      refine ⟨.inr (C5 _ hs23), ?_⟩
      refine wpTree_two ?_ ?_
      · skip
        have hl24 : Blk x23 w1.heap.size 5 (bytesV l3) := by rw [← H3.out]; exact hb23
        have hc24 : (convert 63 9 (.slice (some ⟨w1.heap.size, 0, none⟩) 3 3)).run Tryz.prog x23 = .ok (.string (S l3)) x23 := run_string_blk (l := l3) Tryz.underlying63 Tryz.underlying5 Tryz.underlying9 hl24 3 3 H33.out
        clear hl24
        refine wpTree_step ?_
        simp only [opsAt, List.getElem?_cons_zero, List.getElem?_cons_succ]
        go_wp2_with fail
        refine ⟨.inr (C5 _ hs23), ?_⟩
        clear hc24
        refine wpTree_two ?_ ?_
        · skip
          refine wpTree_step ?_
          simp only [opsAt, List.getElem?_cons_zero, List.getElem?_cons_succ]
          go_wp2_with fail
          refine ⟨.inr (C5 _ hs23), ?_⟩
          refine wpTree_two ?_ ?_
          · skip
            refine wpTree_step ?_
            simp only [opsAt, List.getElem?_cons_zero, List.getElem?_cons_succ]
            go_wp2_with fail
            refine ⟨.inr (C5 _ hs23), ?_⟩
            refine wpTree_step ?_
            simp only [opsAt, List.getElem?_cons_zero, List.getElem?_cons_succ]
            go_wp2_with fail
            (with_reducible refine (unhide (HB1 _)).mono ?_)
            rintro e x27 ⟨rfl, ho27⟩
            have hs27 : Blk x27 w.heap.size 29 #[.int .i64 1, .int .i64 3, .int .i64 d, .int .i64 s, .int .i64 0] := ho27.blk hs23 (by simp)
            have hb27 := ho27.blk hb23 (by simp)
            go_wp2_with fail
            refine ⟨.inr (C5 _ hs27), ?_⟩
            refine wpTree_step ?_
            simp only [opsAt, List.getElem?_cons_zero, List.getElem?_cons_succ]
            go_wp2_with fail
            refine ⟨.inr (C5 _ hs27), ?_⟩
            refine wpTree_step ?_
            simp only [opsAt, List.getElem?_cons_zero, List.getElem?_cons_succ]
            go_wp2_with fail
            refine ⟨.inr (C5 _ hs27), ?_⟩
            refine wpTree_step ?_
            simp only [opsAt, List.getElem?_cons_zero, List.getElem?_cons_succ]
            go_wp2_with fail
            refine ⟨.inl trivial, wpTree_fin ?_⟩
            go_wp2_with fail
            go_ret2
            exact ⟨rfl, (((HO0.out.drew).alloc (.cells #[.int .u8 1, .int .u8 3, .int .u8 d] 5)).trans ho23).trans ho27⟩
          · skip
            refine wpTree_step ?_
            simp only [opsAt, List.getElem?_cons_zero, List.getElem?_cons_succ]
            go_wp2_with fail
            (with_reducible refine (unhide (HB1 _)).mono ?_)
            rintro e x29 ⟨rfl, ho29⟩
            have hs29 : Blk x29 w.heap.size 29 #[.int .i64 1, .int .i64 3, .int .i64 d, .int .i64 s, .int .i64 0] := ho29.blk hs23 (by simp)
            have hb29 := ho29.blk hb23 (by simp)
            go_wp2_with fail
            refine ⟨.inr (C5 _ hs29), ?_⟩
            refine wpTree_step ?_
            simp only [opsAt, List.getElem?_cons_zero, List.getElem?_cons_succ]
            go_wp2_with fail
            refine ⟨.inr (C5 _ hs29), ?_⟩
            refine wpTree_step ?_
            simp only [opsAt, List.getElem?_cons_zero, List.getElem?_cons_succ]
            go_wp2_with fail
            refine ⟨.inr (C5 _ hs29), ?_⟩
            refine wpTree_step ?_
            simp only [opsAt, List.getElem?_cons_zero, List.getElem?_cons_succ]
            go_wp2_with fail
            refine ⟨.inr (C5 _ hs29), ?_⟩
            refine wpTree_step ?_
            simp only [opsAt, List.getElem?_cons_zero, List.getElem?_cons_succ]
            go_wp2_with fail
            refine ⟨.inl trivial, wpTree_fin ?_⟩
            go_wp2_with fail
            go_ret2
            exact ⟨rfl, (((HO0.out.drew).alloc (.cells #[.int .u8 1, .int .u8 3, .int .u8 d] 5)).trans ho23).trans ho29⟩
        · skip
          refine wpTree_step ?_
          simp only [opsAt, List.getElem?_cons_zero, List.getElem?_cons_succ]
          go_wp2_with fail
          (with_reducible refine (unhide (HB1 _)).mono ?_)
          rintro e x32 ⟨rfl, ho32⟩
          have hs32 : Blk x32 w.heap.size 29 #[.int .i64 1, .int .i64 3, .int .i64 d, .int .i64 s, .int .i64 0] := ho32.blk hs23 (by simp)
          have hb32 := ho32.blk hb23 (by simp)
          go_wp2_with fail
          refine ⟨.inr (C5 _ hs32), ?_⟩
          refine wpTree_step ?_
          simp only [opsAt, List.getElem?_cons_zero, List.getElem?_cons_succ]
          go_wp2_with fail
          refine ⟨.inr (C5 _ hs32), ?_⟩
          refine wpTree_step ?_
          simp only [opsAt, List.getElem?_cons_zero, List.getElem?_cons_succ]
          go_wp2_with fail
          refine ⟨.inr (C5 _ hs32), ?_⟩
          refine wpTree_step ?_
          simp only [opsAt, List.getElem?_cons_zero, List.getElem?_cons_succ]
          go_wp2_with fail
          refine ⟨.inr (C5 _ hs32), ?_⟩
          refine wpTree_step ?_
          simp only [opsAt, List.getElem?_cons_zero, List.getElem?_cons_succ]
          go_wp2_with fail
          refine ⟨.inr (C5 _ hs32), ?_⟩
          refine wpTree_step ?_
          simp only [opsAt, List.getElem?_cons_zero, List.getElem?_cons_succ]
          go_wp2_with fail
          refine ⟨.inl trivial, wpTree_fin ?_⟩
          go_wp2_with fail
          go_ret2
          exact ⟨rfl, (((HO0.out.drew).alloc (.cells #[.int .u8 1, .int .u8 3, .int .u8 d] 5)).trans ho23).trans ho32⟩
      · skip
        refine wpTree_step ?_
        simp only [opsAt, List.getElem?_cons_zero, List.getElem?_cons_succ]
        go_wp2_with fail
        (with_reducible refine (unhide (HB1 _)).mono ?_)
        rintro e x36 ⟨rfl, ho36⟩
        have hs36 : Blk x36 w.heap.size 29 #[.int .i64 1, .int .i64 3, .int .i64 d, .int .i64 s, .int .i64 0] := ho36.blk hs23 (by simp)
        have hb36 := ho36.blk hb23 (by simp)
        go_wp2_with fail
        refine ⟨.inr (C5 _ hs36), ?_⟩
        have hl37 : Blk x36 w1.heap.size 5 (bytesV l3) := by rw [← H3.out]; exact hb36
        have hc37 : (convert 63 9 (.slice (some ⟨w1.heap.size, 0, none⟩) 3 3)).run Tryz.prog x36 = .ok (.string (S l3)) x36 := run_string_blk (l := l3) Tryz.underlying63 Tryz.underlying5 Tryz.underlying9 hl37 3 3 H33.out
        clear hl37
        refine wpTree_step ?_
        simp only [opsAt, List.getElem?_cons_zero, List.getElem?_cons_succ]
        go_wp2_with fail
        refine ⟨.inr (C5 _ hs36), ?_⟩
        clear hc37
        refine wpTree_step ?_
        simp only [opsAt, List.getElem?_cons_zero, List.getElem?_cons_succ]
        go_wp2_with fail
        refine ⟨.inr (C5 _ hs36), ?_⟩
        refine wpTree_step ?_
        simp only [opsAt, List.getElem?_cons_zero, List.getElem?_cons_succ]
        go_wp2_with fail
        refine ⟨.inr (C5 _ hs36), ?_⟩
        refine wpTree_step ?_
        simp only [opsAt, List.getElem?_cons_zero, List.getElem?_cons_succ]
        go_wp2_with fail
        refine ⟨.inr (C5 _ hs36), ?_⟩
        refine wpTree_step ?_
        simp only [opsAt, List.getElem?_cons_zero, List.getElem?_cons_succ]
        go_wp2_with fail
        refine ⟨.inr (C5 _ hs36), ?_⟩
        refine wpTree_step ?_
        simp only [opsAt, List.getElem?_cons_zero, List.getElem?_cons_succ]
        go_wp2_with fail
        refine ⟨.inl trivial, wpTree_fin ?_⟩
        go_wp2_with fail
        go_ret2
        exact ⟨rfl, (((HO0.out.drew).alloc (.cells #[.int .u8 1, .int .u8 3, .int .u8 d] 5)).trans ho23).trans ho36⟩
  · skip
    refine wpTree_step ?_
    simp only [opsAt, List.getElem?_cons_zero, List.getElem?_cons_succ]
    go_wp2_with fail
    (with_reducible refine (unhide (HB2 _)).mono ?_)
    rintro e x41 ⟨rfl, ho41⟩
    have hs41 : Blk x41 w.heap.size 29 #[.int .i64 1, .int .i64 3, .int .i64 d, .int .i64 s, .int .i64 0] := ho41.blk HS0 (by simp)
    go_wp2_with fail
    refine ⟨.inr (C5 _ hs41), ?_⟩
    refine wpTree_two ?_ ?_
    · skip
      have hs42 : Blk (x41.alloc (.cells #[.int .u8 1, .int .u8 3, .int .u8 d] 5)) w.heap.size 29 #[.int .i64 1, .int .i64 3, .int .i64 d, .int .i64 s, .int .i64 0] := hs41.alloc (.cells #[.int .u8 1, .int .u8 3, .int .u8 d] 5)
      have hb42 : Blk (x41.alloc (.cells #[.int .u8 1, .int .u8 3, .int .u8 d] 5)) x41.heap.size 5 #[.int .u8 1, .int .u8 3, .int .u8 d] := Blk.new _ _ _
      refine wpTree_step ?_
      simp only [opsAt, List.getElem?_cons_zero, List.getElem?_cons_succ]
      go_wp2_with fail
      refine ⟨.inr (C5 _ hs42), ?_⟩
      refine wpTree_two ?_ ?_
      · skip
        have hl43 : Blk (x41.alloc (.cells #[.int .u8 1, .int .u8 3, .int .u8 d] 5)) x41.heap.size 5 (bytesV l3) := by rw [← H3.out]; exact hb42
        have hc43 : (convert 63 9 (.slice (some ⟨x41.heap.size, 0, none⟩) 3 3)).run Tryz.prog (x41.alloc (.cells #[.int .u8 1, .int .u8 3, .int .u8 d] 5)) = .ok (.string (S l3)) (x41.alloc (.cells #[.int .u8 1, .int .u8 3, .int .u8 d] 5)) := run_string_blk (l := l3) Tryz.underlying63 Tryz.underlying5 Tryz.underlying9 hl43 3 3 H33.out
        clear hl43
        refine wpTree_step ?_
        simp only [opsAt, List.getElem?_cons_zero, List.getElem?_cons_succ]
        go_wp2_with fail
        refine ⟨.inr (C5 _ hs42), ?_⟩
        clear hc43
        refine wpTree_two ?_ ?_
        · skip
          refine wpTree_step ?_
          simp only [opsAt, List.getElem?_cons_zero, List.getElem?_cons_succ]
          go_wp2_with fail
          refine ⟨.inr (C5 _ hs42), ?_⟩
          refine wpTree_two ?_ ?_
          · skip
            refine wpTree_step ?_
            simp only [opsAt, List.getElem?_cons_zero, List.getElem?_cons_succ]
            go_wp2_with fail
            refine ⟨.inr (C5 _ hs42), ?_⟩
            refine wpTree_step ?_
            simp only [opsAt, List.getElem?_cons_zero, List.getElem?_cons_succ]
            go_wp2_with fail
            (with_reducible refine (unhide (HB1 _)).mono ?_)
            rintro e x46 ⟨rfl, ho46⟩
            have hs46 : Blk x46 w.heap.size 29 #[.int .i64 1, .int .i64 3, .int .i64 d, .int .i64 s, .int .i64 0] := ho46.blk hs42 (by simp)
            have hb46 := ho46.blk hb42 (by simp)
            go_wp2_with fail
            refine ⟨.inr (C5 _ hs46), ?_⟩
            refine wpTree_step ?_
            simp only [opsAt, List.getElem?_cons_zero, List.getElem?_cons_succ]
            go_wp2_with fail
            refine ⟨.inr (C5 _ hs46), ?_⟩
            refine wpTree_step ?_
            simp only [opsAt, List.getElem?_cons_zero, List.getElem?_cons_succ]
            go_wp2_with fail
            refine ⟨.inr (C5 _ hs46), ?_⟩
            refine wpTree_step ?_
            simp only [opsAt, List.getElem?_cons_zero, List.getElem?_cons_succ]
            go_wp2_with fail
            refine ⟨.inl trivial, wpTree_fin ?_⟩
            go_wp2_with fail
            go_ret2
            exact ⟨rfl, (((HO0.out.drew).trans ho41).alloc (.cells #[.int .u8 1, .int .u8 3, .int .u8 d] 5)).trans ho46⟩
          · skip
            refine wpTree_step ?_
            simp only [opsAt, List.getElem?_cons_zero, List.getElem?_cons_succ]
            go_wp2_with fail
            (with_reducible refine (unhide (HB1 _)).mono ?_)
            rintro e x48 ⟨rfl, ho48⟩
            have hs48 : Blk x48 w.heap.size 29 #[.int .i64 1, .int .i64 3, .int .i64 d, .int .i64 s, .int .i64 0] := ho48.blk hs42 (by simp)
            have hb48 := ho48.blk hb42 (by simp)
            go_wp2_with fail
            refine ⟨.inr (C5 _ hs48), ?_⟩
            refine wpTree_step ?_
            simp only [opsAt, List.getElem?_cons_zero, List.getElem?_cons_succ]
            go_wp2_with fail
            refine ⟨.inr (C5 _ hs48), ?_⟩
            refine wpTree_step ?_
            simp only [opsAt, List.getElem?_cons_zero, List.getElem?_cons_succ]
            go_wp2_with fail
            refine ⟨.inr (C5 _ hs48), ?_⟩
            refine wpTree_step ?_
            simp only [opsAt, List.getElem?_cons_zero, List.getElem?_cons_succ]
            go_wp2_with fail
            refine ⟨.inr (C5 _ hs48), ?_⟩
            refine wpTree_step ?_
            simp only [opsAt, List.getElem?_cons_zero, List.getElem?_cons_succ]
            go_wp2_with fail
            refine ⟨.inl trivial, wpTree_fin ?_⟩
            go_wp2_with fail
            go_ret2
            exact ⟨rfl, (((HO0.out.drew).trans ho41).alloc (.cells #[.int .u8 1, .int .u8 3, .int .u8 d] 5)).trans ho48⟩
        · skip
          refine wpTree_step ?_
          simp only [opsAt, List.getElem?_cons_zero, List.getElem?_cons_succ]
          go_wp2_with fail
          (with_reducible refine (unhide (HB1 _)).mono ?_)
          rintro e x51 ⟨rfl, ho51⟩
          have hs51 : Blk x51 w.heap.size 29 #[.int .i64 1, .int .i64 3, .int .i64 d, .int .i64 s, .int .i64 0] := ho51.blk hs42 (by simp)
          have hb51 := ho51.blk hb42 (by simp)
          go_wp2_with fail
          refine ⟨.inr (C5 _ hs51), ?_⟩
          refine wpTree_step ?_
          simp only [opsAt, List.getElem?_cons_zero, List.getElem?_cons_succ]
          go_wp2_with fail
          refine ⟨.inr (C5 _ hs51), ?_⟩
          refine wpTree_step ?_
          simp only [opsAt, List.getElem?_cons_zero, List.getElem?_cons_succ]
          go_wp2_with fail
          refine ⟨.inr (C5 _ hs51), ?_⟩
          refine wpTree_step ?_
          simp only [opsAt, List.getElem?_cons_zero, List.getElem?_cons_succ]
          go_wp2_with fail
          refine ⟨.inr (C5 _ hs51), ?_⟩
          refine wpTree_step ?_
          simp only [opsAt, List.getElem?_cons_zero, List.getElem?_cons_succ]
          go_wp2_with fail
          refine ⟨.inr (C5 _ hs51), ?_⟩
          refine wpTree_step ?_
          simp only [opsAt, List.getElem?_cons_zero, List.getElem?_cons_succ]
          go_wp2_with fail
          refine ⟨.inl trivial, wpTree_fin ?_⟩
          go_wp2_with fail
          go_ret2
          exact ⟨rfl, (((HO0.out.drew).trans ho41).alloc (.cells #[.int .u8 1, .int .u8 3, .int .u8 d] 5)).trans ho51⟩
      · skip
        refine wpTree_step ?_
        simp only [opsAt, List.getElem?_cons_zero, List.getElem?_cons_succ]
        go_wp2_with fail
        (with_reducible refine (unhide (HB1 _)).mono ?_)
        rintro e x55 ⟨rfl, ho55⟩
        have hs55 : Blk x55 w.heap.size 29 #[.int .i64 1, .int .i64 3, .int .i64 d, .int .i64 s, .int .i64 0] := ho55.blk hs42 (by simp)
        have hb55 := ho55.blk hb42 (by simp)
        go_wp2_with fail
        refine ⟨.inr (C5 _ hs55), ?_⟩
        have hl56 : Blk x55 x41.heap.size 5 (bytesV l3) := by rw [← H3.out]; exact hb55
        have hc56 : (convert 63 9 (.slice (some ⟨x41.heap.size, 0, none⟩) 3 3)).run Tryz.prog x55 = .ok (.string (S l3)) x55 := run_string_blk (l := l3) Tryz.underlying63 Tryz.underlying5 Tryz.underlying9 hl56 3 3 H33.out
        clear hl56
        refine wpTree_step ?_
        simp only [opsAt, List.getElem?_cons_zero, List.getElem?_cons_succ]
        go_wp2_with fail
        refine ⟨.inr (C5 _ hs55), ?_⟩
        clear hc56
        refine wpTree_step ?_
        simp only [opsAt, List.getElem?_cons_zero, List.getElem?_cons_succ]
        go_wp2_with fail
        refine ⟨.inr (C5 _ hs55), ?_⟩
        refine wpTree_step ?_
        simp only [opsAt, List.getElem?_cons_zero, List.getElem?_cons_succ]
        go_wp2_with fail
        refine ⟨.inr (C5 _ hs55), ?_⟩
        refine wpTree_step ?_
        simp only [opsAt, List.getElem?_cons_zero, List.getElem?_cons_succ]
        go_wp2_with fail
        refine ⟨.inr (C5 _ hs55), ?_⟩
        refine wpTree_step ?_
        simp only [opsAt, List.getElem?_cons_zero, List.getElem?_cons_succ]
        go_wp2_with fail
        refine ⟨.inr (C5 _ hs55), ?_⟩
        refine wpTree_step ?_
        simp only [opsAt, List.getElem?_cons_zero, List.getElem?_cons_succ]
        go_wp2_with fail
        refine ⟨.inl trivial, wpTree_fin ?_⟩
        go_wp2_with fail
        go_ret2
        exact ⟨rfl, (((HO0.out.drew).trans ho41).alloc (.cells #[.int .u8 1, .int .u8 3, .int .u8 d] 5)).trans ho55⟩
    · skip
      refine wpTree_step ?_
      simp only [opsAt, List.getElem?_cons_zero, List.getElem?_cons_succ]
      go_wp2_with fail
      (with_reducible refine (unhide (HB1 _)).mono ?_)
      rintro e x60 ⟨rfl, ho60⟩
      have hs60 : Blk x60 w.heap.size 29 #[.int .i64 1, .int .i64 3, .int .i64 d, .int .i64 s, .int .i64 0] := ho60.blk hs41 (by simp)
      go_wp2_with fail
      refine ⟨.inr (C5 _ hs60), ?_⟩
      have hs61 : Blk (x60.alloc (.cells #[.int .u8 1, .int .u8 3, .int .u8 d] 5)) w.heap.size 29 #[.int .i64 1, .int .i64 3, .int .i64 d, .int .i64 s, .int .i64 0] := hs60.alloc (.cells #[.int .u8 1, .int .u8 3, .int .u8 d] 5)
      have hb61 : Blk (x60.alloc (.cells #[.int .u8 1, .int .u8 3, .int .u8 d] 5)) x60.heap.size 5 #[.int .u8 1, .int .u8 3, .int .u8 d] := Blk.new _ _ _
      refine wpTree_step ?_
      simp only [opsAt, List.getElem?_cons_zero, List.getElem?_cons_succ]
      go_wp2_with fail
      refine ⟨.inr (C5 _ hs61), ?_⟩
      have hl62 : Blk (x60.alloc (.cells #[.int .u8 1, .int .u8 3, .int .u8 d] 5)) x60.heap.size 5 (bytesV l3) := by rw [← H3.out]; exact hb61
      have hc62 : (convert 63 9 (.slice (some ⟨x60.heap.size, 0, none⟩) 3 3)).run Tryz.prog (x60.alloc (.cells #[.int .u8 1, .int .u8 3, .int .u8 d] 5)) = .ok (.string (S l3)) (x60.alloc (.cells #[.int .u8 1, .int .u8 3, .int .u8 d] 5)) := run_string_blk (l := l3) Tryz.underlying63 Tryz.underlying5 Tryz.underlying9 hl62 3 3 H33.out
      clear hl62
      refine wpTree_step ?_
      simp only [opsAt, List.getElem?_cons_zero, List.getElem?_cons_succ]
      go_wp2_with fail
      refine ⟨.inr (C5 _ hs61), ?_⟩
      clear hc62
      refine wpTree_step ?_
      simp only [opsAt, List.getElem?_cons_zero, List.getElem?_cons_succ]
      go_wp2_with fail
      refine ⟨.inr (C5 _ hs61), ?_⟩
      refine wpTree_step ?_
      simp only [opsAt, List.getElem?_cons_zero, List.getElem?_cons_succ]
      go_wp2_with fail
      refine ⟨.inr (C5 _ hs61), ?_⟩
      refine wpTree_step ?_
      simp only [opsAt, List.getElem?_cons_zero, List.getElem?_cons_succ]
      go_wp2_with fail
      refine ⟨.inr (C5 _ hs61), ?_⟩
      refine wpTree_step ?_
      simp only [opsAt, List.getElem?_cons_zero, List.getElem?_cons_succ]
      go_wp2_with fail
      refine ⟨.inr (C5 _ hs61), ?_⟩
      refine wpTree_step ?_
      simp only [opsAt, List.getElem?_cons_zero, List.getElem?_cons_succ]
      go_wp2_with fail
      refine ⟨.inl trivial, wpTree_fin ?_⟩
      go_wp2_with fail
      go_ret2
      exact ⟨rfl, (((HO0.out.drew).trans ho41).trans ho60).alloc (.cells #[.int .u8 1, .int .u8 3, .int .u8 d] 5)⟩
end Go.Proofs.YtkccjfgkbkodiaaGreat
