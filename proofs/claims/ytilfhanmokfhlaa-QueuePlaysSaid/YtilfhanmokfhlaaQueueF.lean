/-
  Bytes dropped from the front of the law's own list.
-/
import Derived.Test.YtilfhanmokfhlaaQueueE
namespace Go.Proofs.Ytilfhanmokfhlaa
open Go.RowKit

theorem info_str2 : (Try.prog.info? 9).map (fun i => (i.zero, i.size, i.bytes)) = some (some (.string ByteArray.empty), 1, 16) := by kernel_rfl
set_option maxRecDepth 100000 in
theorem dropc_any {w : World} {base q : Nat} {v : Value} {M : List (List UInt8)} (h : Hv w base q v M) (hbase : base ≤ w.heap.size) (hsz : M.flatten.length ≤ 1000000) (ni : Int) (n : Nat) (hn : ni = n) (hn2 : n ≤ 1000000) :
    Calls Try.prog 16 #[.int .i64 ni, .pointer (some ⟨q, 0, none⟩)] w fun e w' => e = .returned (.tuple #[]) ∧ ∃ v', Hv w' base q v' (dropQ n M) ∧ Only [q] w w' ∧ (∀ k ∈ slB v', k ∈ slB v ∨ w.heap.size ≤ k) := by
  subst hn
  have HH := hide h
  obtain ⟨N, hN⟩ : ∃ N, N = dropQ n M := ⟨_, rfl⟩
  have HN := hide hN
  have Hsz := hide hsz
  clear h hN hsz
  go_enter Try.func16, Try.ntmps16
  go_wp2_with fail
  go_loopg [0, 3] n (fun g s0 s3 wr => ∃ (m : Nat) (R : List (List UInt8)) (vr : Value), s0 = .int .i64 m ∧ m ≤ g ∧ m ≤ n ∧ Hid (dropQ m R = dropQ n M) ∧ Hid (R.flatten.length ≤ M.flatten.length) ∧ Hv wr base q vr R ∧ Only [q] w wr ∧ Hid (∀ k ∈ slB vr, k ∈ slB v ∨ w.heap.size ≤ k))
  case atStart => exact ⟨n, M, v, rfl, by omega, Nat.le_refl _, rfl, Nat.le_refl _, HH.out, Only.refl _ _, fun k hk => .inl hk⟩
  case round =>
    obtain ⟨m, R, vr, rfl, hm, hmn, hd, hle, hr, ho, hf⟩ := hrel
    have c0 := hr.blk.cellv 0 _ rfl
    by_cases hgo : 0 < m ∧ R ≠ []
    · obtain ⟨hm0, hR⟩ := hgo
      obtain ⟨c, R', rfl⟩ := List.exists_cons_of_ne_nil hR
      obtain ⟨gb, off, cap, hv, cz⟩ := hr.cells 0 (by simp)
      have hc0 : 0 < c.length := List.length_pos_iff.2 (hr.ne c (List.mem_cons_self ..))
      obtain ⟨k, hk⟩ : ∃ k, k = min m c.length := ⟨_, rfl⟩
      have hmin := min_i64 (P := Try.prog) #[3, 3] 3 m c.length k (by rw [hk]; omega)
      have hkc : k ≤ c.length := by omega
      have hk0 : 0 < k := by omega
      have hkm : (k : Int) ≤ m := by omega
      have hm1 : (m : Int) ≤ 1000000 := by omega
      have hsf := slice_from_at (P := Try.prog) Try.underlying9 c k hkc k rfl (c.drop k) rfl
      obtain ⟨d, hd0⟩ : ∃ d, d = c.drop k := ⟨_, rfl⟩
      rw [← hd0] at hsf
      obtain ⟨nl, hnl⟩ : ∃ nl, nl = R'.length + 1 := ⟨_, rfl⟩
      have hnl0 : 0 < nl := by omega
      have hsl := hr.sl
      rw [List.length_cons, ← hnl] at hv hsl
      obtain ⟨l', hs1, hs2, hs3⟩ := slice1_slN (P := Try.prog) Try.underlying25 (by intro w; kernel_rfl) hsl hnl0
      have fq := hr.blk.frozen 0
      simp only [List.getElem_cons_zero, Nat.add_zero] at cz
      have HV := hide hv
      subst hv
      have hw1 : wrap64 ((m : Int) - k) = (m : Int) - k := by unfold wrap64; omega
      have HR := hide hr
      have HS3 := hide hs3
      have HS2 := hide hs2
      have HK := hide hk
      have HD := hide hd0
      have HNL := hide hnl
      have hsrc := (hs3 wr _ hsl).src
      have HSRC := hide hsrc
      clear hr hR hk hd0 hs3 hs2 hnl hsl hsrc HV
      go_wp2_with fail
      refine wp_region_heldone (fun W => W.cell? ⟨q, 0, none⟩ = some (.slice (some ⟨gb, off, none⟩) nl cap) ∧ W.cell? ⟨gb, off, none⟩ = some (.string (S c))) [0, 1, 2, 3, 4, 6, 7] 9 (.step 5 (.step 8 (.step 9 .fin))) (by kernel_rfl) (by kernel_rfl) (fun _ _ _ _ _ h => h) (⟨c0, cz⟩) ?_
      simp only [opsAt, List.getElem?_cons_zero, List.getElem?_cons_succ]
      (refine wpPureH_step (v := ?_) rfl (fun W hS => ?_) ?_; rotate_left; · (obtain ⟨s1, s2⟩ := hS; (try simp only [Act.put, List.setIfInBounds_toArray, List.set_cons_zero, List.set_cons_succ]); go_simp; with_reducible rfl))
      (refine wpPureH_step (v := ?_) rfl (fun W hS => ?_) ?_; rotate_left; · (obtain ⟨s1, s2⟩ := hS; (try simp only [Act.put, List.setIfInBounds_toArray, List.set_cons_zero, List.set_cons_succ]); go_simp; with_reducible rfl))
      (refine wpPureH_step (v := ?_) rfl (fun W hS => ?_) ?_; rotate_left; · (obtain ⟨s1, s2⟩ := hS; (try simp only [Act.put, List.setIfInBounds_toArray, List.set_cons_zero, List.set_cons_succ]); go_simp; with_reducible rfl))
      (refine wpPureH_step (v := ?_) rfl (fun W hS => ?_) ?_; rotate_left; · (obtain ⟨s1, s2⟩ := hS; (try simp only [Act.put, List.setIfInBounds_toArray, List.set_cons_zero, List.set_cons_succ]); go_simp; with_reducible rfl))
      (refine wpPureH_step (v := ?_) rfl (fun W hS => ?_) ?_; rotate_left; · (obtain ⟨s1, s2⟩ := hS; (try simp only [Act.put, List.setIfInBounds_toArray, List.set_cons_zero, List.set_cons_succ]); go_simp; with_reducible rfl))
      (refine wpPureH_step (v := ?_) rfl (fun W hS => ?_) ?_; rotate_left; · (obtain ⟨s1, s2⟩ := hS; (try simp only [Act.put, List.setIfInBounds_toArray, List.set_cons_zero, List.set_cons_succ]); go_simp; with_reducible rfl))
      (refine wpPureH_step (v := ?_) rfl (fun W hS => ?_) ?_; rotate_left; · (obtain ⟨s1, s2⟩ := hS; (try simp only [Act.put, List.setIfInBounds_toArray, List.set_cons_zero, List.set_cons_succ]); go_simp; with_reducible rfl))
      refine wpPureH_nil ?_
      simp only [Act.put, List.setIfInBounds_toArray, List.set_cons_zero, List.set_cons_succ]
      refine wpTree_step ?_
      simp only [opsAt, List.getElem?_cons_zero, List.getElem?_cons_succ]
      go_wp2_with fail
      have hqlt := HR.out.blk.lt
      have hglt : gb < wr.heap.size := (HR.out.sl.lt gb (by simp [slB])).2
      refine ⟨.inr ⟨(HR.out.blk.alloc _).cellv 0 _ rfl, by
        have := (Below.refl wr.heap.size wr).alloc (Nat.le_refl _) (.cells #[.string (S d)] 9)
        exact (this.cell (p := ⟨gb, off, none⟩) hglt).trans cz⟩, ?_⟩
      have hd1 : SlN ((wr.alloc (.cells #[.string (S d)] 9)).drew) wr.heap.size 9 1 (.slice (some ⟨wr.heap.size, 0, none⟩) 1 1) 1 [.string (S d)] := SlN.one (Nat.le_refl _) (Blk.new wr 9 _)
      have hs4 : SlN ((wr.alloc (.cells #[.string (S d)] 9)).drew) base 9 1 l' (nl - 1) (strV R') := ((HS3.out wr _ (by have := HR.out.sl; rw [List.length_cons, ← HNL.out] at this; exact this)).alloc _).drew
      refine wpTree_step ?_
      simp only [opsAt, List.getElem?_cons_zero, List.getElem?_cons_succ]
      refine wpList_append_slN rfl (.tmp 25) (.tmp 27) 25 rfl (.string ByteArray.empty) 16 Try.underlying25 info_str2 rfl (by decide) hd1 hs4.src rfl rfl (by rw [hs4.len]) (by intro y hy; obtain ⟨l, _, rfl⟩ := List.mem_map.1 hy; rfl) ?_ ?_ (by simp) ?_
      · have h1 := HNL.out
        have h2 := hle.out
        have h3 := Hsz.out
        have h4 := flat_le R' (fun l hl => HR.out.ne l (List.mem_cons_of_mem _ hl))
        rw [List.flatten_cons, List.length_append] at h2
        unfold maxLen
        omega
      · have h1 := HNL.out
        have h2 := hle.out
        have h3 := Hsz.out
        have h4 := flat_le R' (fun l hl => HR.out.ne l (List.mem_cons_of_mem _ hl))
        rw [List.flatten_cons, List.length_append] at h2
        omega
      intro v' w' hv' ho' hf'
      have hn1 : 1 + (nl - 1) = nl := by omega
      rw [hn1, show [Value.string (S d)] ++ strV R' = strV (d :: R') from rfl] at hv'
      clear hn1
      obtain ⟨a', c', hv2⟩ := hv'.form
      subst hv2
      have hq' := ho'.blk (HR.out.blk.alloc (.cells #[.string (S d)] 9)).drew (by simp [slB]; omega)
      have hall : Only [] wr w' := by
        refine Only.trans_new (T := [wr.heap.size]) ((Only.refl [] wr).alloc (.cells #[.string (S d)] 9)).drew (by simpa [slB] using ho') (by simp)
      have hb' : Below wr.heap.size wr w' := hall.nil_below
      have hfresh : ∀ k ∈ slB (.slice a' nl c'), wr.heap.size ≤ k := fun k hk => by
        rcases hf' k hk with h | h
        · simp [slB] at h; omega
        · simp at h; omega
      have c1 := hq'.cellv 0 _ rfl
      have f1 := hq'.frozen 0
      have hqv : q ∉ slB (.slice a' nl c') := fun h => by have := hfresh q h; omega
      have HQ := hide hq'
      have HV := hide hv'
      have HB := hide hb'
      have HALL := hide hall
      have HFR := hide hfresh
      have HQV := hide hqv
      have cg := (hb'.cell (p := ⟨gb, off, none⟩) hglt).trans cz
      clear hq' hv' hb' hall hfresh hqv ho' hf' hd1 hs4 hs1
      go_wp2_with fail
      refine ⟨.inr ⟨c1, cg⟩, ?_⟩
      clear cg
      refine wpTree_step ?_
      simp only [opsAt, List.getElem?_cons_zero, List.getElem?_cons_succ]
      go_wp2_with fail
      refine ⟨.inl trivial, wpTree_fin ?_⟩
      have hq2 := HQ.out.set_ 0 (.slice a' nl c')
      have hs2 := HV.out.far (p := ⟨q, 0, none⟩) HQV.out (.slice a' nl c')
      have ho2 : Only [q] w (w'.setCell ⟨q, 0, none⟩ (.slice a' nl c')) := (ho.trans (HALL.out.mono (fun _ h => by cases h))).setCell (by simp) _
      obtain ⟨W2, hW2⟩ : ∃ W2, W2 = w'.setCell ⟨q, 0, none⟩ (.slice a' nl c') := ⟨_, rfl⟩
      have hsz2 : w.heap.size ≤ wr.heap.size := ho.size
      have hbw : base ≤ wr.heap.size := Nat.le_trans hbase hsz2
      rw [← hW2] at hq2 hs2 ho2 ⊢
      have hfw : ∀ k ∈ slB (.slice a' nl c'), k ∈ slB v ∨ w.heap.size ≤ k := fun k hk => .inr (Nat.le_trans hsz2 (HFR.out k hk))
      obtain ⟨g2, o2, cap2, hv2, cz2, _⟩ := hs2.cell 0 (by simp [strV])
      injection hv2 with hv2 e2 e3
      subst hv2
      have q0 := hq2.cellv 0 _ rfl
      have fq2 := hq2.frozen 0
      have cz3 : W2.cell? ⟨g2, o2, none⟩ = some (.string (S d)) := cz2
      have hql : R'.flatten.length ≤ M.flatten.length := by
        have h2 := hle.out
        rw [List.flatten_cons, List.length_append] at h2
        omega
      have hnem : ∀ l ∈ R', l ≠ [] := fun l hl => HR.out.ne l (List.mem_cons_of_mem _ hl)
      have HNEM := hide hnem
      have HQL := hide hql
      have HFW := hide hfw
      have HS2 := hide hs2
      have HB2 := hide hq2
      clear e2 e3 cz2 hnem hql hfw hs2 hq2 HQ HV HB HALL HFR HQV hW2 c1 f1 c0 cz fq hsf hmin
      by_cases hdn : k = c.length
      · have hde : d = [] := by rw [HD.out]; exact List.drop_of_length_le (by omega)
        subst hde
        obtain ⟨l2, ht1, ht2, ht3⟩ := slice1_slN (P := Try.prog) Try.underlying25 (by intro w; kernel_rfl) HS2.out hnl0
        have hfin : Hid (dropQ (m - k) R' = dropQ n M) := by
          show _ = _
          rw [← hd.out, show dropQ m (c :: R') = if m < c.length then c.drop m :: R' else dropQ (m - c.length) R' from rfl, if_neg (by omega), hdn]
        have hs5 := (ht3 W2 _ HS2.out).far (p := ⟨q, 0, none⟩) (by rw [ht2]; exact HS2.out.notBlk HB2.out (by decide)) l2
        have hb5 := HB2.out.set_ 0 l2
        have ho5 := ho2.setCell (p := ⟨q, 0, none⟩) (by simp) l2
        have hf5 : Hid (∀ k ∈ slB l2, k ∈ slB v ∨ w.heap.size ≤ k) := fun k hk => by rw [ht2] at hk; exact HFW.out k hk
        have hs6 : SlN (W2.setCell ⟨q, 0, none⟩ l2) base 9 1 l2 R'.length (strV R') := by
          have h1 : nl - 1 = R'.length := by rw [HNL.out]; omega
          rw [h1] at hs5
          exact hs5.mono hbw
        have hl2f : ∃ a5 c5, l2 = .slice a5 (nl - 1) c5 := hs5.form
        obtain ⟨a5, c5, hl2⟩ := hl2f
        subst hl2
        have HV5 := hide (Hv.mk (M := R') hb5 hs6 HNEM.out)
        have HO5 := hide ho5
        clear hs5 hb5 ho5 hs6 ht2 ht3 hdn
        go_wp2_with fail
        go_roundg (m - k)
        case measure => omega
        case rel => exact ⟨m - k, R', _, congrArg (Value.int .i64) (by omega), by omega, by omega, hfin, HQL, HV5.out, HO5.out, hf5⟩
      · have hkm2 : k = m := by have := HK.out; omega
        have hdl : d ≠ [] := by rw [HD.out]; intro h; have := congrArg List.length h; rw [List.length_drop] at this; simp at this; omega
        have hde : d.isEmpty = false := by cases d with | nil => exact absurd rfl hdl | cons x d => rfl
        have hfin : Hid (dropQ (m - k) (d :: R') = dropQ n M) := by
          show _ = _
          rw [← hd.out, HD.out, ← dropQ_step k (m - k) c R' (by omega), show k + (m - k) = m by omega]
        have hql2 : Hid ((d :: R').flatten.length ≤ M.flatten.length) := by
          have h2 := hle.out
          show _ ≤ _
          rw [HD.out]
          rw [List.flatten_cons, List.length_append] at h2 ⊢
          rw [List.length_drop]
          omega
        have hs6 : SlN W2 base 9 1 (.slice (some ⟨g2, o2, none⟩) nl c') (d :: R').length (strV (d :: R')) := by
          have h1 : nl = (d :: R').length := by rw [HNL.out]; rfl
          have h2 := HS2.out
          rw [← h1]
          exact h2.mono hbw
        have HV5 := hide (Hv.mk (M := d :: R') HB2.out hs6 (fun l hl => by
          rcases List.mem_cons.1 hl with rfl | hl
          · exact hdl
          · exact HNEM.out l hl))
        clear hs6 hdl hdn hkm2
        go_wp2_with fail
        go_roundg (m - k)
        case measure => omega
        case rel => exact ⟨m - k, d :: R', _, congrArg (Value.int .i64) (by omega), by omega, by omega, hfin, hql2, HV5.out, ho2, HFW⟩
    · have hfin : dropQ m R = R := by
        by_cases h0 : m = 0
        · rw [h0]; exact dropQ_zero R hr.ne
        · have : R = [] := by
            rcases R with _ | ⟨x, R⟩
            · rfl
            · exact absurd ⟨by omega, by simp⟩ hgo
          rw [this]; rfl
      rw [hd.out] at hfin
      obtain ⟨a5, c5, hv5⟩ := hr.sl.form
      subst hv5
      have HR := hide hr
      have HF := hide hfin
      obtain ⟨rl, hrl⟩ : ∃ rl, rl = R.length := ⟨_, rfl⟩
      rw [← hrl] at c0
      clear hr hfin
      by_cases h0 : m = 0
      · subst h0
        clear hrl hgo
        go_wp2_with fail
        go_end0
        exact ⟨rfl, _, HF.out ▸ HR.out, ho, hf.out⟩
      · have hR0 : R = [] := by
          rcases R with _ | ⟨x, R⟩
          · rfl
          · exact absurd ⟨by omega, by simp⟩ hgo
        have hrl0 : rl = 0 := by rw [hrl, hR0]; rfl
        have hm0 : 0 < m := by omega
        subst hrl0
        clear hrl hgo hR0
        go_wp2_with fail
        go_end0
        exact ⟨rfl, _, HF.out ▸ HR.out, ho, hf.out⟩
end Go.Proofs.Ytilfhanmokfhlaa
