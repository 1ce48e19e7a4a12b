/-
  PipC: parts of the walk of TopTight, under no condition.
-/
import Derived.Test.YtkccjfgkbkodiaaGreatZ19
namespace Go.Proofs.YtkccjfgkbkodiaaGreat
open Go.RowKit
section
variable {w : World} {q b o s d : Nat} {Fj Fs : List Nat} {vo : Value} {m : Pip}
theorem PipM.notStg (h : PipM w q b o s Fj Fs vo d m) {k : Nat} {t : TypeId} {cs : Array Value} (hb : Blk w k t cs) (n1 : t ≠ 191) (n2 : t ≠ 20) (n3 : t ≠ 249) : k ∉ s :: Fs := fun hm => by
  obtain ⟨_, _, _, ⟨c4, b4⟩, _⟩ := h.types
  rcases List.mem_cons.1 hm with rfl | hm
  · exact hb.ne_ b4 n1 rfl
  · obtain ⟨t', cs', ht, hb'⟩ := h.sms k hm
    exact hb.ne_ hb' (by rcases ht with rfl | rfl; exact n2; exact n3) rfl
theorem PipM.notOut (h : PipM w q b o s Fj Fs vo d m) {k : Nat} {t : TypeId} {cs : Array Value} (hb : Blk w k t cs) (n1 : t ≠ 176) (n2 : t ≠ 351) : k ∉ o :: slB vo := fun hm => by
  obtain ⟨_, _, ⟨c3, b3⟩, _, h5⟩ := h.types
  rcases List.mem_cons.1 hm with rfl | hm
  · exact hb.ne_ b3 n1 rfl
  · obtain ⟨cs', hb'⟩ := h5 k hm
    exact hb.ne_ hb' n2 rfl
theorem PipM.notOwn (h : PipM w q b o s Fj Fs vo d m) {k : Nat} {t : TypeId} {cs : Array Value} (hb : Blk w k t cs) (n1 : t ≠ 149) : k ∉ [q] := fun hm => by
  rw [List.mem_singleton.1 hm] at hb
  exact hb.ne_ h.blk n1 rfl
/-- A builder of another block is written to. -/
theorem PipM.build (h : PipM w q b o s Fj Fs vo d m) {w' : World} {g B : Nat} {pre post xs : List Value} {a v : Value} (hb : Blo w g pre post B a v xs) (hj : ∀ k ∈ Fj, k ∉ slB v) (ho : Only (g :: slB v) w w') : PipM w' q b o s Fj Fs vo d m := by
  obtain ⟨⟨c1, b1⟩, ⟨c2, b2⟩, ⟨c3, b3⟩, ⟨c4, b4⟩, h5⟩ := h.types
  have key : ∀ k t cs, Blk w k t cs → t ≠ 122 → t ≠ 5 → k ∉ g :: slB v := fun k t cs hk n1 n2 hm => by
    rcases List.mem_cons.1 hm with rfl | hm
    · exact hk.ne_ hb.mid.2 n1 rfl
    · obtain ⟨cs', hb'⟩ := hb.rowBlk k hm
      exact hk.ne_ hb' n2 rfl
  refine h.far ho (key q _ _ b1 (by decide) (by decide)) (key b _ _ b2 (by decide) (by decide)) (fun k hk hm => ?_) (key o _ _ b3 (by decide) (by decide)) (fun k hk => ?_) (key s _ _ b4 (by decide) (by decide)) (fun k hk => ?_)
  · rcases List.mem_cons.1 hm with rfl | hm
    · obtain ⟨t, cs, ht, hb2⟩ := h.smj k hk
      exact hb2.ne_ hb.mid.2 (by rcases ht with rfl | rfl <;> decide) rfl
    · exact hj k hk hm
  · obtain ⟨cs, hk2⟩ := h5 k hk
    exact key k _ _ hk2 (by decide) (by decide)
  · obtain ⟨t, cs, ht, hk2⟩ := h.sms k hk
    exact key k _ _ hk2 (by rcases ht with rfl | rfl <;> decide) (by rcases ht with rfl | rfl <;> decide)
end
set_option maxRecDepth 100000 in
set_option maxHeartbeats 8000000 in
set_option linter.unusedSimpArgs false in
theorem pip_write {w : World} {q b o s d : Nat} {Fj Fs : List Nat} {vo : Value} {m : Pip} (h : PipM w q b o s Fj Fs vo d m) (hI : m.stg.Inv) {k N : Nat} (hU : Upto k m.R) (hN : k + m.stg.held.length ≤ N) {lv : Value} {L : List Part} (hN2 : N + L.length ≤ 4000)
    (hlv : SlN w 0 20 1 lv L.length (partsV L)) (hjs : ∀ p ∈ L, p.js = true) (hdis : ∀ k ∈ slB lv, k ∉ Fs) (er : Int) :
    Calls Tryz.prog 101 #[.pointer (some ⟨q, 0, none⟩), lv, .int .i64 er] w fun e w' => e = .returned (.tuple #[.string (S (m.write L er []).2.1), .int .i64 (m.write L er []).2.2]) ∧
      ∃ Fs' vo', PipM w' q b o s Fj Fs' vo' d (m.write L er []).1 ∧ Only (q :: o :: s :: (slB vo ++ Fs)) w w' ∧ ∀ k ∈ Fs' ++ slB vo', k ∈ slB vo ++ Fs ∨ w.heap.size ≤ k := by
  obtain ⟨R, hR⟩ : ∃ r, m.write L er [] = r := ⟨_, rfl⟩
  rw [hR]
  obtain ⟨n, hn⟩ : ∃ n, n = L.length := ⟨_, rfl⟩
  rw [← hn] at hlv hN2
  obtain ⟨la, lc, rfl⟩ := hlv.form
  have hn4 : (n : Int) ≤ 4000 := by omega
  have hBq : w.cell? ⟨q, 1, none⟩ = some (.iface 173 (.pointer (some ⟨o, 0, none⟩))) := h.blk.cellv 1 _ rfl
  have lq := h.blk.lt
  have HTW := fun W => ta_writer o W
  have HME := fun (n : Nat) (hn : 0 < n) W => me_wstep n o hn W
  have H := hide h
  have HI := hide hI
  have HU := hide hU
  have HNN := hide hN
  have HN2 := hide hN2
  have HLV := hide hlv
  have HJS := hide hjs
  have HDIS := hide hdis
  have HLN := hide hn
  have HR := hide hR
  clear h hI hU hN hN2 hlv hjs hdis hn hR
  go_enter Tryz.func101, Tryz.ntmps101
  go_wp2_with fail
  go_loopg [27] n (fun gk s27 wr => ∃ (i : Nat) (mi : Pip) (out : List UInt8) (vi : Value) (Fi : List Nat) (ki : Nat) (ba bv : Value), s27 = .int .i64 i ∧ i + gk = n ∧ Hid (mi.write (L.drop i) er out = R) ∧ Hid (PipM wr q b o s Fj Fi vi d mi) ∧ Hid mi.stg.Inv ∧ Hid (Upto ki mi.R ∧ ki + mi.stg.held.length ≤ N + i ∧ out.length ≤ 209 * ki) ∧
    Hid (Blo wr w.heap.size [] [] 0 ba bv (Lib.byteCells out)) ∧ Hid (∀ k ∈ slB bv, w.heap.size ≤ k) ∧ Hid (Only (q :: o :: s :: (slB vo ++ Fs)) w wr) ∧ Hid (∀ k ∈ Fi ++ slB vi, k ∈ slB vo ++ Fs ∨ w.heap.size ≤ k))
  case atStart =>
    refine ⟨0, m, [], vo, Fs, k, .pointer none, .slice none 0 0, rfl, by omega, HR, hide (H.out.new ((Only.refl [] _).alloc _)), HI, hide ⟨HU.out, HNN.out, by simp⟩, hide ⟨⟨rfl, Blk.new _ _ _⟩, ⟨rfl, rfl⟩, .inl rfl, World.ownsRow_nil _ _ _ _⟩, hide (by simp [slB]), hide ((Only.refl _ _).alloc _), hide (fun k hk => .inl ?_)⟩
    rcases List.mem_append.1 hk with hk | hk
    · exact List.mem_append_right _ hk
    · exact List.mem_append_left _ hk
  case round =>
    obtain ⟨i, mi, out, vi, Fi, ki, ba, bv, rfl, hi, hall, hp, hinv, hki, hbl, hbv, ho, hf⟩ := hrel
    have lg : w.heap.size < wr.heap.size := by have := hbl.out.mid.lt; omega
    by_cases hlt : i < n
    · have hiL : i < L.length := by rw [← HLN.out]; exact hlt
      obtain ⟨x, hx⟩ : ∃ x, x = L[i] := ⟨_, rfl⟩
      have hxj : x.js = true := hx ▸ HJS.out _ (List.getElem_mem hiL)
      have hll := HLV.out.lt
      have hlv2 : SlN wr 0 20 1 (.slice la n lc) n (partsV L) := HLV.out.keep ho.out (fun k hk hm => by
        simp only [List.mem_cons, List.mem_append] at hm
        obtain ⟨⟨c1, b1⟩, ⟨c2, b2⟩, ⟨c3, b3⟩, ⟨c4, b4⟩, h5⟩ := H.out.types
        obtain ⟨cs, hb⟩ := HLV.out.blkOf k hk
        rcases hm with rfl | rfl | rfl | hm | hm
        · exact hb.ne_ b1 (by decide) rfl
        · exact hb.ne_ b3 (by decide) rfl
        · exact hb.ne_ b4 (by decide) rfl
        · obtain ⟨cs', hb'⟩ := h5 k hm
          exact hb.ne_ hb' (by decide) rfl
        · exact HDIS.out k hk hm)
      obtain ⟨gl, ol, cl, hv, zz1, zz2⟩ := hlv2.cell i (by simp [partsV]; exact hiL)
      injection hv with e1 e2 e3
      subst e1 e3
      have z0 : wr.cell? ⟨gl, ol + i, none⟩ = some x.val := (hlv2.at i _ (by simp [partsV, hx, hiL])).1
      have hgl : gl < wr.heap.size := (hlv2.lt gl (by simp [slB])).2
      have hall2 := hall.out
      rw [List.drop_eq_getElem_cons hiL, ← hx] at hall2
      simp only [Pip.write] at hall2
      have hst := Stg.step_inv hinv.out hxj
      have HSTP := fun (W : World) (hs : StgIs W s Fi mi.stg) => hide (stg_step hs hinv.out.ok x hxj)
      generalize mi.stg.step x = r at hall2 hst HSTP
      obtain ⟨st1, X, e1⟩ := r
      simp only at hall2 hst
      obtain ⟨c, hc⟩ : ∃ c, c = X.length := ⟨_, rfl⟩
      obtain ⟨P1, hP1⟩ : ∃ P1, Pip.put1 { mi with stg := st1, e := e1 } X out = P1 := ⟨_, rfl⟩
      rw [hP1] at hall2
      have hfm := x.form
      obtain ⟨pv, hpv⟩ : ∃ pv, pv = x.val := ⟨_, rfl⟩
      rw [← hpv] at hfm HSTP z0
      have c2 : wr.cell? ⟨q, 2, none⟩ = some (.pointer (some ⟨s, 0, none⟩)) := hp.out.blk.cellv 2 _ rfl
      have lqr := hp.out.blk.lt
      have HALL := hide hall2
      have HST := hide hst
      have HP1 := hide hP1
      have HC := hide hc
      have HPV := hide hpv
      clear zz1 zz2 hx hxj hll hlv2 e2 hall hall2 hst hP1 hc hpv hiL
      rcases hfm with rfl | ⟨t0, v0, rfl⟩
      · go_wp2_with fail
        (with_reducible refine (unhide (HSTP _ (hp.out.stg.keep (T := []) ((Only.refl [] wr).alloc (.cells #[.nilIface] 20)) (by simp) (by simp)))).mono ?_)
        rintro e w1 ⟨ov, F', rfl, h1, h2, h3, h4, h5⟩
        simp only at h1 h2
        rw [← HC.out] at h1
        obtain ⟨oa, oc, rfl⟩ := h1.form
        obtain ⟨F1, hM1, hF1⟩ := (hp.out.new ((Only.refl [] wr).alloc (.cells #[.nilIface] 20))).stage h2 h3
        have hpA := hp.out.new ((Only.refl [] wr).alloc (.cells #[.nilIface] 20))
        have hblA := hbl.out.far ((Only.refl [] wr).alloc (.cells #[.nilIface] 20)) (by simp) (by simp)
        have hbl1 := hblA.far h3 (hpA.notStg hblA.mid.2 (by decide) (by decide) (by decide)) (fun k hk => by
          obtain ⟨cs, hb⟩ := hblA.rowBlk k hk
          exact hpA.notStg hb (by decide) (by decide) (by decide))
        have d4 : w1.cell? ⟨q, 4, none⟩ = some (.int .i64 mi.e) := hM1.blk.cellv 4 _ rfl
        have g4 := hM1.blk.frozen 4
        have hM2 := hM1.seterr e1
        have ho2 : Only [q] w1 (w1.setCell ⟨q, 4, none⟩ (.int .i64 e1)) := (Only.refl _ w1).setCell (p := ⟨q, 4, none⟩) (by simp) _
        have hbl2 := hbl1.far ho2 (hM1.notOwn hbl1.mid.2 (by decide)) (fun k hk => by
          obtain ⟨cs, hb⟩ := hbl1.rowBlk k hk
          exact hM1.notOwn hb (by decide))
        have hsl2 := h1.keep ho2 (fun k hk => by
          obtain ⟨cs, hb⟩ := h1.blkOf k hk
          exact hM1.notOwn hb (by decide))
        have hO2 : Only (q :: o :: s :: (slB vo ++ Fs)) w (w1.setCell ⟨q, 4, none⟩ (.int .i64 e1)) := ((ho.out.alloc (.cells #[.nilIface] 20)).own h3 (fun k hk => by
          rcases List.mem_cons.1 hk with rfl | hk
          · exact .inl (by simp)
          · exact (hf.out k (List.mem_append_left _ hk)).imp_left (fun h9 => List.mem_cons_of_mem _ (List.mem_cons_of_mem _ (List.mem_cons_of_mem _ h9))))).setCell (p := ⟨q, 4, none⟩) (List.mem_cons_self ..) _
        have hf2 : ∀ k ∈ F1 ++ slB vi, k ∈ slB vo ++ Fs ∨ w.heap.size ≤ k := fun k hk => by
          rcases List.mem_append.1 hk with hk | hk
          · rcases h5 k (hF1 k hk) with h9 | h9
            · exact hf.out k (List.mem_append_left _ h9)
            · exact .inr (by simp at h9; omega)
          · exact hf.out k (List.mem_append_right _ hk)
        have HM2 := hide hM2
        have HBL2 := hide hbl2
        have HSL2 := hide hsl2
        have HO2 := hide hO2
        have HF2 := hide hf2
        have lq2 : q < w1.heap.size := hM1.blk.lt
        obtain ⟨gO, hgO⟩ : ∃ g, g = gk := ⟨_, rfl⟩
        have hc4 : (c : Int) ≤ 5000 := by have := HST.out.2.2.1; have := HC.out; have := hki.out.2.1; have := HN2.out; omega
        clear HSTP h1 h2 h3 h4 h5 hM1 hF1 hpA hblA hbl1 hM2 ho2 hbl2 hsl2 hO2 hf2 hp hbl ho hf z0 c2
        go_wp2_with fail
        go_loopg [52] c (fun gk2 s52 wz => ∃ (j : Nat) (mj : Pip) (outj : List UInt8) (vj : Value) (kj : Nat) (ba bv : Value), s52 = .int .i64 j ∧ j + gk2 = c ∧ Hid (mj.put1 (X.drop j) outj = P1) ∧ Hid (PipM wz q b o s Fj F1 vj d mj) ∧ Hid (mj.stg = st1) ∧ Hid (Upto kj mj.R ∧ kj + (c - j) + st1.held.length ≤ N + i + 1 ∧ outj.length ≤ 209 * kj) ∧
          Hid (Blo wz w.heap.size [] [] 0 ba bv (Lib.byteCells outj)) ∧ Hid (∀ k ∈ slB bv, w.heap.size ≤ k) ∧ Hid (SlN wz 0 20 1 (.slice oa c oc) c (partsV X)) ∧ Hid (Only (q :: o :: s :: (slB vo ++ Fs)) w wz) ∧ Hid (∀ k ∈ F1 ++ slB vj, k ∈ slB vo ++ Fs ∨ w.heap.size ≤ k))
        case atStart =>
          exact ⟨0, _, out, vi, ki, ba, bv, rfl, by omega, HP1, HM2, rfl, hide ⟨hki.out.1, by have := HST.out.2.2.1; have := HC.out; have := hki.out.2.1; omega, hki.out.2.2⟩, HBL2, hbv, HSL2, HO2, HF2⟩
        case round =>
          obtain ⟨j, mj, outj, vj, kj, ba, bv, rfl, hj, hput, hp, hstg, hkj, hbl, hbv, hsl, ho, hf⟩ := hrel
          have lg2 : w.heap.size < wr.heap.size := by have := hbl.out.mid.lt; omega
          have c4 : wr.cell? ⟨q, 4, none⟩ = some (.int .i64 mj.e) := hp.out.blk.cellv 4 _ rfl
          have lqr := hp.out.blk.lt
          have HMJ := hp
          clear HM2 HBL2 HSL2 HO2 HF2 HP1 d4 g4
          by_cases hjc : j < c
          · have hjX : j < X.length := by rw [← HC.out]; exact hjc
            obtain ⟨y, hy⟩ : ∃ y, y = X[j] := ⟨_, rfl⟩
            have hyj : y.js2 = true := hy ▸ HST.out.2.1 _ (List.getElem_mem hjX)
            have hput2 := hput.out
            rw [List.drop_eq_getElem_cons hjX, ← hy] at hput2
            simp only [Pip.put1] at hput2
            obtain ⟨go, oo, co, hv, zz1, zz2⟩ := hsl.out.cell j (by simp [partsV]; exact hjX)
            injection hv with e2 e3 e4
            subst e2 e4
            have z1 : wr.cell? ⟨go, oo + j, none⟩ = some y.val := (hsl.out.at j _ (by simp [partsV, hy, hjX])).1
            clear zz1 zz2 e3
            by_cases he : mj.e = 0
            · have e0 : (mj.e == 0) = true := by simp [he]
              rw [if_pos he] at hput2
              have hyl : y.len ≤ 200 := by cases y <;> simp [Part.js2] at hyj <;> simp [Part.len, hyj]
              have hsh := stepC_short mj.R mj.dn hyj
              have hup := hkj.out.1.step mj.dn y
              obtain ⟨k2, s2, R2, d2, hst⟩ : ∃ k2 s2 R2 d2, (k2, s2, R2, d2) = stepC mj.R mj.dn y := ⟨_, _, _, _, rfl⟩
              have hW := hide (step_any hp.out.out (hkj.out.1.small (by have := hkj.out.2.1; have := HN2.out; omega)) y (Part.js2_fits hyj) k2 s2 R2 d2 hst)
              rw [← hst] at hput2 hsh hup
              simp only at hput2 hsh hup
              have HPUT := hide hput2
              have HSH := hide (And.intro hsh hyl)
              have HUP := hide hup
              clear hput2 hsh hup hst he hyl hy hyj hput hjX
              go_wp2_with fail
              (with_reducible refine (unhide hW).mono ?_)
              rintro e w3 ⟨rfl, v3, hw3, ho3, hf3⟩
              have hM3 := HMJ.out.writer hw3 ho3
              have hbl3 := hbl.out.far ho3 (HMJ.out.notOut hbl.out.mid.2 (by decide) (by decide)) (fun k hk => by
                obtain ⟨cs, hb⟩ := hbl.out.rowBlk k hk
                exact HMJ.out.notOut hb (by decide) (by decide))
              have hsl3 := hsl.out.keep ho3 (fun k hk => by
                obtain ⟨cs, hb⟩ := hsl.out.blkOf k hk
                exact HMJ.out.notOut hb (by decide) (by decide))
              have d4 : w3.cell? ⟨q, 4, none⟩ = some (.int .i64 mj.e) := hM3.blk.cellv 4 _ rfl
              have g4 := hM3.blk.frozen 4
              have hM4 := hM3.seterr k2
              have ho4 : Only [q] w3 (w3.setCell ⟨q, 4, none⟩ (.int .i64 k2)) := (Only.refl _ w3).setCell (p := ⟨q, 4, none⟩) (by simp) _
              have hbl4 := hbl3.far ho4 (hM3.notOwn hbl3.mid.2 (by decide)) (fun k hk => by
                obtain ⟨cs, hb⟩ := hbl3.rowBlk k hk
                exact hM3.notOwn hb (by decide))
              have hsl4 := hsl3.keep ho4 (fun k hk => by
                obtain ⟨cs, hb⟩ := hsl3.blkOf k hk
                exact hM3.notOwn hb (by decide))
              have hO4 : Only (q :: o :: s :: (slB vo ++ Fs)) w (w3.setCell ⟨q, 4, none⟩ (.int .i64 k2)) := (ho.out.own ho3 (fun k hk => by
                rcases List.mem_cons.1 hk with rfl | hk
                · exact .inl (by simp)
                · exact (hf.out k (List.mem_append_right _ hk)).imp_left (fun h9 => List.mem_cons_of_mem _ (List.mem_cons_of_mem _ (List.mem_cons_of_mem _ h9))))).setCell (p := ⟨q, 4, none⟩) (List.mem_cons_self ..) _
              have hf4 : ∀ k ∈ F1 ++ slB v3, k ∈ slB vo ++ Fs ∨ w.heap.size ≤ k := fun k hk => by
                rcases List.mem_append.1 hk with hk | hk
                · exact hf.out k (List.mem_append_left _ hk)
                · rcases hf3 k hk with h9 | h9
                  · exact hf.out k (List.mem_append_right _ h9)
                  · exact .inr (by omega)
              have HBW := hide (owrite_any hbl4 (S s2) (by rw [Lib.byteCells_length, S_size]; have := hkj.out; have := HN2.out; have := HSH.out; omega) (Nat.zero_le _))
              have HBL4 := hide hbl4
              have HM4 := hide hM4
              have HSL4 := hide hsl4
              have HO4 := hide hO4
              have HF4 := hide hf4
              clear hW hw3 ho3 hf3 hM3 hbl3 hsl3 hM4 ho4 hbl4 hsl4 hO4 hf4 hbl hsl ho hf hp HMJ z1 c4
              go_wp2_with fail
              (with_reducible refine (unhide HBW).mono ?_)
              rintro e w5 ⟨v5, rfl, hb5, ho5, hf5⟩
              have hM5 := HM4.out.build HBL4.out (fun k hk hm => by have h8 := hbv.out k hm; have h9 := H.out.smj.lt k hk; omega) ho5
              have hsl5 := HSL4.out.keep ho5 (fun k hk hm => by
                obtain ⟨cs, hb⟩ := HSL4.out.blkOf k hk
                rcases List.mem_cons.1 hm with rfl | hm
                · exact hb.ne_ HBL4.out.mid.2 (by decide) rfl
                · obtain ⟨cs', hb'⟩ := HBL4.out.rowBlk k hm
                  exact hb.ne_ hb' (by decide) rfl)
              have hO5 := HO4.out.own ho5 (fun k hk => by
                rcases List.mem_cons.1 hk with rfl | hk
                · exact .inr (Nat.le_refl _)
                · exact .inr (hbv.out k hk))
              have hb5' : Blo w5 w.heap.size [] [] 0 (.pointer (some ⟨w.heap.size, 0, none⟩)) v5 (Lib.byteCells (outj ++ s2)) := by
                have h9 := hb5
                rw [byte_str, show Lib.byteCells outj ++ Lib.byteCells s2 = Lib.byteCells (outj ++ s2) by simp [Lib.byteCells]] at h9
                exact h9
              have HM5 := hide hM5
              have HSL5 := hide hsl5
              have HO5 := hide hO5
              have HB5 := hide hb5'
              have HV5 : Hid (∀ k ∈ slB v5, w.heap.size ≤ k) := hide (fun k hk => (hf5 k hk).elim (hbv.out k) (fun h9 => by have := HO4.out.size; omega))
              clear HBW hb5 ho5 hf5 hM5 hsl5 hO5 hb5' HBL4 HM4 HSL4 HO4
              go_wp2_with fail
              go_roundg (gk - 1)
              case measure => omega
              case rel => exact ⟨j + 1, _, outj ++ s2, v3, kj + 1, .pointer (some ⟨w.heap.size, 0, none⟩), v5, by go_num, by omega, HPUT, HM5, hstg, hide ⟨HUP.out, by have := hkj.out.2.1; omega, by have := hkj.out.2.2; have := HSH.out; rw [List.length_append]; omega⟩, HB5, HV5, HSL5, HO5, HF4⟩
            · have e0 : (mj.e == 0) = false := by simpa using he
              rw [if_neg he] at hput2
              have HPUT := hide hput2
              clear hput2 he hy hyj hput hjX
              go_wp2_with fail
              go_roundg (gk - 1)
              case measure => omega
              case rel => exact ⟨j + 1, mj, outj, vj, kj, ba, bv, by go_num, by omega, HPUT, hp, hstg, hide ⟨hkj.out.1, by have := hkj.out.2.1; omega, hkj.out.2.2⟩, hbl, hbv, hsl, ho, hf⟩
          · have hput2 := hput.out
            rw [List.drop_eq_nil_of_le (by rw [← HC.out]; omega)] at hput2
            simp only [Pip.put1] at hput2
            have hall := HALL.out
            rw [← hput2] at hall
            simp only at hall
            have hcj : c - j = 0 := by omega
            clear hput2 hput
            by_cases he : mj.e = 0
            · have e0 : (mj.e != 0) = false := by simp [he]
              rw [if_neg (by simp [he])] at hall
              have HA := hide hall
              have HCJ := hide hcj
              clear hall he hcj HALL
              go_wp2_with fail
              go_roundg (gO - 1)
              case measure => omega
              case rel => exact ⟨i + 1, mj, outj, vj, F1, kj, ba, bv, by go_num, by omega, HA, hp, hide (by rw [hstg.out]; exact HST.out.1), hide ⟨hkj.out.1, by have := hkj.out.2.1; rw [hstg.out]; have := HCJ.out; omega, hkj.out.2.2⟩, hbl, hbv, ho, hf⟩
            · have e0 : (mj.e != 0) = true := by simpa using he
              rw [if_pos he] at hall
              have HA := hide hall
              clear hall he HALL
              go_upto_region 18 with (fail)
              refine wp_region_tree (fun W => W.cell? ⟨q, 4, none⟩ = some (.int .i64 mj.e)) 6 (.take [1, 2, 3, 4] (.step 0 (.step 5 (.step 6 (.fin))))) (by kernel_rfl) (by kernel_rfl) (by intro _ _ _ _ _ h; exact h) ?_
              refine wpTree_take (c4) ?_
              simp only [opsAt, List.getElem?_cons_zero, List.getElem?_cons_succ]
              iterate 4 (first | (refine wpPureH_step (v := ?_) rfl (fun W hS => ?_) ?_; rotate_left; · (obtain s1 := hS; (try simp only [Act.put, List.setIfInBounds_toArray, List.set_cons_zero, List.set_cons_succ]); go_simp; with_reducible rfl)) | (refine wpPureH_want (v := ?_) (by rfl) (fun W hS => ?_) ?_; rotate_left; · (obtain s1 := hS; (try simp only [Act.put, List.setIfInBounds_toArray, List.set_cons_zero, List.set_cons_succ]); go_simp; with_reducible rfl)))
              refine wpPureH_nil ?_
              simp only [Act.put, List.setIfInBounds_toArray, List.set_cons_zero, List.set_cons_succ]
              have hbd := hbl.out.far ((Only.refl [] wr).drew) (by simp) (by simp)
              have HS := hide (ostring_any hbd)
              have HMD := hide (hp.out.new ((Only.refl [] wr).drew))
              have HBD := hide hbd
              clear hbd
              refine wpTree_step ?_
              simp only [opsAt, List.getElem?_cons_zero, List.getElem?_cons_succ]
              go_wp2_with fail
              (with_reducible refine (unhide HS).mono ?_)
              rintro e w9 ⟨rfl, ho9⟩
              have hM9 := HMD.out.build HBD.out (fun k hk hm => by have h8 := hbv.out k hm; have h9 := H.out.smj.lt k hk; omega) (ho9.mono (fun k hk => List.mem_cons_of_mem _ hk))
              have c49 : w9.cell? ⟨q, 4, none⟩ = some (.int .i64 mj.e) := hM9.blk.cellv 4 _ rfl
              have HM9 := hide hM9
              have HO9 := hide ((ho.out.drew).own ho9 (fun k hk => .inr (hbv.out k hk)))
              clear HS hM9 ho9 HMD HBD
              go_wp2_with fail
              refine ⟨.inr c49, ?_⟩
              refine wpTree_step ?_
              simp only [opsAt, List.getElem?_cons_zero, List.getElem?_cons_succ]
              go_wp2_with fail
              refine ⟨.inr c49, ?_⟩
              refine wpTree_step ?_
              simp only [opsAt, List.getElem?_cons_zero, List.getElem?_cons_succ]
              go_wp2_with fail
              refine ⟨.inl trivial, wpTree_fin ?_⟩
              go_wp2_with fail
              go_ret2
              rw [← HA.out]
              exact ⟨rfl, F1, vj, HM9.out, HO9.out, hf.out⟩
      · go_wp2_with fail
        (with_reducible refine (unhide (HSTP _ (hp.out.stg.keep (T := []) ((Only.refl [] wr).alloc (.cells #[.iface t0 v0] 20)) (by simp) (by simp)))).mono ?_)
        rintro e w1 ⟨ov, F', rfl, h1, h2, h3, h4, h5⟩
        simp only at h1 h2
        rw [← HC.out] at h1
        obtain ⟨oa, oc, rfl⟩ := h1.form
        obtain ⟨F1, hM1, hF1⟩ := (hp.out.new ((Only.refl [] wr).alloc (.cells #[.iface t0 v0] 20))).stage h2 h3
        have hpA := hp.out.new ((Only.refl [] wr).alloc (.cells #[.iface t0 v0] 20))
        have hblA := hbl.out.far ((Only.refl [] wr).alloc (.cells #[.iface t0 v0] 20)) (by simp) (by simp)
        have hbl1 := hblA.far h3 (hpA.notStg hblA.mid.2 (by decide) (by decide) (by decide)) (fun k hk => by
          obtain ⟨cs, hb⟩ := hblA.rowBlk k hk
          exact hpA.notStg hb (by decide) (by decide) (by decide))
        have d4 : w1.cell? ⟨q, 4, none⟩ = some (.int .i64 mi.e) := hM1.blk.cellv 4 _ rfl
        have g4 := hM1.blk.frozen 4
        have hM2 := hM1.seterr e1
        have ho2 : Only [q] w1 (w1.setCell ⟨q, 4, none⟩ (.int .i64 e1)) := (Only.refl _ w1).setCell (p := ⟨q, 4, none⟩) (by simp) _
        have hbl2 := hbl1.far ho2 (hM1.notOwn hbl1.mid.2 (by decide)) (fun k hk => by
          obtain ⟨cs, hb⟩ := hbl1.rowBlk k hk
          exact hM1.notOwn hb (by decide))
        have hsl2 := h1.keep ho2 (fun k hk => by
          obtain ⟨cs, hb⟩ := h1.blkOf k hk
          exact hM1.notOwn hb (by decide))
        have hO2 : Only (q :: o :: s :: (slB vo ++ Fs)) w (w1.setCell ⟨q, 4, none⟩ (.int .i64 e1)) := ((ho.out.alloc (.cells #[.iface t0 v0] 20)).own h3 (fun k hk => by
          rcases List.mem_cons.1 hk with rfl | hk
          · exact .inl (by simp)
          · exact (hf.out k (List.mem_append_left _ hk)).imp_left (fun h9 => List.mem_cons_of_mem _ (List.mem_cons_of_mem _ (List.mem_cons_of_mem _ h9))))).setCell (p := ⟨q, 4, none⟩) (List.mem_cons_self ..) _
        have hf2 : ∀ k ∈ F1 ++ slB vi, k ∈ slB vo ++ Fs ∨ w.heap.size ≤ k := fun k hk => by
          rcases List.mem_append.1 hk with hk | hk
          · rcases h5 k (hF1 k hk) with h9 | h9
            · exact hf.out k (List.mem_append_left _ h9)
            · exact .inr (by simp at h9; omega)
          · exact hf.out k (List.mem_append_right _ hk)
        have HM2 := hide hM2
        have HBL2 := hide hbl2
        have HSL2 := hide hsl2
        have HO2 := hide hO2
        have HF2 := hide hf2
        have lq2 : q < w1.heap.size := hM1.blk.lt
        obtain ⟨gO, hgO⟩ : ∃ g, g = gk := ⟨_, rfl⟩
        have hc4 : (c : Int) ≤ 5000 := by have := HST.out.2.2.1; have := HC.out; have := hki.out.2.1; have := HN2.out; omega
        clear HSTP h1 h2 h3 h4 h5 hM1 hF1 hpA hblA hbl1 hM2 ho2 hbl2 hsl2 hO2 hf2 hp hbl ho hf z0 c2
        go_wp2_with fail
        go_loopg [52] c (fun gk2 s52 wz => ∃ (j : Nat) (mj : Pip) (outj : List UInt8) (vj : Value) (kj : Nat) (ba bv : Value), s52 = .int .i64 j ∧ j + gk2 = c ∧ Hid (mj.put1 (X.drop j) outj = P1) ∧ Hid (PipM wz q b o s Fj F1 vj d mj) ∧ Hid (mj.stg = st1) ∧ Hid (Upto kj mj.R ∧ kj + (c - j) + st1.held.length ≤ N + i + 1 ∧ outj.length ≤ 209 * kj) ∧
          Hid (Blo wz w.heap.size [] [] 0 ba bv (Lib.byteCells outj)) ∧ Hid (∀ k ∈ slB bv, w.heap.size ≤ k) ∧ Hid (SlN wz 0 20 1 (.slice oa c oc) c (partsV X)) ∧ Hid (Only (q :: o :: s :: (slB vo ++ Fs)) w wz) ∧ Hid (∀ k ∈ F1 ++ slB vj, k ∈ slB vo ++ Fs ∨ w.heap.size ≤ k))
        case atStart =>
          exact ⟨0, _, out, vi, ki, ba, bv, rfl, by omega, HP1, HM2, rfl, hide ⟨hki.out.1, by have := HST.out.2.2.1; have := HC.out; have := hki.out.2.1; omega, hki.out.2.2⟩, HBL2, hbv, HSL2, HO2, HF2⟩
        case round =>
          obtain ⟨j, mj, outj, vj, kj, ba, bv, rfl, hj, hput, hp, hstg, hkj, hbl, hbv, hsl, ho, hf⟩ := hrel
          have lg2 : w.heap.size < wr.heap.size := by have := hbl.out.mid.lt; omega
          have c4 : wr.cell? ⟨q, 4, none⟩ = some (.int .i64 mj.e) := hp.out.blk.cellv 4 _ rfl
          have lqr := hp.out.blk.lt
          have HMJ := hp
          clear HM2 HBL2 HSL2 HO2 HF2 HP1 d4 g4
          by_cases hjc : j < c
          · have hjX : j < X.length := by rw [← HC.out]; exact hjc
            obtain ⟨y, hy⟩ : ∃ y, y = X[j] := ⟨_, rfl⟩
            have hyj : y.js2 = true := hy ▸ HST.out.2.1 _ (List.getElem_mem hjX)
            have hput2 := hput.out
            rw [List.drop_eq_getElem_cons hjX, ← hy] at hput2
            simp only [Pip.put1] at hput2
            obtain ⟨go, oo, co, hv, zz1, zz2⟩ := hsl.out.cell j (by simp [partsV]; exact hjX)
            injection hv with e2 e3 e4
            subst e2 e4
            have z1 : wr.cell? ⟨go, oo + j, none⟩ = some y.val := (hsl.out.at j _ (by simp [partsV, hy, hjX])).1
            clear zz1 zz2 e3
            by_cases he : mj.e = 0
            · have e0 : (mj.e == 0) = true := by simp [he]
              rw [if_pos he] at hput2
              have hyl : y.len ≤ 200 := by cases y <;> simp [Part.js2] at hyj <;> simp [Part.len, hyj]
              have hsh := stepC_short mj.R mj.dn hyj
              have hup := hkj.out.1.step mj.dn y
              obtain ⟨k2, s2, R2, d2, hst⟩ : ∃ k2 s2 R2 d2, (k2, s2, R2, d2) = stepC mj.R mj.dn y := ⟨_, _, _, _, rfl⟩
              have hW := hide (step_any hp.out.out (hkj.out.1.small (by have := hkj.out.2.1; have := HN2.out; omega)) y (Part.js2_fits hyj) k2 s2 R2 d2 hst)
              rw [← hst] at hput2 hsh hup
              simp only at hput2 hsh hup
              have HPUT := hide hput2
              have HSH := hide (And.intro hsh hyl)
              have HUP := hide hup
              clear hput2 hsh hup hst he hyl hy hyj hput hjX
              go_wp2_with fail
              (with_reducible refine (unhide hW).mono ?_)
              rintro e w3 ⟨rfl, v3, hw3, ho3, hf3⟩
              have hM3 := HMJ.out.writer hw3 ho3
              have hbl3 := hbl.out.far ho3 (HMJ.out.notOut hbl.out.mid.2 (by decide) (by decide)) (fun k hk => by
                obtain ⟨cs, hb⟩ := hbl.out.rowBlk k hk
                exact HMJ.out.notOut hb (by decide) (by decide))
              have hsl3 := hsl.out.keep ho3 (fun k hk => by
                obtain ⟨cs, hb⟩ := hsl.out.blkOf k hk
                exact HMJ.out.notOut hb (by decide) (by decide))
              have d4 : w3.cell? ⟨q, 4, none⟩ = some (.int .i64 mj.e) := hM3.blk.cellv 4 _ rfl
              have g4 := hM3.blk.frozen 4
              have hM4 := hM3.seterr k2
              have ho4 : Only [q] w3 (w3.setCell ⟨q, 4, none⟩ (.int .i64 k2)) := (Only.refl _ w3).setCell (p := ⟨q, 4, none⟩) (by simp) _
              have hbl4 := hbl3.far ho4 (hM3.notOwn hbl3.mid.2 (by decide)) (fun k hk => by
                obtain ⟨cs, hb⟩ := hbl3.rowBlk k hk
                exact hM3.notOwn hb (by decide))
              have hsl4 := hsl3.keep ho4 (fun k hk => by
                obtain ⟨cs, hb⟩ := hsl3.blkOf k hk
                exact hM3.notOwn hb (by decide))
              have hO4 : Only (q :: o :: s :: (slB vo ++ Fs)) w (w3.setCell ⟨q, 4, none⟩ (.int .i64 k2)) := (ho.out.own ho3 (fun k hk => by
                rcases List.mem_cons.1 hk with rfl | hk
                · exact .inl (by simp)
                · exact (hf.out k (List.mem_append_right _ hk)).imp_left (fun h9 => List.mem_cons_of_mem _ (List.mem_cons_of_mem _ (List.mem_cons_of_mem _ h9))))).setCell (p := ⟨q, 4, none⟩) (List.mem_cons_self ..) _
              have hf4 : ∀ k ∈ F1 ++ slB v3, k ∈ slB vo ++ Fs ∨ w.heap.size ≤ k := fun k hk => by
                rcases List.mem_append.1 hk with hk | hk
                · exact hf.out k (List.mem_append_left _ hk)
                · rcases hf3 k hk with h9 | h9
                  · exact hf.out k (List.mem_append_right _ h9)
                  · exact .inr (by omega)
              have HBW := hide (owrite_any hbl4 (S s2) (by rw [Lib.byteCells_length, S_size]; have := hkj.out; have := HN2.out; have := HSH.out; omega) (Nat.zero_le _))
              have HBL4 := hide hbl4
              have HM4 := hide hM4
              have HSL4 := hide hsl4
              have HO4 := hide hO4
              have HF4 := hide hf4
              clear hW hw3 ho3 hf3 hM3 hbl3 hsl3 hM4 ho4 hbl4 hsl4 hO4 hf4 hbl hsl ho hf hp HMJ z1 c4
              go_wp2_with fail
              (with_reducible refine (unhide HBW).mono ?_)
              rintro e w5 ⟨v5, rfl, hb5, ho5, hf5⟩
              have hM5 := HM4.out.build HBL4.out (fun k hk hm => by have h8 := hbv.out k hm; have h9 := H.out.smj.lt k hk; omega) ho5
              have hsl5 := HSL4.out.keep ho5 (fun k hk hm => by
                obtain ⟨cs, hb⟩ := HSL4.out.blkOf k hk
                rcases List.mem_cons.1 hm with rfl | hm
                · exact hb.ne_ HBL4.out.mid.2 (by decide) rfl
                · obtain ⟨cs', hb'⟩ := HBL4.out.rowBlk k hm
                  exact hb.ne_ hb' (by decide) rfl)
              have hO5 := HO4.out.own ho5 (fun k hk => by
                rcases List.mem_cons.1 hk with rfl | hk
                · exact .inr (Nat.le_refl _)
                · exact .inr (hbv.out k hk))
              have hb5' : Blo w5 w.heap.size [] [] 0 (.pointer (some ⟨w.heap.size, 0, none⟩)) v5 (Lib.byteCells (outj ++ s2)) := by
                have h9 := hb5
                rw [byte_str, show Lib.byteCells outj ++ Lib.byteCells s2 = Lib.byteCells (outj ++ s2) by simp [Lib.byteCells]] at h9
                exact h9
              have HM5 := hide hM5
              have HSL5 := hide hsl5
              have HO5 := hide hO5
              have HB5 := hide hb5'
              have HV5 : Hid (∀ k ∈ slB v5, w.heap.size ≤ k) := hide (fun k hk => (hf5 k hk).elim (hbv.out k) (fun h9 => by have := HO4.out.size; omega))
              clear HBW hb5 ho5 hf5 hM5 hsl5 hO5 hb5' HBL4 HM4 HSL4 HO4
              go_wp2_with fail
              go_roundg (gk - 1)
              case measure => omega
              case rel => exact ⟨j + 1, _, outj ++ s2, v3, kj + 1, .pointer (some ⟨w.heap.size, 0, none⟩), v5, by go_num, by omega, HPUT, HM5, hstg, hide ⟨HUP.out, by have := hkj.out.2.1; omega, by have := hkj.out.2.2; have := HSH.out; rw [List.length_append]; omega⟩, HB5, HV5, HSL5, HO5, HF4⟩
            · have e0 : (mj.e == 0) = false := by simpa using he
              rw [if_neg he] at hput2
              have HPUT := hide hput2
              clear hput2 he hy hyj hput hjX
              go_wp2_with fail
              go_roundg (gk - 1)
              case measure => omega
              case rel => exact ⟨j + 1, mj, outj, vj, kj, ba, bv, by go_num, by omega, HPUT, hp, hstg, hide ⟨hkj.out.1, by have := hkj.out.2.1; omega, hkj.out.2.2⟩, hbl, hbv, hsl, ho, hf⟩
          · have hput2 := hput.out
            rw [List.drop_eq_nil_of_le (by rw [← HC.out]; omega)] at hput2
            simp only [Pip.put1] at hput2
            have hall := HALL.out
            rw [← hput2] at hall
            simp only at hall
            have hcj : c - j = 0 := by omega
            clear hput2 hput
            by_cases he : mj.e = 0
            · have e0 : (mj.e != 0) = false := by simp [he]
              rw [if_neg (by simp [he])] at hall
              have HA := hide hall
              have HCJ := hide hcj
              clear hall he hcj HALL
              go_wp2_with fail
              go_roundg (gO - 1)
              case measure => omega
              case rel => exact ⟨i + 1, mj, outj, vj, F1, kj, ba, bv, by go_num, by omega, HA, hp, hide (by rw [hstg.out]; exact HST.out.1), hide ⟨hkj.out.1, by have := hkj.out.2.1; rw [hstg.out]; have := HCJ.out; omega, hkj.out.2.2⟩, hbl, hbv, ho, hf⟩
            · have e0 : (mj.e != 0) = true := by simpa using he
              rw [if_pos he] at hall
              have HA := hide hall
              clear hall he HALL
              go_upto_region 18 with (fail)
              refine wp_region_tree (fun W => W.cell? ⟨q, 4, none⟩ = some (.int .i64 mj.e)) 6 (.take [1, 2, 3, 4] (.step 0 (.step 5 (.step 6 (.fin))))) (by kernel_rfl) (by kernel_rfl) (by intro _ _ _ _ _ h; exact h) ?_
              refine wpTree_take (c4) ?_
              simp only [opsAt, List.getElem?_cons_zero, List.getElem?_cons_succ]
              iterate 4 (first | (refine wpPureH_step (v := ?_) rfl (fun W hS => ?_) ?_; rotate_left; · (obtain s1 := hS; (try simp only [Act.put, List.setIfInBounds_toArray, List.set_cons_zero, List.set_cons_succ]); go_simp; with_reducible rfl)) | (refine wpPureH_want (v := ?_) (by rfl) (fun W hS => ?_) ?_; rotate_left; · (obtain s1 := hS; (try simp only [Act.put, List.setIfInBounds_toArray, List.set_cons_zero, List.set_cons_succ]); go_simp; with_reducible rfl)))
              refine wpPureH_nil ?_
              simp only [Act.put, List.setIfInBounds_toArray, List.set_cons_zero, List.set_cons_succ]
              have hbd := hbl.out.far ((Only.refl [] wr).drew) (by simp) (by simp)
              have HS := hide (ostring_any hbd)
              have HMD := hide (hp.out.new ((Only.refl [] wr).drew))
              have HBD := hide hbd
              clear hbd
              refine wpTree_step ?_
              simp only [opsAt, List.getElem?_cons_zero, List.getElem?_cons_succ]
              go_wp2_with fail
              (with_reducible refine (unhide HS).mono ?_)
              rintro e w9 ⟨rfl, ho9⟩
              have hM9 := HMD.out.build HBD.out (fun k hk hm => by have h8 := hbv.out k hm; have h9 := H.out.smj.lt k hk; omega) (ho9.mono (fun k hk => List.mem_cons_of_mem _ hk))
              have c49 : w9.cell? ⟨q, 4, none⟩ = some (.int .i64 mj.e) := hM9.blk.cellv 4 _ rfl
              have HM9 := hide hM9
              have HO9 := hide ((ho.out.drew).own ho9 (fun k hk => .inr (hbv.out k hk)))
              clear HS hM9 ho9 HMD HBD
              go_wp2_with fail
              refine ⟨.inr c49, ?_⟩
              refine wpTree_step ?_
              simp only [opsAt, List.getElem?_cons_zero, List.getElem?_cons_succ]
              go_wp2_with fail
              refine ⟨.inr c49, ?_⟩
              refine wpTree_step ?_
              simp only [opsAt, List.getElem?_cons_zero, List.getElem?_cons_succ]
              go_wp2_with fail
              refine ⟨.inl trivial, wpTree_fin ?_⟩
              go_wp2_with fail
              go_ret2
              rw [← HA.out]
              exact ⟨rfl, F1, vj, HM9.out, HO9.out, hf.out⟩
    · have hall := hall.out
      rw [List.drop_eq_nil_of_le (by rw [← HLN.out]; omega)] at hall
      simp only [Pip.write] at hall
      have HA := hide hall
      have c4 : wr.cell? ⟨q, 4, none⟩ = some (.int .i64 mi.e) := hp.out.blk.cellv 4 _ rfl
      have f4 := hp.out.blk.frozen 4
      have lqr := hp.out.blk.lt
      have hM9 := hp.out.seterr er
      have ho4 : Only [q] wr (wr.setCell ⟨q, 4, none⟩ (.int .i64 er)) := (Only.refl _ wr).setCell (p := ⟨q, 4, none⟩) (by simp) _
      have hb9 := hbl.out.far ho4 (hp.out.notOwn hbl.out.mid.2 (by decide)) (fun k hk => by
        obtain ⟨cs, hb⟩ := hbl.out.rowBlk k hk
        exact hp.out.notOwn hb (by decide))
      have HS := hide (ostring_any hb9)
      have HM9 := hide hM9
      have HB9 := hide hb9
      have HO9 := hide (ho.out.setCell (p := ⟨q, 4, none⟩) (List.mem_cons_self ..) (.int .i64 er))
      clear hall hM9 ho4 hb9 hp hbl ho
      go_wp2_with fail
      (with_reducible refine (unhide HS).mono ?_)
      rintro e w9 ⟨rfl, ho9⟩
      have hMX := HM9.out.build HB9.out (fun k hk hm => by have h8 := hbv.out k hm; have h9 := H.out.smj.lt k hk; omega) (ho9.mono (fun k hk => List.mem_cons_of_mem _ hk))
      have HMX := hide hMX
      have HOX := hide (HO9.out.own ho9 (fun k hk => .inr (hbv.out k hk)))
      clear HS hMX ho9 HM9 HB9 HO9
      go_wp2_with fail
      go_ret2
      rw [← HA.out]
      exact ⟨rfl, Fi, vi, HMX.out, HOX.out, hf.out⟩
end Go.Proofs.YtkccjfgkbkodiaaGreat
