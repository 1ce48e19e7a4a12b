/-
  QueP · Ses · SesB: parts of the walk of TopTight, under no condition.
-/
import Derived.Test.YtkccjfgkbkodiaaGreatZ24
namespace Go.Proofs.YtkccjfgkbkodiaaGreat
open Go.RowKit
theorem take_whole {w2 : World} {p g off cap n : Nat} {pre post : List Value} {c cd : List UInt8} {M : List (List UInt8)} {x mm : Int} {v2 : Value} (hp : Mid w2 p 96 pre [.slice (some ⟨g, off, none⟩) n cap, .int .i64 mm] post 1)
    (hs : Sl w2 0 9 (.slice (some ⟨g, off, none⟩) n cap) (strV (c :: M))) (hn : n = (strV (c :: M)).length) (hne : ∀ l ∈ c :: M, l ≠ []) (hpg : p ≠ g)
    (hv2 : ∀ W ys, Sl W 0 9 (.slice (some ⟨g, off, none⟩) n cap) ys → Sl W 0 9 v2 ys.tail) (hb2 : slB v2 = slB (.slice (some ⟨g, off, none⟩) n cap)) (hx : x = (M.flatten.length : Nat)) :
    QueS ((((w2.setCell ⟨g, off, none⟩ (.string (S cd))).setCell ⟨p, 1, none⟩ v2).setCell ⟨p, 2, none⟩ (.int .i64 x)).drew) p pre post v2 M := by
  subst hn hx
  have hpv : p ∉ slB v2 := by rw [hb2]; simpa [slB] using hpg
  refine ⟨?_, ?_, fun l hl => hne l (List.mem_cons_of_mem _ hl)⟩
  · exact ((hp.keep ((Only.refl [g] _).setCell (p := ⟨g, off, none⟩) (by simp) _) (by simpa using hpg)).set 0 (by simp) v2).set 1 (by simp) _
  · exact (((hv2 _ _ (Sl.put hs (.string (S cd)))).far (p := ⟨p, 1, none⟩) hpv _).far (p := ⟨p, 2, none⟩) hpv _)
theorem take_part {w2 : World} {p g off cap n : Nat} {pre post : List Value} {c cd : List UInt8} {M : List (List UInt8)} {x mm : Int} (hp : Mid w2 p 96 pre [.slice (some ⟨g, off, none⟩) n cap, .int .i64 mm] post 1)
    (hs : Sl w2 0 9 (.slice (some ⟨g, off, none⟩) n cap) (strV (c :: M))) (hn : n = (strV (c :: M)).length) (hne : ∀ l ∈ c :: M, l ≠ []) (hpg : p ≠ g) (hcd : cd ≠ []) (hx : x = ((cd :: M).flatten.length : Nat)) :
    QueS (((w2.setCell ⟨g, off, none⟩ (.string (S cd))).setCell ⟨p, 2, none⟩ (.int .i64 x)).drew) p pre post (.slice (some ⟨g, off, none⟩) n cap) (cd :: M) := by
  subst hn hx
  have hpv : p ∉ slB (.slice (some ⟨g, off, none⟩) (strV (c :: M)).length cap) := by simpa [slB] using hpg
  refine ⟨?_, ?_, fun l hl => ?_⟩
  · exact (hp.keep ((Only.refl [g] _).setCell (p := ⟨g, off, none⟩) (by simp) _) (by simpa using hpg)).set 1 (by simp) _
  · exact (Sl.put hs (.string (S cd))).far (p := ⟨p, 2, none⟩) hpv _
  · rcases List.mem_cons.1 hl with rfl | hl
    · exact hcd
    · exact hne l (List.mem_cons_of_mem _ hl)
set_option maxRecDepth 100000 in
set_option maxHeartbeats 2000000 in
theorem qs_take {w : World} {p : Nat} {pre post : List Value} {v : Value} {L : List (List UInt8)} (h : QueS w p pre post v L) (ni : Int) (k : Nat) (hk : (k : Int) = max (min ni L.flatten.length) 0) (hsz : L.flatten.length ≤ 1000000) :
    Calls Tryz.prog 71 #[.pointer (some ⟨p, 1, none⟩), .int .i64 ni] w fun e w' => e = .returned (.string (S (L.flatten.take k))) ∧ ∃ v', QueS w' p pre post v' (dropQ k L) ∧ Only (p :: slB v) w w' ∧ (∀ k ∈ slB v', k ∈ slB v) := by
  obtain ⟨n, hn⟩ : ∃ n : Nat, n = L.flatten.length := ⟨_, rfl⟩
  obtain ⟨m0, hm0⟩ : ∃ m0 : Int, m0 = min ni n := ⟨_, rfl⟩
  have hmin := min_i64 (P := Tryz.prog) #[3, 3] 3 ni n m0 hm0
  have HL := fun W (hW : QueS W p pre post v L) => hide (qs_len hW n (by rw [hn]))
  have HH := hide h
  have HK := hide (show (k : Int) = max m0 0 by rw [hm0, hn]; exact hk)
  have HKN := hide (show k ≤ n by omega)
  have HN := hide hn
  rw [← hn] at hsz
  clear hm0 hk hn h
  go_enter Tryz.func71, Tryz.ntmps71
  go_wp2_with fail
  refine (unhide (HL _ ⟨HH.out.mid.alloc _, HH.out.sl.alloc _, HH.out.ne⟩)).mono ?_
  rintro e w1 ⟨rfl, rfl⟩
  go_wp2_with fail
  go_loopg [1, 6, 7] k (fun g s1 s6 s7 wr => ∃ (m : Nat) (mi : Int) (M : List (List UInt8)) (got : List UInt8) (v' ba bv : Value), s1 = .int .i64 mi ∧ Hid ((m : Int) = max mi 0) ∧ g = m ∧ QueS wr p pre post v' M ∧ Hid (Blo wr w.heap.size [] [] 0 ba bv (Lib.byteCells got)) ∧ Hid (∀ k ∈ slB bv, w.heap.size ≤ k) ∧
    Hid (got ++ M.flatten = L.flatten) ∧ Hid (got.length + m = k) ∧ Hid (dropQ k L = dropQ m M) ∧ Only (p :: slB v) w wr ∧ (∀ x ∈ slB v', x ∈ slB v))
  case atStart =>
    refine ⟨k, m0, L, [], v, .pointer none, .slice none 0 0, rfl, HK.out, rfl, ⟨HH.out.mid.alloc _, HH.out.sl.alloc _, HH.out.ne⟩, hide ⟨⟨rfl, Blk.new _ _ _⟩, ⟨rfl, rfl⟩, .inl rfl, World.ownsRow_nil _ _ _ _⟩, hide (by simp [slB]), rfl, by show 0 + k = k; omega, rfl, (Only.refl _ _).alloc _, fun _ h => h⟩
  case round =>
    obtain ⟨m, mi, M, got, v', ba, bv, rfl, hm, rfl, hq, hbl, hbv, hgot, hlen, hdrop, ho, hsub⟩ := hrel
    by_cases hm0 : 0 < gk
    · have hmi : mi = gk := by have := hm.out; omega
      subst hmi
      have htot : got.length + M.flatten.length = n := by
        have := congrArg List.length hgot.out
        rw [List.length_append, ← HN.out] at this
        exact this
      cases M with
      | nil =>
        exfalso
        have h1 := hlen.out
        have h2 := HKN.out
        simp at htot
        omega
      | cons c M =>
        have hcne : 0 < c.length := List.length_pos_iff.2 (hq.ne c (List.mem_cons_self ..))
        obtain ⟨g, off, cap, hv, hgl, hcell⟩ := hq.sl.some (by rw [strV_length]; simp)
        obtain ⟨len, hlen2⟩ : ∃ len, len = (strV (c :: M)).length := ⟨_, rfl⟩
        rw [← hlen2] at hv
        subst hv
        have hgv : g ∈ slB v := hsub g (by simp [slB])
        have hgw := (HH.out.sl.lt g hgv).2
        have hpw := HH.out.lt
        have hpg : p ≠ g := by
          have := hq.out
          simpa [slB] using this
        have cg : wr.cell? ⟨g, off, none⟩ = some (.string (S c)) := by
          have := hcell 0 (by rw [strV_length]; simp)
          simpa [strV] using this
        obtain ⟨mm, hmm⟩ : ∃ mm : Nat, mm = (c :: M).flatten.length := ⟨_, rfl⟩
        have hbp : Mid wr p 96 pre [.slice (some ⟨g, off, none⟩) len cap, .int .i64 mm] post 1 := by rw [hmm]; exact hq.mid
        have fg : wr.frozen? ⟨g, off, none⟩ = false := by
          rcases hq.sl with ⟨hv, _⟩ | ⟨g', off', cap', cs', hv, _, hg', _⟩
          · cases hv
          · injection hv with e1 e2 e3
            injection e1 with e1
            injection e1 with e4 e5
            subst e4 e5
            exact hg'.frozen _
        obtain ⟨kk, hkk⟩ : ∃ kk : Nat, kk = min gk c.length := ⟨_, rfl⟩
        obtain ⟨ki, hki⟩ : ∃ ki : Int, ki = kk := ⟨_, rfl⟩
        have hmin2 := min_i64 (P := Tryz.prog) #[3, 3] 3 gk c.length ki (by omega)
        obtain ⟨ck, hck⟩ : ∃ ck, ck = c.take kk := ⟨_, rfl⟩
        obtain ⟨cd, hcd⟩ : ∃ cd, cd = c.drop kk := ⟨_, rfl⟩
        have hs1 := slice_to_at (P := Tryz.prog) Tryz.underlying9 c kk (by omega) ki hki ck hck
        have hs2 := slice_from_at (P := Tryz.prog) Tryz.underlying9 c kk (by omega) ki hki cd hcd
        have hlw := ho.size
        have hckl : ck.length = kk := by rw [hck, List.length_take]; omega
        have hcl : c.length ≤ 1000000 := by rw [List.flatten_cons, List.length_append] at htot; omega
        have hmm2 : mm ≤ 1000000 := by omega
        have hckm : got.length + ck.length ≤ 1000000 := by
          have h1 : (c :: M).flatten.length = c.length + M.flatten.length := by rw [List.flatten_cons, List.length_append]
          omega
        have HW := hide (owrite_any hbl.out (S ck) (by rw [S_size, Lib.byteCells_length]; omega) (Nat.zero_le _))
        have hgk2 : ∀ k ∈ w.heap.size :: slB bv, w.heap.size ≤ k := fun k hk => by
          rcases List.mem_cons.1 hk with rfl | hk
          · exact Nat.le_refl _
          · exact hbv.out k hk
        have hgk20 := hide hgk2
        have hkm : kk ≤ mm := by rw [hmm, List.flatten_cons, List.length_append]; omega
        have hki1 : 0 ≤ ki := by omega
        have hki2 : ki ≤ gk := by omega
        have hki3 : ki ≤ mm := by omega
        have hgk : gk ≤ 1000000 := by have := hlen.out; have := HKN.out; omega
        have hq0 := hide hq
        have ho0 := hide ho
        have hcd0 := hide hcd
        have hck0 := hide hck
        have hmm0 := hide hmm
        have hkk0 := hide hkk
        have hki0 := hide hki
        have hlen0 := hide hlen2
        have hbp0 := hide hbp
        have hsl1 := slice1_sl (P := Tryz.prog) (t := 22) (by kernel_rfl) (fun w => Tryz.sizeOf9 w) hq.sl (by rw [strV_length]; simp)
        obtain ⟨v2, hsl2, hvb2, hvs2⟩ := hsl1
        obtain ⟨a2, c2, hv2⟩ := (hvs2 wr _ hq.sl).form
        obtain ⟨n2, hn2⟩ : ∃ n2, n2 = (strV (c :: M)).tail.length := ⟨_, rfl⟩
        rw [← hn2] at hv2
        subst hv2
        have hn20 := hide hn2
        have hvs20 := hide hvs2
        have hvb20 := hide hvb2
        have c0 : wr.cell? ⟨p, 1, none⟩ = some (.slice (some ⟨g, off, none⟩) len cap) := hbp.cell 0 _ rfl
        have hlen3 : 0 < len := by rw [hlen2, strV_length]; simp
        clear hq ho hcd hck hmm hkk hki hlen2 hbp hvs2 hvb2 hbl hcell hn2 hgk2 hbv
        go_wp2_with fail
        refine (unhide HW).mono ?_
        rintro e w2 ⟨bv2, rfl, hbl2, hob, hfb⟩
        have hp2 : Mid w2 p 96 pre [.slice (some ⟨g, off, none⟩) len cap, .int .i64 mm] post 1 := hbp0.out.keep hob (fun hm => by have := hgk20.out p hm; omega)
        have d0 : w2.cell? ⟨p, 1, none⟩ = some (.slice (some ⟨g, off, none⟩) len cap) := hp2.cell 0 _ rfl
        have d1 : w2.cell? ⟨p, 2, none⟩ = some (.int .i64 mm) := hp2.cell 1 _ rfl
        have e0 := hp2.frozen 1
        have e1 := hp2.frozen 2
        have hbv2 : ∀ k ∈ slB bv2, w.heap.size ≤ k := fun k hk => (hfb k hk).elim (fun h9 => hgk20.out k (List.mem_cons_of_mem _ h9)) (fun h9 => by omega)
        have hgb := hob.block g (by omega) (fun hm => by have := hgk20.out g hm; omega)
        have dg : w2.cell? ⟨g, off, none⟩ = some (.string (S c)) := (World.cell?_of_block (a := ⟨g, off, none⟩) hgb).trans cg
        have eg : w2.frozen? ⟨g, off, none⟩ = false := by rw [← fg]; unfold World.frozen?; rw [hgb]
        have HBL2 := hide hbl2
        have HOB := hide hob
        have HBV2 := hide hbv2
        clear cg fg c0 HW hbl2 hob hfb hbv2 hgb
        go_wp2_with fail
        have hwb := HOB.out.size
        by_cases hkc : kk = c.length
        · have hkb : (ki == (c.length : Int)) = true := by rw [hki0.out, hkc]; simp
          have hkc0 := hide hkc
          clear hkc
          refine wp_region_tbs [] [0, 1, 2, 3, 4, 5, 6, 7] [8] (by kernel_rfl) (by kernel_rfl) (by intro _ _ _ _ _ h; exact h) ?_
          simp only [opsAt, List.getElem?_cons_zero, List.getElem?_cons_succ]
          refine wpPure_nil ?_
          repeat (refine wpStill_step (fun K hK => ?_); go_simp; (try go_bits); refine hK _ ?_; clear hK K)
          refine wpStill_nil ?_
          go_wp2_with fail
          go_roundg (gk - kk)
          case measure => have := hkk0.out; omega
          case rel =>
            have hk0 := hkk0.out
            have hk1 := hki0.out
            have hk2 := hkc0.out
            have hk3 := hmm0.out
            rw [List.flatten_cons, List.length_append] at hk3
            have hck1 : ck = c := by rw [hck0.out, hk2, List.take_length]
            have hs2 := hq0.out.sl.keep HOB.out (fun x hx hm => by have := hgk20.out x hm; simp [slB] at hx; omega)
            refine ⟨gk - kk, (gk : Int) - ki, M, got ++ c, .slice a2 n2 c2, .pointer (some ⟨w.heap.size, 0, none⟩), bv2, rfl, by show _ = _; omega, rfl, take_whole hp2 hs2 hlen0.out hq0.out.ne hpg hvs20.out hvb20.out (by omega), hide ?_, HBV2, ?_, ?_, ?_, ?_, ?_⟩
            · have h9 := HBL2.out
              rw [hck1, byte_str, show Lib.byteCells got ++ Lib.byteCells c = Lib.byteCells (got ++ c) by simp [Lib.byteCells]] at h9
              exact h9.far (T := [g, p]) ((((Only.refl _ w2).setCell (p := ⟨g, off, none⟩) (by simp) _).setCell (p := ⟨p, 1, none⟩) (by simp) _).setCell (p := ⟨p, 2, none⟩) (by simp) _).drew (by simp; omega) (fun x hx => by have := HBV2.out x hx; simp; omega)
            · show _ = _
              rw [← hgot.out, List.flatten_cons, List.append_assoc]
            · show _ = _
              have := hlen.out
              rw [List.length_append]; omega
            · show _ = _
              rw [hdrop.out, dropQ, if_neg (by omega), hk2]
            · exact (((((ho0.out.own HOB.out (fun k hk => .inr (hgk20.out k hk))).setCell (p := ⟨g, off, none⟩) (by simp [hgv]) _).setCell (p := ⟨p, 1, none⟩) (by simp) _).setCell (p := ⟨p, 2, none⟩) (by simp) _)).drew
            · intro x hx
              rw [hvb20.out] at hx
              exact hsub x hx
        · have hkb : (ki == (c.length : Int)) = false := by rw [hki0.out]; simp; omega
          have hkc0 := hide hkc
          clear hkc
          refine wp_region_tbs [] [0, 1, 2, 3, 4, 5, 6, 7] [8] (by kernel_rfl) (by kernel_rfl) (by intro _ _ _ _ _ h; exact h) ?_
          simp only [opsAt, List.getElem?_cons_zero, List.getElem?_cons_succ]
          refine wpPure_nil ?_
          repeat (refine wpStill_step (fun K hK => ?_); go_simp; (try go_bits); refine hK _ ?_; clear hK K)
          refine wpStill_nil ?_
          go_wp2_with fail
          go_roundg (gk - kk)
          case measure => have := hkk0.out; omega
          case rel =>
            have hk0 := hkk0.out
            have hk1 := hki0.out
            have hk2 := hkc0.out
            have hk3 := hmm0.out
            rw [List.flatten_cons, List.length_append] at hk3
            have hkg : kk = gk := by omega
            have hs2 := hq0.out.sl.keep HOB.out (fun x hx hm => by have := hgk20.out x hm; simp [slB] at hx; omega)
            have hcdl : cd.length = c.length - kk := by rw [hcd0.out, List.length_drop]
            refine ⟨gk - kk, (gk : Int) - ki, cd :: M, got ++ ck, _, .pointer (some ⟨w.heap.size, 0, none⟩), bv2, rfl, by show _ = _; omega, rfl, take_part hp2 hs2 hlen0.out hq0.out.ne hpg (by rintro rfl; simp at hcdl; omega) (by rw [List.flatten_cons, List.length_append]; omega), hide ?_, HBV2, ?_, ?_, ?_, ?_, hsub⟩
            · have h9 := HBL2.out
              rw [byte_str, show Lib.byteCells got ++ Lib.byteCells ck = Lib.byteCells (got ++ ck) by simp [Lib.byteCells]] at h9
              exact h9.far (T := [g, p]) (((Only.refl _ w2).setCell (p := ⟨g, off, none⟩) (by simp) _).setCell (p := ⟨p, 2, none⟩) (by simp) _).drew (by simp; omega) (fun x hx => by have := HBV2.out x hx; simp; omega)
            · show _ = _
              rw [← hgot.out, List.flatten_cons, List.flatten_cons, List.append_assoc, ← List.append_assoc ck, hck0.out, hcd0.out, List.take_append_drop]
            · show _ = _
              have := hlen.out
              rw [List.length_append]; omega
            · show _ = _
              rw [hdrop.out, hcd0.out]
              have := dropQ_step kk (gk - kk) c M (by omega)
              rw [show kk + (gk - kk) = gk by omega] at this
              exact this
            · exact (((ho0.out.own HOB.out (fun k hk => .inr (hgk20.out k hk))).setCell (p := ⟨g, off, none⟩) (by simp [hgv]) _).setCell (p := ⟨p, 2, none⟩) (by simp) _).drew
    · have hg0 : gk = 0 := by omega
      subst hg0
      have hlw := ho.size
      have HS := hide (ostring_any hbl.out)
      have hmi : mi ≤ 0 := by have := hm.out; omega
      have hgt : got = L.flatten.take k := by
        have h1 := hlen.out
        rw [← hgot.out, show k = got.length by omega, List.take_left]
      have hdr : dropQ k L = M := by rw [hdrop.out, dropQ_zero M hq.ne]
      have hpw := HH.out.lt
      have hsw := fun x hx => (HH.out.sl.lt x hx).2
      clear hm
      go_wp2_with fail
      (with_reducible refine (unhide HS).mono ?_)
      rintro e w2 ⟨rfl, hob⟩
      have HOB := hide hob
      clear hob HS
      go_wp2_with fail
      go_ret
      refine ⟨by rw [← hgt]; rfl, v', ?_, ho.own HOB.out (fun k hk => .inr (hbv.out k hk)), hsub⟩
      rw [hdr]
      exact ⟨hq.mid.keep HOB.out (fun hm => by have := hbv.out p hm; omega), hq.sl.keep HOB.out (fun x hx hm => by have h8 := hbv.out x hm; have h9 := hsw x (hsub x hx); omega), hq.ne⟩
end Go.Proofs.YtkccjfgkbkodiaaGreat
namespace Go.Proofs.YtkccjfgkbkodiaaGreat
open Go.RowKit
structure Ses where
  inb : List UInt8
  outL : List (List UInt8)
  header : List UInt8
  told : Bool
  p : Option Pip
  half : Bool
  ended : Bool
  e : Int
def Ses.out (x : Ses) : List UInt8 := x.outL.flatten
def sesT (x : Ses) (pv : Value) (d sg : Nat) : List Value :=
  [.string (S x.header), .int .i64 (if x.told then 1 else 0), .int .i64 (if x.told then 3 else 0), .int .i64 (if x.told then (d : Int) else 0), .int .i64 (if x.told then (sg : Int) else 0), .int .i64 0, .bool x.told, pv, .bool x.half, .bool x.ended, .int .i64 x.e]
def sesL (rp : Nat) (vq : Value) (x : Ses) (pv : Value) (d sg : Nat) : List Value := [.pointer (some ⟨rp, 0, none⟩)] ++ [vq, .int .i64 (x.outL.flatten.length : Nat)] ++ sesT x pv d sg
/-- The pipe of a session, at pv, its blocks Fp. -/
def SesP (w : World) (d : Nat) (pv : Value) (Fp : List Nat) : Option Pip → Prop
  | none => pv = .pointer none ∧ Fp = []
  | some m => ∃ q G, pv = .pointer (some ⟨q, 0, none⟩) ∧ PipIs w q G d m ∧ Fp = q :: G
structure SesM (w : World) (b d sg : Nat) (x : Ses) (rp : Nat) (Fr : List Nat) (vq pv : Value) (Fp : List Nat) : Prop where
  blk : Blk w b 96 (sesL rp vq x pv d sg).toArray
  ring : Ring Fr w rp 64 x.inb
  sl : Sl w 0 9 vq (strV x.outL)
  ne : ∀ l ∈ x.outL, l ≠ []
  pip : SesP w d pv Fp x.p
  ltr : ∀ k ∈ Fr, k < w.heap.size
  ltp : ∀ k ∈ Fp, k < w.heap.size
  br : b ∉ Fr
  bp : b ∉ Fp
  rq : ∀ k ∈ Fr, k ∉ slB vq
  rp' : ∀ k ∈ Fr, k ∉ Fp
  qp : ∀ k ∈ slB vq, k ∉ Fp
/-- A session at b, its other blocks among F. -/
def SesIs (w : World) (b : Nat) (F : List Nat) (d sg : Nat) (x : Ses) : Prop := ∃ rp Fr vq pv Fp, SesM w b d sg x rp Fr vq pv Fp ∧ ∀ k, k ∈ Fr ∨ k ∈ slB vq ∨ k ∈ Fp → k ∈ F
section
variable {w w' : World} {b d sg rp : Nat} {x : Ses} {Fr Fp T : List Nat} {vq pv : Value}
theorem SesM.que (h : SesM w b d sg x rp Fr vq pv Fp) : QueS w b [.pointer (some ⟨rp, 0, none⟩)] (sesT x pv d sg) vq x.outL := ⟨⟨rfl, h.blk⟩, h.sl, h.ne⟩
theorem SesM.bq (h : SesM w b d sg x rp Fr vq pv Fp) : b ∉ slB vq := h.que.out
theorem SesP.keep {m : Option Pip} (h : SesP w d pv Fp m) (ho : Only T w w') (hd : ∀ k ∈ Fp, k ∉ T) : SesP w' d pv Fp m := by
  cases m with
  | none => exact h
  | some m =>
    obtain ⟨q, G, h1, h2, rfl⟩ := h
    exact ⟨q, G, h1, h2.keep ho (hd q (List.mem_cons_self ..)) (fun k hk => hd k (List.mem_cons_of_mem _ hk)), rfl⟩
theorem SesM.keep (h : SesM w b d sg x rp Fr vq pv Fp) (ho : Only T w w') (h1 : b ∉ T) (h2 : ∀ k ∈ Fr, k ∉ T) (h3 : ∀ k ∈ slB vq, k ∉ T) (h4 : ∀ k ∈ Fp, k ∉ T) : SesM w' b d sg x rp Fr vq pv Fp :=
  ⟨ho.blk h.blk h1, ring_keep h.ring ho h2, h.sl.keep ho h3, h.ne, h.pip.keep ho h4, fun k hk => Nat.lt_of_lt_of_le (h.ltr k hk) ho.size, fun k hk => Nat.lt_of_lt_of_le (h.ltp k hk) ho.size, h.br, h.bp, h.rq, h.rp', h.qp⟩
theorem SesIs.keep {F : List Nat} (h : SesIs w b F d sg x) (ho : Only T w w') (h1 : b ∉ T) (h2 : ∀ k ∈ F, k ∉ T) : SesIs w' b F d sg x := by
  obtain ⟨rp, Fr, vq, pv, Fp, hM, hF⟩ := h
  exact ⟨rp, Fr, vq, pv, Fp, hM.keep ho h1 (fun k hk => h2 k (hF k (.inl hk))) (fun k hk => h2 k (hF k (.inr (.inl hk)))) (fun k hk => h2 k (hF k (.inr (.inr hk)))), hF⟩
theorem SesM.new (h : SesM w b d sg x rp Fr vq pv Fp) (ho : Only [] w w') : SesM w' b d sg x rp Fr vq pv Fp := h.keep ho (by simp) (by simp) (by simp) (by simp)
/-- The ring went on. -/
theorem SesM.ringed (h : SesM w b d sg x rp Fr vq pv Fp) {l : List UInt8} (hr : Ring Fr w' rp 64 l) (ho : Only Fr w w') : SesM w' b d sg { x with inb := l } rp Fr vq pv Fp :=
  ⟨ho.blk h.blk h.br, hr, h.sl.keep ho (fun k hk hm => h.rq k hm hk), h.ne, h.pip.keep ho (fun k hk hm => h.rp' k hm hk), fun k hk => Nat.lt_of_lt_of_le (h.ltr k hk) ho.size, fun k hk => Nat.lt_of_lt_of_le (h.ltp k hk) ho.size, h.br, h.bp, h.rq, h.rp', h.qp⟩
/-- The queue went on. -/
theorem SesM.queued (h : SesM w b d sg x rp Fr vq pv Fp) {L : List (List UInt8)} {vq' : Value} (hq : QueS w' b [.pointer (some ⟨rp, 0, none⟩)] (sesT x pv d sg) vq' L) (ho : Only (b :: slB vq) w w') (hf : ∀ k ∈ slB vq', k ∈ slB vq ∨ w.heap.size ≤ k) : SesM w' b d sg { x with outL := L } rp Fr vq' pv Fp := by
  have h2 : ∀ k ∈ Fr, k ∉ b :: slB vq := fun k hk hm => by
    rcases List.mem_cons.1 hm with rfl | hm
    · exact h.br hk
    · exact h.rq k hk hm
  have h4 : ∀ k ∈ Fp, k ∉ b :: slB vq := fun k hk hm => by
    rcases List.mem_cons.1 hm with rfl | hm
    · exact h.bp hk
    · exact h.qp k hm hk
  refine ⟨hq.mid.2, ring_keep h.ring ho h2, hq.sl, hq.ne, h.pip.keep ho h4, fun k hk => Nat.lt_of_lt_of_le (h.ltr k hk) ho.size, fun k hk => Nat.lt_of_lt_of_le (h.ltp k hk) ho.size, h.br, h.bp, fun k hk hm => ?_, h.rp', fun k hk hm => ?_⟩
  · rcases hf k hm with h9 | h9
    · exact h.rq k hk h9
    · have := h.ltr k hk; omega
  · rcases hf k hk with h9 | h9
    · exact h.qp k h9 hm
    · have := h.ltp k hm; omega
/-- Its own cells. -/
theorem SesM.setown (h : SesM w b d sg x rp Fr vq pv Fp) {x' : Ses} {pv' : Value} {Fp' : List Nat} {i : Nat} {u : Value} (hc : (sesL rp vq x pv d sg).toArray.setIfInBounds i u = (sesL rp vq x' pv' d sg).toArray) (h1 : x'.inb = x.inb) (h2 : x'.outL = x.outL) (hp : SesP w d pv' Fp' x'.p) (hs : ∀ k ∈ Fp', k < w.heap.size ∧ k ≠ b ∧ k ∉ Fr ∧ k ∉ slB vq) :
    SesM (w.setCell ⟨b, i, none⟩ u) b d sg x' rp Fr vq pv' Fp' := by
  have ho : Only [b] w (w.setCell ⟨b, i, none⟩ u) := (Only.refl _ w).setCell (p := ⟨b, i, none⟩) (by simp) _
  have hb := h.blk.set_ i u
  rw [hc] at hb
  have hbq := h.bq
  refine ⟨hb, by rw [h1]; exact ring_keep h.ring ho (fun k hk hm => h.br (List.mem_singleton.1 hm ▸ hk)), by rw [h2]; exact h.sl.keep ho (fun k hk hm => hbq (List.mem_singleton.1 hm ▸ hk)), by rw [h2]; exact h.ne, hp.keep ho (fun k hk hm => (hs k hk).2.1 (List.mem_singleton.1 hm)), fun k hk => Nat.lt_of_lt_of_le (h.ltr k hk) ho.size, fun k hk => Nat.lt_of_lt_of_le (hs k hk).1 ho.size, h.br, fun hm => (hs b hm).2.1 rfl, h.rq, fun k hk hm => (hs k hm).2.2.1 hk, fun k hk hm => (hs k hm).2.2.2 hk⟩
/-- Cells that tell of no other block. -/
theorem SesM.setflat (h : SesM w b d sg x rp Fr vq pv Fp) {x' : Ses} {i : Nat} {u : Value} (hc : (sesL rp vq x pv d sg).toArray.setIfInBounds i u = (sesL rp vq x' pv d sg).toArray) (h1 : x'.inb = x.inb) (h2 : x'.outL = x.outL) (h3 : x'.p = x.p) :
    SesM (w.setCell ⟨b, i, none⟩ u) b d sg x' rp Fr vq pv Fp :=
  h.setown hc h1 h2 (by rw [h3]; exact h.pip) (fun k hk => ⟨h.ltp k hk, fun e => h.bp (e ▸ hk), fun hm => h.rp' k hm hk, fun hm => h.qp k hm hk⟩)
/-- Cells, one by one. -/
theorem SesM.cells (h : SesM w b d sg x rp Fr vq pv Fp) : w.cell? ⟨b, 0, none⟩ = some (.pointer (some ⟨rp, 0, none⟩)) ∧ w.cell? ⟨b, 3, none⟩ = some (.string (S x.header)) ∧ w.cell? ⟨b, 9, none⟩ = some (.bool x.told) ∧ w.cell? ⟨b, 10, none⟩ = some pv ∧ w.cell? ⟨b, 11, none⟩ = some (.bool x.half) ∧ w.cell? ⟨b, 12, none⟩ = some (.bool x.ended) ∧ w.cell? ⟨b, 13, none⟩ = some (.int .i64 x.e) :=
  ⟨h.blk.cellv 0 _ rfl, h.blk.cellv 3 _ rfl, h.blk.cellv 9 _ rfl, h.blk.cellv 10 _ rfl, h.blk.cellv 11 _ rfl, h.blk.cellv 12 _ rfl, h.blk.cellv 13 _ rfl⟩
end
def Ses.ready (x : Ses) : Bool := !x.ended && (decide (x.outL.flatten.length < 64) && (decide (0 < x.inb.length) || x.half))
set_option maxRecDepth 100000 in
set_option maxHeartbeats 2000000 in
theorem ses_ready {w : World} {b d sg : Nat} {F : List Nat} {x : Ses} (h : SesIs w b F d sg x) :
    Calls Tryz.prog 36 #[.pointer (some ⟨b, 0, none⟩)] w fun e w' => e = .returned (.bool x.ready) ∧ w' = w := by
  obtain ⟨rp, Fr, vq, pv, Fp, hM, hF⟩ := h
  obtain ⟨c0, c3, c9, c10, c11, c12, c13⟩ := hM.cells
  obtain ⟨n, hn⟩ : ∃ n, n = x.outL.flatten.length := ⟨_, rfl⟩
  have HQ := hide (qs_len hM.que (n : Int) (by rw [hn]))
  have HR := hide (ring_len_any Fr rp 64 x.inb w hM.ring)
  obtain ⟨r, hr⟩ : ∃ r, x.ready = r := ⟨_, rfl⟩
  rw [hr]
  unfold Ses.ready at hr
  rw [← hn] at hr
  generalize x.inb.length = m at HR hr
  clear hM hF hn c3 c9 c10 c13
  cases he : x.ended with
  | true =>
    rw [he] at hr c12
    simp at hr
    subst hr
    go_enter Tryz.func36, Tryz.ntmps36
    go_wp2_with fail
    go_ret
    exact ⟨rfl, rfl⟩
  | false =>
    rw [he] at hr c12
    by_cases h64 : n < 64
    · have e64 : decide ((n : Int) < 64) = true := by simp; omega
      rw [show decide (n < 64) = true by simpa using h64] at hr
      clear h64
      by_cases hm : 0 < m
      · have em : decide ((0 : Int) < (m : Int)) = true := by simp; omega
        rw [show decide (0 < m) = true by simpa using hm] at hr
        simp at hr
        subst hr
        go_enter Tryz.func36, Tryz.ntmps36
        go_wp2_with fail
        (with_reducible refine (unhide HQ).mono ?_)
        rintro e w ⟨rfl, hw⟩
        subst hw
        go_wp2_with fail
        (with_reducible refine (unhide HR).mono ?_)
        rintro e w ⟨rfl, hw⟩
        subst hw
        go_wp2_with fail
        go_ret
        exact ⟨rfl, rfl⟩
      · have hm0 : m = 0 := by omega
        subst hm0
        simp at hr
        cases hh : x.half with
        | true =>
          rw [hh] at hr c11
          subst hr
          go_enter Tryz.func36, Tryz.ntmps36
          go_wp2_with fail
          (with_reducible refine (unhide HQ).mono ?_)
          rintro e w ⟨rfl, hw⟩
          subst hw
          go_wp2_with fail
          (with_reducible refine (unhide HR).mono ?_)
          rintro e w ⟨rfl, hw⟩
          subst hw
          go_wp2_with fail
          go_ret
          exact ⟨rfl, rfl⟩
        | false =>
          rw [hh] at hr c11
          subst hr
          go_enter Tryz.func36, Tryz.ntmps36
          go_wp2_with fail
          (with_reducible refine (unhide HQ).mono ?_)
          rintro e w ⟨rfl, hw⟩
          subst hw
          go_wp2_with fail
          (with_reducible refine (unhide HR).mono ?_)
          rintro e w ⟨rfl, hw⟩
          subst hw
          go_wp2_with fail
          go_ret
          exact ⟨rfl, rfl⟩
    · have e64 : decide ((n : Int) < 64) = false := by simp; omega
      rw [show decide (n < 64) = false by simpa using h64] at hr
      simp at hr
      subst hr
      clear h64
      go_enter Tryz.func36, Tryz.ntmps36
      go_wp2_with fail
      (with_reducible refine (unhide HQ).mono ?_)
      rintro e w ⟨rfl, hw⟩
      subst hw
      go_wp2_with fail
      go_ret
      exact ⟨rfl, rfl⟩
end Go.Proofs.YtkccjfgkbkodiaaGreat
namespace Go.Proofs.YtkccjfgkbkodiaaGreat
open Go.RowKit
def Ses.fin (x : Ses) (e : Int) (told : Bool) : Ses := { x with outL := x.outL ++ [if told then [255, nb e] else [78, nb e]], ended := true, e := e, p := none, inb := [] }
theorem ring_len {Fr : List Nat} {rp : Nat} {l : List UInt8} {w : World} (h : Ring Fr w rp 64 l) : l.length ≤ 64 := ring_lt h
theorem ses_queue_add {w : World} {b d sg rp : Nat} {x : Ses} {Fr Fp : List Nat} {vq pv : Value} (h : SesM w b d sg x rp Fr vq pv Fp) (l : List UInt8) (hl : l ≠ []) (hsz : x.outL.flatten.length + l.length ≤ 1000000) :
    Calls Tryz.prog 84 #[.pointer (some ⟨b, 1, none⟩), .string (S l)] w fun r w' => r = .returned (.tuple #[]) ∧ ∃ vq', SesM w' b d sg { x with outL := x.outL ++ [l] } rp Fr vq' pv Fp ∧ Only (b :: slB vq) w w' ∧ ∀ k ∈ slB vq', k ∈ slB vq ∨ w.heap.size ≤ k :=
  (qs_add_some h.que l hl hsz).mono fun _ _ ⟨h1, vq', h2, h3, h4⟩ => ⟨h1, vq', h.queued h2 h3 h4, h3, h4⟩
set_option maxRecDepth 100000 in
set_option maxHeartbeats 4000000 in
set_option linter.unusedSimpArgs false in
theorem ses_end {w : World} {b d sg rp : Nat} {x : Ses} {Fr Fp : List Nat} {vq pv : Value} (h : SesM w b d sg x rp Fr vq pv Fp) (e : Int) (told : Bool) (hsz : x.outL.flatten.length ≤ 900000) :
    Calls Tryz.prog 69 #[.pointer (some ⟨b, 0, none⟩), .int .i64 e, .bool told] w fun r w' => r = .returned (.tuple #[]) ∧ ∃ vq', SesM w' b d sg (x.fin e told) rp Fr vq' (.pointer none) [] ∧ Only (b :: (Fr ++ slB vq)) w w' ∧ ∀ k ∈ slB vq', k ∈ slB vq ∨ w.heap.size ≤ k := by
  have H := hide h
  have HSZ := hide hsz
  have HT := fun W => hide (trailer_any e W)
  have HN := fun W => hide (no_any e W)
  have HAD := fun (W : World) (l : List UInt8) (hl : l ≠ []) (h2 : l.length = 2) (hW : SesM W b d sg x rp Fr vq pv Fp) => hide (ses_queue_add hW l hl (by omega))
  clear h hsz
  cases told with
  | true =>
    go_enter Tryz.func69, Tryz.ntmps69
    go_upto_region 1 with (fail)
    refine wp_region_tree (fun _ => True) 6 (.take [0, 1, 2, 3] (.step 4 (.step 5 (.fin)))) (by kernel_rfl) (by kernel_rfl) (by intro _ _ _ _ _ h; exact h) ?_
    refine wpTree_take (trivial) ?_
    simp only [opsAt, List.getElem?_cons_zero, List.getElem?_cons_succ]
    iterate 4 (first | (refine wpPureH_step (v := ?_) rfl (fun W hS => ?_) ?_; rotate_left; · (obtain _ := hS; (try simp only [Act.put, List.setIfInBounds_toArray, List.set_cons_zero, List.set_cons_succ]); go_simp; with_reducible rfl)) | (refine wpPureH_want (v := ?_) (by rfl) (fun W hS => ?_) ?_; rotate_left; · (obtain _ := hS; (try simp only [Act.put, List.setIfInBounds_toArray, List.set_cons_zero, List.set_cons_succ]); go_simp; with_reducible rfl)))
    refine wpPureH_nil ?_
    simp only [Act.put, List.setIfInBounds_toArray, List.set_cons_zero, List.set_cons_succ]
    refine wpTree_step ?_
    simp only [opsAt, List.getElem?_cons_zero, List.getElem?_cons_succ]
    go_wp2_with fail
    (with_reducible refine (unhide (HT _)).mono ?_)
    rintro r w1 ⟨rfl, ho1⟩
    have hM1 := H.out.new (((Only.refl [] w).drew).trans ho1)
    have HA := HAD w1 [255, nb e] (by simp) rfl hM1
    have HO1 := hide (((Only.refl [] w).drew).trans ho1)
    clear hM1 ho1 HT HN HAD
    go_wp2_with fail
    refine ⟨.inr trivial, ?_⟩
    refine wpTree_step ?_
    simp only [opsAt, List.getElem?_cons_zero, List.getElem?_cons_succ]
    go_wp2_with fail
    (with_reducible refine (unhide HA).mono ?_)
    rintro r w2 ⟨rfl, vq', hM2, ho2, hf2⟩
    obtain ⟨c0, c3, c9, c10, c11, c12, c13⟩ := hM2.cells
    have k10 := hM2.blk.frozen 10
    have k12 := hM2.blk.frozen 12
    have k13 := hM2.blk.frozen 13
    have hM3 := ((hM2.setflat (x' := { x with outL := x.outL ++ [[255, nb e]], ended := true }) (i := 12) (u := .bool true) rfl rfl rfl rfl).setflat (x' := { x with outL := x.outL ++ [[255, nb e]], ended := true, e := e }) (i := 13) (u := .int .i64 e) rfl rfl rfl rfl).setown (x' := { x with outL := x.outL ++ [[255, nb e]], ended := true, e := e, p := none }) (pv' := .pointer none) (Fp' := []) (i := 10) (u := .pointer none) rfl rfl rfl ⟨rfl, rfl⟩ (by simp)
    have HC := hide (ring_clear_any Fr rp 64 x.inb _ hM3.ring)
    have c0' : (((w2.setCell ⟨b, 12, none⟩ (.bool true)).setCell ⟨b, 13, none⟩ (.int .i64 e)).setCell ⟨b, 10, none⟩ (.pointer none)).cell? ⟨b, 0, none⟩ = some (.pointer (some ⟨rp, 0, none⟩)) := hM3.cells.1
    have HM3 := hide hM3
    have HO3 : Hid (Only (b :: (Fr ++ slB vq)) w (((w2.setCell ⟨b, 12, none⟩ (.bool true)).setCell ⟨b, 13, none⟩ (.int .i64 e)).setCell ⟨b, 10, none⟩ (.pointer none))) := hide ((((((HO1.out.mono (T := b :: (Fr ++ slB vq)) (by simp)).trans (ho2.mono (fun k hk => by
      rcases List.mem_cons.1 hk with rfl | hk
      · exact List.mem_cons_self ..
      · exact List.mem_cons_of_mem _ (List.mem_append_right _ hk)))).setCell (p := ⟨b, 12, none⟩) (List.mem_cons_self ..) _).setCell (p := ⟨b, 13, none⟩) (List.mem_cons_self ..) _).setCell (p := ⟨b, 10, none⟩) (List.mem_cons_self ..) _))
    have HF : Hid (∀ k ∈ slB vq', k ∈ slB vq ∨ w.heap.size ≤ k) := hide (fun k hk => (hf2 k hk).imp_right (fun h9 => by have := HO1.out.size; omega))
    clear HA hM2 ho2 hf2 hM3
    go_wp2_with fail
    refine ⟨.inr trivial, wpTree_fin ?_⟩
    go_wp2_with fail
    (with_reducible refine (unhide HC).mono ?_)
    rintro r w4 ⟨rfl, hr4, ho4⟩
    have hM4 := HM3.out.ringed hr4 ho4
    have HM4 := hide hM4
    have HO4 := hide (HO3.out.trans (ho4.mono (fun k hk => List.mem_cons_of_mem _ (List.mem_append_left _ hk))))
    clear HC hr4 ho4 hM4 HM3 HO3
    go_wp2_with fail
    go_end0
    exact ⟨rfl, vq', HM4.out, HO4.out, HF.out⟩
  | false =>
    go_enter Tryz.func69, Tryz.ntmps69
    go_upto_region 2 with (fail)
    refine wp_region_tree (fun _ => True) 6 (.take [0, 1, 2, 3] (.step 4 (.step 5 (.fin)))) (by kernel_rfl) (by kernel_rfl) (by intro _ _ _ _ _ h; exact h) ?_
    refine wpTree_take (trivial) ?_
    simp only [opsAt, List.getElem?_cons_zero, List.getElem?_cons_succ]
    iterate 4 (first | (refine wpPureH_step (v := ?_) rfl (fun W hS => ?_) ?_; rotate_left; · (obtain _ := hS; (try simp only [Act.put, List.setIfInBounds_toArray, List.set_cons_zero, List.set_cons_succ]); go_simp; with_reducible rfl)) | (refine wpPureH_want (v := ?_) (by rfl) (fun W hS => ?_) ?_; rotate_left; · (obtain _ := hS; (try simp only [Act.put, List.setIfInBounds_toArray, List.set_cons_zero, List.set_cons_succ]); go_simp; with_reducible rfl)))
    refine wpPureH_nil ?_
    simp only [Act.put, List.setIfInBounds_toArray, List.set_cons_zero, List.set_cons_succ]
    refine wpTree_step ?_
    simp only [opsAt, List.getElem?_cons_zero, List.getElem?_cons_succ]
    go_wp2_with fail
    (with_reducible refine (unhide (HN _)).mono ?_)
    rintro r w1 ⟨rfl, ho1⟩
    have hM1 := H.out.new (((Only.refl [] w).drew).trans ho1)
    have HA := HAD w1 [78, nb e] (by simp) rfl hM1
    have HO1 := hide (((Only.refl [] w).drew).trans ho1)
    clear hM1 ho1 HT HN HAD
    go_wp2_with fail
    refine ⟨.inr trivial, ?_⟩
    refine wpTree_step ?_
    simp only [opsAt, List.getElem?_cons_zero, List.getElem?_cons_succ]
    go_wp2_with fail
    (with_reducible refine (unhide HA).mono ?_)
    rintro r w2 ⟨rfl, vq', hM2, ho2, hf2⟩
    obtain ⟨c0, c3, c9, c10, c11, c12, c13⟩ := hM2.cells
    have k10 := hM2.blk.frozen 10
    have k12 := hM2.blk.frozen 12
    have k13 := hM2.blk.frozen 13
    have hM3 := ((hM2.setflat (x' := { x with outL := x.outL ++ [[78, nb e]], ended := true }) (i := 12) (u := .bool true) rfl rfl rfl rfl).setflat (x' := { x with outL := x.outL ++ [[78, nb e]], ended := true, e := e }) (i := 13) (u := .int .i64 e) rfl rfl rfl rfl).setown (x' := { x with outL := x.outL ++ [[78, nb e]], ended := true, e := e, p := none }) (pv' := .pointer none) (Fp' := []) (i := 10) (u := .pointer none) rfl rfl rfl ⟨rfl, rfl⟩ (by simp)
    have HC := hide (ring_clear_any Fr rp 64 x.inb _ hM3.ring)
    have c0' : (((w2.setCell ⟨b, 12, none⟩ (.bool true)).setCell ⟨b, 13, none⟩ (.int .i64 e)).setCell ⟨b, 10, none⟩ (.pointer none)).cell? ⟨b, 0, none⟩ = some (.pointer (some ⟨rp, 0, none⟩)) := hM3.cells.1
    have HM3 := hide hM3
    have HO3 : Hid (Only (b :: (Fr ++ slB vq)) w (((w2.setCell ⟨b, 12, none⟩ (.bool true)).setCell ⟨b, 13, none⟩ (.int .i64 e)).setCell ⟨b, 10, none⟩ (.pointer none))) := hide ((((((HO1.out.mono (T := b :: (Fr ++ slB vq)) (by simp)).trans (ho2.mono (fun k hk => by
      rcases List.mem_cons.1 hk with rfl | hk
      · exact List.mem_cons_self ..
      · exact List.mem_cons_of_mem _ (List.mem_append_right _ hk)))).setCell (p := ⟨b, 12, none⟩) (List.mem_cons_self ..) _).setCell (p := ⟨b, 13, none⟩) (List.mem_cons_self ..) _).setCell (p := ⟨b, 10, none⟩) (List.mem_cons_self ..) _))
    have HF : Hid (∀ k ∈ slB vq', k ∈ slB vq ∨ w.heap.size ≤ k) := hide (fun k hk => (hf2 k hk).imp_right (fun h9 => by have := HO1.out.size; omega))
    clear HA hM2 ho2 hf2 hM3
    go_wp2_with fail
    refine ⟨.inr trivial, wpTree_fin ?_⟩
    go_wp2_with fail
    (with_reducible refine (unhide HC).mono ?_)
    rintro r w4 ⟨rfl, hr4, ho4⟩
    have hM4 := HM3.out.ringed hr4 ho4
    have HM4 := hide hM4
    have HO4 := hide (HO3.out.trans (ho4.mono (fun k hk => List.mem_cons_of_mem _ (List.mem_append_left _ hk))))
    clear HC hr4 ho4 hM4 HM3 HO3
    go_wp2_with fail
    go_end0
    exact ⟨rfl, vq', HM4.out, HO4.out, HF.out⟩
set_option maxRecDepth 100000 in
theorem ses_ended {w : World} {b d sg : Nat} {F : List Nat} {x : Ses} (h : SesIs w b F d sg x) :
    Calls Tryz.prog 44 #[.pointer (some ⟨b, 0, none⟩)] w fun e w' => e = .returned (.tuple #[.int .i64 x.e, .bool x.ended]) ∧ Only [] w w' := by
  obtain ⟨rp, Fr, vq, pv, Fp, hM, hF⟩ := h
  obtain ⟨c0, c3, c9, c10, c11, c12, c13⟩ := hM.cells
  clear hM hF
  go_enter Tryz.func44, Tryz.ntmps44
  go_wp2_with fail
  go_quiet (fail)
  go_wp2_with fail
  go_ret2
  exact ⟨rfl, (Only.refl _ _).drewN _⟩
end Go.Proofs.YtkccjfgkbkodiaaGreat
