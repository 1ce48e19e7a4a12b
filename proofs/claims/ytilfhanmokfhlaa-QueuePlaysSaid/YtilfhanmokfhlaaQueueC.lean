/-
  Queues: Take, Next, All.
-/
import Derived.Test.YtilfhanmokfhlaaQueueB
import Derived.Test.YtilfhanmokfhlaaShelf
namespace Go.Proofs.Ytilfhanmokfhlaa
open Go.RowKit

/-- The chunks without their first n bytes. -/
def dropQ : Nat → List (List UInt8) → List (List UInt8)
  | _, [] => []
  | n, c :: L => if n < c.length then c.drop n :: L else dropQ (n - c.length) L
theorem dropQ_zero (L : List (List UInt8)) (h : ∀ l ∈ L, l ≠ []) : dropQ 0 L = L := by
  cases L with
  | nil => rfl
  | cons c L =>
    have h2 : 0 < c.length := List.length_pos_iff.2 (h c (List.mem_cons_self ..))
    rw [dropQ, if_pos h2]; rfl
theorem dropQ_flat (L : List (List UInt8)) : ∀ n, (dropQ n L).flatten = L.flatten.drop n := by
  induction L with
  | nil => intro n; simp [dropQ]
  | cons c L ih =>
    intro n
    rw [dropQ, List.flatten_cons, List.drop_append]
    by_cases h : n < c.length
    · rw [if_pos h, List.flatten_cons, show n - c.length = 0 by omega]; rfl
    · rw [if_neg h, ih, show c.drop n = [] from List.drop_of_length_le (by omega), List.nil_append]
theorem dropQ_step (n k : Nat) (c : List UInt8) (L : List (List UInt8)) (hk : n < c.length) : dropQ (n + k) (c :: L) = dropQ k (c.drop n :: L) := by
  rw [dropQ, dropQ, List.length_drop, List.drop_drop]
  by_cases h : n + k < c.length
  · rw [if_pos h, if_pos (by omega)]
  · rw [if_neg h, if_neg (by omega), show n + k - c.length = k - (c.length - n) by omega]

theorem Only.trans_below {S : List Nat} {a w w' : World} (h : Only S a w) (k : Below a.heap.size w w') : Only S a w' :=
  ⟨k.os.trans h.os, k.tape.trans h.tape, k.output.trans h.output, Nat.le_trans h.size k.size, fun i hi hn => (k.block i hi).trans (h.block i hi hn)⟩
theorem row_keep {e : TypeId} {B n : Nat} {v : Value} {bs : List Value} {w w' : World} {X : List Nat} (h : w.ownsRow B e 1 v n bs) (ho : Only X w w') (hX : ∀ k ∈ X, k < B) : w'.ownsRow B e 1 v n bs := by
  obtain ⟨hl, h⟩ := h
  refine ⟨hl, ?_⟩
  rcases h with h | ⟨g, cap, cur, rfl, hB, hh, h⟩
  · exact .inl h
  · exact .inr ⟨g, cap, cur, rfl, hB, ho.blk hh (fun hm => by have := hX g hm; omega), h⟩
theorem builder_keep {T e : TypeId} {B b : Nat} {bs : List Value} {w w' : World} {X : List Nat} (h : Lib.IsBuilder T e B b bs w) (ho : Only X w w') (hX : ∀ k ∈ X, k < B) : Lib.IsBuilder T e B b bs w' := by
  rcases h with ⟨hB, v, hb, hown, hne⟩ | ⟨hB, v, hb, hown, hne⟩
  · exact .inl ⟨hB, v, ho.blk hb (fun hm => by have := hX b hm; omega), row_keep hown ho hX, hne⟩
  · exact .inr ⟨hB, v, ho.blk hb (fun hm => by have := hX b hm; omega), row_keep hown ho hX, hne⟩

theorem take_whole {w2 : World} {base p g off cap n : Nat} {c cd : List UInt8} {M : List (List UInt8)} {x mm : Int} {v2 : Value} (hp : Blk w2 p 27 #[.slice (some ⟨g, off, none⟩) n cap, .int .i64 mm])
    (hs : Sl w2 base 9 (.slice (some ⟨g, off, none⟩) n cap) (strV (c :: M))) (hn : n = (strV (c :: M)).length) (hne : ∀ l ∈ c :: M, l ≠ []) (hpg : p ≠ g)
    (hv2 : ∀ W ys, Sl W base 9 (.slice (some ⟨g, off, none⟩) n cap) ys → Sl W base 9 v2 ys.tail) (hb2 : slB v2 = slB (.slice (some ⟨g, off, none⟩) n cap)) (hx : x = (M.flatten.length : Nat)) :
    Queue ((((w2.setCell ⟨g, off, none⟩ (.string (S cd))).setCell ⟨p, 0, none⟩ v2).setCell ⟨p, 1, none⟩ (.int .i64 x)).drew) base p v2 M := by
  subst hn hx
  have hpv : p ∉ slB v2 := by rw [hb2]; simpa [slB] using hpg
  refine ⟨?_, ?_, fun l hl => hne l (List.mem_cons_of_mem _ hl)⟩
  · exact ((hp.far (p := ⟨g, off, none⟩) hpg _).set_ 0 v2).set_ 1 _
  · exact (((hv2 _ _ (Sl.put hs (.string (S cd)))).far (p := ⟨p, 0, none⟩) hpv _).far (p := ⟨p, 1, none⟩) hpv _)
theorem take_part {w2 : World} {base p g off cap n : Nat} {c cd : List UInt8} {M : List (List UInt8)} {x mm : Int} (hp : Blk w2 p 27 #[.slice (some ⟨g, off, none⟩) n cap, .int .i64 mm])
    (hs : Sl w2 base 9 (.slice (some ⟨g, off, none⟩) n cap) (strV (c :: M))) (hn : n = (strV (c :: M)).length) (hne : ∀ l ∈ c :: M, l ≠ []) (hpg : p ≠ g) (hcd : cd ≠ []) (hx : x = ((cd :: M).flatten.length : Nat)) :
    Queue (((w2.setCell ⟨g, off, none⟩ (.string (S cd))).setCell ⟨p, 1, none⟩ (.int .i64 x)).drew) base p (.slice (some ⟨g, off, none⟩) n cap) (cd :: M) := by
  subst hn hx
  have hpv : p ∉ slB (.slice (some ⟨g, off, none⟩) (strV (c :: M)).length cap) := by simpa [slB] using hpg
  refine ⟨?_, ?_, fun l hl => ?_⟩
  · exact (hp.far (p := ⟨g, off, none⟩) hpg _).set_ 1 _
  · exact (Sl.put hs (.string (S cd))).far (p := ⟨p, 1, none⟩) hpv _
  · rcases List.mem_cons.1 hl with rfl | hl
    · exact hcd
    · exact hne l (List.mem_cons_of_mem _ hl)
set_option maxHeartbeats 1000000 in
theorem take_any {w : World} {base p : Nat} {v : Value} {L : List (List UInt8)} (h : Queue w base p v L) (ni : Int) (k : Nat) (hk : (k : Int) = max (min ni L.flatten.length) 0) (hsz : L.flatten.length ≤ 1000000) :
    Calls Try.prog 10 #[.pointer (some ⟨p, 0, none⟩), .int .i64 ni] w fun e w' => e = .returned (.string (S (L.flatten.take k))) ∧ ∃ v', Queue w' base p v' (dropQ k L) ∧ Only (p :: slB v) w w' ∧ (∀ k ∈ slB v', k ∈ slB v) := by
  obtain ⟨n, hn⟩ : ∃ n : Nat, n = L.flatten.length := ⟨_, rfl⟩
  obtain ⟨m0, hm0⟩ : ∃ m0 : Int, m0 = min ni n := ⟨_, rfl⟩
  have hmin := min_i64 (P := Try.prog) #[3, 3] 3 ni n m0 hm0
  have HL := fun W (hW : Queue W base p v L) => hide (len_any hW n (by rw [hn]))
  have HH := hide h
  have hb0 := Lib.fresh_isBuilder 48 5 w
  have HK := hide (show (k : Int) = max m0 0 by rw [hm0, hn]; exact hk)
  have HKN := hide (show k ≤ n by omega)
  have HN := hide hn
  rw [← hn] at hsz
  clear hm0 hk hn h
  go_enter Try.func10, Try.ntmps10
  go_wp2_with fail
  refine (unhide (HL _ ⟨HH.out.blk.alloc _, HH.out.sl.alloc _, HH.out.ne⟩)).mono ?_
  rintro e w1 ⟨rfl, rfl⟩
  go_wp2_with fail
  go_loopg [1, 6, 7] k (fun g s1 s6 s7 wr => ∃ (m : Nat) (mi : Int) (M : List (List UInt8)) (got : List UInt8) (v' : Value), s1 = .int .i64 mi ∧ Hid ((m : Int) = max mi 0) ∧ g = m ∧ Queue wr base p v' M ∧ Lib.IsBuilder 48 5 w.heap.size w.heap.size (Lib.byteCells got) wr ∧
    Hid (got ++ M.flatten = L.flatten) ∧ Hid (got.length + m = k) ∧ Hid (dropQ k L = dropQ m M) ∧ Only (p :: slB v) w wr ∧ (∀ x ∈ slB v', x ∈ slB v))
  case atStart =>
    refine ⟨k, m0, L, [], v, rfl, HK.out, rfl, ⟨HH.out.blk.alloc _, HH.out.sl.alloc _, HH.out.ne⟩, hb0, rfl, by show 0 + k = k; omega, rfl, (Only.refl _ _).alloc _, fun _ h => h⟩
  case round =>
    obtain ⟨m, mi, M, got, v', rfl, hm, rfl, hq, hbl, hgot, hlen, hdrop, ho, hsub⟩ := hrel
    clear hb0
    by_cases hm0 : 0 < gk
    · have hmi : mi = gk := by have := hm.out; omega
      subst hmi
      have htot : got.length + M.flatten.length = n := by
        have := congrArg List.length hgot.out
        rw [List.length_append, ← HN.out] at this
        exact this
      cases M with
      | nil =>
        exfalso
        have h1 := hlen.out
        have h2 := HKN.out
        simp at htot
        omega
      | cons c M =>
        have hcne : 0 < c.length := List.length_pos_iff.2 (hq.ne c (List.mem_cons_self ..))
        obtain ⟨g, off, cap, hv, hgl, hcell⟩ := hq.sl.some (by rw [strV_length]; simp)
        obtain ⟨len, hlen2⟩ : ∃ len, len = (strV (c :: M)).length := ⟨_, rfl⟩
        rw [← hlen2] at hv
        subst hv
        have hgv : g ∈ slB v := hsub g (by simp [slB])
        have hgw := (HH.out.sl.lt g hgv).2
        have hpw := HH.out.lt
        have hpg : p ≠ g := by
          have := hq.out
          simpa [slB] using this
        have cg : wr.cell? ⟨g, off, none⟩ = some (.string (S c)) := by
          have := hcell 0 (by rw [strV_length]; simp)
          simpa [strV] using this
        obtain ⟨mm, hmm⟩ : ∃ mm : Nat, mm = (c :: M).flatten.length := ⟨_, rfl⟩
        have hbp : Blk wr p 27 #[.slice (some ⟨g, off, none⟩) len cap, .int .i64 mm] := by rw [hmm]; exact hq.blk
        have fg : wr.frozen? ⟨g, off, none⟩ = false := by
          rcases hq.sl with ⟨hv, _⟩ | ⟨g', off', cap', cs', hv, _, hg', _⟩
          · cases hv
          · injection hv with e1 e2 e3
            injection e1 with e1
            injection e1 with e4 e5
            subst e4 e5
            exact hg'.frozen _
        obtain ⟨kk, hkk⟩ : ∃ kk : Nat, kk = min gk c.length := ⟨_, rfl⟩
        obtain ⟨ki, hki⟩ : ∃ ki : Int, ki = kk := ⟨_, rfl⟩
        have hmin2 := min_i64 (P := Try.prog) #[3, 3] 3 gk c.length ki (by omega)
        obtain ⟨ck, hck⟩ : ∃ ck, ck = c.take kk := ⟨_, rfl⟩
        obtain ⟨cd, hcd⟩ : ∃ cd, cd = c.drop kk := ⟨_, rfl⟩
        have hs1 := slice_to_at (P := Try.prog) Try.underlying9 c kk (by omega) ki hki ck hck
        have hs2 := slice_from_at (P := Try.prog) Try.underlying9 c kk (by omega) ki hki cd hcd
        have hlw := ho.size
        have hckl : ck.length = kk := by rw [hck, List.length_take]; omega
        have hcl : c.length ≤ 1000000 := by rw [List.flatten_cons, List.length_append] at htot; omega
        have hmm2 : mm ≤ 1000000 := by omega
        have HW := hide (builder_write w.heap.size w.heap.size (Lib.byteCells got) (S ck) wr hbl (by rw [S_size]; simp [Lib.byteCells]; omega) hlw)
        have hkm : kk ≤ mm := by rw [hmm, List.flatten_cons, List.length_append]; omega
        have hki1 : 0 ≤ ki := by omega
        have hki2 : ki ≤ gk := by omega
        have hki3 : ki ≤ mm := by omega
        have hgk : gk ≤ 1000000 := by have := hlen.out; have := HKN.out; omega
        have hq0 := hide hq
        have ho0 := hide ho
        have hcd0 := hide hcd
        have hck0 := hide hck
        have hmm0 := hide hmm
        have hkk0 := hide hkk
        have hki0 := hide hki
        have hlen0 := hide hlen2
        have hbp0 := hide hbp
        have hsl1 := slice1_sl (P := Try.prog) (t := 25) (by kernel_rfl) (fun w => Try.sizeOf9 w) hq.sl (by rw [strV_length]; simp)
        obtain ⟨v2, hsl2, hvb2, hvs2⟩ := hsl1
        obtain ⟨a2, c2, hv2⟩ := (hvs2 wr _ hq.sl).form
        obtain ⟨n2, hn2⟩ : ∃ n2, n2 = (strV (c :: M)).tail.length := ⟨_, rfl⟩
        rw [← hn2] at hv2
        subst hv2
        have hn20 := hide hn2
        have hvs20 := hide hvs2
        have hvb20 := hide hvb2
        have c0 := hbp.cellv 0 _ rfl
        have hlen3 : 0 < len := by rw [hlen2, strV_length]; simp
        clear hq ho hcd hck hmm hkk hki hlen2 hbp hvs2 hvb2 hbl hcell hn2
        go_wp2_with fail
        refine (unhide HW).mono ?_
        rintro e w2 ⟨rfl, hbl2, hb2⟩
        have hp2 : Blk w2 p 27 #[.slice (some ⟨g, off, none⟩) len cap, .int .i64 mm] := hbp0.out.below hb2 hpw
        have d0 := hp2.cellv 0 _ rfl
        have d1 := hp2.cellv 1 _ rfl
        have e0 := hp2.frozen 0
        have e1 := hp2.frozen 1
        have dg : w2.cell? ⟨g, off, none⟩ = some (.string (S c)) := (hb2.cell (p := ⟨g, off, none⟩) hgw).trans cg
        have eg : w2.frozen? ⟨g, off, none⟩ = false := (hb2.frozen (p := ⟨g, off, none⟩) hgw).trans fg
        clear cg fg c0 HW
        go_wp2_with fail
        have hwb := hb2.size
        by_cases hkc : kk = c.length
        · have hkb : (ki == (c.length : Int)) = true := by rw [hki0.out, hkc]; simp
          have hkc0 := hide hkc
          clear hkc
          refine wp_region_tbs [] [0, 1, 2, 3, 4, 5, 6, 7] [8] (by kernel_rfl) (by kernel_rfl) (fun _ _ _ _ _ h => h) ?_
          simp only [opsAt, List.getElem?_cons_zero, List.getElem?_cons_succ]
          refine wpPure_nil ?_
          repeat (refine wpStill_step (fun K hK => ?_); go_simp; (try go_bits); refine hK _ ?_; clear hK K)
          refine wpStill_nil ?_
          go_wp2_with fail
          go_roundg (gk - kk)
          case measure => have := hkk0.out; omega
          case rel =>
            have hk0 := hkk0.out
            have hk1 := hki0.out
            have hk2 := hkc0.out
            have hk3 := hmm0.out
            rw [List.flatten_cons, List.length_append] at hk3
            have hck1 : ck = c := by rw [hck0.out, hk2, List.take_length]
            have hs2 := hq0.out.sl.below hb2 (fun x hx => by simp [slB] at hx; omega)
            refine ⟨gk - kk, (gk : Int) - ki, M, got ++ c, .slice a2 n2 c2, rfl, by show _ = _; omega, rfl, take_whole hp2 hs2 hlen0.out hq0.out.ne hpg hvs20.out hvb20.out (by omega), ?_, ?_, ?_, ?_, ?_, ?_⟩
            · refine builder_keep (X := [g, p]) (w := w2) ?_ ((((Only.refl _ _).setCell (by simp) _).setCell (by simp) _).setCell (by simp) _).drew (fun x hx => by simp at hx; omega)
              rw [hck1] at hbl2
              have e : Lib.byteCells (got ++ c) = Lib.byteCells got ++ Lib.strCells (S c) := by simp [Lib.byteCells, Lib.strCells, S]
              rw [e]
              exact .inr hbl2
            · show _ = _
              rw [← hgot.out, List.flatten_cons, List.append_assoc]
            · show _ = _
              have := hlen.out
              rw [List.length_append]; omega
            · show _ = _
              rw [hdrop.out, dropQ, if_neg (by omega), hk2]
            · exact (((((ho0.out.trans_below hb2).setCell (by simp [hgv]) _).setCell (by simp) _).setCell (by simp) _)).drew
            · intro x hx
              rw [hvb20.out] at hx
              exact hsub x hx
        · have hkb : (ki == (c.length : Int)) = false := by rw [hki0.out]; simp; omega
          have hkc0 := hide hkc
          clear hkc
          refine wp_region_tbs [] [0, 1, 2, 3, 4, 5, 6, 7] [8] (by kernel_rfl) (by kernel_rfl) (fun _ _ _ _ _ h => h) ?_
          simp only [opsAt, List.getElem?_cons_zero, List.getElem?_cons_succ]
          refine wpPure_nil ?_
          repeat (refine wpStill_step (fun K hK => ?_); go_simp; (try go_bits); refine hK _ ?_; clear hK K)
          refine wpStill_nil ?_
          go_wp2_with fail
          go_roundg (gk - kk)
          case measure => have := hkk0.out; omega
          case rel =>
            have hk0 := hkk0.out
            have hk1 := hki0.out
            have hk2 := hkc0.out
            have hk3 := hmm0.out
            rw [List.flatten_cons, List.length_append] at hk3
            have hkg : kk = gk := by omega
            have hs2 := hq0.out.sl.below hb2 (fun x hx => by simp [slB] at hx; omega)
            have hcdl : cd.length = c.length - kk := by rw [hcd0.out, List.length_drop]
            refine ⟨gk - kk, (gk : Int) - ki, cd :: M, got ++ ck, _, rfl, by show _ = _; omega, rfl, take_part hp2 hs2 hlen0.out hq0.out.ne hpg (by rintro rfl; simp at hcdl; omega) (by rw [List.flatten_cons, List.length_append]; omega), ?_, ?_, ?_, ?_, ?_, hsub⟩
            · refine builder_keep (X := [g, p]) (w := w2) ?_ (((Only.refl _ _).setCell (by simp) _).setCell (by simp) _).drew (fun x hx => by simp at hx; omega)
              have e : Lib.byteCells (got ++ ck) = Lib.byteCells got ++ Lib.strCells (S ck) := by simp [Lib.byteCells, Lib.strCells, S]
              rw [e]
              exact .inr hbl2
            · show _ = _
              rw [← hgot.out, List.flatten_cons, List.flatten_cons, List.append_assoc, ← List.append_assoc ck, hck0.out, hcd0.out, List.take_append_drop]
            · show _ = _
              have := hlen.out
              rw [List.length_append]; omega
            · show _ = _
              rw [hdrop.out, hcd0.out]
              have := dropQ_step kk (gk - kk) c M (by omega)
              rw [show kk + (gk - kk) = gk by omega] at this
              exact this
            · exact (((ho0.out.trans_below hb2).setCell (by simp [hgv]) _).setCell (by simp) _).drew
    · have hg0 : gk = 0 := by omega
      subst hg0
      have hlw := ho.size
      have HS := hide (builder_string w.heap.size w.heap.size got wr hbl hlw)
      have hmi : mi ≤ 0 := by have := hm.out; omega
      have hgt : got = L.flatten.take k := by
        have h1 := hlen.out
        rw [← hgot.out, show k = got.length by omega, List.take_left]
      have hdr : dropQ k L = M := by rw [hdrop.out, dropQ_zero M hq.ne]
      have hpw := HH.out.lt
      have hsw := fun x hx => (HH.out.sl.lt x hx).2
      clear hm
      go_wp2_with fail
      (with_reducible refine (unhide HS).mono ?_)
      rintro e w2 ⟨rfl, hb2⟩
      go_wp2_with fail
      go_ret
      refine ⟨by rw [← hgt]; rfl, v', ?_, ho.trans_below hb2, hsub⟩
      rw [hdr]
      exact ⟨hq.blk.below hb2 hpw, hq.sl.below hb2 (fun x hx => hsw x (hsub x hx)), hq.ne⟩
end Go.Proofs.Ytilfhanmokfhlaa
