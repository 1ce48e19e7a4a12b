/-
  Queues: Cut.
-/
import Derived.Test.YtilfhanmokfhlaaQueueA
namespace Go.Proofs.Ytilfhanmokfhlaa
open Go.RowKit

theorem Only.trans_new {S T : List Nat} {a w w' : World} (h : Only S a w) (k : Only (S ++ T) w w') (hT : ∀ x ∈ T, a.heap.size ≤ x) : Only S a w' :=
  ⟨k.os.trans h.os, k.tape.trans h.tape, k.output.trans h.output, Nat.le_trans h.size k.size, fun i hi hn => (k.block i (Nat.lt_of_lt_of_le hi h.size) (fun hm => by
    rcases List.mem_append.1 hm with hm | hm
    · exact hn hm
    · have := hT i hm; omega)).trans (h.block i hi hn)⟩
theorem Sl.some {w : World} {base : Nat} {t : TypeId} {v : Value} {xs : List Value} (h : Sl w base t v xs) (h0 : 0 < xs.length) :
    ∃ g off cap, v = .slice (some ⟨g, off, none⟩) xs.length cap ∧ g < w.heap.size ∧ ∀ j (hj : j < xs.length), w.cell? ⟨g, off + j, none⟩ = some xs[j] := by
  rcases h with ⟨rfl, rfl⟩ | ⟨g, off, cap, cs, rfl, hb, hg, h1, h2, h3, h4⟩
  · simp at h0
  · refine ⟨g, off, cap, rfl, hg.lt, fun j hj => ?_⟩
    rw [hg.cell, h4 j hj]
    exact List.getElem?_eq_getElem hj

/-- The chunks' first n bytes. -/
def cutQ : Nat → List (List UInt8) → List (List UInt8)
  | _, [] => []
  | n, c :: L => if n = 0 then [] else c.take n :: cutQ (n - c.length) L
theorem cutQ_zero (L : List (List UInt8)) : cutQ 0 L = [] := by cases L <;> simp [cutQ]
theorem cutQ_flat (L : List (List UInt8)) : ∀ n, (cutQ n L).flatten = L.flatten.take n := by
  induction L with
  | nil => intro n; simp [cutQ]
  | cons c L ih =>
    intro n
    rw [cutQ]
    by_cases h : n = 0
    · simp [h]
    · rw [if_neg h, List.flatten_cons, ih, List.flatten_cons, List.take_append]
theorem cutQ_snoc (L : List (List UInt8)) (c : List UInt8) : ∀ n, cutQ n (L ++ [c]) = if n - L.flatten.length = 0 then cutQ n L else cutQ n L ++ [c.take (n - L.flatten.length)] := by
  induction L with
  | nil => intro n; by_cases h : n = 0 <;> simp [cutQ, h]
  | cons d L ih =>
    intro n
    rw [List.cons_append, cutQ, cutQ, ih, List.flatten_cons, List.length_append, Nat.sub_add_eq]
    by_cases h : n = 0
    · simp [h]
    · rw [if_neg h, if_neg h]
      by_cases h2 : n - d.length - L.flatten.length = 0
      · rw [if_pos h2, if_pos h2]
      · rw [if_neg h2, if_neg h2]; rfl
theorem cutQ_all (L : List (List UInt8)) (hne : ∀ l ∈ L, l ≠ []) : ∀ n, L.flatten.length ≤ n → cutQ n L = L := by
  induction L with
  | nil => intro n _; rfl
  | cons c L ih =>
    intro n hn
    have h2 : 0 < c.length := List.length_pos_iff.2 (hne c (List.mem_cons_self ..))
    rw [List.flatten_cons, List.length_append] at hn
    rw [cutQ, if_neg (by omega), ih (fun l hl => hne l (List.mem_cons_of_mem _ hl)) _ (by omega), List.take_of_length_le (by omega)]

theorem cut_nil (n : Int) (w : World) : Calls Try.prog 17 #[.pointer none, .int .i64 n] w fun e w' => e = .returned (.int .i64 0) ∧ w' = w := by
  obtain ⟨m, hm⟩ : ∃ m : Int, m = max n 0 := ⟨_, rfl⟩
  have hmax := max_i64 (P := Try.prog) #[3, 3] 3 n 0 m hm
  have hm0 : 0 ≤ m := by omega
  have HL := hide (len_nil w)
  clear hm
  go_enter Try.func17, Try.ntmps17
  go_wp2_with fail
  (with_reducible refine (unhide HL).mono ?_)
  rintro e w1 ⟨rfl, rfl⟩
  go_wp2_with fail
  go_ret
  exact ⟨rfl, rfl⟩

theorem cut_any {w : World} {base p : Nat} {v : Value} {L : List (List UInt8)} (h : Queue w base p v L) (ni : Int) (k : Nat) (hk : (k : Int) = max ni 0) (hsz : L.flatten.length ≤ 1000000) (hbase : base ≤ w.heap.size) (r : Int) (hr : r = (L.flatten.length : Int) - min k L.flatten.length) :
    Calls Try.prog 17 #[.pointer (some ⟨p, 0, none⟩), .int .i64 ni] w fun e w' => e = .returned (.int .i64 r) ∧ ∃ v', Queue w' base p v' (cutQ k L) ∧ Only (p :: slB v) w w' ∧ (∀ k ∈ slB v', k ∈ slB v ∨ w.heap.size ≤ k) := by
  obtain ⟨n, hn⟩ : ∃ n : Nat, n = L.flatten.length := ⟨_, rfl⟩
  have hmax := max_i64 (P := Try.prog) #[3, 3] 3 ni 0 k hk
  have HL := hide (len_any h n (by rw [hn]))
  have c0 := h.blk.cellv 0 _ rfl
  have f0 := h.blk.frozen 0
  have f1 := h.blk.frozen 1
  have c1 : w.cell? ⟨p, 1, none⟩ = some (.int .i64 n) := by rw [hn]; exact h.blk.cellv 1 _ rfl
  have hlt := h.lt
  have HH := hide h
  have HN := hide hn
  rw [← hn] at hr hsz
  by_cases hkn : n ≤ k
  · have hr0 : r = 0 := by omega
    subst hr0
    clear h hn hk hr
    go_enter Try.func17, Try.ntmps17
    go_wp2_with fail
    (with_reducible refine (unhide HL).mono ?_)
    rintro e w1 ⟨rfl, rfl⟩
    go_wp2_with fail
    go_ret
    have e1 := cutQ_all L HH.out.ne k (by rw [← HN.out]; exact hkn)
    exact ⟨rfl, v, by rw [e1]; exact HH.out, Only.refl _ _, fun _ h => .inl h⟩
  have hL0 : 0 < (strV L).length := by
    rw [strV_length]
    cases L with
    | nil => simp at hn; omega
    | cons _ _ => simp
  obtain ⟨g, off, cap, hv, hgl, hcell⟩ := h.sl.some hL0
  rw [strV_length] at hv
  have hpg : p ≠ g := by
    have := h.out
    rw [hv] at this
    simpa [slB] using this
  obtain ⟨len, hlen⟩ : ∃ len, len = L.length := ⟨_, rfl⟩
  rw [← hlen] at hv
  subst hv
  have hcell' : ∀ j (hj : j < L.length), w.cell? ⟨g, off + j, none⟩ = some (.string (S L[j])) := fun j hj => by
    rw [hcell j (by rw [strV_length]; omega)]
    simp [strV]
  have HC := hide hcell'
  have HLen := hide hlen
  have hfl := flat_le L h.ne
  have hlen2 : len ≤ 1000000 := by omega
  have hrr : r = (n : Int) - k := by omega
  have HK := hide (show Blk w p 27 #[.slice (some ⟨g, off, none⟩) len cap, .int .i64 n] from by rw [hn]; exact h.blk)
  subst hrr
  clear h hn hk hr hcell hcell' hlen hL0 hfl
  go_enter Try.func17, Try.ntmps17
  go_wp2_with fail
  (with_reducible refine (unhide HL).mono ?_)
  rintro e w ⟨rfl, rfl⟩
  go_wp2_with fail
  go_loopg [8, 28] len (fun gg s8 s28 wr => ∃ (j : Nat) (M : List (List UInt8)) (v' : Value), s28 = .int .i64 j ∧ j + gg = len ∧ Queue wr base p v' M ∧ Hid (M = cutQ k (L.take j)) ∧ Only [p] w wr ∧ (∀ x ∈ slB v', w.heap.size ≤ x))
  case atStart =>
    refine ⟨0, [], .slice none 0 0, rfl, by omega, ⟨?_, Sl.nil _ _ _, fun _ h => by cases h⟩, by show _ = _; simp [cutQ], ?_, fun _ h => by cases h⟩
    · exact (HK.out.set_ 0 _).set_ 1 _
    · exact ((Only.refl _ _).setCell (by simp) _).setCell (by simp) _
  case round =>
    obtain ⟨j, M, v', rfl, hj, hq, hM, ho, hfr⟩ := hrel
    by_cases hjl : j < len
    · have hjL : j < L.length := by have := HLen.out; omega
      have cz : wr.cell? ⟨g, off + j, none⟩ = some (.string (S L[j])) := by
        have h1 := HC.out j hjL
        have h2 := ho.block g hgl (by simpa using fun e => hpg e.symm)
        exact (World.cell?_of_block (a := ⟨g, off + j, none⟩) h2).trans h1
      obtain ⟨c, hc⟩ : ∃ c, c = L[j] := ⟨_, rfl⟩
      rw [← hc] at cz
      obtain ⟨m, hm⟩ : ∃ m : Nat, m = M.flatten.length := ⟨_, rfl⟩
      have c1 : wr.cell? ⟨p, 1, none⟩ = some (.int .i64 m) := by rw [hm]; exact hq.blk.cellv 1 _ rfl
      have hflat : M.flatten.length = min k (L.take j).flatten.length := by rw [hM.out, cutQ_flat, List.length_take]
      have hsnoc : cutQ k (L.take (j + 1)) = if k - (L.take j).flatten.length = 0 then M else M ++ [c.take (k - (L.take j).flatten.length)] := by
        rw [take_snoc L j hjL, cutQ_snoc, ← hM.out, ← hc]
      have hmk : m ≤ k := by omega
      have hcn : c.length + (L.take j).flatten.length ≤ n := by
        have e1 := congrArg (fun X : List (List UInt8) => X.flatten.length) (List.take_append_drop j L)
        simp only [List.flatten_append, List.length_append] at e1
        rw [List.drop_eq_getElem_cons hjL, List.flatten_cons, List.length_append, ← hc, ← HN.out] at e1
        omega
      obtain ⟨t, ht⟩ : ∃ t : Nat, t = min c.length (k - m) := ⟨_, rfl⟩
      obtain ⟨ti, hti⟩ : ∃ ti : Int, ti = t := ⟨_, rfl⟩
      obtain ⟨ct, hct⟩ : ∃ ct, ct = c.take t := ⟨_, rfl⟩
      have hmin := min_i64 (P := Try.prog) #[3, 3] 3 c.length ((k : Int) - m) ti (by omega)
      have hs1 := slice_to_at (P := Try.prog) Try.underlying9 c t (by omega) ti hti ct hct
      have hcne : 0 < c.length := List.length_pos_iff.2 (HH.out.ne c (by rw [hc]; exact List.getElem_mem _))
      have hcl : c.length ≤ 1000000 := by omega
      rw [← hm] at hflat
      have hbw : base ≤ wr.heap.size := Nat.le_trans hbase ho.size
      by_cases ht0 : t = 0
      · have hct0 : ct = [] := by rw [hct, ht0]; rfl
        subst hct0
        have hM2 : Hid (M = cutQ k (L.take (j + 1))) := by show _ = _; rw [hsnoc, if_pos (by omega)]
        have HA := hide (add_empty (w := wr) (p := p))
        clear hM hsnoc hct ht ht0 hc hm hti hflat hcn
        go_wp2_with fail
        (with_reducible refine (unhide HA).mono ?_)
        rintro e w2 ⟨rfl, rfl⟩
        go_wp2_with fail
        go_roundg (gk - 1)
        case measure => omega
        case rel => exact ⟨j + 1, M, v', by go_num, by omega, hq, hM2, ho, hfr⟩
      · have hctl : ct.length = t := by rw [hct, List.length_take]; omega
        have hctn : ct ≠ [] := by rintro rfl; simp at hctl; omega
        have hM2 : Hid (M ++ [ct] = cutQ k (L.take (j + 1))) := by
          show _ = _
          rw [hsnoc, if_neg (by omega), hct, show k - (L.take j).flatten.length = k - m by omega]
          congr 2
          rw [ht]
          rcases Nat.le_total c.length (k - m) with h | h
          · rw [Nat.min_eq_left h, List.take_of_length_le (Nat.le_refl _), List.take_of_length_le h]
          · rw [Nat.min_eq_right h]
        have HA := hide (add_some hq ct hctn (by omega) hbw)
        have hfr1 := hide hfr
        clear hM hsnoc hct ht ht0 hc hm hti hflat hcn hctl hctn hfr
        go_wp2_with fail
        (with_reducible refine (unhide HA).mono ?_)
        rintro e w2 ⟨rfl, v2, hq2, ho2, hfr2⟩
        have hof := ho.trans_new (S := [p]) (T := slB v') ho2 hfr1.out
        have hfr3 : ∀ x ∈ slB v2, w.heap.size ≤ x := fun x hx => by
          rcases hfr2 x hx with h | h
          · exact hfr1.out x h
          · exact Nat.le_trans ho.size h
        have Hfr3 := hide hfr3
        clear hfr3 hfr2 ho2 ho hq
        go_wp2_with fail
        go_roundg (gk - 1)
        case measure => omega
        case rel => exact ⟨j + 1, M ++ [ct], v2, by go_num, by omega, hq2, hM2, hof, Hfr3.out⟩
    · have hjn : j = len := by omega
      subst hjn
      have e1 : M = cutQ k L := by rw [hM.out, List.take_of_length_le (by rw [← HLen.out]; exact Nat.le_refl _)]
      go_wp2_with fail
      go_ret
      exact ⟨rfl, v', by rw [← e1]; exact hq, ho.mono (fun x hx => by simp at hx; simp [hx]), fun x hx => .inr (hfr x hx)⟩
end Go.Proofs.Ytilfhanmokfhlaa
