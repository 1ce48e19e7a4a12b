/-
  RingO · QueO: parts of the walk of TopTight, under no condition.
-/
import Derived.Test.YtkccjfgkbkodiaaGreatRows
import Derived.Test.YtkccjfgkbkodiaaGreatZ01
import Derived.Test.YtkccjfgkbkodiaaGreatZ02
import Derived.Test.YtkccjfgkbkodiaaGreatZ23
namespace Go.Proofs.YtkccjfgkbkodiaaGreat
open Go.RowKit
/-- The ring at block p, its blocks of F, of cap bytes, holds the list l. -/
def Ring (F : List Nat) (w : World) (p cap : Nat) (l : List UInt8) : Prop :=
  ∃ (q first : Nat) (buf : List UInt8), p ∈ F ∧ q ∈ F ∧ cap ≤ 10000 ∧ buf.length = cap ∧ l.length ≤ cap ∧ (first < cap ∨ first = 0) ∧
    (∀ i, i < l.length → buf[(first + i) % cap]? = l[i]?) ∧
    Blk w p 113 #[.slice (some ⟨q, 0, none⟩) cap cap, .int .i64 first, .int .i64 l.length] ∧ Blk w q 5 (bytesV buf)
theorem ring_len_any (F : List Nat) (p cap : Nat) (l : List UInt8) (w : World) (h : Ring F w p cap l) :
    Calls Tryz.prog 66 #[.pointer (some ⟨p, 0, none⟩)] w fun e w' => e = .returned (.int .i64 l.length) ∧ w = w' := by
  obtain ⟨q, first, buf, hBp, hBq, hcap, hbl, hlc, hfc, hsp, hp, hq⟩ := h
  have c2 := hp.cellv 2 _ rfl
  go_enter Tryz.func66, Tryz.ntmps66
  go_wp2
  go_ret
  exact ⟨rfl, rfl⟩
theorem ring_room_any (F : List Nat) (p cap : Nat) (l : List UInt8) (w : World) (h : Ring F w p cap l) (m : Nat) (hm : m + l.length = cap) :
    Calls Tryz.prog 81 #[.pointer (some ⟨p, 0, none⟩)] w fun e w' => e = .returned (.int .i64 m) ∧ ∃ n, w' = w.drewN n := by
  obtain ⟨q, first, buf, hBp, hBq, hcap, hbl, hlc, hfc, hsp, hp, hq⟩ := h
  have HM := hide hm
  clear hm
  have c0 := hp.cellv 0 _ rfl
  have c2 := hp.cellv 2 _ rfl
  go_enter Tryz.func81, Tryz.ntmps81
  go_wp2
  go_quiet (fail)
  go_wp2
  go_ret
  exact ⟨by have := HM.out; show Ending.returned (.int .i64 ((cap : Int) - l.length)) = _; rw [show (cap : Int) - l.length = m by omega], _, rfl⟩
theorem ring_info_u8 : (Tryz.prog.info? 5).map (fun i => (i.zero, i.size, i.bytes)) = some (some (.int .u8 0), 1, 1) := by kernel_rfl
theorem ring_make_u8 (n : Nat) (z : Int) (hz : z = n) (h : n ≤ 1000000) (w : World) :
    (Instr.makeSlice 63 (.int .i64 z) (.int .i64 z)).run Tryz.prog w = .ok (.slice (some ⟨w.heap.size, 0, none⟩) n n) (w.alloc (.cells (bytesV (List.replicate n 0)) 5)) := by
  obtain ⟨i0, hi, hz0, hz1, hz2⟩ := info_parts ring_info_u8
  have hr := run_make (P := Tryz.prog) w 63 5 i0 (.int .u8 0) Tryz.underlying63 hi hz0 .i64 .i64 z z (by omega) (by omega) (by rw [hz2]; omega) (by omega)
  rw [hr, hz1]
  subst hz
  have e : madeCells (Value.cells (.int .u8 0)) ((n : Int).toNat * 1) = bytesV (List.replicate n 0) := by
    apply Array.toList_inj.1
    rw [show Value.cells (.int .u8 0) = #[.int .u8 0] from rfl, toList_madeCells_one]
    simp [bytesV]
  rw [e, Int.toNat_natCast]
theorem ring_new_any (room : Int) (w : World) :
    Calls Tryz.prog 58 #[.int .i64 room] w fun e w' => e = .returned (.pointer (some ⟨w.heap.size + 1, 0, none⟩)) ∧ Ring [w.heap.size, w.heap.size + 1] w' (w.heap.size + 1) (min (max room 0) 10000).toNat [] ∧ Only [] w w' := by
  obtain ⟨n, hn⟩ : ∃ n : Nat, n = (min (max room 0) 10000).toNat := ⟨_, rfl⟩
  rw [← hn]
  have fin : ∀ cs, cs = bytesV (List.replicate n 0) →
      Ring [w.heap.size, w.heap.size + 1] ((w.alloc (.cells cs 5)).alloc (.cells #[.slice (some ⟨w.heap.size, 0, none⟩) n n, .int .i64 0, .int .i64 0] 113)) (w.heap.size + 1) n [] ∧
      Only [] w ((w.alloc (.cells cs 5)).alloc (.cells #[.slice (some ⟨w.heap.size, 0, none⟩) n n, .int .i64 0, .int .i64 0] 113)) := by
    rintro cs rfl
    refine ⟨⟨w.heap.size, 0, List.replicate n 0, by simp, by simp, by omega, by simp, by simp, .inr rfl, by simp, ?_, ?_⟩, ((Only.refl _ _).alloc _).alloc _⟩
    · have := Blk.new (w.alloc (.cells (bytesV (List.replicate n 0)) 5)) 113 #[.slice (some ⟨w.heap.size, 0, none⟩) n n, .int .i64 0, .int .i64 0]
      simpa using this
    · exact (Blk.new w _ _).alloc _
  obtain ⟨m, hm⟩ : ∃ m : Int, m = max room 0 := ⟨_, rfl⟩
  have hmax := fun (ts : Array TypeId) (t : TypeId) W => max_i64 (P := Tryz.prog) ts t room 0 m hm W
  have hmin := fun (ts : Array TypeId) (t : TypeId) W => min_i64 (P := Tryz.prog) ts t m 10000 (n : Int) (by omega) W
  have hmk := ring_make_u8 n (n : Int) (by omega) (by omega)
  have HF := hide fin
  clear hn fin hm
  go_enter Tryz.func58, Tryz.ntmps58
  go_wp2
  go_ret
  exact ⟨rfl, HF.out _ rfl⟩
theorem ring_push {F : List Nat} {p cap : Nat} {l : List UInt8} {w : World} {q first L : Nat} {buf : List UInt8} (b : UInt8) (hBp : p ∈ F) (hBq : q ∈ F) (hc : cap ≤ 10000) (hbl : buf.length = cap)
    (hL : L = l.length) (hLc : L < cap) (hfc : first < cap ∨ first = 0) (hsp : ∀ i, i < l.length → buf[(first + i) % cap]? = l[i]?)
    (hp : Blk w p 113 #[.slice (some ⟨q, 0, none⟩) cap cap, .int .i64 first, .int .i64 L]) (hq : Blk w q 5 (bytesV buf)) :
    Ring F ((w.setCell ⟨q, (first + L) % cap, none⟩ (.int .u8 (b.toNat : Int))).setCell ⟨p, 2, none⟩ (.int .i64 ((L : Int) + 1))) p cap (l ++ [b]) := by
  have hpq : p ≠ q := hp.ne_ hq (by decide)
  have hmod : (first + L) % cap < cap := Nat.mod_lt _ (by omega)
  refine ⟨q, first, buf.set ((first + L) % cap) b, hBp, hBq, hc, by simpa using hbl, by simp; omega, hfc, ?_, ?_, ?_⟩
  · intro i hi
    simp only [List.length_append, List.length_cons, List.length_nil] at hi
    rcases Nat.lt_or_ge i l.length with h | h
    · have hne : (first + L) % cap ≠ (first + i) % cap := by
        intro e
        have h1 := Nat.div_add_mod (first + L) cap
        have h2 := Nat.div_add_mod (first + i) cap
        rw [e] at h1
        have h3 : cap * ((first + L) / cap) = cap * ((first + i) / cap) + (L - i) := by omega
        rcases Nat.lt_or_ge ((first + i) / cap) ((first + L) / cap) with h4 | h4
        · have h5 : cap * ((first + i) / cap + 1) ≤ cap * ((first + L) / cap) := Nat.mul_le_mul_left _ h4
          rw [Nat.mul_add] at h5
          omega
        · have h5 : cap * ((first + L) / cap) ≤ cap * ((first + i) / cap) := Nat.mul_le_mul_left _ h4
          omega
      rw [List.getElem?_set_ne hne, hsp i h, List.getElem?_append_left h]
    · have hiL : i = L := by omega
      subst hiL
      rw [List.getElem?_set_self (by omega), List.getElem?_append_right (by omega), hL]
      simp
  · have h1 := (hp.far (p := ⟨q, (first + L) % cap, none⟩) hpq (.int .u8 (b.toNat : Int))).set_ 2 (.int .i64 ((L : Int) + 1))
    have e : ((l ++ [b]).length : Int) = (L : Int) + 1 := by simp [hL]
    rw [e]
    exact h1
  · have h1 := (hq.set_ ((first + L) % cap) (.int .u8 (b.toNat : Int))).far (p := ⟨p, 2, none⟩) (fun e => hpq e.symm) (.int .i64 ((L : Int) + 1))
    rw [bytesV_set] at h1
    exact h1
set_option maxRecDepth 100000 in
theorem ring_put_kt (F : List Nat) (p cap : Nat) (l : List UInt8) (s : ByteArray) (w : World) (h : Ring F w p cap l) (hs : s.size ≤ 140737488351232) (n m : Nat) (hm : m + l.length = cap) (hn : n = min s.size m) :
    Calls Tryz.prog 61 #[.pointer (some ⟨p, 0, none⟩), .string s] w fun e w' => e = .returned (.int .i64 n) ∧ Ring F w' p cap (l ++ s.data.toList.take n) ∧ Only F w w' := by
  have hcap : cap ≤ 10000 := by obtain ⟨q, first, buf, hBp, hBq, hcap, _⟩ := h; exact hcap
  have hns : n ≤ s.size := by omega
  have hnm : n + l.length ≤ cap := by omega
  have hmin : ∀ W, (Builtin.min_ #[3, 3] 3 #[.int .i64 (s.size : Int), .int .i64 (m : Int)]).run Tryz.prog W = .ok (.int .i64 (n : Int)) W := by
    exact fun W => min_i64 _ _ _ _ _ (by omega) W
  have HR := ring_room_any F p cap l w h m hm
  have Hn := hide hn
  clear hn hm
  go_enter Tryz.func61, Tryz.ntmps61
  go_wp2_with (go_at_call 81; refine HR.mono ?_; rintro e w' ⟨rfl, k, rfl⟩)
  go_loopg [13] n (fun k i wr => ∃ j : Nat, i = .int .i64 j ∧ j + k = n ∧ Ring F wr p cap (l ++ s.data.toList.take j) ∧ Only F w wr)
  case atStart => exact ⟨0, rfl, by omega, by rw [List.take_zero, List.append_nil]; exact h, (Only.refl _ _).drewN _⟩
  case round =>
    obtain ⟨j, rfl, hjk, hr, hb⟩ := hrel
    by_cases hlt : j < n
    · obtain ⟨q, first, buf, hBp, hBq, _, hbl, hlc, hfc, hsp, hp, hq⟩ := hr
      obtain ⟨L, hL⟩ : ∃ L, L = (l ++ s.data.toList.take j).length := ⟨_, rfl⟩
      rw [← hL] at hp
      have hL' : L = l.length + j := by rw [hL]; simp; have : s.data.toList.length = s.size := rfl; omega
      have hLc : L < cap := by omega
      have hfb : first ≤ 10000 := by omega
      have c0 := hp.cellv 0 _ rfl
      have c1 := hp.cellv 1 _ rfl
      have c2 := hp.cellv 2 _ rfl
      have hm1 : (0 : Int) ≤ ((first : Int) + L) % cap := Int.emod_nonneg _ (by omega)
      have hm2 : ((first : Int) + L) % cap < cap := Int.emod_lt_of_pos _ (by omega)
      have hmn : (first + L) % cap < cap := Nat.mod_lt _ (by omega)
      have cq : wr.cell? ⟨q, (first + L) % cap, none⟩ = some (.int .u8 ((buf[(first + L) % cap]'(by omega)).toNat : Int)) :=
        hq.cellv _ _ (by rw [bytesV_get, List.getElem?_eq_getElem (by omega)]; rfl)
      have fq := hq.frozen ((first + L) % cap)
      have f2 := hp.frozen 2
      have hpq : p ≠ q := hp.ne_ hq (by decide)
      have hcz : cap ≠ 0 := by omega
      have htm : ((first : Int) + L).tmod cap = ((first : Int) + L) % cap := Int.tmod_eq_emod_of_nonneg (by omega)
      have hjs : j < s.size := by omega
      have HL := hide (And.intro hL hL')
      have HB := hide (And.intro hsp hfc)
      clear hL hL' hsp hfc h HR
      go_wp2
      refine wp_region_tbs [] [0, 1, 2, 3, 4, 5, 6, 7, 8, 9, 10, 11, 12, 13, 14, 15, 16, 17, 18, 19, 20, 21, 22] [23] (by kernel_rfl) (by kernel_rfl) (by intro _ _ _ _ _ h; exact h) ?_
      simp only [opsAt, List.getElem?_cons_zero, List.getElem?_cons_succ]
      refine wpPure_nil ?_
      repeat (refine wpStill_step (fun K hK => ?_); go_simp; (try go_bits); refine hK _ ?_; clear hK K)
      refine wpStill_nil ?_
      go_wp2
      go_roundg (gk - 1)
      case measure => omega
      case rel =>
        have e : l ++ s.data.toList.take (j + 1) = (l ++ s.data.toList.take j) ++ [s[j]] := by rw [take_snoc _ _ hjs, List.append_assoc]; rfl
        refine ⟨j + 1, by go_num, by omega, ?_, ((hb.setCell (p := ⟨q, (first + L) % cap, none⟩) hBq _).setCell (p := ⟨p, 2, none⟩) hBp _).drew⟩
        rw [e]
        exact ring_push s[j] hBp hBq hcap hbl HL.out.1 hLc HB.out.2 HB.out.1 hp hq
    · have hj : j = n := by omega
      subst hj
      go_wp2
      go_ret
      exact ⟨rfl, hr, hb⟩
theorem ring_keep {F T : List Nat} {p cap : Nat} {l : List UInt8} {w w' : World} (h : Ring F w p cap l) (ho : Only T w w') (hd : ∀ k ∈ F, k ∉ T) : Ring F w' p cap l := by
  obtain ⟨q, first, buf, h1, h2, h3, h4, h5, h6, h7, hp, hq⟩ := h
  exact ⟨q, first, buf, h1, h2, h3, h4, h5, h6, h7, ho.blk hp (hd p h1), ho.blk hq (hd q h2)⟩
theorem ring_below {F : List Nat} {p cap : Nat} {l : List UInt8} {w w' : World} (h : Ring F w p cap l) (hb : Below w.heap.size w w') : Ring F w' p cap l := ring_keep h (Only.of_below hb []) (by simp)
theorem ring_mono {F F' : List Nat} {p cap : Nat} {l : List UInt8} {w : World} (h : Ring F w p cap l) (hB : ∀ k ∈ F, k ∈ F') : Ring F' w p cap l := by
  obtain ⟨q, first, buf, h1, h2, h3, h4, h5, h6, h7, hp, hq⟩ := h
  exact ⟨q, first, buf, hB p h1, hB q h2, h3, h4, h5, h6, h7, hp, hq⟩
theorem ring_lt {F : List Nat} {p cap : Nat} {l : List UInt8} {w : World} (h : Ring F w p cap l) : l.length ≤ cap := by
  obtain ⟨q, first, buf, h1, h2, h3, h4, h5, h6, h7, hp, hq⟩ := h
  exact h5
/-- Its two blocks alone. -/
theorem ring_small {F : List Nat} {p cap : Nat} {l : List UInt8} {w : World} (h : Ring F w p cap l) : ∃ G, Ring G w p cap l ∧ (∀ k ∈ G, k ∈ F) ∧ ∀ k ∈ G, ∃ t cs, (t = 113 ∨ t = 5) ∧ Blk w k t cs := by
  obtain ⟨q, first, buf, h1, h2, h3, h4, h5, h6, h7, hp, hq⟩ := h
  refine ⟨[p, q], ⟨q, first, buf, by simp, by simp, h3, h4, h5, h6, h7, hp, hq⟩, fun k hk => ?_, fun k hk => ?_⟩
  · simp at hk
    rcases hk with rfl | rfl
    · exact h1
    · exact h2
  · simp at hk
    rcases hk with rfl | rfl
    · exact ⟨_, _, .inl rfl, hp⟩
    · exact ⟨_, _, .inr rfl, hq⟩
set_option maxRecDepth 100000 in
theorem ring_peek_any (F : List Nat) (p cap : Nat) (l : List UInt8) (n : Int) (w : World) (h : Ring F w p cap l) (k : Nat) (hk : (k : Int) = min (max n 0) l.length) :
    Calls Tryz.prog 99 #[.pointer (some ⟨p, 0, none⟩), .int .i64 n] w fun e w' => e = .returned (.string (S (l.take k))) ∧ Below w.heap.size w w' := by
  obtain ⟨i0, hi, hz0, hz1, hz2⟩ := info_parts ring_info_u8
  have HLen := ring_len_any F p cap l w h
  obtain ⟨q, first, buf, hBp, hBq, hcap, hbl, hlc, hfc, hsp, hp, hq⟩ := h
  have hkl : k ≤ l.length := by omega
  have hfb : first ≤ 10000 := by omega
  have hplt := hp.lt
  have hqlt := hq.lt
  obtain ⟨x, hx⟩ : ∃ x : Int, x = max n 0 := ⟨_, rfl⟩
  have hmax := max_i64 (P := Tryz.prog) #[3, 3] 3 n 0 x hx
  have hmin := min_i64 (P := Tryz.prog) #[3, 3] 3 x l.length k (by omega)
  have H1 := hide (And.intro hx (And.intro hk hbl))
  have H2 := hide hfc
  have H3 := hide hsp
  clear hx hk hfc hsp hbl
  go_enter Tryz.func99, Tryz.ntmps99
  go_wp2_with (go_at_call 66; refine HLen.mono ?_; rintro e w' ⟨rfl, rfl⟩)
  go_loopg [5, 12] k (fun g v i wr => ∃ j : Nat, i = .int .i64 j ∧ j + g = k ∧ wr.ownsRow w.heap.size 5 1 v j (u8s (l.take j)) ∧ Below w.heap.size w wr)
  case atStart => exact ⟨0, rfl, by omega, by rw [List.take_zero]; exact World.ownsRow_nil _ _ _ _, Below.refl _ _⟩
  case round =>
    obtain ⟨j, rfl, hjk, hown, hb⟩ := hrel
    by_cases hlt : j < k
    · have hcz : cap ≠ 0 := by omega
      have hmn : (first + j) % cap < cap := Nat.mod_lt _ (by omega)
      have hbl := H1.out.2.2
      have hjl : j < l.length := by omega
      have hget : buf[(first + j) % cap]? = some l[j] := by rw [H3.out j hjl, List.getElem?_eq_getElem hjl]
      have hp' := hp.below hb hplt
      have hq' := hq.below hb hqlt
      have c0 := hp'.cellv 0 _ rfl
      have c1 := hp'.cellv 1 _ rfl
      have cq : wr.cell? ⟨q, (first + j) % cap, none⟩ = some (.int .u8 (l[j].toNat : Int)) :=
        hq'.cellv _ _ (by rw [bytesV_get, hget]; rfl)
      have hm1 : (0 : Int) ≤ ((first : Int) + j) % cap := Int.emod_nonneg _ (by omega)
      have hm2 : ((first : Int) + j) % cap < cap := Int.emod_lt_of_pos _ (by omega)
      have htm : ((first : Int) + j).tmod cap = ((first : Int) + j) % cap := Int.tmod_eq_emod_of_nonneg (by omega)
      have HO := hide hown
      clear hbl hget hown HLen
      go_wp2
      refine wp_region_tbs [0] [1, 2, 3, 4, 5, 6, 7, 8, 9, 10, 11, 12, 13, 14, 15, 16, 17, 18] [19, 20, 21] (by kernel_rfl) (by kernel_rfl) (by intro _ _ _ _ _ h; exact h) ?_
      simp only [opsAt, List.getElem?_cons_zero, List.getElem?_cons_succ]
      first | refine wpPure_move _ rfl rfl ?_ | (refine wpPure_step (v := ?_) rfl (fun w' => ?_) ?_; rotate_left; · (simp only [Act.put, List.setIfInBounds_toArray, List.set_cons_zero, List.set_cons_succ]; go_simp; with_reducible rfl))
      refine wpPure_nil ?_
      simp only [Act.put, Act.eval, List.setIfInBounds_toArray, List.set_cons_zero, List.set_cons_succ]
      repeat (refine wpStill_step (fun K hK => ?_); go_simp; (try go_bits); refine hK _ ?_; clear hK K)
      refine wpStill_nil ?_
      go_wp2_with (at_builtin; refine wpList_append1 rfl (.tmp 15) (.tmp 34) 63 rfl w.heap.size 5 (.int .u8 0) 1 Tryz.underlying63 ring_info_u8 rfl u5 j (u8s (l.take j)) rfl (HO.out.alloc _) wr.heap.size (.int .u8 (l[j].toNat : Int)) rfl (Blk.cell (Blk.new _ _ _) 0) rfl (by unfold maxLen; omega) (by omega) ?cb ?_; rotate_left; intro v' w1 hown1 hg1)
      · go_roundg (gk - 1)
        case measure => omega
        case rel =>
          refine ⟨j + 1, by go_num, by omega, ?_, below_append1 hb hb.size HO.out (Nat.le_refl _) hg1⟩
          rw [take_snoc _ _ hjl, u8s_append]
          exact hown1
      · show w.heap.size ≤ (wr.alloc _).heap.size
        have := hb.size
        simp
        omega
    · have hj : j = k := by omega
      subst hj
      have hstr := fun W (hW : W.ownsRow w.heap.size 5 1 u5 j (u8s (l.take j))) => run_string_own (P := Tryz.prog) Tryz.underlying63 Tryz.underlying5 Tryz.underlying9 W w.heap.size u5 j (l.take j) hW
      have hs1 := hstr wr hown
      have HO := hide hown
      clear hstr hown
      go_wp2
      go_ret
      exact ⟨rfl, hb⟩
theorem ring_take {F : List Nat} {p cap : Nat} {l : List UInt8} {w : World} {q first : Nat} {buf : List UInt8} (k : Nat) (hk : k ≤ l.length) (hk0 : 0 < k) (hBp : p ∈ F) (hBq : q ∈ F) (hc : cap ≤ 10000) (hbl : buf.length = cap)
    (hLc : l.length ≤ cap) (hsp : ∀ i, i < l.length → buf[(first + i) % cap]? = l[i]?)
    (hp : Blk w p 113 #[.slice (some ⟨q, 0, none⟩) cap cap, .int .i64 first, .int .i64 l.length]) (hq : Blk w q 5 (bytesV buf)) :
    Ring F ((w.setCell ⟨p, 1, none⟩ (.int .i64 (((first : Int) + k) % cap))).setCell ⟨p, 2, none⟩ (.int .i64 ((l.length : Int) - k))) p cap (l.drop k) := by
  have hpq : p ≠ q := hp.ne_ hq (by decide)
  have hmod : (first + k) % cap < cap := Nat.mod_lt _ (by omega)
  refine ⟨q, (first + k) % cap, buf, hBp, hBq, hc, hbl, by simp; omega, .inl hmod, ?_, ?_, ?_⟩
  · intro i hi
    simp only [List.length_drop] at hi
    have e : ((first + k) % cap + i) % cap = (first + (k + i)) % cap := by rw [Nat.mod_add_mod, Nat.add_assoc]
    rw [e, hsp (k + i) (by omega), List.getElem?_drop]
  · have h1 := (hp.set_ 1 (.int .i64 (((first : Int) + k) % cap))).set_ 2 (.int .i64 ((l.length : Int) - k))
    have e : ((l.drop k).length : Int) = (l.length : Int) - k := by simp; omega
    have e2 : (((first + k) % cap : Nat) : Int) = ((first : Int) + k) % cap := by simp
    rw [e, e2]
    exact h1
  · exact (hq.far (p := ⟨p, 1, none⟩) (fun e => hpq e.symm) _).far (p := ⟨p, 2, none⟩) (fun e => hpq e.symm) _
set_option maxRecDepth 100000 in
theorem ring_take_kt (F : List Nat) (p cap : Nat) (l : List UInt8) (n : Int) (w : World) (h : Ring F w p cap l) (k : Nat) (hk : (k : Int) = min (max n 0) l.length) :
    Calls Tryz.prog 82 #[.pointer (some ⟨p, 0, none⟩), .int .i64 n] w fun e w' => e = .returned (.string (S (l.take k))) ∧ Ring F w' p cap (l.drop k) ∧ Only F w w' := by
  have HP := ring_peek_any F p cap l n w h k hk
  have hsz : (S (l.take k)).size = k := by rw [S_size, List.length_take]; omega
  have hkl : k ≤ l.length := by omega
  have HK := hide hk
  clear hk
  go_enter Tryz.func82, Tryz.ntmps82
  go_wp2_with fail
  refine HP.mono ?_
  rintro e w1 ⟨rfl, hb1⟩
  have h1 := ring_below h hb1
  clear HP h
  have hb2 := Only.of_below hb1 F
  by_cases hk0 : k = 0
  · subst hk0
    go_wp2
    go_ret
    exact ⟨rfl, by rw [List.drop_zero]; exact h1, hb2⟩
  · have hk1 : 0 < k := by omega
    obtain ⟨q, first, buf, hBp, hBq, hcap, hbl, hlc, hfc, hsp, hp, hq⟩ := h1
    have HR := fun W => @ring_take F p cap l W q first buf k hkl hk1 hBp hBq hcap hbl hlc hsp
    have c0 := hp.cellv 0 _ rfl
    have c1 := hp.cellv 1 _ rfl
    have c2 := hp.cellv 2 _ rfl
    have f1 := hp.frozen 1
    have f2 := hp.frozen 2
    have hfb : first ≤ 10000 := by omega
    have hcz : cap ≠ 0 := by omega
    have htm : ((first : Int) + k).tmod cap = ((first : Int) + k) % cap := Int.tmod_eq_emod_of_nonneg (by omega)
    have H1 := hide hbl
    have H2 := hide hfc
    have H3 := hide hsp
    have H4 := hide HR
    clear hbl hfc hsp HR
    go_wp2
    refine wp_region_tbs [] [0, 1, 2, 3, 4, 5, 6, 7, 8, 9, 10, 11, 12, 13, 14, 15] [16] (by kernel_rfl) (by kernel_rfl) (by intro _ _ _ _ _ h; exact h) ?_
    simp only [opsAt, List.getElem?_cons_zero, List.getElem?_cons_succ]
    refine wpPure_nil ?_
    repeat (refine wpStill_step (fun K hK => ?_); go_simp; (try go_bits); refine hK _ ?_; clear hK K)
    refine wpStill_nil ?_
    go_wp2
    go_ret
    exact ⟨rfl, H4.out _ hp hq, ((hb2.setCell (p := ⟨p, 1, none⟩) hBp _).setCell (p := ⟨p, 2, none⟩) hBp _).drew⟩
theorem ring_clear_any (F : List Nat) (p cap : Nat) (l : List UInt8) (w : World) (h : Ring F w p cap l) :
    Calls Tryz.prog 89 #[.pointer (some ⟨p, 0, none⟩)] w fun e w' => e = .returned (.int .i64 l.length) ∧ Ring F w' p cap [] ∧ Only F w w' := by
  have HL := hide (ring_len_any F p cap l w h)
  have HT := hide (ring_take_kt F p cap l l.length w h l.length (by omega))
  clear h
  go_enter Tryz.func89, Tryz.ntmps89
  go_wp2_with fail
  refine (unhide HL).mono ?_
  rintro e w1 ⟨rfl, rfl⟩
  go_wp2_with fail
  refine (unhide HT).mono ?_
  rintro e w1 ⟨rfl, hr, hb⟩
  have hsz : (S (l.take l.length)).size = l.length := by rw [S_size, List.length_take]; omega
  go_wp2_with fail
  go_ret
  exact ⟨rfl, by rw [List.drop_length] at hr; exact hr, hb⟩
end Go.Proofs.YtkccjfgkbkodiaaGreat
namespace Go.Proofs.YtkccjfgkbkodiaaGreat
open Go.RowKit
def strV (L : List (List UInt8)) : List Value := L.map fun l => Value.string (S l)
theorem strV_length (L : List (List UInt8)) : (strV L).length = L.length := by simp [strV]
theorem strV_append (L M : List (List UInt8)) : strV (L ++ M) = strV L ++ strV M := by simp [strV]
/-- The queue in the session at p has the chunks L; its list is v. -/
structure QueS (w : World) (p : Nat) (pre post : List Value) (v : Value) (L : List (List UInt8)) : Prop where
  mid : Mid w p 96 pre [v, .int .i64 (L.flatten.length : Nat)] post 1
  sl : Sl w 0 9 v (strV L)
  ne : ∀ l ∈ L, l ≠ []
theorem QueS.out {w : World} {p : Nat} {pre post : List Value} {v : Value} {L : List (List UInt8)} (h : QueS w p pre post v L) : p ∉ slB v := h.sl.notBlk h.mid.2 (by decide)
theorem QueS.lt {w : World} {p : Nat} {pre post : List Value} {v : Value} {L : List (List UInt8)} (h : QueS w p pre post v L) : p < w.heap.size := h.mid.lt
theorem Sl.form {w : World} {base : Nat} {t : TypeId} {v : Value} {xs : List Value} (h : Sl w base t v xs) : ∃ a c, v = .slice a xs.length c := by
  rcases h with ⟨rfl, rfl⟩ | ⟨g, off, cap, cs, rfl, _⟩
  · exact ⟨none, 0, rfl⟩
  · exact ⟨_, _, rfl⟩
theorem flat_le (L : List (List UInt8)) (h : ∀ l ∈ L, l ≠ []) : L.length ≤ L.flatten.length := by
  induction L with
  | nil => simp
  | cons c L ih =>
    have h1 := ih (fun l hl => h l (List.mem_cons_of_mem _ hl))
    have h2 : 0 < c.length := List.length_pos_iff.2 (h c (List.mem_cons_self ..))
    simp only [List.flatten_cons, List.length_append, List.length_cons]
    omega
theorem info_str : (Tryz.prog.info? 9).map (fun i => (i.zero, i.size, i.bytes)) = some (some (.string ByteArray.empty), 1, 16) := by kernel_rfl
set_option maxRecDepth 100000 in
theorem qs_len {w : World} {p : Nat} {pre post : List Value} {v : Value} {L : List (List UInt8)} (h : QueS w p pre post v L) (n : Int) (hn : n = (L.flatten.length : Nat)) :
    Calls Tryz.prog 65 #[.pointer (some ⟨p, 1, none⟩)] w fun e w' => e = .returned (.int .i64 n) ∧ w' = w := by
  have c1 : w.cell? ⟨p, 2, none⟩ = some (.int .i64 n) := by rw [hn]; exact h.mid.cell 1 _ rfl
  clear h hn
  go_enter Tryz.func65, Tryz.ntmps65
  go_wp2_with fail
  go_ret
  exact ⟨rfl, rfl⟩
theorem qs_add_empty {w : World} {p : Nat} : Calls Tryz.prog 84 #[.pointer (some ⟨p, 1, none⟩), .string (S [])] w fun e w' => e = .returned (.tuple #[]) ∧ w' = w := by
  go_enter Tryz.func84, Tryz.ntmps84
  go_wp2
  exact bodyPost_ret (results_none rfl _ _ _) rfl ⟨rfl, rfl⟩
set_option maxRecDepth 100000 in
theorem qs_add_some {w : World} {p : Nat} {pre post : List Value} {v : Value} {L : List (List UInt8)} (h : QueS w p pre post v L) (b : List UInt8) (hb : b ≠ []) (hsz : L.flatten.length + b.length ≤ 1000000) :
    Calls Tryz.prog 84 #[.pointer (some ⟨p, 1, none⟩), .string (S b)] w fun e w' => e = .returned (.tuple #[]) ∧ ∃ v', QueS w' p pre post v' (L ++ [b]) ∧ Only (p :: slB v) w w' ∧ (∀ k ∈ slB v', k ∈ slB v ∨ w.heap.size ≤ k) := by
  have c0 : w.cell? ⟨p, 1, none⟩ = some v := h.mid.cell 0 _ rfl
  have c1 : w.cell? ⟨p, 2, none⟩ = some (.int .i64 (L.flatten.length : Nat)) := h.mid.cell 1 _ rfl
  have f0 := h.mid.frozen 1
  have f1 := h.mid.frozen 2
  have hlt := h.lt
  have hne := h.ne
  have hfl := flat_le L h.ne
  have hbe : b.isEmpty = false := by cases b with | nil => exact absurd rfl hb | cons _ _ => rfl
  obtain ⟨n, hn⟩ : ∃ n : Nat, n = L.flatten.length := ⟨_, rfl⟩
  rw [← hn] at c1 hsz hfl
  have HN := hide hn
  have HH := hide h
  have HB := hide hb
  have HK := hide (show Mid w p 96 pre [v, .int .i64 n] post 1 from by rw [hn]; exact h.mid)
  have HO := hide h.out
  clear h hn hb hne
  go_enter Tryz.func84, Tryz.ntmps84
  go_wp2_with (at_builtin; refine wpList_append_sl rfl (.tmp 14) (.tmp 16) 22 rfl 0 9 (.string ByteArray.empty) 16 Tryz.underlying22 info_str rfl v (strV L) rfl (HH.out.sl.alloc _) w.heap.size (.string (S b)) rfl (Blk.cell (Blk.new _ _ _) 0) rfl (by rw [strV_length]; unfold maxLen; omega) (by rw [strV_length]; omega) (Nat.zero_le _) ?_; intro v' w1 hown1 ho1 hfresh; obtain ⟨a', c', rfl⟩ := hown1.form; have hb1 := (HK.out.alloc (.cells #[.string (S b)] 9)).keep ho1 HO.out; have d0 : w1.cell? ⟨p, 1, none⟩ = some v := hb1.cell 0 _ rfl; have d1 : w1.cell? ⟨p, 2, none⟩ = some (.int .i64 n) := hb1.cell 1 _ rfl; have g0 := hb1.frozen 1; have g1 := hb1.frozen 2)
  go_end0
  have e1 : (strV L ++ [Value.string (S b)]).length = (strV L).length + 1 := by simp
  rw [e1] at hown1 hfresh
  have hpn := hown1.notBlk hb1.2 (by decide)
  refine ⟨rfl, .slice a' ((strV L).length + 1) c', ⟨?_, ?_, ?_⟩, ?_, ?_⟩
  · rw [show (((L ++ [b]).flatten.length : Nat) : Int) = (n : Int) + b.length by rw [HN.out]; simp]
    exact (hb1.set 0 (by simp) _).set 1 (by simp) _
  · rw [strV_append]
    exact (hown1.far (p := ⟨p, 1, none⟩) hpn _).far (p := ⟨p, 2, none⟩) hpn _
  · intro l hl
    rcases List.mem_append.1 hl with hl | hl
    · exact HH.out.ne l hl
    · rw [List.mem_singleton.1 hl]; exact HB.out
  · exact ((((Only.refl _ _).alloc _).trans (ho1.mono (fun k hk => List.mem_cons_of_mem _ hk))).setCell (p := ⟨p, 1, none⟩) (by simp) _).setCell (p := ⟨p, 2, none⟩) (by simp) _
  · intro k hk
    rcases hfresh k hk with h | h
    · exact .inl h
    · exact .inr (by simp at h; omega)
theorem Only.trans_new {S T : List Nat} {a w w' : World} (h : Only S a w) (k : Only (S ++ T) w w') (hT : ∀ x ∈ T, a.heap.size ≤ x) : Only S a w' :=
  ⟨k.os.trans h.os, k.tape.trans h.tape, k.output.trans h.output, Nat.le_trans h.size k.size, fun i hi hn => (k.block i (Nat.lt_of_lt_of_le hi h.size) (fun hm => by
    rcases List.mem_append.1 hm with hm | hm
    · exact hn hm
    · have := hT i hm; omega)).trans (h.block i hi hn)⟩
theorem Sl.some {w : World} {base : Nat} {t : TypeId} {v : Value} {xs : List Value} (h : Sl w base t v xs) (h0 : 0 < xs.length) :
    ∃ g off cap, v = .slice (some ⟨g, off, none⟩) xs.length cap ∧ g < w.heap.size ∧ ∀ j (hj : j < xs.length), w.cell? ⟨g, off + j, none⟩ = some xs[j] := by
  rcases h with ⟨rfl, rfl⟩ | ⟨g, off, cap, cs, rfl, hb, hg, h1, h2, h3, h4⟩
  · simp at h0
  · refine ⟨g, off, cap, rfl, hg.lt, fun j hj => ?_⟩
    rw [hg.cell, h4 j hj]
    exact List.getElem?_eq_getElem hj
/-- The chunks' first n bytes. -/
def cutQ : Nat → List (List UInt8) → List (List UInt8)
  | _, [] => []
  | n, c :: L => if n = 0 then [] else c.take n :: cutQ (n - c.length) L
theorem cutQ_zero (L : List (List UInt8)) : cutQ 0 L = [] := by cases L <;> simp [cutQ]
theorem cutQ_flat (L : List (List UInt8)) : ∀ n, (cutQ n L).flatten = L.flatten.take n := by
  induction L with
  | nil => intro n; simp [cutQ]
  | cons c L ih =>
    intro n
    rw [cutQ]
    by_cases h : n = 0
    · simp [h]
    · rw [if_neg h, List.flatten_cons, ih, List.flatten_cons, List.take_append]
theorem cutQ_snoc (L : List (List UInt8)) (c : List UInt8) : ∀ n, cutQ n (L ++ [c]) = if n - L.flatten.length = 0 then cutQ n L else cutQ n L ++ [c.take (n - L.flatten.length)] := by
  induction L with
  | nil => intro n; by_cases h : n = 0 <;> simp [cutQ, h]
  | cons d L ih =>
    intro n
    rw [List.cons_append, cutQ, cutQ, ih, List.flatten_cons, List.length_append, Nat.sub_add_eq]
    by_cases h : n = 0
    · simp [h]
    · rw [if_neg h, if_neg h]
      by_cases h2 : n - d.length - L.flatten.length = 0
      · rw [if_pos h2, if_pos h2]
      · rw [if_neg h2, if_neg h2]; rfl
theorem cutQ_all (L : List (List UInt8)) (hne : ∀ l ∈ L, l ≠ []) : ∀ n, L.flatten.length ≤ n → cutQ n L = L := by
  induction L with
  | nil => intro n _; rfl
  | cons c L ih =>
    intro n hn
    have h2 : 0 < c.length := List.length_pos_iff.2 (hne c (List.mem_cons_self ..))
    rw [List.flatten_cons, List.length_append] at hn
    rw [cutQ, if_neg (by omega), ih (fun l hl => hne l (List.mem_cons_of_mem _ hl)) _ (by omega), List.take_of_length_le (by omega)]
set_option maxRecDepth 100000 in
set_option maxHeartbeats 1000000 in
theorem qs_cut {w : World} {p : Nat} {pre post : List Value} {v : Value} {L : List (List UInt8)} (h : QueS w p pre post v L) (ni : Int) (k : Nat) (hk : (k : Int) = max ni 0) (hsz : L.flatten.length ≤ 1000000) (r : Int) (hr : r = (L.flatten.length : Int) - min k L.flatten.length) :
    Calls Tryz.prog 68 #[.pointer (some ⟨p, 1, none⟩), .int .i64 ni] w fun e w' => e = .returned (.int .i64 r) ∧ ∃ v', QueS w' p pre post v' (cutQ k L) ∧ Only (p :: slB v) w w' ∧ (∀ k ∈ slB v', k ∈ slB v ∨ w.heap.size ≤ k) := by
  obtain ⟨n, hn⟩ : ∃ n : Nat, n = L.flatten.length := ⟨_, rfl⟩
  have hmax := max_i64 (P := Tryz.prog) #[3, 3] 3 ni 0 k hk
  have HL := hide (qs_len h n (by rw [hn]))
  have c0 : w.cell? ⟨p, 1, none⟩ = some v := h.mid.cell 0 _ rfl
  have f0 := h.mid.frozen 1
  have f1 := h.mid.frozen 2
  have c1 : w.cell? ⟨p, 2, none⟩ = some (.int .i64 n) := by rw [hn]; exact h.mid.cell 1 _ rfl
  have hlt := h.lt
  have HH := hide h
  have HN := hide hn
  rw [← hn] at hr hsz
  by_cases hkn : n ≤ k
  · have hr0 : r = 0 := by omega
    subst hr0
    clear h hn hk hr
    go_enter Tryz.func68, Tryz.ntmps68
    go_wp2_with fail
    (with_reducible refine (unhide HL).mono ?_)
    rintro e w1 ⟨rfl, rfl⟩
    go_wp2_with fail
    go_ret
    have e1 := cutQ_all L HH.out.ne k (by rw [← HN.out]; exact hkn)
    exact ⟨rfl, v, by rw [e1]; exact HH.out, Only.refl _ _, fun _ h => .inl h⟩
  have hL0 : 0 < (strV L).length := by
    rw [strV_length]
    cases L with
    | nil => simp at hn; omega
    | cons _ _ => simp
  obtain ⟨g, off, cap, hv, hgl, hcell⟩ := h.sl.some hL0
  rw [strV_length] at hv
  have hpg : p ≠ g := by
    have := h.out
    rw [hv] at this
    simpa [slB] using this
  obtain ⟨len, hlen⟩ : ∃ len, len = L.length := ⟨_, rfl⟩
  rw [← hlen] at hv
  subst hv
  have hcell' : ∀ j (hj : j < L.length), w.cell? ⟨g, off + j, none⟩ = some (.string (S L[j])) := fun j hj => by
    rw [hcell j (by rw [strV_length]; omega)]
    simp [strV]
  have HC := hide hcell'
  have HLen := hide hlen
  have hfl := flat_le L h.ne
  have hlen2 : len ≤ 1000000 := by omega
  have hrr : r = (n : Int) - k := by omega
  have HK := hide (show Mid w p 96 pre [.slice (some ⟨g, off, none⟩) len cap, .int .i64 n] post 1 from by rw [hn]; exact h.mid)
  subst hrr
  clear h hn hk hr hcell hcell' hlen hL0 hfl
  go_enter Tryz.func68, Tryz.ntmps68
  go_wp2_with fail
  (with_reducible refine (unhide HL).mono ?_)
  rintro e w ⟨rfl, rfl⟩
  go_wp2_with fail
  go_loopg [8, 28] len (fun gg s8 s28 wr => ∃ (j : Nat) (M : List (List UInt8)) (v' : Value), s28 = .int .i64 j ∧ j + gg = len ∧ QueS wr p pre post v' M ∧ Hid (M = cutQ k (L.take j)) ∧ Only [p] w wr ∧ (∀ x ∈ slB v', w.heap.size ≤ x))
  case atStart =>
    refine ⟨0, [], .slice none 0 0, rfl, by omega, ⟨?_, Sl.nil _ _ _, fun _ h => by cases h⟩, by show _ = _; simp [cutQ], ?_, fun _ h => by cases h⟩
    · exact (HK.out.set 0 (by simp) _).set 1 (by simp) _
    · exact ((Only.refl _ _).setCell (p := ⟨p, 1, none⟩) (by simp) _).setCell (p := ⟨p, 2, none⟩) (by simp) _
  case round =>
    obtain ⟨j, M, v', rfl, hj, hq, hM, ho, hfr⟩ := hrel
    by_cases hjl : j < len
    · have hjL : j < L.length := by have := HLen.out; omega
      have cz : wr.cell? ⟨g, off + j, none⟩ = some (.string (S L[j])) := by
        have h1 := HC.out j hjL
        have h2 := ho.block g hgl (by simpa using fun e => hpg e.symm)
        exact (World.cell?_of_block (a := ⟨g, off + j, none⟩) h2).trans h1
      obtain ⟨c, hc⟩ : ∃ c, c = L[j] := ⟨_, rfl⟩
      rw [← hc] at cz
      obtain ⟨m, hm⟩ : ∃ m : Nat, m = M.flatten.length := ⟨_, rfl⟩
      have c1 : wr.cell? ⟨p, 2, none⟩ = some (.int .i64 m) := by rw [hm]; exact hq.mid.cell 1 _ rfl
      have hflat : M.flatten.length = min k (L.take j).flatten.length := by rw [hM.out, cutQ_flat, List.length_take]
      have hsnoc : cutQ k (L.take (j + 1)) = if k - (L.take j).flatten.length = 0 then M else M ++ [c.take (k - (L.take j).flatten.length)] := by
        rw [take_snoc L j hjL, cutQ_snoc, ← hM.out, ← hc]
      have hmk : m ≤ k := by omega
      have hcn : c.length + (L.take j).flatten.length ≤ n := by
        have e1 := congrArg (fun X : List (List UInt8) => X.flatten.length) (List.take_append_drop j L)
        simp only [List.flatten_append, List.length_append] at e1
        rw [List.drop_eq_getElem_cons hjL, List.flatten_cons, List.length_append, ← hc, ← HN.out] at e1
        omega
      obtain ⟨t, ht⟩ : ∃ t : Nat, t = min c.length (k - m) := ⟨_, rfl⟩
      obtain ⟨ti, hti⟩ : ∃ ti : Int, ti = t := ⟨_, rfl⟩
      obtain ⟨ct, hct⟩ : ∃ ct, ct = c.take t := ⟨_, rfl⟩
      have hmin := min_i64 (P := Tryz.prog) #[3, 3] 3 c.length ((k : Int) - m) ti (by omega)
      have hs1 := slice_to_at (P := Tryz.prog) Tryz.underlying9 c t (by omega) ti hti ct hct
      have hcne : 0 < c.length := List.length_pos_iff.2 (HH.out.ne c (by rw [hc]; exact List.getElem_mem _))
      have hcl : c.length ≤ 1000000 := by omega
      rw [← hm] at hflat
      by_cases ht0 : t = 0
      · have hct0 : ct = [] := by rw [hct, ht0]; rfl
        subst hct0
        have hM2 : Hid (M = cutQ k (L.take (j + 1))) := by show _ = _; rw [hsnoc, if_pos (by omega)]
        have HA := hide (qs_add_empty (w := wr) (p := p))
        clear hM hsnoc hct ht ht0 hc hm hti hflat hcn
        go_wp2_with fail
        (with_reducible refine (unhide HA).mono ?_)
        rintro e w2 ⟨rfl, rfl⟩
        go_wp2_with fail
        go_roundg (gk - 1)
        case measure => omega
        case rel => exact ⟨j + 1, M, v', by go_num, by omega, hq, hM2, ho, hfr⟩
      · have hctl : ct.length = t := by rw [hct, List.length_take]; omega
        have hctn : ct ≠ [] := by rintro rfl; simp at hctl; omega
        have hM2 : Hid (M ++ [ct] = cutQ k (L.take (j + 1))) := by
          show _ = _
          rw [hsnoc, if_neg (by omega), hct, show k - (L.take j).flatten.length = k - m by omega]
          congr 2
          rw [ht]
          rcases Nat.le_total c.length (k - m) with h | h
          · rw [Nat.min_eq_left h, List.take_of_length_le (Nat.le_refl _), List.take_of_length_le h]
          · rw [Nat.min_eq_right h]
        have HA := hide (qs_add_some hq ct hctn (by omega))
        have hfr1 := hide hfr
        clear hM hsnoc hct ht ht0 hc hm hti hflat hcn hctl hctn hfr
        go_wp2_with fail
        (with_reducible refine (unhide HA).mono ?_)
        rintro e w2 ⟨rfl, v2, hq2, ho2, hfr2⟩
        have hof := ho.trans_new (S := [p]) (T := slB v') ho2 hfr1.out
        have hfr3 : ∀ x ∈ slB v2, w.heap.size ≤ x := fun x hx => by
          rcases hfr2 x hx with h | h
          · exact hfr1.out x h
          · exact Nat.le_trans ho.size h
        have Hfr3 := hide hfr3
        clear hfr3 hfr2 ho2 ho hq
        go_wp2_with fail
        go_roundg (gk - 1)
        case measure => omega
        case rel => exact ⟨j + 1, M ++ [ct], v2, by go_num, by omega, hq2, hM2, hof, Hfr3.out⟩
    · have hjn : j = len := by omega
      subst hjn
      have e1 : M = cutQ k L := by rw [hM.out, List.take_of_length_le (by rw [← HLen.out]; exact Nat.le_refl _)]
      go_wp2_with fail
      go_ret
      exact ⟨rfl, v', by rw [← e1]; exact hq, ho.mono (fun x hx => by simp at hx; simp [hx]), fun x hx => .inr (hfr x hx)⟩
def dropQ : Nat → List (List UInt8) → List (List UInt8)
  | _, [] => []
  | n, c :: L => if n < c.length then c.drop n :: L else dropQ (n - c.length) L
theorem dropQ_zero (L : List (List UInt8)) (h : ∀ l ∈ L, l ≠ []) : dropQ 0 L = L := by
  cases L with
  | nil => rfl
  | cons c L =>
    have h2 : 0 < c.length := List.length_pos_iff.2 (h c (List.mem_cons_self ..))
    rw [dropQ, if_pos h2]; rfl
theorem dropQ_flat (L : List (List UInt8)) : ∀ n, (dropQ n L).flatten = L.flatten.drop n := by
  induction L with
  | nil => intro n; simp [dropQ]
  | cons c L ih =>
    intro n
    rw [dropQ, List.flatten_cons, List.drop_append]
    by_cases h : n < c.length
    · rw [if_pos h, List.flatten_cons, show n - c.length = 0 by omega]; rfl
    · rw [if_neg h, ih, show c.drop n = [] from List.drop_of_length_le (by omega), List.nil_append]
theorem dropQ_step (n k : Nat) (c : List UInt8) (L : List (List UInt8)) (hk : n < c.length) : dropQ (n + k) (c :: L) = dropQ k (c.drop n :: L) := by
  rw [dropQ, dropQ, List.length_drop, List.drop_drop]
  by_cases h : n + k < c.length
  · rw [if_pos h, if_pos (by omega)]
  · rw [if_neg h, if_neg (by omega), show n + k - c.length = k - (c.length - n) by omega]
end Go.Proofs.YtkccjfgkbkodiaaGreat
