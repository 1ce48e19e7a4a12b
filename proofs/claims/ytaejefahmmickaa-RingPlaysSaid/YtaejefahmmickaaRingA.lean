/-
  The contracts of package ring (New, Len, Room, Put, Peek, Take, Clear), over an abstract ring 'Ring B w p cap l': the struct at block p and its bytes hold the list l.
-/
import Derived.Test.YtaejefahmmickaaRows
import Derived.Test.YtaejefahmmickaaWords
import Derived.Test.YtaejefahmmickaaDraw
namespace Go.Proofs.Ytaejefahmmickaa
open Go.RowKit

/-- The ring at block p (from block B on), of cap bytes, holds the list l. -/
def Ring (B : Nat) (w : World) (p cap : Nat) (l : List UInt8) : Prop :=
  ∃ (q first : Nat) (buf : List UInt8), B ≤ p ∧ B ≤ q ∧ cap ≤ 10000 ∧ buf.length = cap ∧ l.length ≤ cap ∧ (first < cap ∨ first = 0) ∧
    (∀ i, i < l.length → buf[(first + i) % cap]? = l[i]?) ∧
    Blk w p 39 #[.slice (some ⟨q, 0, none⟩) cap cap, .int .i64 first, .int .i64 l.length] ∧ Blk w q 5 (bytesV buf)

theorem len_any (B p cap : Nat) (l : List UInt8) (w : World) (h : Ring B w p cap l) :
    Calls Try.prog 10 #[.pointer (some ⟨p, 0, none⟩)] w fun e w' => e = .returned (.int .i64 l.length) ∧ w = w' := by
  obtain ⟨q, first, buf, hBp, hBq, hcap, hbl, hlc, hfc, hsp, hp, hq⟩ := h
  have c2 := hp.cellv 2 _ rfl
  go_enter Try.func10, Try.ntmps10
  go_wp2
  go_ret
  exact ⟨rfl, rfl⟩

theorem room_any (B p cap : Nat) (l : List UInt8) (w : World) (h : Ring B w p cap l) (m : Nat) (hm : m + l.length = cap) :
    Calls Try.prog 13 #[.pointer (some ⟨p, 0, none⟩)] w fun e w' => e = .returned (.int .i64 m) ∧ ∃ n, w' = w.drewN n := by
  obtain ⟨q, first, buf, hBp, hBq, hcap, hbl, hlc, hfc, hsp, hp, hq⟩ := h
  have HM := hide hm
  clear hm
  have c0 := hp.cellv 0 _ rfl
  have c2 := hp.cellv 2 _ rfl
  go_enter Try.func13, Try.ntmps13
  go_wp2
  go_quiet (fail)
  go_wp2
  go_ret
  exact ⟨by have := HM.out; show Ending.returned (.int .i64 ((cap : Int) - l.length)) = _; rw [show (cap : Int) - l.length = m by omega], _, rfl⟩

theorem info_u8 : (Try.prog.info? 5).map (fun i => (i.zero, i.size, i.bytes)) = some (some (.int .u8 0), 1, 1) := by kernel_rfl

theorem make_u8 (n : Nat) (z : Int) (hz : z = n) (h : n ≤ 1000000) (w : World) :
    (Instr.makeSlice 30 (.int .i64 z) (.int .i64 z)).run Try.prog w = .ok (.slice (some ⟨w.heap.size, 0, none⟩) n n) (w.alloc (.cells (bytesV (List.replicate n 0)) 5)) := by
  obtain ⟨i0, hi, hz0, hz1, hz2⟩ := info_parts info_u8
  have hr := run_make (P := Try.prog) w 30 5 i0 (.int .u8 0) Try.underlying30 hi hz0 .i64 .i64 z z (by omega) (by omega) (by rw [hz2]; omega) (by omega)
  rw [hr, hz1]
  subst hz
  have e : madeCells (Value.cells (.int .u8 0)) ((n : Int).toNat * 1) = bytesV (List.replicate n 0) := by
    apply Array.toList_inj.1
    rw [show Value.cells (.int .u8 0) = #[.int .u8 0] from rfl, toList_madeCells_one]
    simp [bytesV]
  rw [e, Int.toNat_natCast]

theorem new_any (room : Int) (w : World) :
    Calls Try.prog 9 #[.int .i64 room] w fun e w' => ∃ p, e = .returned (.pointer (some ⟨p, 0, none⟩)) ∧ Ring w.heap.size w' p (min (max room 0) 10000).toNat [] ∧ Below w.heap.size w w' := by
  obtain ⟨n, hn⟩ : ∃ n : Nat, n = (min (max room 0) 10000).toNat := ⟨_, rfl⟩
  rw [← hn]
  have fin : ∀ cs, cs = bytesV (List.replicate n 0) → ∃ p, Ending.returned (.pointer (some ⟨w.heap.size + 1, 0, none⟩)) = .returned (.pointer (some ⟨p, 0, none⟩)) ∧
      Ring w.heap.size ((w.alloc (.cells cs 5)).alloc (.cells #[.slice (some ⟨w.heap.size, 0, none⟩) n n, .int .i64 0, .int .i64 0] 39)) p n [] ∧
      Below w.heap.size w ((w.alloc (.cells cs 5)).alloc (.cells #[.slice (some ⟨w.heap.size, 0, none⟩) n n, .int .i64 0, .int .i64 0] 39)) := by
    rintro cs rfl
    refine ⟨_, rfl, ⟨w.heap.size, 0, List.replicate n 0, by omega, by omega, by omega, by simp, by simp, .inr rfl, by simp, ?_, ?_⟩, ((Below.refl _ _).alloc (Nat.le_refl _) _).alloc (by simp) _⟩
    · have := Blk.new (w.alloc (.cells (bytesV (List.replicate n 0)) 5)) 39 #[.slice (some ⟨w.heap.size, 0, none⟩) n n, .int .i64 0, .int .i64 0]
      simpa using this
    · exact (Blk.new w _ _).alloc _
  have Hn := hide hn
  rcases Int.lt_or_le room 0 with h | h
  · have hmk := make_u8 n 0 (by omega) (by omega)
    have HF := hide fin
    clear hn fin
    go_enter Try.func9, Try.ntmps9
    go_wp2
    go_ret
    exact HF.out _ rfl
  · rcases Int.lt_or_le 10000 room with h2 | h2
    · have hmk := make_u8 n 10000 (by omega) (by omega)
      have HF := hide fin
      clear hn fin
      go_enter Try.func9, Try.ntmps9
      go_wp2
      go_ret
      exact HF.out _ rfl
    · have hmk := make_u8 n room (by omega) (by omega)
      have HF := hide fin
      clear hn fin
      go_enter Try.func9, Try.ntmps9
      go_wp2
      go_ret
      exact HF.out _ rfl

theorem ring_push {B p cap : Nat} {l : List UInt8} {w : World} {q first L : Nat} {buf : List UInt8} (b : UInt8) (hBp : B ≤ p) (hBq : B ≤ q) (hc : cap ≤ 10000) (hbl : buf.length = cap)
    (hL : L = l.length) (hLc : L < cap) (hfc : first < cap ∨ first = 0) (hsp : ∀ i, i < l.length → buf[(first + i) % cap]? = l[i]?)
    (hp : Blk w p 39 #[.slice (some ⟨q, 0, none⟩) cap cap, .int .i64 first, .int .i64 L]) (hq : Blk w q 5 (bytesV buf)) :
    Ring B ((w.setCell ⟨q, (first + L) % cap, none⟩ (.int .u8 (b.toNat : Int))).setCell ⟨p, 2, none⟩ (.int .i64 ((L : Int) + 1))) p cap (l ++ [b]) := by
  have hpq : p ≠ q := hp.ne_ hq (by decide)
  have hmod : (first + L) % cap < cap := Nat.mod_lt _ (by omega)
  refine ⟨q, first, buf.set ((first + L) % cap) b, hBp, hBq, hc, by simpa using hbl, by simp; omega, hfc, ?_, ?_, ?_⟩
  · intro i hi
    simp only [List.length_append, List.length_cons, List.length_nil] at hi
    rcases Nat.lt_or_ge i l.length with h | h
    · have hne : (first + L) % cap ≠ (first + i) % cap := by
        intro e
        have h1 := Nat.div_add_mod (first + L) cap
        have h2 := Nat.div_add_mod (first + i) cap
        rw [e] at h1
        have h3 : cap * ((first + L) / cap) = cap * ((first + i) / cap) + (L - i) := by omega
        rcases Nat.lt_or_ge ((first + i) / cap) ((first + L) / cap) with h4 | h4
        · have h5 : cap * ((first + i) / cap + 1) ≤ cap * ((first + L) / cap) := Nat.mul_le_mul_left _ h4
          rw [Nat.mul_add] at h5
          omega
        · have h5 : cap * ((first + L) / cap) ≤ cap * ((first + i) / cap) := Nat.mul_le_mul_left _ h4
          omega
      rw [List.getElem?_set_ne hne, hsp i h, List.getElem?_append_left h]
    · have hiL : i = L := by omega
      subst hiL
      rw [List.getElem?_set_self (by omega), List.getElem?_append_right (by omega), hL]
      simp
  · have h1 := (hp.far (p := ⟨q, (first + L) % cap, none⟩) hpq (.int .u8 (b.toNat : Int))).set_ 2 (.int .i64 ((L : Int) + 1))
    have e : ((l ++ [b]).length : Int) = (L : Int) + 1 := by simp [hL]
    rw [e]
    exact h1
  · have h1 := (hq.set_ ((first + L) % cap) (.int .u8 (b.toNat : Int))).far (p := ⟨p, 2, none⟩) (fun e => hpq e.symm) (.int .i64 ((L : Int) + 1))
    rw [bytesV_set] at h1
    exact h1

theorem put_kt (B p cap : Nat) (l : List UInt8) (s : ByteArray) (w : World) (h : Ring B w p cap l) (hs : s.size ≤ 140737488351232) (n m : Nat) (hm : m + l.length = cap) (hn : n = min s.size m) :
    Calls Try.prog 11 #[.pointer (some ⟨p, 0, none⟩), .string s] w fun e w' => e = .returned (.int .i64 n) ∧ Ring B w' p cap (l ++ s.data.toList.take n) ∧ Below B w w' ∧ KeepT 39 5 w w' := by
  have hcap : cap ≤ 10000 := by obtain ⟨q, first, buf, hBp, hBq, hcap, _⟩ := h; exact hcap
  have hns : n ≤ s.size := by omega
  have hnm : n + l.length ≤ cap := by omega
  have hmin : ∀ W, (Builtin.min_ #[3, 3] 3 #[.int .i64 (s.size : Int), .int .i64 (m : Int)]).run Try.prog W = .ok (.int .i64 (n : Int)) W := by
    exact fun W => min_i64 _ _ _ _ _ (by omega) W
  have HR := room_any B p cap l w h m hm
  have Hn := hide hn
  clear hn hm
  go_enter Try.func11, Try.ntmps11
  go_wp2_with (go_at_call 13; refine HR.mono ?_; rintro e w' ⟨rfl, k, rfl⟩)
  go_loopg [13] n (fun k i wr => ∃ j : Nat, i = .int .i64 j ∧ j + k = n ∧ Ring B wr p cap (l ++ s.data.toList.take j) ∧ Below B w wr ∧ KeepT 39 5 w wr)
  case atStart => exact ⟨0, rfl, by omega, by rw [List.take_zero, List.append_nil]; exact h, below_drewN (Below.refl _ _) _, (KeepT.refl _ _ _).drewN _⟩
  case round =>
    obtain ⟨j, rfl, hjk, hr, hb, hkt⟩ := hrel
    have HKT := hide hkt
    clear hkt
    by_cases hlt : j < n
    · obtain ⟨q, first, buf, hBp, hBq, _, hbl, hlc, hfc, hsp, hp, hq⟩ := hr
      obtain ⟨L, hL⟩ : ∃ L, L = (l ++ s.data.toList.take j).length := ⟨_, rfl⟩
      rw [← hL] at hp
      have hL' : L = l.length + j := by rw [hL]; simp; have : s.data.toList.length = s.size := rfl; omega
      have hLc : L < cap := by omega
      have hfb : first ≤ 10000 := by omega
      have c0 := hp.cellv 0 _ rfl
      have c1 := hp.cellv 1 _ rfl
      have c2 := hp.cellv 2 _ rfl
      have hm1 : (0 : Int) ≤ ((first : Int) + L) % cap := Int.emod_nonneg _ (by omega)
      have hm2 : ((first : Int) + L) % cap < cap := Int.emod_lt_of_pos _ (by omega)
      have hmn : (first + L) % cap < cap := Nat.mod_lt _ (by omega)
      have cq : wr.cell? ⟨q, (first + L) % cap, none⟩ = some (.int .u8 ((buf[(first + L) % cap]'(by omega)).toNat : Int)) :=
        hq.cellv _ _ (by rw [bytesV_get, List.getElem?_eq_getElem (by omega)]; rfl)
      have fq := hq.frozen ((first + L) % cap)
      have f2 := hp.frozen 2
      have hpq : p ≠ q := hp.ne_ hq (by decide)
      have hcz : cap ≠ 0 := by omega
      have htm : ((first : Int) + L).tmod cap = ((first : Int) + L) % cap := Int.tmod_eq_emod_of_nonneg (by omega)
      have hjs : j < s.size := by omega
      have HL := hide (And.intro hL hL')
      have HB := hide (And.intro hsp hfc)
      clear hL hL' hsp hfc h HR
      go_wp2
      refine wp_region_tbs [] [0, 1, 2, 3, 4, 5, 6, 7, 8, 9, 10, 11, 12, 13, 14, 15, 16, 17, 18, 19, 20, 21, 22] [23] (by kernel_rfl) (by kernel_rfl) (fun _ _ _ _ _ h => h) ?_
      simp only [opsAt, List.getElem?_cons_zero, List.getElem?_cons_succ]
      refine wpPure_nil ?_
      repeat (refine wpStill_step (fun K hK => ?_); go_simp; (try go_bits); refine hK _ ?_; clear hK K)
      refine wpStill_nil ?_
      go_wp2
      go_roundg (gk - 1)
      case measure => omega
      case rel =>
        have e : l ++ s.data.toList.take (j + 1) = (l ++ s.data.toList.take j) ++ [s[j]] := by rw [take_snoc _ _ hjs, List.append_assoc]; rfl
        refine ⟨j + 1, by go_num, by omega, ?_, ((hb.setCell hBq _).setCell hBp _).drew, ((HKT.out.set2 hq _).set1 (hp.far (p := ⟨q, (first + L) % cap, none⟩) hpq _) _).drew⟩
        rw [e]
        exact ring_push s[j] hBp hBq hcap hbl HL.out.1 hLc HB.out.2 HB.out.1 hp hq
    · have hj : j = n := by omega
      subst hj
      go_wp2
      go_ret
      exact ⟨rfl, hr, hb, HKT.out⟩

theorem put_any (B p cap : Nat) (l : List UInt8) (s : ByteArray) (w : World) (h : Ring B w p cap l) (hs : s.size ≤ 140737488351232) (n m : Nat) (hm : m + l.length = cap) (hn : n = min s.size m) :
    Calls Try.prog 11 #[.pointer (some ⟨p, 0, none⟩), .string s] w fun e w' => e = .returned (.int .i64 n) ∧ Ring B w' p cap (l ++ s.data.toList.take n) ∧ Below B w w' :=
  (put_kt B p cap l s w h hs n m hm hn).mono fun _ _ ⟨h1, h2, h3, _⟩ => ⟨h1, h2, h3⟩

theorem ring_keep {B p cap : Nat} {l : List UInt8} {w w' : World} (h : Ring B w p cap l) (hb : Below w.heap.size w w') : Ring B w' p cap l := by
  obtain ⟨q, first, buf, h1, h2, h3, h4, h5, h6, h7, hp, hq⟩ := h
  exact ⟨q, first, buf, h1, h2, h3, h4, h5, h6, h7, hp.below hb hp.lt, hq.below hb hq.lt⟩

theorem ring_mono {B B' p cap : Nat} {l : List UInt8} {w : World} (h : Ring B w p cap l) (hB : B' ≤ B) : Ring B' w p cap l := by
  obtain ⟨q, first, buf, h1, h2, h3, h4, h5, h6, h7, hp, hq⟩ := h
  exact ⟨q, first, buf, Nat.le_trans hB h1, Nat.le_trans hB h2, h3, h4, h5, h6, h7, hp, hq⟩
theorem ring_alloc {B p cap : Nat} {l : List UInt8} {w : World} (h : Ring B w p cap l) (o : Obj) : Ring B (w.alloc o) p cap l := ring_keep h ((Below.refl _ _).alloc (Nat.le_refl _) o)
theorem ring_drewN {B p cap : Nat} {l : List UInt8} {w : World} (h : Ring B w p cap l) (n : Nat) : Ring B (w.drewN n) p cap l := h
theorem ring_drew {B p cap : Nat} {l : List UInt8} {w : World} (h : Ring B w p cap l) : Ring B w.drew p cap l := h
theorem ring_lt {B p cap : Nat} {l : List UInt8} {w : World} (h : Ring B w p cap l) : B ≤ w.heap.size ∧ l.length ≤ cap := by
  obtain ⟨q, first, buf, h1, h2, h3, h4, h5, h6, h7, hp, hq⟩ := h
  exact ⟨by have := hp.lt; omega, h5⟩

theorem peek_any (B p cap : Nat) (l : List UInt8) (n : Int) (w : World) (h : Ring B w p cap l) (k : Nat) (hk : (k : Int) = min (max n 0) l.length) :
    Calls Try.prog 14 #[.pointer (some ⟨p, 0, none⟩), .int .i64 n] w fun e w' => e = .returned (.string (S (l.take k))) ∧ Below w.heap.size w w' := by
  obtain ⟨i0, hi, hz0, hz1, hz2⟩ := info_parts info_u8
  have HLen := len_any B p cap l w h
  obtain ⟨q, first, buf, hBp, hBq, hcap, hbl, hlc, hfc, hsp, hp, hq⟩ := h
  have hkl : k ≤ l.length := by omega
  have hfb : first ≤ 10000 := by omega
  have hplt := hp.lt
  have hqlt := hq.lt
  obtain ⟨x, hx⟩ : ∃ x : Int, x = max n 0 := ⟨_, rfl⟩
  have hmax := max_i64 (P := Try.prog) #[3, 3] 3 n 0 x hx
  have hmin := min_i64 (P := Try.prog) #[3, 3] 3 x l.length k (by omega)
  have H1 := hide (And.intro hx (And.intro hk hbl))
  have H2 := hide hfc
  have H3 := hide hsp
  clear hx hk hfc hsp hbl
  go_enter Try.func14, Try.ntmps14
  go_wp2_with (go_at_call 10; refine HLen.mono ?_; rintro e w' ⟨rfl, rfl⟩)
  go_loopg [5, 12] k (fun g v i wr => ∃ j : Nat, i = .int .i64 j ∧ j + g = k ∧ wr.ownsRow w.heap.size 5 1 v j (u8s (l.take j)) ∧ Below w.heap.size w wr)
  case atStart => exact ⟨0, rfl, by omega, by rw [List.take_zero]; exact World.ownsRow_nil _ _ _ _, Below.refl _ _⟩
  case round =>
    obtain ⟨j, rfl, hjk, hown, hb⟩ := hrel
    by_cases hlt : j < k
    · have hcz : cap ≠ 0 := by omega
      have hmn : (first + j) % cap < cap := Nat.mod_lt _ (by omega)
      have hbl := H1.out.2.2
      have hjl : j < l.length := by omega
      have hget : buf[(first + j) % cap]? = some l[j] := by rw [H3.out j hjl, List.getElem?_eq_getElem hjl]
      have hp' := hp.below hb hplt
      have hq' := hq.below hb hqlt
      have c0 := hp'.cellv 0 _ rfl
      have c1 := hp'.cellv 1 _ rfl
      have cq : wr.cell? ⟨q, (first + j) % cap, none⟩ = some (.int .u8 (l[j].toNat : Int)) :=
        hq'.cellv _ _ (by rw [bytesV_get, hget]; rfl)
      have hm1 : (0 : Int) ≤ ((first : Int) + j) % cap := Int.emod_nonneg _ (by omega)
      have hm2 : ((first : Int) + j) % cap < cap := Int.emod_lt_of_pos _ (by omega)
      have htm : ((first : Int) + j).tmod cap = ((first : Int) + j) % cap := Int.tmod_eq_emod_of_nonneg (by omega)
      have HO := hide hown
      clear hbl hget hown HLen
      go_wp2
      refine wp_region_tbs [0] [1, 2, 3, 4, 5, 6, 7, 8, 9, 10, 11, 12, 13, 14, 15, 16, 17, 18] [19, 20, 21] (by kernel_rfl) (by kernel_rfl) (fun _ _ _ _ _ h => h) ?_
      simp only [opsAt, List.getElem?_cons_zero, List.getElem?_cons_succ]
      first | refine wpPure_move _ rfl rfl ?_ | (refine wpPure_step (v := ?_) rfl (fun w' => ?_) ?_; rotate_left; · (simp only [Act.put, List.setIfInBounds_toArray, List.set_cons_zero, List.set_cons_succ]; go_simp; with_reducible rfl))
      refine wpPure_nil ?_
      simp only [Act.put, Act.eval, List.setIfInBounds_toArray, List.set_cons_zero, List.set_cons_succ]
      repeat (refine wpStill_step (fun K hK => ?_); go_simp; (try go_bits); refine hK _ ?_; clear hK K)
      refine wpStill_nil ?_
      go_wp2_with (at_builtin; refine wpList_append1 rfl (.tmp 15) (.tmp 34) 30 rfl w.heap.size 5 (.int .u8 0) 1 Try.underlying30 info_u8 rfl u5 j (u8s (l.take j)) rfl (HO.out.alloc _) wr.heap.size (.int .u8 (l[j].toNat : Int)) rfl (Blk.cell (Blk.new _ _ _) 0) rfl (by unfold maxLen; omega) (by omega) ?cb ?_; rotate_left; intro v' w1 hown1 hg1)
      · go_roundg (gk - 1)
        case measure => omega
        case rel =>
          refine ⟨j + 1, by go_num, by omega, ?_, below_append1 hb hb.size HO.out (Nat.le_refl _) hg1⟩
          rw [take_snoc _ _ hjl, u8s_append]
          exact hown1
      · show w.heap.size ≤ (wr.alloc _).heap.size
        have := hb.size
        simp
        omega
    · have hj : j = k := by omega
      subst hj
      have hstr := fun W (hW : W.ownsRow w.heap.size 5 1 u5 j (u8s (l.take j))) => run_string_own (P := Try.prog) Try.underlying30 Try.underlying5 Try.underlying9 W w.heap.size u5 j (l.take j) hW
      have hs1 := hstr wr hown
      have HO := hide hown
      clear hstr hown
      go_wp2
      go_ret
      exact ⟨rfl, hb⟩

theorem ring_take {B p cap : Nat} {l : List UInt8} {w : World} {q first : Nat} {buf : List UInt8} (k : Nat) (hk : k ≤ l.length) (hk0 : 0 < k) (hBp : B ≤ p) (hBq : B ≤ q) (hc : cap ≤ 10000) (hbl : buf.length = cap)
    (hLc : l.length ≤ cap) (hsp : ∀ i, i < l.length → buf[(first + i) % cap]? = l[i]?)
    (hp : Blk w p 39 #[.slice (some ⟨q, 0, none⟩) cap cap, .int .i64 first, .int .i64 l.length]) (hq : Blk w q 5 (bytesV buf)) :
    Ring B ((w.setCell ⟨p, 1, none⟩ (.int .i64 (((first : Int) + k) % cap))).setCell ⟨p, 2, none⟩ (.int .i64 ((l.length : Int) - k))) p cap (l.drop k) := by
  have hpq : p ≠ q := hp.ne_ hq (by decide)
  have hmod : (first + k) % cap < cap := Nat.mod_lt _ (by omega)
  refine ⟨q, (first + k) % cap, buf, hBp, hBq, hc, hbl, by simp; omega, .inl hmod, ?_, ?_, ?_⟩
  · intro i hi
    simp only [List.length_drop] at hi
    have e : ((first + k) % cap + i) % cap = (first + (k + i)) % cap := by rw [Nat.mod_add_mod, Nat.add_assoc]
    rw [e, hsp (k + i) (by omega), List.getElem?_drop]
  · have h1 := (hp.set_ 1 (.int .i64 (((first : Int) + k) % cap))).set_ 2 (.int .i64 ((l.length : Int) - k))
    have e : ((l.drop k).length : Int) = (l.length : Int) - k := by simp; omega
    have e2 : (((first + k) % cap : Nat) : Int) = ((first : Int) + k) % cap := by simp
    rw [e, e2]
    exact h1
  · exact (hq.far (p := ⟨p, 1, none⟩) (fun e => hpq e.symm) _).far (p := ⟨p, 2, none⟩) (fun e => hpq e.symm) _

theorem take_kt (B p cap : Nat) (l : List UInt8) (n : Int) (w : World) (h : Ring B w p cap l) (k : Nat) (hk : (k : Int) = min (max n 0) l.length) :
    Calls Try.prog 12 #[.pointer (some ⟨p, 0, none⟩), .int .i64 n] w fun e w' => e = .returned (.string (S (l.take k))) ∧ Ring B w' p cap (l.drop k) ∧ Below B w w' ∧ KeepT 39 5 w w' := by
  have HP := peek_any B p cap l n w h k hk
  have hsz : (S (l.take k)).size = k := by rw [S_size, List.length_take]; omega
  have hkl : k ≤ l.length := by omega
  have hpw : B ≤ w.heap.size := by obtain ⟨q, first, buf, hBp, hBq, hcap, hbl, hlc, hfc, hsp, hp, hq⟩ := h; have := hp.lt; omega
  have HK := hide hk
  clear hk
  go_enter Try.func12, Try.ntmps12
  go_wp2_with fail
  refine HP.mono ?_
  rintro e w1 ⟨rfl, hb1⟩
  have h1 := ring_keep h hb1
  clear HP h
  have hb2 := hb1.mono hpw
  have HKT := hide (KeepT.below (t1 := 39) (t2 := 5) hb1)
  by_cases hk0 : k = 0
  · subst hk0
    go_wp2
    go_ret
    exact ⟨rfl, by rw [List.drop_zero]; exact h1, hb2, HKT.out⟩
  · have hk1 : 0 < k := by omega
    obtain ⟨q, first, buf, hBp, hBq, hcap, hbl, hlc, hfc, hsp, hp, hq⟩ := h1
    have HR := fun W => @ring_take B p cap l W q first buf k hkl hk1 hBp hBq hcap hbl hlc hsp
    have c0 := hp.cellv 0 _ rfl
    have c1 := hp.cellv 1 _ rfl
    have c2 := hp.cellv 2 _ rfl
    have f1 := hp.frozen 1
    have f2 := hp.frozen 2
    have hfb : first ≤ 10000 := by omega
    have hcz : cap ≠ 0 := by omega
    have htm : ((first : Int) + k).tmod cap = ((first : Int) + k) % cap := Int.tmod_eq_emod_of_nonneg (by omega)
    have H1 := hide hbl
    have H2 := hide hfc
    have H3 := hide hsp
    have H4 := hide HR
    clear hbl hfc hsp HR
    go_wp2
    refine wp_region_tbs [] [0, 1, 2, 3, 4, 5, 6, 7, 8, 9, 10, 11, 12, 13, 14, 15] [16] (by kernel_rfl) (by kernel_rfl) (fun _ _ _ _ _ h => h) ?_
    simp only [opsAt, List.getElem?_cons_zero, List.getElem?_cons_succ]
    refine wpPure_nil ?_
    repeat (refine wpStill_step (fun K hK => ?_); go_simp; (try go_bits); refine hK _ ?_; clear hK K)
    refine wpStill_nil ?_
    go_wp2
    go_ret
    exact ⟨rfl, H4.out _ hp hq, ((hb2.setCell hBp _).setCell hBp _).drew, ((HKT.out.set1 hp _).set1 (hp.set_ 1 _) _).drew⟩

theorem take_any (B p cap : Nat) (l : List UInt8) (n : Int) (w : World) (h : Ring B w p cap l) (k : Nat) (hk : (k : Int) = min (max n 0) l.length) :
    Calls Try.prog 12 #[.pointer (some ⟨p, 0, none⟩), .int .i64 n] w fun e w' => e = .returned (.string (S (l.take k))) ∧ Ring B w' p cap (l.drop k) ∧ Below B w w' :=
  (take_kt B p cap l n w h k hk).mono fun _ _ ⟨h1, h2, h3, _⟩ => ⟨h1, h2, h3⟩

theorem clear_any (B p cap : Nat) (l : List UInt8) (w : World) (h : Ring B w p cap l) :
    Calls Try.prog 15 #[.pointer (some ⟨p, 0, none⟩)] w fun e w' => e = .returned (.int .i64 l.length) ∧ Ring B w' p cap [] ∧ Below B w w' := by
  have HL := hide (len_any B p cap l w h)
  have HT := hide (take_any B p cap l l.length w h l.length (by omega))
  clear h
  go_enter Try.func15, Try.ntmps15
  go_wp2_with fail
  refine (unhide HL).mono ?_
  rintro e w1 ⟨rfl, rfl⟩
  go_wp2_with fail
  refine (unhide HT).mono ?_
  rintro e w1 ⟨rfl, hr, hb⟩
  have hsz : (S (l.take l.length)).size = l.length := by rw [S_size, List.length_take]; omega
  go_wp2_with fail
  go_ret
  exact ⟨rfl, by rw [List.drop_length] at hr; exact hr, hb⟩

/-! A nil ring. -/
theorem len_nil (w : World) : Calls Try.prog 10 #[.pointer none] w fun e w' => e = .returned (.int .i64 0) ∧ w = w' := by
  go_enter Try.func10, Try.ntmps10
  go_wp2
  go_ret
  exact ⟨rfl, rfl⟩
theorem room_nil (w : World) : Calls Try.prog 13 #[.pointer none] w fun e w' => e = .returned (.int .i64 0) ∧ w = w' := by
  go_enter Try.func13, Try.ntmps13
  go_wp2
  go_ret
  exact ⟨rfl, rfl⟩
theorem put_nil (s : ByteArray) (w : World) : Calls Try.prog 11 #[.pointer none, .string s] w fun e w' => e = .returned (.int .i64 0) ∧ w = w' := by
  have hmin := min_i64 (P := Try.prog) #[3, 3] 3 (s.size : Int) 0 0 (by omega)
  go_enter Try.func11, Try.ntmps11
  go_wp2_with (go_at_call 13; refine (room_nil _).mono ?_; rintro e w' ⟨rfl, rfl⟩)
  refine wp_loop_rounds 1 ?_
  rw [rounds_succ]
  go_wp2
  go_ret
  exact ⟨rfl, rfl⟩
theorem peek_nil (n : Int) (w : World) : Calls Try.prog 14 #[.pointer none, .int .i64 n] w fun e w' => e = .returned (.string (S [])) ∧ w = w' := by
  obtain ⟨x, hx⟩ : ∃ x : Int, x = max n 0 := ⟨_, rfl⟩
  have hmax := max_i64 (P := Try.prog) #[3, 3] 3 n 0 x hx
  have hmin := min_i64 (P := Try.prog) #[3, 3] 3 x 0 0 (by omega)
  have hs := run_string_nil (P := Try.prog) Try.underlying30 Try.underlying5 Try.underlying9 w 0 0
  clear hx
  go_enter Try.func14, Try.ntmps14
  go_wp2_with (go_at_call 10; refine (len_nil _).mono ?_; rintro e w' ⟨rfl, rfl⟩)
  refine wp_loop_rounds 1 ?_
  rw [rounds_succ]
  go_wp2
  go_ret
  exact ⟨rfl, rfl⟩
theorem take_nil (n : Int) (w : World) : Calls Try.prog 12 #[.pointer none, .int .i64 n] w fun e w' => e = .returned (.string (S [])) ∧ w = w' := by
  have hsz : (S []).size = 0 := rfl
  go_enter Try.func12, Try.ntmps12
  go_wp2_with (go_at_call 14; refine (peek_nil _ _).mono ?_; rintro e w' ⟨rfl, rfl⟩)
  go_ret
  exact ⟨rfl, rfl⟩
theorem clear_nil (w : World) : Calls Try.prog 15 #[.pointer none] w fun e w' => e = .returned (.int .i64 0) ∧ w = w' := by
  have hsz : (S []).size = 0 := rfl
  go_enter Try.func15, Try.ntmps15
  go_wp2_with (first | (go_at_call 10; refine (len_nil _).mono ?_; rintro e w' ⟨rfl, rfl⟩) | (go_at_call 12; refine (take_nil _ _).mono ?_; rintro e w' ⟨rfl, rfl⟩))
  go_ret
  exact ⟨rfl, rfl⟩

theorem len_at (B p cap : Nat) (l : List UInt8) (w : World) (h : Ring B w p cap l) (x : Int) (hx : x = l.length) :
    Calls Try.prog 10 #[.pointer (some ⟨p, 0, none⟩)] w fun e w' => e = .returned (.int .i64 x) ∧ w = w' := by subst hx; exact len_any B p cap l w h
theorem room_at (B p cap : Nat) (l : List UInt8) (w : World) (h : Ring B w p cap l) (x : Int) (hx : x = (cap : Int) - l.length) :
    Calls Try.prog 13 #[.pointer (some ⟨p, 0, none⟩)] w fun e w' => e = .returned (.int .i64 x) ∧ ∃ n, w' = w.drewN n := by
  have := ring_lt h
  rw [show x = ((cap - l.length : Nat) : Int) by omega]
  exact room_any B p cap l w h (cap - l.length) (by omega)
theorem peek_all (B p cap : Nat) (l : List UInt8) (w : World) (h : Ring B w p cap l) :
    Calls Try.prog 14 #[.pointer (some ⟨p, 0, none⟩), .int .i64 (l.length : Int)] w fun e w' => e = .returned (.string (S l)) ∧ Below w.heap.size w w' := by
  have := peek_any B p cap l l.length w h l.length (by omega)
  rw [List.take_length] at this
  exact this
theorem clear_at (B p cap : Nat) (l : List UInt8) (w : World) (h : Ring B w p cap l) (x : Int) (hx : x = l.length) :
    Calls Try.prog 15 #[.pointer (some ⟨p, 0, none⟩)] w fun e w' => e = .returned (.int .i64 x) ∧ Ring B w' p cap [] ∧ Below B w w' := by subst hx; exact clear_any B p cap l w h

theorem alive_any (w : World) : Calls Try.prog 8 #[] w fun e w' => e = .returned (.bool true) ∧ Below w.heap.size w w' := by
  have HN := hide (new_any 3 w)
  go_enter Try.func8, Try.ntmps8
  go_wp2_with fail
  refine (unhide HN).mono ?_
  rintro e w1 ⟨p, rfl, hr, hb⟩
  have hr0 : Ring w.heap.size w1 p 3 [] := hr
  have HP := hide (put_any w.heap.size p 3 [] ⟨#[97, 98, 99, 100]⟩ w1 hr0 (by decide) 3 3 rfl rfl)
  clear hr hr0
  go_wp2_with fail
  refine (unhide HP).mono ?_
  rintro e w2 ⟨rfl, hr2, hb2⟩
  have HT := hide (take_any w.heap.size p 3 [97, 98, 99] 2 w2 hr2 2 rfl)
  have hb12 := hb.trans hb2
  clear HP hr2 hb hb2
  go_wp2_with fail
  refine (unhide HT).mono ?_
  rintro e w3 ⟨rfl, hr3, hb3⟩
  have HP := hide (put_any w.heap.size p 3 [99] ⟨#[120, 121]⟩ w3 hr3 (by decide) 2 2 rfl rfl)
  have hb13 := hb12.trans hb3
  clear HT hr3 hb12 hb3
  go_wp2_with fail
  refine (unhide HP).mono ?_
  rintro e w4 ⟨rfl, hr4, hb4⟩
  have hr4' : Ring w.heap.size w4 p 3 [99, 120, 121] := hr4
  have HK := hide (peek_any w.heap.size p 3 [99, 120, 121] 9 w4 hr4' 3 rfl)
  have hb14 := hb13.trans hb4
  clear HP hr4 hb13 hb4
  go_wp2_with fail
  refine (unhide HK).mono ?_
  rintro e w5 ⟨rfl, hb5⟩
  have HR := hide (room_any w.heap.size p 3 [99, 120, 121] w5 (ring_keep hr4' hb5) 0 rfl)
  have hb15 := hb14.trans (hb5.mono hb14.size)
  clear HK hr4' hb14 hb5
  go_wp2_with fail
  refine (unhide HR).mono ?_
  rintro e w6 ⟨rfl, n, rfl⟩
  go_wp2_with fail
  go_ret
  exact ⟨rfl, below_drewN hb15 n⟩
end Go.Proofs.Ytaejefahmmickaa
