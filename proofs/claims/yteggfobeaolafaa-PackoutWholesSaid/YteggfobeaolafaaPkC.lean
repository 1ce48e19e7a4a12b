/-
  Numbers by their sizes; numbers below 0; the head of a container; a part that is no container, as bytes.
-/
import Derived.Test.YteggfobeaolafaaPkB
import Derived.Test.YteggfobeaolafaaPkHa
import Derived.BigQuiet
import Derived.Deep.QuietTactic
namespace Go.Proofs.Yteggfobeaolafaa
open Go.RowKit

/-- A byte by the size of a number, and the number. -/
def sizedL (first : Nat) : Nat → List Nat → Nat → List UInt8
  | _, [], _ => []
  | i, n :: L, v => if n = 8 ∨ v < 2 ^ (8 * n) then bigL (first + i) 1 ++ bigL v n else sizedL first (i + 1) L v
theorem sizedL_hit {first i n : Nat} {L : List Nat} {v : Nat} (h : n = 8 ∨ v < 2 ^ (8 * n)) : sizedL first i (n :: L) v = bigL (first + i) 1 ++ bigL v n := by rw [sizedL, if_pos h]
theorem sizedL_next {first i n : Nat} {L : List Nat} {v : Nat} (h : ¬ (n = 8 ∨ v < 2 ^ (8 * n))) : sizedL first i (n :: L) v = sizedL first (i + 1) L v := by rw [sizedL, if_neg h]
theorem sizedL_length (first : Nat) : ∀ (L : List Nat) (i v : Nat), (∀ n ∈ L, n ≤ 8) → (sizedL first i L v).length ≤ 9
  | [], _, _, _ => by simp [sizedL]
  | n :: L, i, v, h => by
    unfold sizedL
    split
    · have := h n (List.mem_cons_self ..)
      simp; omega
    · exact sizedL_length first L _ v (fun x hx => h x (List.mem_cons_of_mem _ hx))

set_option maxRecDepth 100000 in
set_option maxHeartbeats 1000000 in
theorem sized_any {w : World} (first : Nat) (hf : first ≤ 240) (g0 off cap : Nat) (L : List Nat) (hL : ∀ n ∈ L, n = 1 ∨ n = 2 ∨ n = 4 ∨ n = 8) (hlen : L.length ≤ 4) (hg : g0 < w.heap.size) (hc : ∀ i (hi : i < L.length), w.cell? ⟨g0, off + i, none⟩ = some (.int .i64 (L[i] : Nat))) (v : Nat) (r : List UInt8) (hr : r = sizedL first 0 L v) :
    Calls Try.prog 41 #[.int .u64 first, .slice (some ⟨g0, off, none⟩) L.length cap, .int .u64 v] w fun e w' => e = .returned (.string (S r)) ∧ Below w.heap.size w w' := by
  obtain ⟨k, hk⟩ : ∃ k, k = L.length := ⟨_, rfl⟩
  rw [← hk] at hlen ⊢
  have HC := hide hc
  have HLL := hide hL
  have HR := hide hr
  have HK := hide hk
  have hk2 : (k : Int) ≤ 4 := by omega
  have hf2 : (first : Int) ≤ 240 := by omega
  clear hc hL hr hk
  go_enter Try.func41, Try.ntmps41
  go_wp2_with fail
  go_loopg [11] k (fun g s11 wr => ∃ i : Nat, s11 = .int .i64 i ∧ i + g = k ∧ Hid (r = sizedL first i (L.drop i) v) ∧ Hid (Below w.heap.size w wr))
  case atStart => exact ⟨0, rfl, by omega, HR, hide (Below.refl _ _)⟩
  case round =>
    obtain ⟨i, rfl, hi, hrr, ho⟩ := hrel
    by_cases hlt : i < k
    · have hiL : i < L.length := by rw [← HK.out]; exact hlt
      obtain ⟨x, hx⟩ : ∃ x, x = L[i] := ⟨_, rfl⟩
      have hx4 := HLL.out x (hx ▸ List.getElem_mem hiL)
      have c0 := (ho.out.cell (p := ⟨g0, off + i, none⟩) hg).trans (HC.out i hiL)
      have hrr2 := hrr.out
      rw [List.drop_eq_getElem_cons hiL, ← hx] at hrr2
      rw [← hx] at c0
      have hwi : IntKind.u64.wrap (i : Int) = i := by rw [IntKind.wrap_u64]; omega
      have hwf : IntKind.u64.wrap ((first : Int) + i) = first + i := by rw [IntKind.wrap_u64]; omega
      clear hx hrr HC HLL
      rcases hx4 with rfl | rfl | rfl | rfl
      ·
        by_cases hv : v < 256
        · have hvd : decide ((v : Int) < 256) = true := by simp; omega
          rw [sizedL_hit (.inr hv)] at hrr2
          obtain ⟨l1, hl1⟩ : ∃ l1, l1 = bigL (first + i) 1 := ⟨_, rfl⟩
          obtain ⟨l2, hl2⟩ : ∃ l2, l2 = bigL v 1 := ⟨_, rfl⟩
          have H1 := fun W => hide (big_at ((first : Int) + i) 1 (first + i) 1 (by push_cast; rfl) rfl (by omega) (by omega) l1 hl1 W)
          have H2 := fun W => hide (big_at v 1 v 1 rfl rfl (by omega) (by omega) l2 hl2 W)
          have hadd := run_add_S (P := Try.prog) l1 l2 (by rw [hl1, hl2, bigL_length, bigL_length]; omega)
          have Hp := hide (show r = l1 ++ l2 by rw [hrr2, hl1, hl2])
          clear hrr2 hl1 hl2
          go_wp2_with fail
          (with_reducible refine (unhide (H1 _)).mono ?_)
          rintro e w1 ⟨rfl, ho1⟩
          go_wp2_with fail
          (with_reducible refine (unhide (H2 _)).mono ?_)
          rintro e w2 ⟨rfl, ho2⟩
          go_wp2_with fail
          go_ret
          exact ⟨by rw [Hp.out]; rfl, ho.out.trans ((ho1.trans ho2).nil_below.mono ho.out.size)⟩
        · have hvd : decide ((v : Int) < 256) = false := by simp; omega
          rw [sizedL_next (by omega)] at hrr2
          have HR2 := hide hrr2
          clear hrr2 hv
          go_wp2_with fail
          go_roundg (gk - 1)
          case measure => omega
          case rel => exact ⟨i + 1, by go_num, by omega, HR2, ho⟩
      ·
        by_cases hv : v < 65536
        · have hvd : decide ((v : Int) < 65536) = true := by simp; omega
          rw [sizedL_hit (.inr hv)] at hrr2
          obtain ⟨l1, hl1⟩ : ∃ l1, l1 = bigL (first + i) 1 := ⟨_, rfl⟩
          obtain ⟨l2, hl2⟩ : ∃ l2, l2 = bigL v 2 := ⟨_, rfl⟩
          have H1 := fun W => hide (big_at ((first : Int) + i) 1 (first + i) 1 (by push_cast; rfl) rfl (by omega) (by omega) l1 hl1 W)
          have H2 := fun W => hide (big_at v 2 v 2 rfl rfl (by omega) (by omega) l2 hl2 W)
          have hadd := run_add_S (P := Try.prog) l1 l2 (by rw [hl1, hl2, bigL_length, bigL_length]; omega)
          have Hp := hide (show r = l1 ++ l2 by rw [hrr2, hl1, hl2])
          clear hrr2 hl1 hl2
          go_wp2_with fail
          (with_reducible refine (unhide (H1 _)).mono ?_)
          rintro e w1 ⟨rfl, ho1⟩
          go_wp2_with fail
          (with_reducible refine (unhide (H2 _)).mono ?_)
          rintro e w2 ⟨rfl, ho2⟩
          go_wp2_with fail
          go_ret
          exact ⟨by rw [Hp.out]; rfl, ho.out.trans ((ho1.trans ho2).nil_below.mono ho.out.size)⟩
        · have hvd : decide ((v : Int) < 65536) = false := by simp; omega
          rw [sizedL_next (by omega)] at hrr2
          have HR2 := hide hrr2
          clear hrr2 hv
          go_wp2_with fail
          go_roundg (gk - 1)
          case measure => omega
          case rel => exact ⟨i + 1, by go_num, by omega, HR2, ho⟩
      ·
        by_cases hv : v < 4294967296
        · have hvd : decide ((v : Int) < 4294967296) = true := by simp; omega
          rw [sizedL_hit (.inr hv)] at hrr2
          obtain ⟨l1, hl1⟩ : ∃ l1, l1 = bigL (first + i) 1 := ⟨_, rfl⟩
          obtain ⟨l2, hl2⟩ : ∃ l2, l2 = bigL v 4 := ⟨_, rfl⟩
          have H1 := fun W => hide (big_at ((first : Int) + i) 1 (first + i) 1 (by push_cast; rfl) rfl (by omega) (by omega) l1 hl1 W)
          have H2 := fun W => hide (big_at v 4 v 4 rfl rfl (by omega) (by omega) l2 hl2 W)
          have hadd := run_add_S (P := Try.prog) l1 l2 (by rw [hl1, hl2, bigL_length, bigL_length]; omega)
          have Hp := hide (show r = l1 ++ l2 by rw [hrr2, hl1, hl2])
          clear hrr2 hl1 hl2
          go_wp2_with fail
          (with_reducible refine (unhide (H1 _)).mono ?_)
          rintro e w1 ⟨rfl, ho1⟩
          go_wp2_with fail
          (with_reducible refine (unhide (H2 _)).mono ?_)
          rintro e w2 ⟨rfl, ho2⟩
          go_wp2_with fail
          go_ret
          exact ⟨by rw [Hp.out]; rfl, ho.out.trans ((ho1.trans ho2).nil_below.mono ho.out.size)⟩
        · have hvd : decide ((v : Int) < 4294967296) = false := by simp; omega
          rw [sizedL_next (by omega)] at hrr2
          have HR2 := hide hrr2
          clear hrr2 hv
          go_wp2_with fail
          go_roundg (gk - 1)
          case measure => omega
          case rel => exact ⟨i + 1, by go_num, by omega, HR2, ho⟩
      ·
        rw [sizedL_hit (.inl rfl)] at hrr2
        obtain ⟨l1, hl1⟩ : ∃ l1, l1 = bigL (first + i) 1 := ⟨_, rfl⟩
        obtain ⟨l2, hl2⟩ : ∃ l2, l2 = bigL v 8 := ⟨_, rfl⟩
        have H1 := fun W => hide (big_at ((first : Int) + i) 1 (first + i) 1 (by push_cast; rfl) rfl (by omega) (by omega) l1 hl1 W)
        have H2 := fun W => hide (big_at v 8 v 8 rfl rfl (by omega) (by omega) l2 hl2 W)
        have hadd := run_add_S (P := Try.prog) l1 l2 (by rw [hl1, hl2, bigL_length, bigL_length]; omega)
        have Hp := hide (show r = l1 ++ l2 by rw [hrr2, hl1, hl2])
        clear hrr2 hl1 hl2
        go_wp2_with fail
        (with_reducible refine (unhide (H1 _)).mono ?_)
        rintro e w1 ⟨rfl, ho1⟩
        go_wp2_with fail
        (with_reducible refine (unhide (H2 _)).mono ?_)
        rintro e w2 ⟨rfl, ho2⟩
        go_wp2_with fail
        go_ret
        exact ⟨by rw [Hp.out]; rfl, ho.out.trans ((ho1.trans ho2).nil_below.mono ho.out.size)⟩
    · obtain rfl : i = k := by omega
      have hrr2 := hrr.out
      rw [HK.out, List.drop_length] at hrr2
      simp only [sizedL] at hrr2
      subst hrr2
      clear hrr
      go_wp2_with fail
      go_ret
      exact ⟨rfl, ho.out⟩
theorem sized_blk {W : World} {t : TypeId} (first a : Nat) (hf : first ≤ 240) (L : List Nat) (hL : ∀ n ∈ L, n = 1 ∨ n = 2 ∨ n = 4 ∨ n = 8) (hlen : L.length ≤ 4) (cs : Array Value) (hcs : cs = (L.map fun (n : Nat) => Value.int .i64 n).toArray) (h : Blk W a t cs) (k : Nat) (hk : k = L.length) (v : Nat) (fi : Int) (hfi : fi = first) (r : List UInt8) (hr : r = sizedL first 0 L v) :
    Calls Try.prog 41 #[.int .u64 fi, .slice (some ⟨a, 0, none⟩) k k, .int .u64 v] W fun e w' => e = .returned (.string (S r)) ∧ Below W.heap.size W w' := by
  subst hcs hk hfi
  exact sized_any first hf a 0 L.length L hL hlen h.lt (fun i hi => by
    rw [Nat.zero_add]
    exact h.cellv i _ (by simp [hi])) v r hr
/-- A number below 0. -/
def belowL (m : Nat) : List UInt8 :=
  if m < 32 then bigL (18446744073709551615 - m) 1
  else if m < 128 then bigL 208 1 ++ bigL (18446744073709551615 - m) 1
  else if m < 32768 then bigL 209 1 ++ bigL (18446744073709551615 - m) 2
  else if m < 2147483648 then bigL 210 1 ++ bigL (18446744073709551615 - m) 4
  else 211 :: bigL (18446744073709551615 - m) 8
def belowR (m : Nat) : List UInt8 × Int := if 9223372036854775807 < m then ([], 7) else (belowL m, 0)
def headB (m : Bool) (n : Nat) : List UInt8 := if n < 16 then bigL ((if m then 128 else 144) + n) 1 else sizedL (if m then 222 else 220) 0 [2, 4] n
def beginR (m : Bool) (n : Int) : List UInt8 × Int := if n < 0 ∨ 4294967295 < n then ([], 7) else (headB m n.toNat, 0)
def wordB (l : List UInt8) : List UInt8 := if l.length < 32 then bigL (160 + l.length) 1 ++ l else sizedL 217 0 [1, 2, 4] l.length ++ l
def plainR : Part → List UInt8 × Int
  | .bool b => (if b then [0xc3] else [0xc2], 0)
  | .whole g m => if g then belowR m.toNat else if m < 128 then (bigL m.toNat 1, 0) else (sizedL 204 0 [1, 2, 4, 8] m.toNat, 0)
  | .word l => (wordB l, 0)
  | .blob l => (sizedL 196 0 [1, 2, 4] l.length ++ l, 0)
  | _ => ([0xc0], 0)
theorem u64_or_low (C c : Nat) (hC : C % 16 = 0 ∧ C < 256) (hc : c < 16) : bits .or .u64 (C : Int) (c : Int) = ((C + c : Nat) : Int) := by
  have h7 : (BitVec.ofInt 64 (C : Int) ||| BitVec.ofInt 64 (c : Int)).toNat = C + c := by
    rw [BitVec.ofInt_natCast, BitVec.ofInt_natCast, BitVec.toNat_or, BitVec.toNat_ofNat, BitVec.toNat_ofNat, Nat.mod_eq_of_lt (by omega), Nat.mod_eq_of_lt (by omega)]
    have h2 := Nat.shiftLeft_add_eq_or_of_lt (i := 4) (b := c) hc (C / 16)
    rw [Nat.shiftLeft_eq, show 2 ^ 4 = 16 from rfl, show C / 16 * 16 = C by omega] at h2
    omega
  show IntKind.u64.wrap ((BitVec.ofInt 64 (C : Int) ||| BitVec.ofInt 64 (c : Int)).toNat : Int) = _
  rw [h7, IntKind.wrap_u64]
  omega
theorem u64_not (m : Nat) (hm : m < 18446744073709551616) : bits .xor .u64 IntKind.u64.max (m : Int) = ((18446744073709551615 - m : Nat) : Int) := by
  have h7 : (BitVec.ofInt 64 IntKind.u64.max ^^^ BitVec.ofInt 64 (m : Int)).toNat = 18446744073709551615 - m := by
    rw [show BitVec.ofInt 64 IntKind.u64.max = BitVec.allOnes 64 from by decide, BitVec.allOnes_xor, BitVec.toNat_not, BitVec.ofInt_natCast, BitVec.toNat_ofNat, Nat.mod_eq_of_lt (by omega)]
  show IntKind.u64.wrap ((BitVec.ofInt 64 IntKind.u64.max ^^^ BitVec.ofInt 64 (m : Int)).toNat : Int) = _
  rw [h7, IntKind.wrap_u64]
  omega
set_option maxRecDepth 100000 in
set_option maxHeartbeats 1000000 in
theorem below_any (m : Nat) (hm : Hid (m < 18446744073709551616)) (w : World) (r : List UInt8) (k : Int) (hr : (r, k) = belowR m) :
    Calls Try.prog 39 #[.int .u64 m] w fun e w' => e = .returned (.tuple #[.string (S r), .int .i64 k]) ∧ Below w.heap.size w w' := by
  unfold belowR at hr
  by_cases h0 : 9223372036854775807 < m
  · rw [if_pos h0] at hr
    injection hr with e1 e2
    subst e1 e2
    have h0' : decide ((9223372036854775807 : Int) < m) = true := by simp; omega
    clear h0
    go_enter Try.func39, Try.ntmps39
    go_wp2_with fail
    go_ret2
    exact ⟨rfl, Below.refl _ _⟩
  rw [if_neg h0] at hr
  injection hr with e1 e2
  subst e2
  have h0' : decide ((9223372036854775807 : Int) < m) = false := by simp; omega
  obtain ⟨q, hq⟩ : ∃ q, q = 18446744073709551615 - m := ⟨_, rfl⟩
  have hcm : bits .xor .u64 IntKind.u64.max (m : Int) = (q : Int) := by rw [u64_not m hm.out, hq]
  unfold belowL at e1
  rw [← hq] at e1
  by_cases h1 : m < 32
  · rw [if_pos h1] at e1
    have h1' : decide ((m : Int) < 32) = true := by simp; omega
    have H1 := fun W => hide (big_at (bits .xor .u64 IntKind.u64.max (m : Int)) 1 q 1 hcm rfl (by omega) (by omega) r e1 W)
    clear h0 h1 e1 hq hcm
    go_enter Try.func39, Try.ntmps39
    go_wp2_with fail
    (with_reducible refine (unhide (H1 _)).mono ?_)
    rintro e w1 ⟨rfl, ho1⟩
    go_wp2_with fail
    go_ret2
    exact ⟨rfl, ho1.nil_below⟩
  rw [if_neg h1] at e1
  have h1' : decide ((m : Int) < 32) = false := by simp; omega
  have HE := hide e1
  have HCM := hide hcm
  have hm32 : 32 ≤ m := by omega
  have bk := Blk.new w 3 #[.int .i64 1, .int .i64 2, .int .i64 4]
  have Z := hide (And.intro (bk.cellv 0 _ rfl) (And.intro (bk.cellv 1 _ rfl) (bk.cellv 2 _ rfl)))
  have HB0 := hide (Below.more (Below.refl w.heap.size w) (Nat.le_refl _) (.cells #[.int .i64 1, .int .i64 2, .int .i64 4] 3))
  clear h0 h1 e1 hq hcm bk
  go_enter Try.func39, Try.ntmps39
  go_wp2_with fail
  go_loopg [15] 3 (fun g s15 wr => ∃ (i : Nat) (ii : Int), s15 = .int .i64 ii ∧ ii = i ∧ i + g = 3 ∧ Hid ((1 ≤ i → 128 ≤ m) ∧ (2 ≤ i → 32768 ≤ m) ∧ (3 ≤ i → 2147483648 ≤ m)) ∧ wr = w.alloc (.cells #[.int .i64 1, .int .i64 2, .int .i64 4] 3))
  case atStart => exact ⟨0, 0, rfl, rfl, rfl, hide ⟨fun h => by omega, fun h => by omega, fun h => by omega⟩, rfl⟩
  case round =>
    obtain ⟨i, ii, rfl, hii, hi, hbd, rfl⟩ := hrel
    have z0 : (w.alloc (.cells #[.int .i64 1, .int .i64 2, .int .i64 4] 3)).cell? ⟨w.heap.size, 0, none⟩ = some (.int .i64 1) := Z.out.1
    have z1 : (w.alloc (.cells #[.int .i64 1, .int .i64 2, .int .i64 4] 3)).cell? ⟨w.heap.size, 1, none⟩ = some (.int .i64 2) := Z.out.2.1
    have z2 : (w.alloc (.cells #[.int .i64 1, .int .i64 2, .int .i64 4] 3)).cell? ⟨w.heap.size, 2, none⟩ = some (.int .i64 4) := Z.out.2.2
    have hi4 : i = 0 ∨ i = 1 ∨ i = 2 ∨ i = 3 := by omega
    obtain ⟨hb1, hb2, hb3⟩ := hbd.out
    clear hbd
    rcases hi4 with rfl | rfl | rfl | rfl
    ·
      obtain rfl : ii = 0 := by omega
      clear hii
      by_cases hv : m < 128
      · have hvd : decide ((m : Int) < 128) = true := by simp; omega
        have hr2 := HE.out
        rw [if_pos hv] at hr2
        obtain ⟨l1, hl1⟩ : ∃ l1, l1 = bigL 208 1 := ⟨_, rfl⟩
        obtain ⟨l2, hl2⟩ : ∃ l2, l2 = bigL q 1 := ⟨_, rfl⟩
        have H1 := fun W => hide (big_at 208 1 208 1 rfl rfl (by omega) (by omega) l1 hl1 W)
        have H2 := fun W => hide (big_at (bits .xor .u64 IntKind.u64.max (m : Int)) 1 q 1 HCM.out rfl (by omega) (by omega) l2 hl2 W)
        have hadd := run_add_S (P := Try.prog) l1 l2 (by rw [hl1, hl2, bigL_length, bigL_length]; omega)
        have Hp := hide (show r = l1 ++ l2 by rw [hr2, hl1, hl2])
        clear hr2 hl1 hl2 hb1 hb2 hb3 hi hv
        go_wp2_with fail
        (with_reducible refine (unhide (H1 _)).mono ?_)
        rintro e w1 ⟨rfl, ho1⟩
        clear hvd h1' h0' hm32
        go_wp2_with fail
        (with_reducible refine (unhide (H2 _)).mono ?_)
        rintro e w2 ⟨rfl, ho2⟩
        go_wp2_with fail
        go_ret2
        exact ⟨by rw [Hp.out]; rfl, HB0.out.trans ((ho1.trans ho2).nil_below.mono (by simp))⟩
      · have hvd : decide ((m : Int) < 128) = false := by simp; omega
        clear hb1 hb2 hb3
        go_wp2_with fail
        go_roundg (gk - 1)
        case measure => omega
        case rel => exact ⟨1, 1, rfl, rfl, by omega, hide ⟨fun h => by omega, fun h => by omega, fun h => by omega⟩, rfl⟩
    ·
      obtain rfl : ii = 1 := by omega
      clear hii
      by_cases hv : m < 32768
      · have hvd : decide ((m : Int) < 32768) = true := by simp; omega
        have hr2 := HE.out
        rw [if_neg (by omega), if_pos hv] at hr2
        obtain ⟨l1, hl1⟩ : ∃ l1, l1 = bigL 209 1 := ⟨_, rfl⟩
        obtain ⟨l2, hl2⟩ : ∃ l2, l2 = bigL q 2 := ⟨_, rfl⟩
        have H1 := fun W => hide (big_at 209 1 209 1 rfl rfl (by omega) (by omega) l1 hl1 W)
        have H2 := fun W => hide (big_at (bits .xor .u64 IntKind.u64.max (m : Int)) 2 q 2 HCM.out rfl (by omega) (by omega) l2 hl2 W)
        have hadd := run_add_S (P := Try.prog) l1 l2 (by rw [hl1, hl2, bigL_length, bigL_length]; omega)
        have Hp := hide (show r = l1 ++ l2 by rw [hr2, hl1, hl2])
        clear hr2 hl1 hl2 hb1 hb2 hb3 hi hv
        go_wp2_with fail
        (with_reducible refine (unhide (H1 _)).mono ?_)
        rintro e w1 ⟨rfl, ho1⟩
        clear hvd h1' h0' hm32
        go_wp2_with fail
        (with_reducible refine (unhide (H2 _)).mono ?_)
        rintro e w2 ⟨rfl, ho2⟩
        go_wp2_with fail
        go_ret2
        exact ⟨by rw [Hp.out]; rfl, HB0.out.trans ((ho1.trans ho2).nil_below.mono (by simp))⟩
      · have hvd : decide ((m : Int) < 32768) = false := by simp; omega
        clear hb1 hb2 hb3
        go_wp2_with fail
        go_roundg (gk - 1)
        case measure => omega
        case rel => exact ⟨2, 2, rfl, rfl, by omega, hide ⟨fun h => by omega, fun h => by omega, fun h => by omega⟩, rfl⟩
    ·
      obtain rfl : ii = 2 := by omega
      clear hii
      by_cases hv : m < 2147483648
      · have hvd : decide ((m : Int) < 2147483648) = true := by simp; omega
        have hr2 := HE.out
        rw [if_neg (by omega), if_neg (by omega), if_pos hv] at hr2
        obtain ⟨l1, hl1⟩ : ∃ l1, l1 = bigL 210 1 := ⟨_, rfl⟩
        obtain ⟨l2, hl2⟩ : ∃ l2, l2 = bigL q 4 := ⟨_, rfl⟩
        have H1 := fun W => hide (big_at 210 1 210 1 rfl rfl (by omega) (by omega) l1 hl1 W)
        have H2 := fun W => hide (big_at (bits .xor .u64 IntKind.u64.max (m : Int)) 4 q 4 HCM.out rfl (by omega) (by omega) l2 hl2 W)
        have hadd := run_add_S (P := Try.prog) l1 l2 (by rw [hl1, hl2, bigL_length, bigL_length]; omega)
        have Hp := hide (show r = l1 ++ l2 by rw [hr2, hl1, hl2])
        clear hr2 hl1 hl2 hb1 hb2 hb3 hi hv
        go_wp2_with fail
        (with_reducible refine (unhide (H1 _)).mono ?_)
        rintro e w1 ⟨rfl, ho1⟩
        clear hvd h1' h0' hm32
        go_wp2_with fail
        (with_reducible refine (unhide (H2 _)).mono ?_)
        rintro e w2 ⟨rfl, ho2⟩
        go_wp2_with fail
        go_ret2
        exact ⟨by rw [Hp.out]; rfl, HB0.out.trans ((ho1.trans ho2).nil_below.mono (by simp))⟩
      · have hvd : decide ((m : Int) < 2147483648) = false := by simp; omega
        clear hb1 hb2 hb3
        go_wp2_with fail
        go_roundg (gk - 1)
        case measure => omega
        case rel => exact ⟨3, 3, rfl, rfl, by omega, hide ⟨fun h => by omega, fun h => by omega, fun h => by omega⟩, rfl⟩
    ·
      obtain rfl : ii = 3 := by omega
      clear hii
      have hr2 := HE.out
      rw [if_neg (by omega), if_neg (by omega), if_neg (by omega)] at hr2
      obtain ⟨l2, hl2⟩ : ∃ l2, l2 = bigL q 8 := ⟨_, rfl⟩
      have H2 := fun W => hide (big_at (bits .xor .u64 IntKind.u64.max (m : Int)) 8 q 8 HCM.out rfl (by omega) (by omega) l2 hl2 W)
      have hadd := run_add_S (P := Try.prog) [211] l2 (by rw [hl2, bigL_length]; simp)
      have hSS : S [211] = ⟨#[211]⟩ := rfl
      rw [hSS] at hadd
      have Hp := hide (show r = [211] ++ l2 by rw [hr2, hl2]; rfl)
      clear hr2 hl2 hb1 hb2 hb3 hSS
      go_wp2_with fail
      (with_reducible refine (unhide (H2 _)).mono ?_)
      rintro e w2 ⟨rfl, ho2⟩
      go_wp2_with fail
      go_ret2
      exact ⟨by rw [Hp.out]; rfl, HB0.out.trans (ho2.nil_below.mono (by simp))⟩

set_option maxRecDepth 100000 in
set_option maxHeartbeats 1000000 in
theorem begin_any (m : Bool) (n : Int) (hn : n ≤ 9223372036854775807) (hn1 : -1 ≤ n) (w : World) (r : List UInt8) (k : Int) (hr : (r, k) = beginR m n) :
    Calls Try.prog 27 #[.agg #[.bool m, .int .i64 n]] w fun e w' => e = .returned (.tuple #[.string (S r), .int .i64 k]) ∧ Below w.heap.size w w' := by
  unfold beginR at hr
  by_cases h0 : n < 0 ∨ 4294967295 < n
  · rw [if_pos h0] at hr
    injection hr with e1 e2
    subst e1 e2
    by_cases h1 : n < 0
    · have h1' : decide (n < 0) = true := by simp; omega
      clear h0 hn hn1
      cases m with
      | true =>
        go_enter Try.func27, Try.ntmps27
        go_wp2_with fail
        go_ret2
        exact ⟨rfl, Below.more (Below.refl _ _) (Nat.le_refl _) _⟩
      | false =>
        go_enter Try.func27, Try.ntmps27
        go_wp2_with fail
        go_ret2
        exact ⟨rfl, Below.more (Below.refl _ _) (Nat.le_refl _) _⟩
    · have h1' : decide (n < 0) = false := by simp; omega
      have hw : IntKind.u64.wrap n = n := by rw [IntKind.wrap_u64]; omega
      have h2 : decide (4294967295 < n) = true := by simp; omega
      clear h0 hn hn1 h1
      cases m with
      | true =>
        go_enter Try.func27, Try.ntmps27
        go_wp2_with fail
        go_ret2
        exact ⟨rfl, Below.more (Below.refl _ _) (Nat.le_refl _) _⟩
      | false =>
        go_enter Try.func27, Try.ntmps27
        go_wp2_with fail
        go_ret2
        exact ⟨rfl, Below.more (Below.refl _ _) (Nat.le_refl _) _⟩
  rw [if_neg h0] at hr
  injection hr with e1 e2
  subst e2
  obtain ⟨c, rfl⟩ := Int.eq_ofNat_of_zero_le (show 0 ≤ n by omega)
  rw [Int.toNat_natCast] at e1
  have h1' : decide ((c : Int) < 0) = false := by simp
  have hw : IntKind.u64.wrap (c : Int) = c := by rw [IntKind.wrap_u64]; omega
  have h2 : decide (4294967295 < (c : Int)) = false := by simp; omega
  have hc64 : Hid (c ≤ 4294967295) := hide (by omega)
  unfold headB at e1
  by_cases h3 : c < 16
  · rw [if_pos h3] at e1
    have h3' : decide ((c : Int) < 16) = true := by simp; omega
    cases m with
    | true =>
      have hor := u64_or_low 128 c (by decide) h3
      have H1 := fun W => hide (big_at (bits .or .u64 128 (c : Int)) 1 (128 + c) 1 hor rfl (by omega) (by omega) r e1 W)
      clear h0 hn hn1 e1 h3 hor
      go_enter Try.func27, Try.ntmps27
      go_wp2_with fail
      (with_reducible refine (unhide (H1 _)).mono ?_)
      rintro e w1 ⟨rfl, ho1⟩
      go_wp2_with fail
      go_ret2
      exact ⟨rfl, (Below.more (Below.refl _ _) (Nat.le_refl _) _).trans (ho1.nil_below.mono (by simp))⟩
    | false =>
      have hor := u64_or_low 144 c (by decide) h3
      have H1 := fun W => hide (big_at (bits .or .u64 144 (c : Int)) 1 (144 + c) 1 hor rfl (by omega) (by omega) r e1 W)
      clear h0 hn hn1 e1 h3 hor
      go_enter Try.func27, Try.ntmps27
      go_wp2_with fail
      (with_reducible refine (unhide (H1 _)).mono ?_)
      rintro e w1 ⟨rfl, ho1⟩
      go_wp2_with fail
      go_ret2
      exact ⟨rfl, (Below.more (Below.refl _ _) (Nat.le_refl _) _).trans (ho1.nil_below.mono (by simp))⟩
  · rw [if_neg h3] at e1
    have h3' : decide ((c : Int) < 16) = false := by simp; omega
    cases m with
    | true =>
      have bk : Blk ((w.alloc (.cells #[.bool true, .int .i64 c] 62)).alloc (.cells #[.int .i64 2, .int .i64 4] 3)) (w.heap.size + 1) 3 #[.int .i64 2, .int .i64 4] := by simpa using Blk.new (w.alloc (.cells #[.bool true, .int .i64 c] 62)) 3 #[.int .i64 2, .int .i64 4]
      have H1 := hide (sized_blk 222 (w.heap.size + 1) (by omega) [2, 4] (by simp) (by simp) _ rfl bk 2 rfl c 222 rfl r e1)
      clear h0 hn hn1 e1 h3 bk
      go_enter Try.func27, Try.ntmps27
      go_wp2_with fail
      (with_reducible refine (unhide H1).mono ?_)
      rintro e w1 ⟨rfl, ho1⟩
      go_wp2_with fail
      go_ret2
      exact ⟨rfl, (Below.more (Below.more (Below.refl _ _) (Nat.le_refl _) _) (Nat.le_refl _) _).trans (ho1.mono (by simp; omega))⟩
    | false =>
      have bk : Blk ((w.alloc (.cells #[.bool false, .int .i64 c] 62)).alloc (.cells #[.int .i64 2, .int .i64 4] 3)) (w.heap.size + 1) 3 #[.int .i64 2, .int .i64 4] := by simpa using Blk.new (w.alloc (.cells #[.bool false, .int .i64 c] 62)) 3 #[.int .i64 2, .int .i64 4]
      have H1 := hide (sized_blk 220 (w.heap.size + 1) (by omega) [2, 4] (by simp) (by simp) _ rfl bk 2 rfl c 220 rfl r e1)
      clear h0 hn hn1 e1 h3 bk
      go_enter Try.func27, Try.ntmps27
      go_wp2_with fail
      (with_reducible refine (unhide H1).mono ?_)
      rintro e w1 ⟨rfl, ho1⟩
      go_wp2_with fail
      go_ret2
      exact ⟨rfl, (Below.more (Below.more (Below.refl _ _) (Nat.le_refl _) _) (Nat.le_refl _) _).trans (ho1.mono (by simp; omega))⟩
end Go.Proofs.Yteggfobeaolafaa
