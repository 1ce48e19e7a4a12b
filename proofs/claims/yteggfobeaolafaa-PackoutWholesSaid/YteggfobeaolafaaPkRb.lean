/-
  The reference's reader: one whole number.
-/
import Derived.Test.YteggfobeaolafaaPkRa
namespace Go.Proofs.Yteggfobeaolafaa
open Go.RowKit

theorem ofL_big_from (v : Nat) : ∀ (n u : Nat), (bigL v n).foldl (fun v b => v * 256 + b.toNat) u = u * 256 ^ n + v % 256 ^ n
  | 0, u => by simp [bigL, Nat.mod_one]
  | n + 1, u => by
    rw [bigL, List.foldl_cons, ofL_big_from v n, Nat.pow_succ, Nat.mod_mul, Nat.pow_mul]
    have h1 : (UInt8.ofNat (v / (2 ^ 8) ^ n)).toNat = v / 256 ^ n % 256 := by simp
    rw [h1, Nat.add_mul, Nat.mul_assoc, Nat.mul_comm 256 (256 ^ n), Nat.mul_comm (v / 256 ^ n % 256)]
    omega
theorem ofL_big (v n : Nat) : ofL (bigL v n) = v % 256 ^ n := by
  have := ofL_big_from v n 0
  rw [Nat.zero_mul, Nat.zero_add] at this
  exact this
/-- What the reader answers at one whole number. -/
def Took (w w' : World) (p q : Nat) (l : List UInt8) (g : Bool) (m : Int) : Prop := ∃ a c, InS w' p q l l.length (.slice a 1 c) true ∧ SlN w' w.heap.size 34 5 (.slice a 1 c) 1 [.int .i64 2, .bool g, .int .u64 m, .string (⟨#[]⟩ : ByteArray), .int .i64 0] ∧ Only [p, q] w w'
set_option maxRecDepth 100000 in
set_option maxHeartbeats 1000000 in
theorem pack_204 {w : World} {p q : Nat} {r : List UInt8} (h : InS w p q (UInt8.ofNat 204 :: r) 0 (.slice none 0 0) false) (hr : r.length = 1) (m : Int) (hm : m = ofL r) :
    Calls Try.prog 37 #[.pointer (some ⟨p, 0, none⟩)] w fun e w' => e = .returned (.bool true) ∧ Took w w' p q (UInt8.ofNat 204 :: r) false m := by
  obtain ⟨l, hl⟩ : ∃ l, l = UInt8.ofNat 204 :: r := ⟨_, rfl⟩
  rw [← hl] at h ⊢
  have c0 := h.pb.cellv 0 _ rfl
  have c1 := h.pb.cellv 1 _ rfl
  have c2 := h.pb.cellv 2 _ rfl
  have c3 := h.pb.cellv 3 _ rfl
  have c4 := h.pb.cellv 4 _ rfl
  have q2 := h.qb.cellv 2 _ rfl
  have f1 := h.pb.frozen 1
  have HKEY := fun m => hide (key_any (h.drewN m))
  have HK0 := hide (key_any h)
  have HI := hide h
  have hll : l.length = 1 + 1 := by rw [hl, List.length_cons, hr]
  have hix := index_S (P := Try.prog) Try.underlying9 l 0 (by omega) 0 rfl 204 (by simp only [hl]; rfl)
  have hdr : (l.drop 1).take 1 = r := by rw [hl, List.drop_succ_cons, List.drop_zero, ← hr, List.take_length]
  have hsz := fun (W : World) (lv : Value) (d : Bool) (hW : InS W p q l 1 lv d) => size_any 1 1 1 1 rfl rfl hW (by omega) (by omega) (by omega) m (1 + 1) (by rw [hdr]; exact hm) rfl
  have HSZ := hide hsz
  have HSZ2 := fun k => hide (hsz _ _ _ ((HI.out.drewN k).at 1))
  have HLL := hide hll
  clear h hl hr hm hll hdr hsz
  go_enter Try.func37, Try.ntmps37
  go_wp2_with fail
  go_quiet (fail)
  go_wp2_with fail
  (with_reducible refine (unhide (HKEY _)).mono ?_)
  rintro e1 w1 ⟨rfl, rfl⟩
  go_wp2_with fail
  go_quiet (fail)
  go_wp2_with fail
  (with_reducible refine (unhide (HSZ2 _)).mono ?_)
  rintro e2 w2 ⟨rfl, h2, ho2⟩
  have HPUT := hide (put_any h2 2 false m 0 (⟨#[]⟩ : ByteArray))
  have HO2 := hide ((((Only.of_below (below_drewN (Below.refl w.heap.size w) _) [p, q]).setCell (p := ⟨p, 1, none⟩) (by simp) _).trans (ho2.mono (by simp))))
  clear h2 ho2 HSZ HSZ2
  go_wp2_with fail
  (with_reducible refine (unhide HPUT).mono ?_)
  rintro e3 w3 ⟨rfl, a3, c3, h3, hs3, ho3⟩
  have hfin : Took w w3 p q l false m := ⟨a3, c3, by rw [HLL.out]; exact h3, hs3.mono HO2.out.size, HO2.out.trans (ho3.mono (by simp))⟩
  clear HPUT h3 hs3 ho3
  go_wp2_with fail
  go_ret
  exact ⟨rfl, hfin⟩
set_option maxRecDepth 100000 in
set_option maxHeartbeats 1000000 in
theorem pack_205 {w : World} {p q : Nat} {r : List UInt8} (h : InS w p q (UInt8.ofNat 205 :: r) 0 (.slice none 0 0) false) (hr : r.length = 2) (m : Int) (hm : m = ofL r) :
    Calls Try.prog 37 #[.pointer (some ⟨p, 0, none⟩)] w fun e w' => e = .returned (.bool true) ∧ Took w w' p q (UInt8.ofNat 205 :: r) false m := by
  obtain ⟨l, hl⟩ : ∃ l, l = UInt8.ofNat 205 :: r := ⟨_, rfl⟩
  rw [← hl] at h ⊢
  have c0 := h.pb.cellv 0 _ rfl
  have c1 := h.pb.cellv 1 _ rfl
  have c2 := h.pb.cellv 2 _ rfl
  have c3 := h.pb.cellv 3 _ rfl
  have c4 := h.pb.cellv 4 _ rfl
  have q2 := h.qb.cellv 2 _ rfl
  have f1 := h.pb.frozen 1
  have HKEY := fun m => hide (key_any (h.drewN m))
  have HK0 := hide (key_any h)
  have HI := hide h
  have hll : l.length = 2 + 1 := by rw [hl, List.length_cons, hr]
  have hix := index_S (P := Try.prog) Try.underlying9 l 0 (by omega) 0 rfl 205 (by simp only [hl]; rfl)
  have hdr : (l.drop 1).take 2 = r := by rw [hl, List.drop_succ_cons, List.drop_zero, ← hr, List.take_length]
  have hsz := fun (W : World) (lv : Value) (d : Bool) (hW : InS W p q l 1 lv d) => size_any 1 2 1 2 rfl rfl hW (by omega) (by omega) (by omega) m (2 + 1) (by rw [hdr]; exact hm) rfl
  have HSZ := hide hsz
  have HSZ2 := fun k => hide (hsz _ _ _ ((HI.out.drewN k).at 1))
  have HLL := hide hll
  clear h hl hr hm hll hdr hsz
  go_enter Try.func37, Try.ntmps37
  go_wp2_with fail
  go_quiet (fail)
  go_wp2_with fail
  (with_reducible refine (unhide (HKEY _)).mono ?_)
  rintro e1 w1 ⟨rfl, rfl⟩
  go_wp2_with fail
  go_quiet (fail)
  go_wp2_with fail
  (with_reducible refine (unhide (HSZ2 _)).mono ?_)
  rintro e2 w2 ⟨rfl, h2, ho2⟩
  have HPUT := hide (put_any h2 2 false m 0 (⟨#[]⟩ : ByteArray))
  have HO2 := hide ((((Only.of_below (below_drewN (Below.refl w.heap.size w) _) [p, q]).setCell (p := ⟨p, 1, none⟩) (by simp) _).trans (ho2.mono (by simp))))
  clear h2 ho2 HSZ HSZ2
  go_wp2_with fail
  (with_reducible refine (unhide HPUT).mono ?_)
  rintro e3 w3 ⟨rfl, a3, c3, h3, hs3, ho3⟩
  have hfin : Took w w3 p q l false m := ⟨a3, c3, by rw [HLL.out]; exact h3, hs3.mono HO2.out.size, HO2.out.trans (ho3.mono (by simp))⟩
  clear HPUT h3 hs3 ho3
  go_wp2_with fail
  go_ret
  exact ⟨rfl, hfin⟩
set_option maxRecDepth 100000 in
set_option maxHeartbeats 1000000 in
theorem pack_206 {w : World} {p q : Nat} {r : List UInt8} (h : InS w p q (UInt8.ofNat 206 :: r) 0 (.slice none 0 0) false) (hr : r.length = 4) (m : Int) (hm : m = ofL r) :
    Calls Try.prog 37 #[.pointer (some ⟨p, 0, none⟩)] w fun e w' => e = .returned (.bool true) ∧ Took w w' p q (UInt8.ofNat 206 :: r) false m := by
  obtain ⟨l, hl⟩ : ∃ l, l = UInt8.ofNat 206 :: r := ⟨_, rfl⟩
  rw [← hl] at h ⊢
  have c0 := h.pb.cellv 0 _ rfl
  have c1 := h.pb.cellv 1 _ rfl
  have c2 := h.pb.cellv 2 _ rfl
  have c3 := h.pb.cellv 3 _ rfl
  have c4 := h.pb.cellv 4 _ rfl
  have q2 := h.qb.cellv 2 _ rfl
  have f1 := h.pb.frozen 1
  have HKEY := fun m => hide (key_any (h.drewN m))
  have HK0 := hide (key_any h)
  have HI := hide h
  have hll : l.length = 4 + 1 := by rw [hl, List.length_cons, hr]
  have hix := index_S (P := Try.prog) Try.underlying9 l 0 (by omega) 0 rfl 206 (by simp only [hl]; rfl)
  have hdr : (l.drop 1).take 4 = r := by rw [hl, List.drop_succ_cons, List.drop_zero, ← hr, List.take_length]
  have hsz := fun (W : World) (lv : Value) (d : Bool) (hW : InS W p q l 1 lv d) => size_any 1 4 1 4 rfl rfl hW (by omega) (by omega) (by omega) m (4 + 1) (by rw [hdr]; exact hm) rfl
  have HSZ := hide hsz
  have HSZ2 := fun k => hide (hsz _ _ _ ((HI.out.drewN k).at 1))
  have HLL := hide hll
  clear h hl hr hm hll hdr hsz
  go_enter Try.func37, Try.ntmps37
  go_wp2_with fail
  go_quiet (fail)
  go_wp2_with fail
  (with_reducible refine (unhide (HKEY _)).mono ?_)
  rintro e1 w1 ⟨rfl, rfl⟩
  go_wp2_with fail
  go_quiet (fail)
  go_wp2_with fail
  (with_reducible refine (unhide (HSZ2 _)).mono ?_)
  rintro e2 w2 ⟨rfl, h2, ho2⟩
  have HPUT := hide (put_any h2 2 false m 0 (⟨#[]⟩ : ByteArray))
  have HO2 := hide ((((Only.of_below (below_drewN (Below.refl w.heap.size w) _) [p, q]).setCell (p := ⟨p, 1, none⟩) (by simp) _).trans (ho2.mono (by simp))))
  clear h2 ho2 HSZ HSZ2
  go_wp2_with fail
  (with_reducible refine (unhide HPUT).mono ?_)
  rintro e3 w3 ⟨rfl, a3, c3, h3, hs3, ho3⟩
  have hfin : Took w w3 p q l false m := ⟨a3, c3, by rw [HLL.out]; exact h3, hs3.mono HO2.out.size, HO2.out.trans (ho3.mono (by simp))⟩
  clear HPUT h3 hs3 ho3
  go_wp2_with fail
  go_ret
  exact ⟨rfl, hfin⟩
set_option maxRecDepth 100000 in
set_option maxHeartbeats 1000000 in
theorem pack_207 {w : World} {p q : Nat} {r : List UInt8} (h : InS w p q (UInt8.ofNat 207 :: r) 0 (.slice none 0 0) false) (hr : r.length = 8) (m : Int) (hm : m = ofL r) :
    Calls Try.prog 37 #[.pointer (some ⟨p, 0, none⟩)] w fun e w' => e = .returned (.bool true) ∧ Took w w' p q (UInt8.ofNat 207 :: r) false m := by
  obtain ⟨l, hl⟩ : ∃ l, l = UInt8.ofNat 207 :: r := ⟨_, rfl⟩
  rw [← hl] at h ⊢
  have c0 := h.pb.cellv 0 _ rfl
  have c1 := h.pb.cellv 1 _ rfl
  have c2 := h.pb.cellv 2 _ rfl
  have c3 := h.pb.cellv 3 _ rfl
  have c4 := h.pb.cellv 4 _ rfl
  have q2 := h.qb.cellv 2 _ rfl
  have f1 := h.pb.frozen 1
  have HKEY := fun m => hide (key_any (h.drewN m))
  have HK0 := hide (key_any h)
  have HI := hide h
  have hll : l.length = 8 + 1 := by rw [hl, List.length_cons, hr]
  have hix := index_S (P := Try.prog) Try.underlying9 l 0 (by omega) 0 rfl 207 (by simp only [hl]; rfl)
  have hdr : (l.drop 1).take 8 = r := by rw [hl, List.drop_succ_cons, List.drop_zero, ← hr, List.take_length]
  have hsz := fun (W : World) (lv : Value) (d : Bool) (hW : InS W p q l 1 lv d) => size_any 1 8 1 8 rfl rfl hW (by omega) (by omega) (by omega) m (8 + 1) (by rw [hdr]; exact hm) rfl
  have HSZ := hide hsz
  have HSZ2 := fun k => hide (hsz _ _ _ ((HI.out.drewN k).at 1))
  have HLL := hide hll
  clear h hl hr hm hll hdr hsz
  go_enter Try.func37, Try.ntmps37
  go_wp2_with fail
  go_quiet (fail)
  go_wp2_with fail
  (with_reducible refine (unhide (HKEY _)).mono ?_)
  rintro e1 w1 ⟨rfl, rfl⟩
  go_wp2_with fail
  go_quiet (fail)
  go_wp2_with fail
  (with_reducible refine (unhide (HSZ2 _)).mono ?_)
  rintro e2 w2 ⟨rfl, h2, ho2⟩
  have HPUT := hide (put_any h2 2 false m 0 (⟨#[]⟩ : ByteArray))
  have HO2 := hide ((((Only.of_below (below_drewN (Below.refl w.heap.size w) _) [p, q]).setCell (p := ⟨p, 1, none⟩) (by simp) _).trans (ho2.mono (by simp))))
  clear h2 ho2 HSZ HSZ2
  go_wp2_with fail
  (with_reducible refine (unhide HPUT).mono ?_)
  rintro e3 w3 ⟨rfl, a3, c3, h3, hs3, ho3⟩
  have hfin : Took w w3 p q l false m := ⟨a3, c3, by rw [HLL.out]; exact h3, hs3.mono HO2.out.size, HO2.out.trans (ho3.mono (by simp))⟩
  clear HPUT h3 hs3 ho3
  go_wp2_with fail
  go_ret
  exact ⟨rfl, hfin⟩
theorem u64_and_mask (x k : Nat) (hk : k ≤ 64) (hx : x < 18446744073709551616) : bits .and .u64 (x : Int) ((2 ^ k - 1 : Nat) : Int) = ((x % 2 ^ k : Nat) : Int) := by
  have hk2 : 2 ^ k ≤ 2 ^ 64 := Nat.pow_le_pow_right (by decide) hk
  have hk3 : 0 < 2 ^ k := Nat.two_pow_pos k
  have h7 : (BitVec.ofInt 64 (x : Int) &&& BitVec.ofInt 64 ((2 ^ k - 1 : Nat) : Int)).toNat = x % 2 ^ k := by
    rw [BitVec.ofInt_natCast, BitVec.ofInt_natCast, BitVec.toNat_and, BitVec.toNat_ofNat, BitVec.toNat_ofNat, Nat.mod_eq_of_lt (a := x) (by omega), Nat.mod_eq_of_lt (a := 2 ^ k - 1) (by omega), Nat.and_two_pow_sub_one_eq_mod]
  show IntKind.u64.wrap ((BitVec.ofInt 64 (x : Int) &&& BitVec.ofInt 64 ((2 ^ k - 1 : Nat) : Int)).toNat : Int) = _
  rw [h7, IntKind.wrap_u64]
  have := Nat.mod_le x (2 ^ k)
  omega
set_option maxRecDepth 100000 in
set_option maxHeartbeats 1000000 in
theorem pack_208 {w : World} {p q : Nat} {r : List UInt8} (h : InS w p q (UInt8.ofNat 208 :: r) 0 (.slice none 0 0) false) (hr : r.length = 1) (m : Int) (hm0 : 0 ≤ m) (hm1 : m < 128) (v : Int) (hv : v = ofL r) (hv2 : v = 255 - m) :
    Calls Try.prog 37 #[.pointer (some ⟨p, 0, none⟩)] w fun e w' => e = .returned (.bool true) ∧ Took w w' p q (UInt8.ofNat 208 :: r) true m := by
  obtain ⟨l, hl⟩ : ∃ l, l = UInt8.ofNat 208 :: r := ⟨_, rfl⟩
  rw [← hl] at h ⊢
  have c0 := h.pb.cellv 0 _ rfl
  have c1 := h.pb.cellv 1 _ rfl
  have c2 := h.pb.cellv 2 _ rfl
  have c3 := h.pb.cellv 3 _ rfl
  have c4 := h.pb.cellv 4 _ rfl
  have q2 := h.qb.cellv 2 _ rfl
  have f1 := h.pb.frozen 1
  have HKEY := fun m => hide (key_any (h.drewN m))
  have HK0 := hide (key_any h)
  have HI := hide h
  have hll : l.length = 1 + 1 := by rw [hl, List.length_cons, hr]
  have hix := index_S (P := Try.prog) Try.underlying9 l 0 (by omega) 0 rfl 208 (by simp only [hl]; rfl)
  have hdr : (l.drop 1).take 1 = r := by rw [hl, List.drop_succ_cons, List.drop_zero, ← hr, List.take_length]
  have hsz := fun (W : World) (lv : Value) (d : Bool) (hW : InS W p q l 1 lv d) => size_any 1 1 1 1 rfl rfl hW (by omega) (by omega) (by omega) v (1 + 1) (by rw [hdr]; exact hv) rfl
  have HSZ2 := fun k => hide (hsz _ _ _ ((HI.out.drewN k).at 1))
  have HLL := hide hll
  have HV2 := hide hv2
  have hvb : (v / 128 == 1) = true := by rw [beq_iff_eq]; omega
  have hbits : bits .and .u64 (IntKind.u64.wrap (18446744073709551615 - v)) 255 = m := by
    obtain ⟨X, hX⟩ : ∃ X : Nat, (X : Int) = 18446744073709551615 - v := ⟨_, Int.toNat_of_nonneg (by omega)⟩
    have h1 : IntKind.u64.wrap (18446744073709551615 - v) = X := by rw [IntKind.wrap_u64]; omega
    have h2 := u64_and_mask X 8 (by omega) (by omega)
    have h3 : ((2 ^ 8 - 1 : Nat) : Int) = 255 := rfl
    rw [h1]
    rw [h3] at h2
    rw [h2]
    omega
  clear h hl hr hv hll hdr hsz hv2
  go_enter Try.func37, Try.ntmps37
  go_wp2_with fail
  go_quiet (fail)
  go_wp2_with fail
  (with_reducible refine (unhide (HKEY _)).mono ?_)
  rintro e1 w1 ⟨rfl, rfl⟩
  go_wp2_with fail
  go_quiet (fail)
  go_wp2_with fail
  (with_reducible refine (unhide (HSZ2 _)).mono ?_)
  rintro e2 w2 ⟨rfl, h2, ho2⟩
  have HPUT := hide (put_any h2 2 true m 0 (⟨#[]⟩ : ByteArray))
  have HO2 := hide ((((Only.of_below (below_drewN (Below.refl w.heap.size w) _) [p, q]).setCell (p := ⟨p, 1, none⟩) (by simp) _).trans (ho2.mono (by simp))))
  clear h2 ho2 HSZ2
  go_wp2_with fail
  (with_reducible refine (unhide HPUT).mono ?_)
  rintro e3 w3 ⟨rfl, a3, c3, h3, hs3, ho3⟩
  have hfin : Took w w3 p q l true m := ⟨a3, c3, by rw [HLL.out]; exact h3, hs3.mono HO2.out.size, HO2.out.trans (ho3.mono (by simp))⟩
  clear HPUT h3 hs3 ho3
  go_wp2_with fail
  go_ret
  exact ⟨rfl, hfin⟩
set_option maxRecDepth 100000 in
set_option maxHeartbeats 1000000 in
theorem pack_209 {w : World} {p q : Nat} {r : List UInt8} (h : InS w p q (UInt8.ofNat 209 :: r) 0 (.slice none 0 0) false) (hr : r.length = 2) (m : Int) (hm0 : 0 ≤ m) (hm1 : m < 32768) (v : Int) (hv : v = ofL r) (hv2 : v = 65535 - m) :
    Calls Try.prog 37 #[.pointer (some ⟨p, 0, none⟩)] w fun e w' => e = .returned (.bool true) ∧ Took w w' p q (UInt8.ofNat 209 :: r) true m := by
  obtain ⟨l, hl⟩ : ∃ l, l = UInt8.ofNat 209 :: r := ⟨_, rfl⟩
  rw [← hl] at h ⊢
  have c0 := h.pb.cellv 0 _ rfl
  have c1 := h.pb.cellv 1 _ rfl
  have c2 := h.pb.cellv 2 _ rfl
  have c3 := h.pb.cellv 3 _ rfl
  have c4 := h.pb.cellv 4 _ rfl
  have q2 := h.qb.cellv 2 _ rfl
  have f1 := h.pb.frozen 1
  have HKEY := fun m => hide (key_any (h.drewN m))
  have HK0 := hide (key_any h)
  have HI := hide h
  have hll : l.length = 2 + 1 := by rw [hl, List.length_cons, hr]
  have hix := index_S (P := Try.prog) Try.underlying9 l 0 (by omega) 0 rfl 209 (by simp only [hl]; rfl)
  have hdr : (l.drop 1).take 2 = r := by rw [hl, List.drop_succ_cons, List.drop_zero, ← hr, List.take_length]
  have hsz := fun (W : World) (lv : Value) (d : Bool) (hW : InS W p q l 1 lv d) => size_any 1 2 1 2 rfl rfl hW (by omega) (by omega) (by omega) v (2 + 1) (by rw [hdr]; exact hv) rfl
  have HSZ2 := fun k => hide (hsz _ _ _ ((HI.out.drewN k).at 1))
  have HLL := hide hll
  have HV2 := hide hv2
  have hvb : (v / 32768 == 1) = true := by rw [beq_iff_eq]; omega
  have hbits : bits .and .u64 (IntKind.u64.wrap (18446744073709551615 - v)) 65535 = m := by
    obtain ⟨X, hX⟩ : ∃ X : Nat, (X : Int) = 18446744073709551615 - v := ⟨_, Int.toNat_of_nonneg (by omega)⟩
    have h1 : IntKind.u64.wrap (18446744073709551615 - v) = X := by rw [IntKind.wrap_u64]; omega
    have h2 := u64_and_mask X 16 (by omega) (by omega)
    have h3 : ((2 ^ 16 - 1 : Nat) : Int) = 65535 := rfl
    rw [h1]
    rw [h3] at h2
    rw [h2]
    omega
  clear h hl hr hv hll hdr hsz hv2
  go_enter Try.func37, Try.ntmps37
  go_wp2_with fail
  go_quiet (fail)
  go_wp2_with fail
  (with_reducible refine (unhide (HKEY _)).mono ?_)
  rintro e1 w1 ⟨rfl, rfl⟩
  go_wp2_with fail
  go_quiet (fail)
  go_wp2_with fail
  (with_reducible refine (unhide (HSZ2 _)).mono ?_)
  rintro e2 w2 ⟨rfl, h2, ho2⟩
  have HPUT := hide (put_any h2 2 true m 0 (⟨#[]⟩ : ByteArray))
  have HO2 := hide ((((Only.of_below (below_drewN (Below.refl w.heap.size w) _) [p, q]).setCell (p := ⟨p, 1, none⟩) (by simp) _).trans (ho2.mono (by simp))))
  clear h2 ho2 HSZ2
  go_wp2_with fail
  (with_reducible refine (unhide HPUT).mono ?_)
  rintro e3 w3 ⟨rfl, a3, c3, h3, hs3, ho3⟩
  have hfin : Took w w3 p q l true m := ⟨a3, c3, by rw [HLL.out]; exact h3, hs3.mono HO2.out.size, HO2.out.trans (ho3.mono (by simp))⟩
  clear HPUT h3 hs3 ho3
  go_wp2_with fail
  go_ret
  exact ⟨rfl, hfin⟩
set_option maxRecDepth 100000 in
set_option maxHeartbeats 1000000 in
theorem pack_210 {w : World} {p q : Nat} {r : List UInt8} (h : InS w p q (UInt8.ofNat 210 :: r) 0 (.slice none 0 0) false) (hr : r.length = 4) (m : Int) (hm0 : 0 ≤ m) (hm1 : m < 2147483648) (v : Int) (hv : v = ofL r) (hv2 : v = 4294967295 - m) :
    Calls Try.prog 37 #[.pointer (some ⟨p, 0, none⟩)] w fun e w' => e = .returned (.bool true) ∧ Took w w' p q (UInt8.ofNat 210 :: r) true m := by
  obtain ⟨l, hl⟩ : ∃ l, l = UInt8.ofNat 210 :: r := ⟨_, rfl⟩
  rw [← hl] at h ⊢
  have c0 := h.pb.cellv 0 _ rfl
  have c1 := h.pb.cellv 1 _ rfl
  have c2 := h.pb.cellv 2 _ rfl
  have c3 := h.pb.cellv 3 _ rfl
  have c4 := h.pb.cellv 4 _ rfl
  have q2 := h.qb.cellv 2 _ rfl
  have f1 := h.pb.frozen 1
  have HKEY := fun m => hide (key_any (h.drewN m))
  have HK0 := hide (key_any h)
  have HI := hide h
  have hll : l.length = 4 + 1 := by rw [hl, List.length_cons, hr]
  have hix := index_S (P := Try.prog) Try.underlying9 l 0 (by omega) 0 rfl 210 (by simp only [hl]; rfl)
  have hdr : (l.drop 1).take 4 = r := by rw [hl, List.drop_succ_cons, List.drop_zero, ← hr, List.take_length]
  have hsz := fun (W : World) (lv : Value) (d : Bool) (hW : InS W p q l 1 lv d) => size_any 1 4 1 4 rfl rfl hW (by omega) (by omega) (by omega) v (4 + 1) (by rw [hdr]; exact hv) rfl
  have HSZ2 := fun k => hide (hsz _ _ _ ((HI.out.drewN k).at 1))
  have HLL := hide hll
  have HV2 := hide hv2
  have hvb : (v / 2147483648 == 1) = true := by rw [beq_iff_eq]; omega
  have hbits : bits .and .u64 (IntKind.u64.wrap (18446744073709551615 - v)) 4294967295 = m := by
    obtain ⟨X, hX⟩ : ∃ X : Nat, (X : Int) = 18446744073709551615 - v := ⟨_, Int.toNat_of_nonneg (by omega)⟩
    have h1 : IntKind.u64.wrap (18446744073709551615 - v) = X := by rw [IntKind.wrap_u64]; omega
    have h2 := u64_and_mask X 32 (by omega) (by omega)
    have h3 : ((2 ^ 32 - 1 : Nat) : Int) = 4294967295 := rfl
    rw [h1]
    rw [h3] at h2
    rw [h2]
    omega
  clear h hl hr hv hll hdr hsz hv2
  go_enter Try.func37, Try.ntmps37
  go_wp2_with fail
  go_quiet (fail)
  go_wp2_with fail
  (with_reducible refine (unhide (HKEY _)).mono ?_)
  rintro e1 w1 ⟨rfl, rfl⟩
  go_wp2_with fail
  go_quiet (fail)
  go_wp2_with fail
  (with_reducible refine (unhide (HSZ2 _)).mono ?_)
  rintro e2 w2 ⟨rfl, h2, ho2⟩
  have HPUT := hide (put_any h2 2 true m 0 (⟨#[]⟩ : ByteArray))
  have HO2 := hide ((((Only.of_below (below_drewN (Below.refl w.heap.size w) _) [p, q]).setCell (p := ⟨p, 1, none⟩) (by simp) _).trans (ho2.mono (by simp))))
  clear h2 ho2 HSZ2
  go_wp2_with fail
  (with_reducible refine (unhide HPUT).mono ?_)
  rintro e3 w3 ⟨rfl, a3, c3, h3, hs3, ho3⟩
  have hfin : Took w w3 p q l true m := ⟨a3, c3, by rw [HLL.out]; exact h3, hs3.mono HO2.out.size, HO2.out.trans (ho3.mono (by simp))⟩
  clear HPUT h3 hs3 ho3
  go_wp2_with fail
  go_ret
  exact ⟨rfl, hfin⟩
set_option maxRecDepth 100000 in
set_option maxHeartbeats 1000000 in
theorem pack_211 {w : World} {p q : Nat} {r : List UInt8} (h : InS w p q (UInt8.ofNat 211 :: r) 0 (.slice none 0 0) false) (hr : r.length = 8) (m : Int) (hm0 : 0 ≤ m) (hm1 : m < 9223372036854775808) (v : Int) (hv : v = ofL r) (hv2 : v = 18446744073709551615 - m) :
    Calls Try.prog 37 #[.pointer (some ⟨p, 0, none⟩)] w fun e w' => e = .returned (.bool true) ∧ Took w w' p q (UInt8.ofNat 211 :: r) true m := by
  obtain ⟨l, hl⟩ : ∃ l, l = UInt8.ofNat 211 :: r := ⟨_, rfl⟩
  rw [← hl] at h ⊢
  have c0 := h.pb.cellv 0 _ rfl
  have c1 := h.pb.cellv 1 _ rfl
  have c2 := h.pb.cellv 2 _ rfl
  have c3 := h.pb.cellv 3 _ rfl
  have c4 := h.pb.cellv 4 _ rfl
  have q2 := h.qb.cellv 2 _ rfl
  have f1 := h.pb.frozen 1
  have HKEY := fun m => hide (key_any (h.drewN m))
  have HK0 := hide (key_any h)
  have HI := hide h
  have hll : l.length = 8 + 1 := by rw [hl, List.length_cons, hr]
  have hix := index_S (P := Try.prog) Try.underlying9 l 0 (by omega) 0 rfl 211 (by simp only [hl]; rfl)
  have hdr : (l.drop 1).take 8 = r := by rw [hl, List.drop_succ_cons, List.drop_zero, ← hr, List.take_length]
  have hsz := fun (W : World) (lv : Value) (d : Bool) (hW : InS W p q l 1 lv d) => size_any 1 8 1 8 rfl rfl hW (by omega) (by omega) (by omega) v (8 + 1) (by rw [hdr]; exact hv) rfl
  have HSZ2 := fun k => hide (hsz _ _ _ ((HI.out.drewN k).at 1))
  have HLL := hide hll
  have HV2 := hide hv2
  have hvb : (v / 9223372036854775808 == 1) = true := by rw [beq_iff_eq]; omega
  have hbits : bits .and .u64 (IntKind.u64.wrap (18446744073709551615 - v)) 18446744073709551615 = m := by
    obtain ⟨X, hX⟩ : ∃ X : Nat, (X : Int) = 18446744073709551615 - v := ⟨_, Int.toNat_of_nonneg (by omega)⟩
    have h1 : IntKind.u64.wrap (18446744073709551615 - v) = X := by rw [IntKind.wrap_u64]; omega
    have h2 := u64_and_mask X 64 (by omega) (by omega)
    have h3 : ((2 ^ 64 - 1 : Nat) : Int) = 18446744073709551615 := rfl
    rw [h1]
    rw [h3] at h2
    rw [h2]
    omega
  clear h hl hr hv hll hdr hsz hv2
  go_enter Try.func37, Try.ntmps37
  go_wp2_with fail
  go_quiet (fail)
  go_wp2_with fail
  (with_reducible refine (unhide (HKEY _)).mono ?_)
  rintro e1 w1 ⟨rfl, rfl⟩
  go_wp2_with fail
  go_quiet (fail)
  go_wp2_with fail
  (with_reducible refine (unhide (HSZ2 _)).mono ?_)
  rintro e2 w2 ⟨rfl, h2, ho2⟩
  have HPUT := hide (put_any h2 2 true m 0 (⟨#[]⟩ : ByteArray))
  have HO2 := hide ((((Only.of_below (below_drewN (Below.refl w.heap.size w) _) [p, q]).setCell (p := ⟨p, 1, none⟩) (by simp) _).trans (ho2.mono (by simp))))
  clear h2 ho2 HSZ2
  go_wp2_with fail
  (with_reducible refine (unhide HPUT).mono ?_)
  rintro e3 w3 ⟨rfl, a3, c3, h3, hs3, ho3⟩
  have hfin : Took w w3 p q l true m := ⟨a3, c3, by rw [HLL.out]; exact h3, hs3.mono HO2.out.size, HO2.out.trans (ho3.mono (by simp))⟩
  clear HPUT h3 hs3 ho3
  go_wp2_with fail
  go_ret
  exact ⟨rfl, hfin⟩
set_option maxRecDepth 100000 in
set_option maxHeartbeats 1000000 in
theorem pack_small {w : World} {p q : Nat} (b : UInt8) (h : InS w p q [b] 0 (.slice none 0 0) false) (bi : Int) (hb : bi = b.toNat) (hbb : bi < 128) :
    Calls Try.prog 37 #[.pointer (some ⟨p, 0, none⟩)] w fun e w' => e = .returned (.bool true) ∧ Took w w' p q [b] false bi := by
  obtain ⟨l, hl⟩ : ∃ l, l = [b] := ⟨_, rfl⟩
  rw [← hl] at h ⊢
  have c0 := h.pb.cellv 0 _ rfl
  have c1 := h.pb.cellv 1 _ rfl
  have c2 := h.pb.cellv 2 _ rfl
  have c3 := h.pb.cellv 3 _ rfl
  have c4 := h.pb.cellv 4 _ rfl
  have q2 := h.qb.cellv 2 _ rfl
  have f1 := h.pb.frozen 1
  have HKEY := fun m => hide (key_any (h.drewN m))
  have HK0 := hide (key_any h)
  have HI := hide h
  have hll : l.length = 1 := by rw [hl]; rfl
  have hix := index_S (P := Try.prog) Try.underlying9 l 0 (by omega) 0 rfl bi (by simp only [hl]; exact hb)
  have HLL := hide hll
  have hb0 : 0 ≤ bi := by omega
  have hb1 : bi ≤ 255 := by have := b.toNat_lt; omega
  have k1 : decide (160 ≤ bi) = false := decide_eq_false (by omega)
  have k2 : decide (217 ≤ bi) = false := decide_eq_false (by omega)
  have k3 : decide (128 ≤ bi) = false := decide_eq_false (by omega)
  have k4 : decide (220 ≤ bi) = false := decide_eq_false (by omega)
  have k5 : (bi == 193) = false := by rw [beq_eq_false_iff_ne]; omega
  have k6 : decide (199 ≤ bi) = false := decide_eq_false (by omega)
  have k7 : decide (212 ≤ bi) = false := decide_eq_false (by omega)
  have k8 : (bi == 202) = false := by rw [beq_eq_false_iff_ne]; omega
  have k9 : (bi == 203) = false := by rw [beq_eq_false_iff_ne]; omega
  have k10 : decide (bi < 128) = true := decide_eq_true (by omega)
  have HAT := fun k => hide ((h.drewN k).at 1)
  have HPUT := fun k => hide (put_any (HAT k).out 2 false bi 0 (⟨#[]⟩ : ByteArray))
  clear h hl hb hll
  go_enter Try.func37, Try.ntmps37
  go_wp2_with fail
  go_quiet (fail)
  go_wp2_with fail
  (with_reducible refine (unhide (HKEY _)).mono ?_)
  rintro e1 w1 ⟨rfl, rfl⟩
  go_wp2_with fail
  go_quiet (fail)
  go_wp2_with fail
  (with_reducible refine (unhide (HPUT _)).mono ?_)
  rintro e3 w3 ⟨rfl, a3, c3, h3, hs3, ho3⟩
  have ho2 : ∀ k, Only [p, q] w ((w.drewN k).setCell ⟨p, 1, none⟩ (.int .i64 1)) := fun k => (Only.of_below (below_drewN (Below.refl w.heap.size w) k) [p, q]).setCell (p := ⟨p, 1, none⟩) (by simp) _
  have hfin : Took w w3 p q l false bi := ⟨a3, c3, by rw [HLL.out]; exact h3, hs3.mono (ho2 _).size, (ho2 _).trans (ho3.mono (by simp))⟩
  clear HPUT h3 hs3 ho3
  go_wp2_with fail
  go_ret
  exact ⟨rfl, hfin⟩
set_option maxRecDepth 100000 in
set_option maxHeartbeats 1000000 in
theorem pack_minus {w : World} {p q : Nat} (b : UInt8) (h : InS w p q [b] 0 (.slice none 0 0) false) (bi : Int) (hb : bi = b.toNat) (hbb : 224 ≤ bi) :
    Calls Try.prog 37 #[.pointer (some ⟨p, 0, none⟩)] w fun e w' => e = .returned (.bool true) ∧ Took w w' p q [b] true (255 - bi) := by
  obtain ⟨l, hl⟩ : ∃ l, l = [b] := ⟨_, rfl⟩
  rw [← hl] at h ⊢
  have c0 := h.pb.cellv 0 _ rfl
  have c1 := h.pb.cellv 1 _ rfl
  have c2 := h.pb.cellv 2 _ rfl
  have c3 := h.pb.cellv 3 _ rfl
  have c4 := h.pb.cellv 4 _ rfl
  have q2 := h.qb.cellv 2 _ rfl
  have f1 := h.pb.frozen 1
  have HKEY := fun m => hide (key_any (h.drewN m))
  have HK0 := hide (key_any h)
  have HI := hide h
  have hll : l.length = 1 := by rw [hl]; rfl
  have hix := index_S (P := Try.prog) Try.underlying9 l 0 (by omega) 0 rfl bi (by simp only [hl]; exact hb)
  have HLL := hide hll
  have hb0 : 0 ≤ bi := by omega
  have hb1 : bi ≤ 255 := by have := b.toNat_lt; omega
  have k1 : decide (160 ≤ bi) = true := decide_eq_true (by omega)
  have k1b : decide (bi ≤ 191) = false := decide_eq_false (by omega)
  have k2 : decide (217 ≤ bi) = true := decide_eq_true (by omega)
  have k2b : decide (bi ≤ 219) = false := decide_eq_false (by omega)
  have k3 : decide (128 ≤ bi) = true := decide_eq_true (by omega)
  have k3b : decide (bi ≤ 159) = false := decide_eq_false (by omega)
  have k4 : decide (220 ≤ bi) = true := decide_eq_true (by omega)
  have k4b : decide (bi ≤ 223) = false := decide_eq_false (by omega)
  have k5 : (bi == 193) = false := by rw [beq_eq_false_iff_ne]; omega
  have k6 : decide (199 ≤ bi) = true := decide_eq_true (by omega)
  have k6b : decide (bi ≤ 201) = false := decide_eq_false (by omega)
  have k7 : decide (212 ≤ bi) = true := decide_eq_true (by omega)
  have k7b : decide (bi ≤ 216) = false := decide_eq_false (by omega)
  have k8 : (bi == 202) = false := by rw [beq_eq_false_iff_ne]; omega
  have k9 : (bi == 203) = false := by rw [beq_eq_false_iff_ne]; omega
  have k10 : decide (bi < 128) = false := decide_eq_false (by omega)
  have k11 : decide (224 ≤ bi) = true := decide_eq_true (by omega)
  have HAT := fun k => hide ((h.drewN k).at 1)
  have HPUT := fun k => hide (put_any (HAT k).out 2 true (255 - bi) 0 (⟨#[]⟩ : ByteArray))
  clear h hl hb hll
  go_enter Try.func37, Try.ntmps37
  go_wp2_with fail
  go_quiet (fail)
  go_wp2_with fail
  (with_reducible refine (unhide (HKEY _)).mono ?_)
  rintro e1 w1 ⟨rfl, rfl⟩
  go_wp2_with fail
  go_quiet (fail)
  go_wp2_with fail
  (with_reducible refine (unhide (HPUT _)).mono ?_)
  rintro e3 w3 ⟨rfl, a3, c3, h3, hs3, ho3⟩
  have ho2 : ∀ k, Only [p, q] w ((w.drewN k).setCell ⟨p, 1, none⟩ (.int .i64 1)) := fun k => (Only.of_below (below_drewN (Below.refl w.heap.size w) k) [p, q]).setCell (p := ⟨p, 1, none⟩) (by simp) _
  have hfin : Took w w3 p q l true (255 - bi) := ⟨a3, c3, by rw [HLL.out]; exact h3, hs3.mono (ho2 _).size, (ho2 _).trans (ho3.mono (by simp))⟩
  clear HPUT h3 hs3 ho3
  go_wp2_with fail
  go_ret
  exact ⟨rfl, hfin⟩
end Go.Proofs.Yteggfobeaolafaa
