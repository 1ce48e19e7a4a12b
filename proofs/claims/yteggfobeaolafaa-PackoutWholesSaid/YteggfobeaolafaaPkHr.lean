/-
  The document's own heads (truchmanref1.Big, truchmanref1.Head): the same lists of bytes as package head's.
-/
import Derived.Test.YteggfobeaolafaaPkHa
namespace Go.Proofs.Yteggfobeaolafaa
open Go.RowKit Instr

theorem run_string_one {P : Program} {src dst e : TypeId} (hs : P.underlying src = some (.slice e)) (he : P.underlying e = some (.int .u8)) (hd : P.underlying dst = some .string)
    (x : Nat) (hx : x < 256) (xi : Int) (hxi : xi = x) (W : World) (g : Nat) (h : W.cell? ⟨g, 0, none⟩ = some (.int .u8 xi)) :
    (convert src dst (.slice (some ⟨g, 0, none⟩) 1 1)).run P W = Result.ok (.string (S (bigL x 1))) W := by
  refine run_string_at hs he hd W ⟨g, 0, none⟩ 1 1 (bigL x 1) (by simp) (fun j u hu => ?_)
  cases j with
  | zero =>
    have e1 : (⟨g, 0, none⟩ : Addr).add 0 = ⟨g, 0, none⟩ := rfl
    rw [e1, h]
    simp [bigL, u8s] at hu
    rw [← hu, hxi]
    congr 2
    omega
  | succ j => simp [bigL, u8s] at hu

theorem u64_and255 (x : Nat) : bits .and .u64 (x : Int) 255 = (x : Int) % 256 := by
  have h7 : (BitVec.ofInt 64 (x : Int) &&& BitVec.ofInt 64 (255 : Int)).toNat = x % 256 := by
    rw [BitVec.toNat_and, show (BitVec.ofInt 64 (255 : Int)).toNat = 2 ^ 8 - 1 from rfl, Nat.and_two_pow_sub_one_eq_mod, BitVec.ofInt_natCast, BitVec.toNat_ofNat]
    omega
  show IntKind.u64.wrap ((BitVec.ofInt 64 (x : Int) &&& BitVec.ofInt 64 (255 : Int)).toNat : Int) = _
  rw [h7, IntKind.wrap_u64]
  omega

theorem pow8' (k : Nat) : (2 : Nat) ^ (8 * k) = 256 ^ k := by rw [Nat.pow_mul]

set_option maxRecDepth 100000 in
theorem refbig_any (v n : Nat) (h1 : 1 ≤ n) (h2 : n ≤ 8) (hv : Hid (v < 18446744073709551616)) (w : World) :
    Calls Try.prog 42 #[.int .u64 v, .int .i64 n] w fun e w' => e = .returned (.string (S (bigL v n))) ∧ Only [] w w' := by
  obtain ⟨ci, hci⟩ : ∃ ci, ci = (List.replicate n (Value.int .u8 0)).toArray := ⟨_, rfl⟩
  have info8 : (Try.prog.info? 5).map (fun i => (i.zero, i.size, i.bytes)) = some (some (.int .u8 0), 1, 1) := by kernel_rfl
  have hm1 := run_make_cells (P := Try.prog) Try.underlying59 (.int .u8 0) 1 info8 rfl n n rfl (by omega) (by omega)
  rw [← hci] at hm1
  have Hci := hide hci
  clear hci
  go_enter Try.func42, Try.ntmps42
  go_wp2_with fail
  go_loopg [0, 6] n (fun g s0 i wr => ∃ (j x : Nat), Hid (x = v / 256 ^ j) ∧ s0 = .int .u64 x ∧ i = .int .i64 (n - 1 - j) ∧ j + g = n ∧ Blk wr w.heap.size 5 (bytesV (List.replicate (n - j) 0 ++ bigL v j)) ∧ Below w.heap.size w wr)
  case atStart => 
    refine ⟨0, v, by show v = _; simp, rfl, by simp, by omega, ?_, (Below.refl _ _).alloc (Nat.le_refl _) _⟩
    have := Blk.new w 5 ci
    rw [Hci.out] at this ⊢
    simpa [bytesV, bigL] using this
  case round =>
    obtain ⟨j, x, hx, rfl, rfl, hj, hbl, ho⟩ := hrel
    by_cases hlt : j < n
    · have fz := hbl.frozen (n - 1 - j)
      have cz := hbl.cellv (n - 1 - j) (.int .u8 0) (by
        rw [bytesV_get, List.getElem?_append_left (by simp; omega), List.getElem?_replicate, if_pos (by omega)]
        rfl)
      have hs := hbl.set_ (n - 1 - j) (.int .u8 ((UInt8.ofNat (v / 2 ^ (8 * j))).toNat : Int))
      rw [bytesV_set, big_fill v n j hlt, byte_val, pow8', ← hx.out] at hs
      have Hs := hide hs
      have hand := u64_and255 x
      have hwr : IntKind.u8.wrap ((x : Int) % 256) = (x : Int) % 256 := by rw [IntKind.wrap_u8]; omega
      have hnat : ((n : Int) - 1 - j).toNat = n - 1 - j := by omega
      have hq : IntKind.u64.wrap ((x : Int) / 256) = (x : Int) / 256 := by
        have h1 := hv.out
        have h2 := hx.out
        have h3 : v / 256 ^ j ≤ v := Nat.div_le_self _ _
        rw [IntKind.wrap_u64]; omega
      have hx2 : Hid (x / 256 = v / 256 ^ (j + 1)) := by show x / 256 = _; rw [hx.out, Nat.div_div_eq_div_mul, Nat.pow_succ]
      clear hs
      go_wp2_with fail
      go_roundg (gk - 1)
      case measure => omega
      case rel => 
        refine ⟨j + 1, x / 256, hx2, by go_num, by go_num, by omega, ?_, ho.setCell (Nat.le_refl _) _⟩
        exact Hs.out
    · have hjn : j = n := by omega
      subst hjn
      rw [Nat.sub_self, List.replicate_zero, List.nil_append] at hbl
      have hstr := run_string_blk (P := Try.prog) Try.underlying59 Try.underlying5 Try.underlying9 hbl j j (by simp)
      go_wp2_with fail
      go_ret
      exact ⟨rfl, Only.of_below ho _⟩
set_option maxRecDepth 100000 in
theorem refbig_no (v : Int) (n : Int) (h : n < 1 ∨ 8 < n) (w : World) :
    Calls Try.prog 42 #[.int .u64 v, .int .i64 n] w fun e w' => e = .returned (.string (S [])) ∧ w' = w := by
  by_cases h1 : n < 1
  · go_enter Try.func42, Try.ntmps42
    go_wp2
    go_ret
    exact ⟨rfl, rfl⟩
  have h2 : 8 < n := by omega
  go_enter Try.func42, Try.ntmps42
  go_wp2
  go_ret
  exact ⟨rfl, rfl⟩
theorem refbig_at (vi ni : Int) (v n : Nat) (hvi : vi = v) (hni : ni = n) (h1 : 1 ≤ n) (h2 : n ≤ 8) (hv : Hid (v < 18446744073709551616)) (l : List UInt8) (hl : l = bigL v n) (w : World) :
    Calls Try.prog 42 #[.int .u64 vi, .int .i64 ni] w fun e w' => e = .returned (.string (S l)) ∧ Only [] w w' := by
  subst hvi hni hl
  exact refbig_any v n h1 h2 hv w

end Go.Proofs.Yteggfobeaolafaa
