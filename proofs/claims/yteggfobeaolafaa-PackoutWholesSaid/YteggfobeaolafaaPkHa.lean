/-
  The contracts of package head: numbers as big bytes, the shortest head, and a head that comes byte by byte.
-/
import Derived.Test.YteggfobeaolafaaRows
import Derived.Test.YteggfobeaolafaaWords
import Derived.Test.YteggfobeaolafaaDraw
import Derived.Test.YteggfobeaolafaaArgs
import Derived.Deep.Cut
namespace Go.Proofs.Yteggfobeaolafaa
open Go.RowKit

/-- A number's last bytes, the highest first. -/
def bigL (v : Nat) : Nat → List UInt8
  | 0 => []
  | n + 1 => UInt8.ofNat (v / 2 ^ (8 * n)) :: bigL v n
@[simp] theorem bigL_length (v n : Nat) : (bigL v n).length = n := by
  induction n with
  | zero => rfl
  | succ n ih => simp [bigL, ih]

theorem byte_val (x : Nat) : ((UInt8.ofNat x).toNat : Int) = (x : Int) % 256 := by simp
theorem big_fill (v n j : Nat) (h : j < n) : (List.replicate (n - j) (0 : UInt8) ++ bigL v j).set (n - 1 - j) (UInt8.ofNat (v / 2 ^ (8 * j))) = List.replicate (n - (j + 1)) 0 ++ bigL v (j + 1) := by
  obtain ⟨m, rfl⟩ : ∃ m, n = m + 1 + j := ⟨n - 1 - j, by omega⟩
  rw [show m + 1 + j - j = m + 1 by omega, show m + 1 + j - 1 - j = m by omega, show m + 1 + j - (j + 1) = m by omega, List.replicate_succ', List.append_assoc, List.set_append_right _ _ (by simp)]
  simp [bigL]

theorem i64_and7 (z : Int) : bits .and .i64 z 7 = z % 8 := by
  have h7 : (BitVec.ofInt 64 z &&& BitVec.ofInt 64 (7 : Int)).toNat = (z % 8).toNat := by
    rw [BitVec.toNat_and, show (BitVec.ofInt 64 (7 : Int)).toNat = 2 ^ 3 - 1 from rfl, Nat.and_two_pow_sub_one_eq_mod, BitVec.toNat_ofInt]
    omega
  show IntKind.i64.wrap ((BitVec.ofInt 64 z &&& BitVec.ofInt 64 (7 : Int)).toNat : Int) = _
  rw [h7, IntWalk.i64_in _ ⟨by omega, by omega⟩]
  omega

set_option maxRecDepth 100000 in
theorem big_any (v n : Nat) (h1 : 1 ≤ n) (h2 : n ≤ 8) (w : World) :
    Calls Try.prog 40 #[.int .u64 v, .int .i64 n] w fun e w' => e = .returned (.string (S (bigL v n))) ∧ Only [] w w' := by
  obtain ⟨ci, hci⟩ : ∃ ci, ci = (List.replicate n (Value.int .u8 0)).toArray := ⟨_, rfl⟩
  have info8 : (Try.prog.info? 5).map (fun i => (i.zero, i.size, i.bytes)) = some (some (.int .u8 0), 1, 1) := by kernel_rfl
  have hm1 := run_make_cells (P := Try.prog) Try.underlying59 (.int .u8 0) 1 info8 rfl n n rfl (by omega) (by omega)
  rw [← hci] at hm1
  have Hci := hide hci
  clear hci
  go_enter Try.func40, Try.ntmps40
  go_wp2_with fail
  go_loopg [17] n (fun g i wr => ∃ j : Nat, i = .int .i64 j ∧ j + g = n ∧ Blk wr w.heap.size 5 (bytesV (List.replicate (n - j) 0 ++ bigL v j)) ∧ Below w.heap.size w wr)
  case atStart => 
    refine ⟨0, rfl, by omega, ?_, (Below.refl _ _).alloc (Nat.le_refl _) _⟩
    have := Blk.new w 5 ci
    rw [Hci.out] at this ⊢
    simpa [bytesV, bigL] using this
  case round =>
    obtain ⟨j, rfl, hj, hbl, ho⟩ := hrel
    by_cases hlt : j < n
    · have fz := hbl.frozen (n - 1 - j)
      have cz := hbl.cellv (n - 1 - j) (.int .u8 0) (by
        rw [bytesV_get, List.getElem?_append_left (by simp; omega), List.getElem?_replicate, if_pos (by omega)]
        rfl)
      have hs := hbl.set_ (n - 1 - j) (.int .u8 ((UInt8.ofNat (v / 2 ^ (8 * j))).toNat : Int))
      rw [bytesV_set, big_fill v n j hlt, byte_val] at hs
      have Hs := hide hs
      clear hs
      go_wp2_with fail
      go_roundg (gk - 1)
      case measure => omega
      case rel => 
        refine ⟨j + 1, by go_num, by omega, ?_, ho.setCell (Nat.le_refl _) _⟩
        have := Hs.out
        push_cast at this
        exact this
    · have hjn : j = n := by omega
      subst hjn
      rw [Nat.sub_self, List.replicate_zero, List.nil_append] at hbl
      have hstr := run_string_blk (P := Try.prog) Try.underlying59 Try.underlying5 Try.underlying9 hbl j j (by simp)
      go_wp2_with fail
      go_ret
      exact ⟨rfl, Only.of_below ho _⟩

theorem big_at (vi ni : Int) (v n : Nat) (hvi : vi = v) (hni : ni = n) (h1 : 1 ≤ n) (h2 : n ≤ 8) (l : List UInt8) (hl : l = bigL v n) (w : World) :
    Calls Try.prog 40 #[.int .u64 vi, .int .i64 ni] w fun e w' => e = .returned (.string (S l)) ∧ Only [] w w' := by
  subst hvi hni hl
  exact big_any v n h1 h2 w

set_option maxRecDepth 100000 in
theorem big_no (v : Int) (n : Int) (h : n < 1 ∨ 8 < n) (w : World) :
    Calls Try.prog 40 #[.int .u64 v, .int .i64 n] w fun e w' => e = .returned (.string (S [])) ∧ w' = w := by
  by_cases h1 : n < 1
  · go_enter Try.func40, Try.ntmps40
    go_wp2
    go_ret
    exact ⟨rfl, rfl⟩
  have h2 : 8 < n := by omega
  go_enter Try.func40, Try.ntmps40
  go_wp2
  go_ret
  exact ⟨rfl, rfl⟩

/-- The shortest head. -/
def putL (major : Int) (v : Nat) : List UInt8 :=
  if v < 24 then bigL ((major % 8).toNat * 32 + v) 1
  else if v < 256 then bigL ((major % 8).toNat * 32 + 24) 1 ++ bigL v 1
  else if v < 65536 then bigL ((major % 8).toNat * 32 + 25) 1 ++ bigL v 2
  else if v < 4294967296 then bigL ((major % 8).toNat * 32 + 26) 1 ++ bigL v 4
  else bigL ((major % 8).toNat * 32 + 27) 1 ++ bigL v 8

theorem u64_or (m b : Nat) (hm : m < 8) (hb : b < 32) : bits .or .u64 ((m : Int) * 32) (b : Int) = ((m * 32 + b : Nat) : Int) := by
  have e1 : (BitVec.ofInt 64 ((m : Int) * 32)) = BitVec.ofNat 64 (m * 32) := by rw [show (m : Int) * 32 = ((m * 32 : Nat) : Int) by push_cast; rfl, BitVec.ofInt_natCast]
  have e2 : (BitVec.ofInt 64 ((m : Int) * 32) ||| BitVec.ofInt 64 (b : Int)).toNat = m * 32 + b := by
    rw [e1, BitVec.ofInt_natCast, BitVec.toNat_or, BitVec.toNat_ofNat, BitVec.toNat_ofNat, Nat.mod_eq_of_lt (by omega), Nat.mod_eq_of_lt (by omega)]
    have := Nat.shiftLeft_add_eq_or_of_lt (i := 5) (b := b) hb m
    rw [Nat.shiftLeft_eq, show 2 ^ 5 = 32 from rfl] at this
    omega
  show IntKind.u64.wrap ((BitVec.ofInt 64 ((m : Int) * 32) ||| BitVec.ofInt 64 (b : Int)).toNat : Int) = _
  rw [e2, IntKind.wrap_u64]
  omega

end Go.Proofs.Yteggfobeaolafaa
