/-
  Strings as lists of bytes: one byte, and a piece.
-/
import Derived.Test.YteggfobeaolafaaWords
import Derived.Laws.Strings2
namespace Go.Proofs.Yteggfobeaolafaa
open Go.RowKit

theorem index_S {P : Program} {t : TypeId} (ht : P.underlying t = some .string) (l : List UInt8) (k : Nat) (hk : k < l.length) (ki : Int) (hki : ki = k) (b : Int) (hb : b = (l[k].toNat : Int)) (w : World) :
    (Instr.index t (.string (S l)) (.int .i64 ki)).run P w = .ok (.int .u8 b) w := by
  subst hki hb
  rw [run_index_string w t (S l) .i64 (k : Int) ht, dif_pos ⟨by omega, by rw [S_size]; omega⟩]
  rfl
theorem slice_mid {P : Program} {t : TypeId} (ht : P.underlying t = some .string) (l : List UInt8) (a b : Nat) (hab : a ≤ b) (hb : b ≤ l.length) (ai bi : Int) (hai : ai = a) (hbi : bi = b) (r : List UInt8) (hr : r = (l.drop a).take (b - a)) (w : World) :
    (Instr.slice t (.string (S l)) (some (.int .i64 ai)) (some (.int .i64 bi)) none).run P w = .ok (.string (S r)) w := by
  subst hai hbi hr
  have h := run_slice_string (P := P) w t (S l) .i64 .i64 (a : Int) (b : Int) ht (by omega) (by omega) (by rw [S_size]; omega)
  rw [h, S_extract]
  simp
theorem slice_to_at {P : Program} {t : TypeId} (ht : P.underlying t = some .string) (l : List UInt8) (k : Nat) (hk : k ≤ l.length) (ki : Int) (hki : ki = k) (r : List UInt8) (hr : r = l.take k) (w : World) :
    (Instr.slice t (.string (S l)) none (some (.int .i64 ki)) none).run P w = .ok (.string (S r)) w := by
  subst hki hr
  exact slice_to ht l k hk w
theorem slice_from_at {P : Program} {t : TypeId} (ht : P.underlying t = some .string) (l : List UInt8) (k : Nat) (hk : k ≤ l.length) (ki : Int) (hki : ki = k) (r : List UInt8) (hr : r = l.drop k) (w : World) :
    (Instr.slice t (.string (S l)) (some (.int .i64 ki)) none none).run P w = .ok (.string (S r)) w := by
  subst hki hr
  exact slice_from ht l k hk w
theorem slice_one {P : Program} {t : TypeId} (ht : P.underlying t = some .string) (l : List UInt8) (k : Nat) (hk : k < l.length) (ki kj : Int) (hki : ki = k) (hkj : kj = k + 1) (b : UInt8) (hb : b = l[k]) (w : World) :
    (Instr.slice t (.string (S l)) (some (.int .i64 ki)) (some (.int .i64 kj)) none).run P w = .ok (.string (S [b])) w := by
  refine slice_mid ht l k (k + 1) (by omega) (by omega) ki kj hki (by rw [hkj]; push_cast; rfl) [b] ?_ w
  rw [hb, List.drop_eq_getElem_cons hk, show k + 1 - k = 0 + 1 by omega, List.take_succ_cons, List.take_zero]
end Go.Proofs.Yteggfobeaolafaa
