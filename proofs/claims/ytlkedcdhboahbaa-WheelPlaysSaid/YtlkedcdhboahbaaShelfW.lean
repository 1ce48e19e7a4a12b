/-
  The library's contracts for slices.Clone and slices.Delete of []int at this translation (each one application of a theorem of the library); slices.Index and slices.Contains, walked.
-/
import Derived.Shelf.Slices.Clone
import Derived.Shelf.Slices.Delete
import Derived.Shelf.Slices.Cells
import Derived.Test.YtlkedcdhboahbaaRows
import Derived.Test.YtlkedcdhboahbaaSl
namespace Go.Proofs.Ytlkedcdhboahbaa
open Go.Shelf Go.RowKit Go.Lib

def ren15 : Go.Shelf.Ren := ⟨fun | 15 => 22 | n => n, fun | 3 => 3 | 4 => 4 | 22 => 26 | n => n, fun n => n⟩
theorem lays15 : Go.Proofs.Lays2.n15 Try.prog ren15 := {
  mixed := by kernel_rfl
  f15 := Try.func22.trans (congrArg some (by kernel_rfl))
  t3 := Try.underlying3
  a3 := Try.isAgg3
  z3 := Try.sizeOf3
  v3 := Try.zeroValue3
  t4 := Try.underlying4
  a4 := Try.isAgg4
  z4 := Try.sizeOf4
  v4 := Try.zeroValue4
  t22 := Try.underlying26
  a22 := Try.isAgg26
  z22 := Try.sizeOf26
  v22 := Try.zeroValue26
  i3 := by kernel_rfl }
def ren23 : Go.Shelf.Ren := ⟨fun | 23 => 21 | n => n, fun | 0 => 0 | 3 => 3 | 4 => 4 | 22 => 26 | n => n, fun n => n⟩
theorem lays23 : Go.Proofs.Lays2.n23 Try.prog ren23 := {
  mixed := by kernel_rfl
  f23 := Try.func21.trans (congrArg some (by kernel_rfl))
  t0 := Try.underlying0
  a0 := Try.isAgg0
  z0 := Try.sizeOf0
  v0 := Try.zeroValue0
  t3 := Try.underlying3
  a3 := Try.isAgg3
  z3 := Try.sizeOf3
  v3 := Try.zeroValue3
  t4 := Try.underlying4
  a4 := Try.isAgg4
  z4 := Try.sizeOf4
  v4 := Try.zeroValue4
  t22 := Try.underlying26
  a22 := Try.isAgg26
  z22 := Try.sizeOf26
  v22 := Try.zeroValue26
  i3 := by kernel_rfl }
theorem clone_some (b off n c : Nat) (zs : List Int) (w : World) (hz : n ≤ zs.length) (hbig : n * 8 ≤ 140737488355328) (hc : ∀ j, j < zs.length → w.cell? ⟨b, off + j, none⟩ = some (.int .i64 (zs.getD j 0))) :
    Calls Try.prog 22 #[.slice (some ⟨b, off, none⟩) n c] w fun e w' => ∃ v', e = .returned v' ∧ w'.ownsRow w.heap.size 3 1 v' n ((zs.take n).map (Value.int .i64)) ∧ v' ≠ .slice none 0 0 ∧ Below w.heap.size w w' := Any.slices_Clone_int lays15 b off n c zs w hz hbig hc
theorem clone_nil (n c : Nat) (w : World) :
    Calls Try.prog 22 #[.slice none n c] w fun e w' => e = .returned (.slice none 0 0) ∧ w' = w := Any.slices_Clone_int_nil lays15 n c w
theorem delete_cells (b off n c i j : Nat) (zs : List Int) (w : World) (hz : n ≤ zs.length) (hcap : n ≤ c) (hm : c ≤ 9223372036854775807) (hij : i ≤ j) (hj : j ≤ n) (hc : ∀ j, j < zs.length → w.cell? ⟨b, off + j, none⟩ = some (.int .i64 (zs.getD j 0))) (hf : ∀ j, j < n → w.frozen? ⟨b, off + j, none⟩ = false) :
    Calls Try.prog 21 #[.slice (some ⟨b, off, none⟩) n c, .int .i64 i, .int .i64 j] w fun e w' => e = .returned (.slice (some ⟨b, off, none⟩) (n - (j - i)) c) ∧ ∃ q, w' = (w.drewN q).setCells b off (((zs.take n).take i ++ (zs.take n).drop j ++ List.replicate (j - i) 0).map (Value.int .i64)) := Any.slices_Delete_int_cells lays23 b off n c i j zs w hz hcap hm hij hj hc hf

/-- Where x first stands. -/
def idxI (L : List Int) (x : Int) : Int := if x ∈ L then (L.idxOf x : Int) else -1
theorem index_empty (a : Option Addr) (c : Nat) (x : Int) (w : World) : Calls Try.prog 20 #[.slice a 0 c, .int .i64 x] w fun e w' => e = .returned (.int .i64 (-1)) ∧ w' = w := by
  go_enter Try.func20, Try.ntmps20
  go_wp2_with fail
  go_loopg [5, 8] 1 (fun g s5 s8 wr => s8 = .int .i64 0 ∧ wr = w)
  case atStart => exact ⟨rfl, rfl⟩
  case round =>
    obtain ⟨rfl, rfl⟩ := hrel
    go_wp2_with fail
    go_ret
    exact ⟨rfl, rfl⟩
theorem index_some (g off c : Nat) (L : List Int) (x : Int) (w : World) (hl : L.length ≤ 1000000) (hc : ∀ j (hj : j < L.length), w.cell? ⟨g, off + j, none⟩ = some (.int .i64 L[j])) (r : Int) (hr : r = idxI L x) :
    Calls Try.prog 20 #[.slice (some ⟨g, off, none⟩) L.length c, .int .i64 x] w fun e w' => e = .returned (.int .i64 r) ∧ w' = w := by
  have HC := hide hc
  have HR := hide hr
  clear hc hr
  go_enter Try.func20, Try.ntmps20
  go_wp2_with fail
  go_loopg [5, 8] L.length (fun gg s5 s8 wr => ∃ j : Nat, s8 = .int .i64 j ∧ j + gg = L.length ∧ wr = w ∧ Hid (∀ i (hi : i < L.length), i < j → L[i] ≠ x))
  case atStart => exact ⟨0, rfl, by omega, rfl, fun i hi h => by omega⟩
  case round =>
    obtain ⟨j, rfl, hj, rfl, hno⟩ := hrel
    by_cases hlt : j < L.length
    · have hjl : (j : Int) < L.length := by omega
      obtain ⟨y, hy⟩ : ∃ y, y = L[j] := ⟨_, rfl⟩
      have cz := HC.out j hlt
      rw [← hy] at cz
      by_cases hxy : x = y
      · have hidx : r = j := by
          rw [HR.out, idxI, if_pos (by rw [hxy, hy]; exact List.getElem_mem _)]
          have h1 : L.idxOf x = j := by
            have hlt2 : L.idxOf x < L.length := List.idxOf_lt_length_iff.2 (by rw [hxy, hy]; exact List.getElem_mem _)
            have hget : L[L.idxOf x] = x := List.getElem_idxOf hlt2
            rcases Nat.lt_trichotomy (L.idxOf x) j with h | h | h
            · exact absurd hget (hno.out _ hlt2 h)
            · exact h
            · have := List.not_of_lt_findIdx (p := (· == x)) (xs := L) (i := j) h
              simp [← hy, hxy] at this
          rw [h1]
        subst hxy hidx
        clear hy
        go_wp2_with fail
        go_ret
        exact ⟨rfl, rfl⟩
      · have hb : (x == y) = false := by simpa using hxy
        have hno2 : Hid (∀ i (hi : i < L.length), i < j + 1 → L[i] ≠ x) := fun i hi h => by
          by_cases hij : i = j
          · subst hij; rw [← hy]; exact fun e => hxy e.symm
          · exact hno.out i hi (by omega)
        clear hy hxy
        go_wp2_with fail
        go_roundg (gk - 1)
        case measure => omega
        case rel => exact ⟨j + 1, by go_num, by omega, rfl, hno2⟩
    · have hnm : r = -1 := by
        rw [HR.out, idxI, if_neg (fun hm => by
          obtain ⟨i, hi, he⟩ := List.getElem_of_mem hm
          exact hno.out i hi (by omega) he)]
      subst hnm
      go_wp2_with fail
      go_ret
      exact ⟨rfl, rfl⟩
end Go.Proofs.Ytlkedcdhboahbaa
