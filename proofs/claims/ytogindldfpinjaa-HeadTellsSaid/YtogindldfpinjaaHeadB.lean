/-
  A head that comes byte by byte.
-/
import Derived.Test.YtogindldfpinjaaHeadA
namespace Go.Proofs.Ytogindldfpinjaa
open Go.RowKit

structure HSt where
  begun : Bool
  en : Bool
  op : Bool
  major : Int
  lack : Int
  v : Nat
  e : Int
def HSt.zero : HSt := ⟨false, false, false, 0, 0, 0, 0⟩
def HSt.cells (h : HSt) : Array Value := #[.bool h.begun, .bool h.en, .bool h.op, .int .i64 h.major, .int .i64 h.lack, .int .u64 h.v, .int .i64 h.e]
def Head (w : World) (p : Nat) (h : HSt) : Prop := Blk w p 28 h.cells

theorem u64_or8 (v b : Nat) (hb : b < 256) : bits .or .u64 (IntKind.u64.wrap ((v : Int) * 256)) (b : Int) = (((v * 256 + b) % 18446744073709551616 : Nat) : Int) := by
  have e1 : BitVec.ofInt 64 (IntKind.u64.wrap ((v : Int) * 256)) = BitVec.ofNat 64 (v % 72057594037927936 * 256) := by
    have h1 := Nat.mul_mod_mul_right 256 v 72057594037927936
    rw [IntKind.wrap_u64, show ((v : Int) * 256) % 18446744073709551616 = ((v * 256 % (72057594037927936 * 256) : Nat) : Int) by omega, h1, BitVec.ofInt_natCast]
  have e2 : (BitVec.ofInt 64 (IntKind.u64.wrap ((v : Int) * 256)) ||| BitVec.ofInt 64 (b : Int)).toNat = v % 72057594037927936 * 256 + b := by
    rw [e1, BitVec.ofInt_natCast, BitVec.toNat_or, BitVec.toNat_ofNat, BitVec.toNat_ofNat, Nat.mod_eq_of_lt (show v % 72057594037927936 * 256 < 2 ^ 64 by omega), Nat.mod_eq_of_lt (show b < 2 ^ 64 by omega)]
    have := Nat.shiftLeft_add_eq_or_of_lt (i := 8) (b := b) hb (v % 72057594037927936)
    rw [Nat.shiftLeft_eq, show 2 ^ 8 = 256 from rfl] at this
    exact this.symm
  show IntKind.u64.wrap ((BitVec.ofInt 64 (IntKind.u64.wrap ((v : Int) * 256)) ||| BitVec.ofInt 64 (b : Int)).toNat : Int) = _
  rw [e2, IntKind.wrap_u64]
  have h1 := Nat.mul_mod_mul_right 256 v 72057594037927936
  omega
theorem u8_and31 (b : Nat) : bits .and .u8 (b : Int) 31 = ((b % 32 : Nat) : Int) := by
  have e2 : (BitVec.ofInt 8 (b : Int) &&& BitVec.ofInt 8 (31 : Int)).toNat = b % 32 := by
    rw [BitVec.toNat_and, show (BitVec.ofInt 8 (31 : Int)).toNat = 2 ^ 5 - 1 from rfl, Nat.and_two_pow_sub_one_eq_mod, BitVec.ofInt_natCast, BitVec.toNat_ofNat]
    omega
  show IntKind.u8.wrap ((BitVec.ofInt 8 (b : Int) &&& BitVec.ofInt 8 (31 : Int)).toNat : Int) = _
  rw [e2]
  show ((b % 32 : Nat) : Int) % 256 = _
  omega

theorem step_bad {w : World} {p : Nat} {h : HSt} (hh : Head w p h) (b : Int) (he : h.e ≠ 0) :
    Calls Try.prog 10 #[.pointer (some ⟨p, 0, none⟩), .int .u8 b] w fun e w' => e = .returned (.tuple #[.bool false, .int .i64 h.e]) ∧ ∃ n, w' = w.drewN n := by
  obtain ⟨g, d, o, m, k, v, x⟩ := h
  unfold Head HSt.cells at hh
  simp only at hh he ⊢
  have c6 := hh.cellv 6 _ rfl
  have hx : (x == 0) = false := by simpa using he
  clear hh
  go_enter Try.func10, Try.ntmps10
  go_wp2_with fail
  go_quiet (fail)
  go_wp2_with fail
  go_ret2
  exact ⟨rfl, _, rfl⟩

theorem step_next {w : World} {p : Nat} {h : HSt} (hh : Head w p h) (b : Nat) (hb : b < 256) (he : h.e = 0) (hd : h.en = false) (hg : h.begun = true) (hl : 0 < h.lack) (hl2 : h.lack ≤ 8) :
    Calls Try.prog 10 #[.pointer (some ⟨p, 0, none⟩), .int .u8 b] w fun e w' => e = .returned (.tuple #[.bool (h.lack - 1 == 0), .int .i64 0]) ∧
      Head w' p { h with v := (h.v * 256 + b) % 18446744073709551616, lack := h.lack - 1, en := h.lack - 1 == 0 } ∧ Only [p] w w' := by
  obtain ⟨g, d, o, m, k, v, x⟩ := h
  simp only at he hd hg
  subst he hd hg
  unfold Head HSt.cells at hh ⊢
  simp only at hh hl hl2 ⊢
  have c0 := hh.cellv 0 _ rfl
  have c1 := hh.cellv 1 _ rfl
  have c4 := hh.cellv 4 _ rfl
  have c5 := hh.cellv 5 _ rfl
  have c6 := hh.cellv 6 _ rfl
  have f1 := hh.frozen 1
  have f4 := hh.frozen 4
  have f5 := hh.frozen 5
  have HH := hide hh
  have hor := u64_or8 v b hb
  obtain ⟨y, hy⟩ : ∃ y, y = (v * 256 + b) % 18446744073709551616 := ⟨_, rfl⟩
  rw [← hy] at hor ⊢
  clear hh hy
  go_enter Try.func10, Try.ntmps10
  go_wp2_with fail
  go_ret2
  exact ⟨rfl, ((HH.out.set_ 5 _).set_ 4 _).set_ 1 _, (((Only.refl _ _).setCell (by simp) _).setCell (by simp) _).setCell (by simp) _⟩

theorem step_done {w : World} {p : Nat} {h : HSt} (hh : Head w p h) (b : Int) (he : h.e = 0) (hd : h.en = true) :
    Calls Try.prog 10 #[.pointer (some ⟨p, 0, none⟩), .int .u8 b] w fun e w' => e = .returned (.tuple #[.bool false, .int .i64 14]) ∧
      Head w' p { h with e := 14 } ∧ Only [p] w w' := by
  obtain ⟨g, d, o, m, k, v, x⟩ := h
  simp only at he hd
  subst he hd
  unfold Head HSt.cells at hh ⊢
  simp only at hh ⊢
  have c1 := hh.cellv 1 _ rfl
  have c6 := hh.cellv 6 _ rfl
  have f6 := hh.frozen 6
  have HH := hide hh
  clear hh
  go_enter Try.func10, Try.ntmps10
  go_wp2_with fail
  go_quiet (fail)
  go_wp2_with fail
  go_ret2
  exact ⟨rfl, (HH.out.set_ 6 _).drewN _, ((Only.refl _ _).setCell (by simp) _).drewN _⟩

/-- The state behind a first byte. -/
def first (b : Nat) : HSt :=
  if b % 32 < 24 then ⟨true, true, false, (b / 32 : Nat), 0, b % 32, 0⟩
  else if b % 32 < 28 then ⟨true, false, false, (b / 32 : Nat), ((2 ^ (b % 32 - 24) : Nat) : Int), 0, 0⟩
  else if b % 32 = 31 then ⟨true, true, true, (b / 32 : Nat), 0, 0, 0⟩
  else ⟨true, false, false, (b / 32 : Nat), 0, 0, 2⟩

theorem step_first {w : World} {p : Nat} (hh : Head w p HSt.zero) (b : Nat) (hb : b < 256) (r : HSt) (hr : r = first b) :
    Calls Try.prog 10 #[.pointer (some ⟨p, 0, none⟩), .int .u8 b] w fun e w' => e = .returned (.tuple #[.bool r.en, .int .i64 r.e]) ∧ Head w' p r ∧ Only [p] w w' := by
  unfold Head HSt.cells HSt.zero at hh
  simp only at hh
  have c0 := hh.cellv 0 _ rfl
  have c1 := hh.cellv 1 _ rfl
  have c2 := hh.cellv 2 _ rfl
  have c3 := hh.cellv 3 _ rfl
  have c4 := hh.cellv 4 _ rfl
  have c5 := hh.cellv 5 _ rfl
  have c6 := hh.cellv 6 _ rfl
  have f0 := hh.frozen 0
  have f1 := hh.frozen 1
  have f2 := hh.frozen 2
  have f3 := hh.frozen 3
  have f4 := hh.frozen 4
  have f5 := hh.frozen 5
  have f6 := hh.frozen 6
  have HH := hide hh
  have hand := u8_and31 b
  obtain ⟨low, hlow⟩ : ∃ low, low = b % 32 := ⟨_, rfl⟩
  obtain ⟨mj, hmj⟩ : ∃ mj : Nat, mj = b / 32 := ⟨_, rfl⟩
  have hml : mj < 8 := by omega
  have hdv : (b : Int) / 32 = (mj : Int) := by omega
  rw [← hlow] at hand
  have Hlow := hide hlow
  have Hmj := hide hmj
  have hlow32 : low < 32 := by omega
  by_cases h1 : low < 24
  · have hr' : r = ⟨true, true, false, mj, 0, low, 0⟩ := by rw [hr, first, if_pos (by omega), hmj, hlow]
    have i1 : (low : Int) < 24 := by omega
    subst hr'
    clear hh hlow hmj hr h1
    go_enter Try.func10, Try.ntmps10
    go_wp2_with fail
    go_quiet (fail)
    go_wp2_with fail
    go_ret2
    exact ⟨rfl, (((((HH.out.set_ 0 _).set_ 3 _).set_ 5 _).set_ 1 _)).drewN _, (((((Only.refl _ _).setCell (by simp) _).setCell (by simp) _).setCell (by simp) _).setCell (by simp) _).drewN _⟩
  have i1 : ¬ (low : Int) < 24 := by omega
  by_cases h2 : low < 28
  · have i2 : (low : Int) < 28 := by omega
    obtain ⟨d, hd, hd4⟩ : ∃ d : Nat, low = 24 + d ∧ d < 4 := ⟨low - 24, by omega, by omega⟩
    have hr' : r = ⟨true, false, false, mj, ((2 ^ d : Nat) : Int), 0, 0⟩ := by rw [hr, first, if_neg (by omega), if_pos (by omega), hmj, show b % 32 - 24 = d by omega]
    subst hr'
    have hd' : d = 0 ∨ d = 1 ∨ d = 2 ∨ d = 3 := by omega
    clear hh hlow hmj hr h1 h2
    rcases hd' with rfl | rfl | rfl | rfl
    all_goals
      subst hd
      go_enter Try.func10, Try.ntmps10
      go_wp2_with fail
      go_quiet (fail)
      go_wp2_with fail
      go_ret2
      exact ⟨rfl, (((HH.out.set_ 0 _).set_ 3 _).set_ 4 _).drewN _, ((((Only.refl _ _).setCell (by simp) _).setCell (by simp) _).setCell (by simp) _).drewN _⟩
  have i2 : ¬ (low : Int) < 28 := by omega
  by_cases h3 : low = 31
  · have hr' : r = ⟨true, true, true, mj, 0, 0, 0⟩ := by rw [hr, first, if_neg (by omega), if_neg (by omega), if_pos (by omega), hmj]
    subst hr'
    subst h3
    clear hh hlow hmj hr h1 h2 Hlow
    go_enter Try.func10, Try.ntmps10
    go_wp2_with fail
    go_quiet (fail)
    go_wp2_with fail
    go_ret2
    exact ⟨rfl, ((((HH.out.set_ 0 _).set_ 3 _).set_ 2 _).set_ 1 _).drewN _, (((((Only.refl _ _).setCell (by simp) _).setCell (by simp) _).setCell (by simp) _).setCell (by simp) _).drewN _⟩
  have hr' : r = ⟨true, false, false, mj, 0, 0, 2⟩ := by rw [hr, first, if_neg (by omega), if_neg (by omega), if_neg (by omega), hmj]
  have i3 : ((low : Int) == 31) = false := by simp; omega
  subst hr'
  clear hh hlow hmj hr h1 h2 h3
  go_enter Try.func10, Try.ntmps10
  go_wp2_with fail
  go_quiet (fail)
  go_wp2_with fail
  go_ret2
  exact ⟨rfl, (((HH.out.set_ 0 _).set_ 3 _).set_ 6 _).drewN _, ((((Only.refl _ _).setCell (by simp) _).setCell (by simp) _).setCell (by simp) _).drewN _⟩
end Go.Proofs.Ytogindldfpinjaa
