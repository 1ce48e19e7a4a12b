/-
  What a head tells; alive.
-/
import Derived.Test.YtogindldfpinjaaHeadB
namespace Go.Proofs.Ytogindldfpinjaa
open Go.RowKit

def HSt.value (h : HSt) : Nat := if h.e = 0 ∧ h.en = true then h.v else 0
def HSt.kind (h : HSt) : Int := if h.e = 0 then h.major else 0
def HSt.isOpen (h : HSt) : Bool := if h.e = 0 then h.op else false

theorem Head.keep {w w' : World} {p : Nat} {h : HSt} (hh : Head w p h) {S : List Nat} (ho : Only S w w') (h1 : p ∉ S) : Head w' p h := ho.blk hh h1

theorem value_any {w : World} {p : Nat} {h : HSt} (hh : Head w p h) (x : Int) (hx : x = h.value) :
    Calls Try.prog 11 #[.pointer (some ⟨p, 0, none⟩)] w fun e w' => e = .returned (.int .u64 x) ∧ w' = w := by
  obtain ⟨g, d, o, m, k, v, y⟩ := h
  unfold Head HSt.cells at hh
  simp only [HSt.value] at hh hx
  have c1 := hh.cellv 1 _ rfl
  have c5 := hh.cellv 5 _ rfl
  have c6 := hh.cellv 6 _ rfl
  clear hh
  by_cases h1 : y = 0
  · subst h1
    cases d with
    | false =>
      have hx' : x = 0 := by simpa using hx
      subst hx'
      clear hx
      go_enter Try.func11, Try.ntmps11
      go_wp2
      go_ret
      exact ⟨rfl, rfl⟩
    | true =>
      have hx' : x = v := by simpa using hx
      subst hx'
      clear hx
      go_enter Try.func11, Try.ntmps11
      go_wp2
      go_ret
      exact ⟨rfl, rfl⟩
  · have hx' : x = 0 := by simpa [h1] using hx
    subst hx'
    have h2 : (y == 0) = false := by simpa using h1
    clear hx
    go_enter Try.func11, Try.ntmps11
    go_wp2
    go_ret
    exact ⟨rfl, rfl⟩

theorem major_any {w : World} {p : Nat} {h : HSt} (hh : Head w p h) (x : Int) (hx : x = h.kind) :
    Calls Try.prog 12 #[.pointer (some ⟨p, 0, none⟩)] w fun e w' => e = .returned (.int .i64 x) ∧ w' = w := by
  obtain ⟨g, d, o, m, k, v, y⟩ := h
  unfold Head HSt.cells at hh
  simp only [HSt.kind] at hh hx
  have c3 := hh.cellv 3 _ rfl
  have c6 := hh.cellv 6 _ rfl
  clear hh
  by_cases h1 : y = 0
  · subst h1
    have hx' : x = m := by simpa using hx
    subst hx'
    clear hx
    go_enter Try.func12, Try.ntmps12
    go_wp2
    go_ret
    exact ⟨rfl, rfl⟩
  · have hx' : x = 0 := by simpa [h1] using hx
    subst hx'
    have h2 : (y == 0) = false := by simpa using h1
    clear hx
    go_enter Try.func12, Try.ntmps12
    go_wp2
    go_ret
    exact ⟨rfl, rfl⟩

theorem open_any {w : World} {p : Nat} {h : HSt} (hh : Head w p h) (x : Bool) (hx : x = h.isOpen) :
    Calls Try.prog 13 #[.pointer (some ⟨p, 0, none⟩)] w fun e w' => e = .returned (.bool x) ∧ w' = w := by
  obtain ⟨g, d, o, m, k, v, y⟩ := h
  unfold Head HSt.cells at hh
  simp only [HSt.isOpen] at hh hx
  have c2 := hh.cellv 2 _ rfl
  have c6 := hh.cellv 6 _ rfl
  clear hh
  by_cases h1 : y = 0
  · subst h1
    have hx' : x = o := by simpa using hx
    subst hx'
    clear hx
    go_enter Try.func13, Try.ntmps13
    go_wp2
    go_ret
    exact ⟨rfl, rfl⟩
  · have hx' : x = false := by simpa [h1] using hx
    subst hx'
    have h2 : (y == 0) = false := by simpa using h1
    clear hx
    go_enter Try.func13, Try.ntmps13
    go_wp2
    go_ret
    exact ⟨rfl, rfl⟩

theorem value_nil (w : World) : Calls Try.prog 11 #[.pointer none] w fun e w' => e = .returned (.int .u64 0) ∧ w' = w := by
  go_enter Try.func11, Try.ntmps11
  go_wp2
  go_ret
  exact ⟨rfl, rfl⟩
theorem major_nil (w : World) : Calls Try.prog 12 #[.pointer none] w fun e w' => e = .returned (.int .i64 0) ∧ w' = w := by
  go_enter Try.func12, Try.ntmps12
  go_wp2
  go_ret
  exact ⟨rfl, rfl⟩
theorem open_nil (w : World) : Calls Try.prog 13 #[.pointer none] w fun e w' => e = .returned (.bool false) ∧ w' = w := by
  go_enter Try.func13, Try.ntmps13
  go_wp2
  go_ret
  exact ⟨rfl, rfl⟩
theorem step_nil (b : Int) (w : World) : Calls Try.prog 10 #[.pointer none, .int .u8 b] w fun e w' => e = .returned (.tuple #[.bool false, .int .i64 14]) ∧ w' = w := by
  go_enter Try.func10, Try.ntmps10
  go_wp2
  go_ret2
  exact ⟨rfl, rfl⟩
theorem clear_nil (w : World) : Calls Try.prog 15 #[.pointer none] w fun e w' => e = .returned (.tuple #[]) ∧ w' = w := by
  go_enter Try.func15, Try.ntmps15
  go_wp2
  go_end0
  exact ⟨rfl, rfl⟩
theorem clear_any {w : World} {p : Nat} {h : HSt} (hh : Head w p h) :
    Calls Try.prog 15 #[.pointer (some ⟨p, 0, none⟩)] w fun e w' => e = .returned (.tuple #[]) ∧ Head w' p HSt.zero ∧ Only [p] w w' := by
  obtain ⟨g, d, o, m, k, v, y⟩ := h
  unfold Head HSt.cells HSt.zero at *
  simp only at hh ⊢
  have c0 := hh.cellv 0 _ rfl
  have c1 := hh.cellv 1 _ rfl
  have c2 := hh.cellv 2 _ rfl
  have c3 := hh.cellv 3 _ rfl
  have c4 := hh.cellv 4 _ rfl
  have c5 := hh.cellv 5 _ rfl
  have c6 := hh.cellv 6 _ rfl
  have f0 := hh.frozen 0
  have f1 := hh.frozen 1
  have f2 := hh.frozen 2
  have f3 := hh.frozen 3
  have f4 := hh.frozen 4
  have f5 := hh.frozen 5
  have f6 := hh.frozen 6
  have HH := hide hh
  clear hh
  go_enter Try.func15, Try.ntmps15
  go_wp2
  go_end0
  have F := ((((((HH.out.set_ 0 (.bool false)).set_ 1 (.bool false)).set_ 2 (.bool false)).set_ 3 (.int .i64 0)).set_ 4 (.int .i64 0)).set_ 5 (.int .u64 0)).set_ 6 (.int .i64 0)
  simp only [List.setIfInBounds_toArray, List.set_cons_zero, List.set_cons_succ] at F
  exact ⟨rfl, F, ((((((((Only.refl _ _).setCell (by simp) _).setCell (by simp) _).setCell (by simp) _).setCell (by simp) _).setCell (by simp) _).setCell (by simp) _).setCell (by simp) _)⟩

theorem put_at (major : Int) (v : Nat) (vi : Int) (hvi : vi = v) (s : ByteArray) (hs : s = S (putL major v)) (w : World) :
    Calls Try.prog 9 #[.int .i64 major, .int .u64 vi] w fun e w' => e = .returned (.string s) ∧ Only [] w w' := by
  subst hvi hs
  exact put_any major v w

/-- The state behind a further byte. -/
def HSt.next (h : HSt) (b : Nat) : HSt := { h with v := (h.v * 256 + b) % 18446744073709551616, lack := h.lack - 1, en := h.lack - 1 == 0 }
theorem step_next_at {w : World} {p : Nat} {h : HSt} (hh : Head w p h) (b : Nat) (bi : Int) (hbi : bi = b) (hb : b < 256) (he : h.e = 0) (hd : h.en = false) (hg : h.begun = true) (hl : 0 < h.lack) (hl2 : h.lack ≤ 8) (r : HSt) (hr : r = h.next b) (en : Bool) (hen : en = r.en) :
    Calls Try.prog 10 #[.pointer (some ⟨p, 0, none⟩), .int .u8 bi] w fun e w' => e = .returned (.tuple #[.bool en, .int .i64 0]) ∧ Head w' p r ∧ Only [p] w w' := by
  subst hbi hen hr
  exact step_next hh b hb he hd hg hl hl2
theorem step_first_at {w : World} {p : Nat} (hh : Head w p HSt.zero) (b : Nat) (bi : Int) (hbi : bi = b) (hb : b < 256) (r : HSt) (hr : r = first b) (en : Bool) (hen : en = r.en) (x : Int) (hx : x = r.e) :
    Calls Try.prog 10 #[.pointer (some ⟨p, 0, none⟩), .int .u8 bi] w fun e w' => e = .returned (.tuple #[.bool en, .int .i64 x]) ∧ Head w' p r ∧ Only [p] w w' := by
  subst hbi hen hx
  exact step_first hh b hb r hr

theorem head_new (w : World) : Head (w.alloc (.cells #[.bool false, .bool false, .bool false, .int .i64 0, .int .i64 0, .int .u64 0, .int .i64 0] 28)) w.heap.size HSt.zero := Blk.new w 28 _

set_option maxRecDepth 100000 in
theorem alive_any (w : World) : Calls Try.prog 8 #[] w fun e w' => e = .returned (.bool true) ∧ Below w.heap.size w w' := by
  have HP := fun W => hide (put_at 4 100 100 rfl ⟨#[152, 100]⟩ (by decide) W)
  have HB := fun W => hide (big_at 258 3 258 3 rfl rfl (by omega) (by omega) [0, 1, 2] (by decide) W)
  have h0 := head_new w
  have hb : Below w.heap.size w (w.alloc (.cells #[.bool false, .bool false, .bool false, .int .i64 0, .int .i64 0, .int .u64 0, .int .i64 0] 28)) := (Below.refl _ _).alloc (Nat.le_refl _) _
  have HS := hide (step_first_at h0 152 152 rfl (by omega) ⟨true, false, false, 4, 1, 0, 0⟩ rfl false rfl 0 rfl)
  obtain ⟨p, hp⟩ : ∃ p, p = w.heap.size := ⟨_, rfl⟩
  clear h0
  go_enter Try.func8, Try.ntmps8
  go_wp2_with fail
  (with_reducible refine (unhide HS).mono ?_)
  rintro e w1 ⟨rfl, h1, ho⟩
  have hb := hb.trans (ho.below hb.size (by simp))
  have HS2 := hide (step_next_at h1 100 100 rfl (by omega) rfl rfl rfl (by simp) (by simp) ⟨true, true, false, 4, 0, 100, 0⟩ rfl true rfl)
  clear HS ho h1
  go_wp2_with fail
  (with_reducible refine (unhide HS2).mono ?_)
  rintro e w2 ⟨rfl, h2, ho⟩
  have hb := hb.trans (ho.below hb.size (by simp))
  clear HS2 ho
  go_wp2_with fail
  (with_reducible refine (unhide (HP _)).mono ?_)
  rintro e w3 ⟨rfl, ho⟩
  have hb := hb.trans (ho.below hb.size (by simp))
  have h3 := h2.keep ho (by simp)
  have HM := hide (major_any h3 4 rfl)
  have HV := hide (value_any h3 100 rfl)
  have HO := hide (open_any h3 false rfl)
  clear h2 ho h3
  go_wp2_with fail
  (with_reducible refine (unhide HM).mono ?_)
  rintro e w4 ⟨rfl, rfl⟩
  go_wp2_with fail
  (with_reducible refine (unhide HV).mono ?_)
  rintro e w5 ⟨rfl, rfl⟩
  go_wp2_with fail
  (with_reducible refine (unhide HO).mono ?_)
  rintro e w6 ⟨rfl, rfl⟩
  go_wp2_with fail
  (with_reducible refine (unhide (HB _)).mono ?_)
  rintro e w7 ⟨rfl, ho⟩
  have hb := hb.trans (ho.below hb.size (by simp))
  go_wp2_with fail
  go_ret
  exact ⟨rfl, hb⟩
end Go.Proofs.Ytogindldfpinjaa
