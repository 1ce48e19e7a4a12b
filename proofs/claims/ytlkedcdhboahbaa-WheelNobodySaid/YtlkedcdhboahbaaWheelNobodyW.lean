/-
  The walk of WheelNobody.
-/
import Derived.Test.YtlkedcdhboahbaaWheelD
namespace Go.Proofs.Ytlkedcdhboahbaa
open Go.RowKit

set_option maxRecDepth 100000 in
theorem wheelNobody_no (n id : Int) (a : Option Addr) (len cap : Nat) (w : World) (hl : len ≤ 9223372036854775807) (h : n < 0 ∨ 30 < n ∨ 60 < len) :
    Calls Try.prog 6 #[.int .i64 n, .int .i64 id, .slice a len cap] w fun e w' => e = .returned (.bool true) ∧ Below w.heap.size w w' := by
  have HA := hide (alive_any w)
  by_cases h1 : n < 0
  · clear h
    go_enter Try.func6, Try.ntmps6
    go_wp2_with fail
    (with_reducible refine (unhide HA).mono ?_)
    rintro e w1 ⟨rfl, hb⟩
    go_wp2_with fail
    go_ret
    exact ⟨rfl, hb⟩
  by_cases h2 : 30 < n
  · clear h
    go_enter Try.func6, Try.ntmps6
    go_wp2_with fail
    (with_reducible refine (unhide HA).mono ?_)
    rintro e w1 ⟨rfl, hb⟩
    go_wp2_with fail
    go_ret
    exact ⟨rfl, hb⟩
  have h3 : (60 : Int) < len := by omega
  clear h
  go_enter Try.func6, Try.ntmps6
  go_wp2_with fail
  (with_reducible refine (unhide HA).mono ?_)
  rintro e w1 ⟨rfl, hb⟩
  go_wp2_with fail
  go_ret
  exact ⟨rfl, hb⟩

set_option maxRecDepth 100000 in
theorem wheelNobody_out (n id : Int) (a : Option Addr) (cap : Nat) (z : List Bool) (w : World) (hn0 : 0 ≤ n) (hn1 : n ≤ 30) (hzl : z.length ≤ 60) (hz : IsRdy w a z) (h : id < 0 ∨ n ≤ id) :
    Calls Try.prog 6 #[.int .i64 n, .int .i64 id, .slice a z.length cap] w fun e w' => e = .returned (.bool true) ∧ Below w.heap.size w w' := by
  have HA := hide (alive_any w)
  have HZ := hide hz
  clear hz
  go_enter Try.func6, Try.ntmps6
  go_wp2_with fail
  (with_reducible refine (unhide HA).mono ?_)
  rintro e w1 ⟨rfl, hb⟩
  have H := hide (new_Wh (w := w1) (B := w.heap.size) n n (by omega) hb.size)
  clear HA
  go_wp2_with fail
  (with_reducible refine (unhide H).mono ?_)
  rintro e w2 ⟨p, rfl, hw, hb1⟩
  have hb := hb.trans (hb1.mono hb.size)
  have H := hide (next_Wh hw a cap z (HZ.out.below hb) 0 false (.inl ⟨rfl, rfl, rfl⟩) [] rfl z.length rfl)
  clear hw hb1
  go_wp2_with fail
  (with_reducible refine (unhide H).mono ?_)
  rintro e w3 ⟨rfl, hw, hb1⟩
  have hb := hb.trans hb1
  have H := hide (rem_Wh hw id false rfl [] rfl)
  clear hw hb1
  go_wp2_with fail
  (with_reducible refine (unhide H).mono ?_)
  rintro e w4 ⟨rfl, hw, hb1⟩
  have hb := hb.trans hb1
  have H := hide (add_Wh hw id false (by simp; omega) [] rfl)
  clear hw hb1
  go_wp2_with fail
  (with_reducible refine (unhide H).mono ?_)
  rintro e w5 ⟨rfl, hw, hb1⟩
  have hb := hb.trans hb1
  have H := hide (next_Wh hw a cap z (HZ.out.below hb) 0 false (.inl ⟨rfl, rfl, rfl⟩) [] rfl z.length rfl)
  clear hw hb1
  go_wp2_with fail
  (with_reducible refine (unhide H).mono ?_)
  rintro e w6 ⟨rfl, hw, hb1⟩
  have hb := hb.trans hb1
  have H := hide (rem_Wh hw id false rfl [] rfl)
  clear hw hb1
  by_cases h1 : id < 0
  · clear h
    go_wp2_with fail
    (with_reducible refine (unhide H).mono ?_)
    rintro e w7 ⟨rfl, hw, hb1⟩
    have hb := hb.trans hb1
    have H := hide (all_Wh hw)
    clear hb1
    go_wp2_with fail
    (with_reducible refine (unhide H).mono ?_)
    rintro e w8 ⟨a8, c8, rfl, hr, hw8, hb1⟩
    have hb := hb.trans (hb1.mono hw.lt)
    go_wp2_with fail
    go_ret
    exact ⟨rfl, hb⟩
  · have h2 : n ≤ id := by omega
    clear h
    go_wp2_with fail
    (with_reducible refine (unhide H).mono ?_)
    rintro e w7 ⟨rfl, hw, hb1⟩
    have hb := hb.trans hb1
    have H := hide (all_Wh hw)
    clear hb1
    go_wp2_with fail
    (with_reducible refine (unhide H).mono ?_)
    rintro e w8 ⟨a8, c8, rfl, hr, hw8, hb1⟩
    have hb := hb.trans (hb1.mono hw.lt)
    go_wp2_with fail
    go_ret
    exact ⟨rfl, hb⟩

set_option maxRecDepth 100000 in
theorem wheelNobody_in (n id : Int) (a : Option Addr) (cap : Nat) (z : List Bool) (w : World) (hn1 : n ≤ 30) (hzl : z.length ≤ 60) (hz : IsRdy w a z) (h0 : 0 ≤ id) (h1 : id < n) :
    Calls Try.prog 6 #[.int .i64 n, .int .i64 id, .slice a z.length cap] w fun e w' => e = .returned (.bool true) ∧ Below w.heap.size w w' := by
  have h : True := trivial
  have HA := hide (alive_any w)
  have HZ := hide hz
  clear hz
  go_enter Try.func6, Try.ntmps6
  go_wp2_with fail
  (with_reducible refine (unhide HA).mono ?_)
  rintro e w1 ⟨rfl, hb⟩
  have H := hide (new_Wh (w := w1) (B := w.heap.size) n n (by omega) hb.size)
  clear HA
  go_wp2_with fail
  (with_reducible refine (unhide H).mono ?_)
  rintro e w2 ⟨p, rfl, hw, hb1⟩
  have hb := hb.trans (hb1.mono hb.size)
  have H := hide (next_Wh hw a cap z (HZ.out.below hb) 0 false (.inl ⟨rfl, rfl, rfl⟩) [] rfl z.length rfl)
  clear hw hb1
  go_wp2_with fail
  (with_reducible refine (unhide H).mono ?_)
  rintro e w3 ⟨rfl, hw, hb1⟩
  have hb := hb.trans hb1
  have H := hide (rem_Wh hw id false rfl [] rfl)
  clear hw hb1
  go_wp2_with fail
  (with_reducible refine (unhide H).mono ?_)
  rintro e w4 ⟨rfl, hw, hb1⟩
  have hb := hb.trans hb1
  have H := hide (add_Wh hw id true (by simp; omega) [id] rfl)
  clear hw hb1
  go_wp2_with fail
  (with_reducible refine (unhide H).mono ?_)
  rintro e w5 ⟨rfl, hw, hb1⟩
  have hb := hb.trans hb1
  by_cases hlt : id < z.length
  · have hidz : id.toNat < z.length := by omega
    obtain ⟨g, off, rfl, cz⟩ := (HZ.out.below hb) id.toNat hidz
    have cz6 : ∀ W, Below w5.heap.size w5 W → W.cell? ⟨g, off + id.toNat, none⟩ = some (.bool z[id.toNat]) := fun W hW => (hW.cell (p := ⟨g, off + id.toNat, none⟩) (block_lt_of_cell cz)).trans cz
    have CZ := hide cz
    have hgw : g < w.heap.size := by
      obtain ⟨g', off', he, hc⟩ := HZ.out id.toNat hidz
      injection he with he
      injection he with he1 he2
      rw [he1]; exact block_lt_of_cell hc
    by_cases hr : z[id.toNat] = true
    · have hrd : rdy z id = true := by unfold rdy; rw [List.getD, List.getElem?_eq_getElem hidz]; exact hr
      have H := hide (next_Wh hw (some ⟨g, off, none⟩) cap z (HZ.out.below hb) id true (.inr ⟨by simp [turn, hrd], rfl⟩) [id] (by simp [after, turn, hrd]) z.length rfl)
      clear hw hb1
      rw [hr] at cz
      go_wp2_with fail
      (with_reducible refine (unhide H).mono ?_)
      rintro e w6 ⟨rfl, hw, hb1⟩
      have cz6 : w6.cell? ⟨g, off + id.toNat, none⟩ = some (.bool true) := (hb1.cell (p := ⟨g, off + id.toNat, none⟩) hgw).trans cz
      have hb := hb.trans hb1
      have H := hide (rem_Wh hw id true (by simp) [] (by simp))
      clear hw hb1 hrd hr
      clear h
      go_wp2_with fail
      (with_reducible refine (unhide H).mono ?_)
      rintro e w7 ⟨rfl, hw, hb1⟩
      have hb := hb.trans hb1
      have H := hide (all_Wh hw)
      clear hb1
      go_wp2_with fail
      (with_reducible refine (unhide H).mono ?_)
      rintro e w8 ⟨a8, c8, rfl, hr, hw8, hb1⟩
      have hb := hb.trans (hb1.mono hw.lt)
      go_wp2_with fail
      go_ret
      exact ⟨rfl, hb⟩
    · have hr2 : z[id.toNat] = false := by simpa using hr
      have hrd : rdy z id = false := by unfold rdy; rw [List.getD, List.getElem?_eq_getElem hidz]; exact hr2
      have H := hide (next_Wh hw (some ⟨g, off, none⟩) cap z (HZ.out.below hb) 0 false (.inl ⟨by simp [turn, hrd], rfl, rfl⟩) [id] (by simp [after, turn, hrd]) z.length rfl)
      clear hw hb1
      rw [hr2] at cz
      go_wp2_with fail
      (with_reducible refine (unhide H).mono ?_)
      rintro e w6 ⟨rfl, hw, hb1⟩
      have cz6 : w6.cell? ⟨g, off + id.toNat, none⟩ = some (.bool false) := (hb1.cell (p := ⟨g, off + id.toNat, none⟩) hgw).trans cz
      have hb := hb.trans hb1
      have H := hide (rem_Wh hw id true (by simp) [] (by simp))
      clear hw hb1 hrd hr hr2
      clear h
      go_wp2_with fail
      (with_reducible refine (unhide H).mono ?_)
      rintro e w7 ⟨rfl, hw, hb1⟩
      have hb := hb.trans hb1
      have H := hide (all_Wh hw)
      clear hb1
      go_wp2_with fail
      (with_reducible refine (unhide H).mono ?_)
      rintro e w8 ⟨a8, c8, rfl, hr, hw8, hb1⟩
      have hb := hb.trans (hb1.mono hw.lt)
      go_wp2_with fail
      go_ret
      exact ⟨rfl, hb⟩
  · have hrd : rdy z id = false := by unfold rdy; rw [List.getD, List.getElem?_eq_none (by omega)]; rfl
    have hlt2 : decide (id < (z.length : Int)) = false := by simpa using hlt
    have H := hide (next_Wh hw a cap z (HZ.out.below hb) 0 false (.inl ⟨by simp [turn, hrd], rfl, rfl⟩) [id] (by simp [after, turn, hrd]) z.length rfl)
    clear hw hb1
    go_wp2_with fail
    (with_reducible refine (unhide H).mono ?_)
    rintro e w6 ⟨rfl, hw, hb1⟩
    have hb := hb.trans hb1
    have H := hide (rem_Wh hw id true (by simp) [] (by simp))
    clear hw hb1 hrd hlt
    clear h
    go_wp2_with fail
    (with_reducible refine (unhide H).mono ?_)
    rintro e w7 ⟨rfl, hw, hb1⟩
    have hb := hb.trans hb1
    have H := hide (all_Wh hw)
    clear hb1
    go_wp2_with fail
    (with_reducible refine (unhide H).mono ?_)
    rintro e w8 ⟨a8, c8, rfl, hr, hw8, hb1⟩
    have hb := hb.trans (hb1.mono hw.lt)
    go_wp2_with fail
    go_ret
    exact ⟨rfl, hb⟩
end Go.Proofs.Ytlkedcdhboahbaa
