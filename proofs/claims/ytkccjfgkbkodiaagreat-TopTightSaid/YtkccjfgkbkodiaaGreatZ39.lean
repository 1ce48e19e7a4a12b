/-
  LawB · LawV · LawW: parts of the walk of TopTight, under no condition.
-/
import Derived.Test.YtkccjfgkbkodiaaGreatZ36
import Derived.Test.YtkccjfgkbkodiaaGreatZ38
namespace Go.Proofs.YtkccjfgkbkodiaaGreat
open Go.RowKit
/-- All slots but one are as they were told. -/
def Rest (n d sg : Nat) (x x' : Gt) (i : Nat) : Prop := (∀ j r, j ≠ i → SlotI x n d sg j r → SlotI x' n d sg j r) ∧ x'.fr = x.fr ∧ x'.rest = x.rest
section
variable {w : World} {gp : Nat} {a : GB} {n d sg i : Nat} {x : Gt} {r : List UInt8}
theorem slot_mod (hi : i < n) : (i * (n + 1)) % n = i := by
  rw [show i * (n + 1) = n * i + i by rw [Nat.mul_add, Nat.mul_one, Nat.mul_comm], Nat.mul_add_mod, Nat.mod_eq_of_lt hi]
theorem slot_small (hi : i < n) (hn : n ≤ 8) : i * (n + 1) ≤ 1000000000 := by
  have : i * (n + 1) ≤ 8 * 9 := Nat.mul_le_mul (by omega) (by omega)
  omega
theorem slot_chunk (h : GateIs w gp a n d sg x) (hs : SlotI x n d sg i r) (hi : i < n) (hn : n ≤ 8) (hd : d ≤ 16) (hr : r.length ≤ 1000) :
    Calls Tryz.prog 11 #[.pointer (some ⟨gp, 0, none⟩), .int .i64 ((i * (n + 1) : Nat) : Int), .string (S r)] w fun e w' => ∃ (k : Nat) (x' : Gt), e = .returned (.int .i64 (k : Int)) ∧ k ≤ r.length ∧ GateIs w' gp a n d sg x' ∧ SlotI x' n d sg i (r.drop k) ∧ Rest n d sg x x' i := by
  rcases hs.st with hno | ⟨y, hy, hl⟩
  · exact (gate_chunk_no h (slot_mod hi) (slot_small hi hn) (.inl hno) _).mono fun e w' ⟨he, hw⟩ => ⟨0, x, he, Nat.zero_le _, by rw [hw]; exact h, by simpa using hs, fun _ _ _ h9 => h9, rfl, rfl⟩
  · obtain ⟨o, ho⟩ := Option.isSome_iff_exists.1 hl.f
    obtain ⟨k, hk⟩ : ∃ k, k = if y.half = true ∨ y.ended = true then 0 else min (min r.length (max (Pu.leftOf x.rest x.H x.O i) 0).toNat) (64 - y.inb.length) := ⟨_, rfl⟩
    obtain ⟨hk1, hfit⟩ := hl.fed hk
    obtain ⟨B, ⟨N, hf, hN⟩, hB⟩ := hl.fit
    have hfew : y.outL.flatten.length ≤ 40000 := hl.few
    exact (gate_chunk (N := N) h (slot_mod hi) (slot_small hi hn) hy hs.id ho hf.ok (by omega) (by omega) r (by omega) k hk).mono fun e w' ⟨he, c, x', hc, hsb, hg⟩ => by
      obtain ⟨hkp, hL⟩ := hsb.kept
      exact ⟨k, x', he, hk1, hg, hs.mine hl hy hkp hfit hl.few hl.e, fun j r' hj h9 => h9.other hkp hj, hkp.fr, hkp.rest⟩
theorem slot_write (h : GateIs w gp a n d sg x) (hs : SlotI x n d sg i r) (hi : i < n) (hn : n ≤ 8) (hd : d ≤ 16) :
    Calls Tryz.prog 15 #[.pointer (some ⟨gp, 0, none⟩), .int .i64 ((i * (n + 1) : Nat) : Int), .int .i64 30] w fun e w' => ∃ (v : Value) (x' : Gt), e = .returned v ∧ GateIs w' gp a n d sg x' ∧ SlotI x' n d sg i r ∧ Rest n d sg x x' i := by
  rcases hs.st with hno | ⟨y, hy, hl⟩
  · exact (gate_write_no h (slot_mod hi) (slot_small hi hn) (.inl hno) _).mono fun e w' ⟨he, hw⟩ => ⟨_, x, he, by rw [hw]; exact h, hs, fun _ _ _ h9 => h9, rfl, rfl⟩
  · obtain ⟨o, ho⟩ := Option.isSome_iff_exists.1 hl.f
    have hfew : y.outL.flatten.length ≤ 40000 := hl.few
    obtain ⟨k, hk⟩ : ∃ k : Nat, k = min 30 y.outL.flatten.length := ⟨_, rfl⟩
    have hfit := hl.written k
    obtain ⟨B, ⟨N, hf, hN⟩, hB⟩ := hl.fit
    have hlen : (dropQ k y.outL).flatten.length ≤ 40000 := by rw [dropQ_flat, List.length_drop]; omega
    cases hcl : (y.ended && decide ((dropQ k y.outL).flatten.length = 0)) with
    | false =>
      exact (gate_write_on (N := N) h (slot_mod hi) (slot_small hi hn) hy hs.id ho hf.ok (by omega) (by omega) 30 k (by omega) (by omega) hcl).mono fun e w' ⟨he, c, x', hc, hsb, hg⟩ => by
        obtain ⟨hkp, hL⟩ := hsb.kept
        exact ⟨_, x', he, hg, hs.mine hl hy hkp hfit hlen hl.e, fun j r' hj h9 => h9.other hkp hj, hkp.fr, hkp.rest⟩
    | true =>
      exact (gate_write_over (N := N) h (slot_mod hi) (slot_small hi hn) hy hs.id ho hf.ok (by omega) (by omega) 30 k (by omega) (by omega) hcl hl.opn hl.L).mono fun e w' ⟨he, x', hg, hov⟩ =>
        ⟨_, x', he, hg, hs.gone hov hy, fun j r' hj h9 => h9.over hov hj, hov.2.2.2.2.2.2.2.2, hov.2.2.2.1⟩
theorem slot_ended (h : GateIs w gp a n d sg x) (hs : SlotI x n d sg i r) (hi : i < n) (hn : n ≤ 8) :
    Calls Tryz.prog 14 #[.pointer (some ⟨gp, 0, none⟩), .int .i64 ((i * (n + 1) : Nat) : Int)] w fun e w' => ∃ (z : Int) (b : Bool), e = .returned (.tuple #[.int .i64 z, .bool b]) ∧ GateIs w' gp a n d sg x ∧ (sg ≤ 9 → b = true → z ≠ 11) := by
  rcases hs.st with hno | ⟨y, hy, hl⟩
  · exact (gate_ended_no h (slot_mod hi) (slot_small hi hn) (.inl hno)).mono fun e w' ⟨z, he, hw⟩ => ⟨z, false, he, by rw [hw]; exact h, fun _ h9 => (by cases h9)⟩
  · exact (gate_ended_yes h (slot_mod hi) (slot_small hi hn) hy hs.id).mono fun e w' ⟨he, hg⟩ => ⟨_, _, he, hg, fun h9 _ => hl.e h9⟩
theorem Ses.Fit2.mono {y : Ses} {B C : Nat} (h : y.Fit2 d sg B r) (hB : B ≤ C) : y.Fit2 d sg C r := by
  obtain ⟨N, h1, h2⟩ := h
  exact ⟨N, h1, Nat.le_trans h2 hB⟩
theorem slots_run (h : GateIs w gp a n d sg x) (R : Nat → List UInt8) (hs : ∀ i, i < n → SlotI x n d sg i (R i)) (hd1 : 1 ≤ d) (hd : d ≤ 16) (hsg : sg ≤ 2000) :
    Calls Tryz.prog 12 #[.pointer (some ⟨gp, 0, none⟩)] w fun e w' => ∃ (v : Value) (x' : Gt), e = .returned v ∧ GateIs w' gp a n d sg x' ∧ (∀ i, i < n → SlotI x' n d sg i (R i)) ∧ x'.fr = x.fr ∧ x'.rest = x.rest := by
  have hls : x.slots.length = n := by obtain ⟨_, _, _, _, _, hM, _⟩ := h; exact hM.ls
  have hlive : ∀ i y, x.slots[i]? = some (some y) → i < n ∧ LiveI x d sg i y (R i) := fun i y hy => by
    have hin : i < n := by rw [← hls]; exact (List.getElem?_eq_some_iff.1 hy).1
    rcases (hs i hin).st with h9 | ⟨y', hy', hl⟩
    · rw [hy] at h9; cases h9
    · rw [hy] at hy'; cases hy'; exact ⟨hin, hl⟩
  refine (gate_run h hd1 hd hsg R (fun i => 1300 - 2 * (R i).length) fun i y hy => ?_).mono ?_
  · obtain ⟨hin, hl⟩ := hlive i y hy
    obtain ⟨B, hf, hB⟩ := hl.fit
    exact ⟨hf.mono (by omega), by omega, hl.few, hl.f, hl.opn⟩
  · rintro e w' (⟨he, ht, hg⟩ | ⟨i, y, y', H', k, c, x', z, ht, hy, hz, he, hnok, h64, hrun, hfit, hfew, hc, hk, hL, hH, hg⟩)
    · exact ⟨_, x, he, hg, hs, rfl, rfl⟩
    · obtain ⟨hin, hl⟩ := hlive i y hy
      obtain ⟨B, hf, hB⟩ := hl.fit
      refine ⟨_, x', he, hg, fun j hj => ?_, hk.fr, hk.rest⟩
      by_cases hji : j = i
      · subst hji
        exact (hs j hj).mine hl hy hk ⟨1300 - 2 * (R j).length, hfit, by omega⟩ hfew fun h9 => run_small (fun _ _ _ _ h => h.1) (by omega) h9 16 hrun (hf.mono (by omega : B ≤ 1300)) hnok h64 (hl.e h9)
      · exact (hs j hj).other hk hji
theorem slots_total (h : GateIs w gp a n d sg x) : Pu.total x.H ≤ n * 700 + x.rest ∧ Pu.total x.H ≤ 50000 ∧ 0 ≤ Pu.total x.H := by
  obtain ⟨vw, Ft, SB, own, tn, hM, htn⟩ := h
  have h1 := Pu.total_le x.H
  have h2 := hM.pu.fits
  have h3 := hM.lh
  have h4 := hM.pu.most
  have h5 := hM.n8
  rw [h3] at h1
  exact ⟨by omega, by omega, Pu.total_nonneg _ hM.pu.nonneg⟩
end
end Go.Proofs.YtkccjfgkbkodiaaGreat
namespace Go.Proofs.YtkccjfgkbkodiaaGreat
open Go.RowKit
/-- Two slots, told exactly. -/
structure Two (x : Gt) (a b : Option Ses) (ha hb : Nat) (L : List Int) (oa ob : Bool) : Prop where
  slots : x.slots = [a, b]
  ids : x.ids = [0, 3]
  H : x.H = [(ha : Int), (hb : Int)]
  ha : ha ≤ 700
  hb : hb ≤ 700
  O : x.O = [oa, ob]
  L : x.L = L
  f0 : (x.f 0).isSome = oa
  f1 : (x.f 1).isSome = ob
  rest : x.rest = 0
theorem Two.overs {x : Gt} {a b : Option Ses} {ha hb : Nat} {L : List Int} {oa ob : Bool} (h : Two x a b ha hb L oa ob) : Pu.overs x.H = 0 := by
  rw [h.H]
  have := h.ha
  have := h.hb
  simp only [Pu.overs]
  omega
section
variable {x x' : Gt} {a b : Option Ses} {y y' : Ses} {ha hb c : Nat} {L L' : List Int} {oa ob : Bool}
theorem Two.left0 (h : Two x a b ha hb L true ob) : Pu.leftOf x.rest x.H x.O (0 : Nat) = 700 - ha := by
  have h1 := h.ha
  unfold Pu.leftOf
  rw [h.overs, h.H, h.O, h.rest]
  simp [Pu.opn]
  omega
theorem Two.left1 (h : Two x a b ha hb L oa true) : Pu.leftOf x.rest x.H x.O (1 : Nat) = 700 - hb := by
  have h1 := h.hb
  unfold Pu.leftOf
  rw [h.overs, h.H, h.O, h.rest]
  simp [Pu.opn]
  omega
theorem Two.can0 (h : Two x a b ha hb L true ob) (hc : c ≤ 700) : Pu.canSet x.rest x.H x.O (0 : Nat) c = true :=
  Pu.can_small (by rw [h.O]; simp [Pu.opn]) (by rw [h.overs, h.rest]; exact Int.le_refl _) hc
theorem Two.can1 (h : Two x a b ha hb L oa true) (hc : c ≤ 700) : Pu.canSet x.rest x.H x.O (1 : Nat) c = true :=
  Pu.can_small (by rw [h.O]; simp [Pu.opn]) (by rw [h.overs, h.rest]; exact Int.le_refl _) hc
theorem Two.kept0 (h : Two x (some y') b ha hb L true ob) (hk : Kept x x' 0 y) (hH : x'.H = x.H.set 0 (c : Int)) (hc : c ≤ 700) (hL : x'.L = L') : Two x' (some y) b c hb L' true ob :=
  ⟨by rw [hk.slots, h.slots]; rfl, by rw [hk.ids]; exact h.ids, by rw [hH, h.H]; rfl, hc, h.hb, by rw [hk.O]; exact h.O, hL, by rw [hk.f]; exact h.f0, by rw [hk.f]; exact h.f1, by rw [hk.rest]; exact h.rest⟩
theorem Two.kept1 (h : Two x a (some y') ha hb L oa true) (hk : Kept x x' 1 y) (hH : x'.H = x.H.set 1 (c : Int)) (hc : c ≤ 700) (hL : x'.L = L') : Two x' a (some y) ha c L' oa true :=
  ⟨by rw [hk.slots, h.slots]; rfl, by rw [hk.ids]; exact h.ids, by rw [hH, h.H]; rfl, h.ha, hc, by rw [hk.O]; exact h.O, hL, by rw [hk.f]; exact h.f0, by rw [hk.f]; exact h.f1, by rw [hk.rest]; exact h.rest⟩
theorem Gt.charged_can {i : Nat} (h : Pu.canSet x.rest x.H x.O i c = true) : ((x.now i y).charged i c).H = x.H.set i (c : Int) := by
  unfold Gt.charged
  rw [if_pos (show Pu.canSet (x.now i y).rest (x.now i y).H (x.now i y).O i c = true from h)]
  rfl
theorem SameBut.H {i : Nat} (h : SameBut ((x.now i y).charged i c) x') (hc : Pu.canSet x.rest x.H x.O i c = true) : x'.H = x.H.set i (c : Int) := by
  obtain ⟨f', _, rfl⟩ := h
  exact Gt.charged_can hc
/-- A step of the first session. -/
theorem Two.same0 (h : Two x (some y') b ha hb L true ob) (hs : SameBut ((x.now 0 y).charged 0 c) x') (hc : c ≤ 700) : Two x' (some y) b c hb L true ob := by
  obtain ⟨hk, hL⟩ := hs.kept
  exact h.kept0 hk (hs.H (h.can0 hc)) hc (hL.trans h.L)
theorem Two.same1 (h : Two x a (some y') ha hb L oa true) (hs : SameBut ((x.now 1 y).charged 1 c) x') (hc : c ≤ 700) : Two x' a (some y) ha c L oa true := by
  obtain ⟨hk, hL⟩ := hs.kept
  exact h.kept1 hk (hs.H (h.can1 hc)) hc (hL.trans h.L)
theorem Two.turn0 (h : Two x (some y') b ha hb L true ob) (hc : c ≤ 700) : Two ((x.now 0 y).charged 0 c) (some y) b c hb L true ob :=
  h.kept0 (Gt.kept x 0 c y) (Gt.charged_can (h.can0 hc)) hc (Gt.charged_L.trans h.L)
theorem Two.turn1 (h : Two x a (some y') ha hb L oa true) (hc : c ≤ 700) : Two ((x.now 1 y).charged 1 c) a (some y) ha c L oa true :=
  h.kept1 (Gt.kept x 1 c y) (Gt.charged_can (h.can1 hc)) hc (Gt.charged_L.trans h.L)
theorem Two.run0 {H' : List Int} {d sg k : Nat} (h : Two x (some y') b ha hb L true ob) (hr : RunR (MayH 0) d sg 16 y' x.H 0 y H' k) (hk : Kept x x' 0 y) (hH : x'.H = if Pu.canSet x.rest H' x.O (0 : Nat) c then H'.set 0 (c : Int) else H') (hcan : Pu.canSet x.rest H' x.O (0 : Nat) c = true) (hc : c ≤ 700) (hL : x'.L = L') : Two x' (some y) b c hb L' true ob :=
  h.kept0 hk (by rw [hH, if_pos hcan]; exact runR_H 16 hr _) hc hL
theorem Two.run1 {H' : List Int} {d sg k : Nat} (h : Two x a (some y') ha hb L oa true) (hr : RunR (MayH 1) d sg 16 y' x.H 0 y H' k) (hk : Kept x x' 1 y) (hH : x'.H = if Pu.canSet x.rest H' x.O (1 : Nat) c then H'.set 1 (c : Int) else H') (hcan : Pu.canSet x.rest H' x.O (1 : Nat) c = true) (hc : c ≤ 700) (hL : x'.L = L') : Two x' a (some y) ha c L' oa true :=
  h.kept1 hk (by rw [hH, if_pos hcan]; exact runR_H 16 hr _) hc hL
theorem Two.over0 (h : Two x (some y') b ha hb L true ob) (hk : Over x 0 x') (hL : L.erase 0 = L') : Two x' none b 0 hb L' false ob := by
  obtain ⟨k1, k2, k3, k4, k5, k6, k7, k8, k9⟩ := hk
  exact ⟨by rw [k1, h.slots]; rfl, by rw [k2]; exact h.ids, by rw [k5, h.H]; rfl, by omega, h.hb, by rw [k6, h.O]; rfl, by rw [k7, h.L]; exact hL, by rw [k8]; rfl, by rw [k8]; exact h.f1, by rw [k4]; exact h.rest⟩
theorem Two.over1 (h : Two x a (some y') ha hb L oa true) (hk : Over x 1 x') (hL : L.erase 1 = L') : Two x' a none ha 0 L' oa false := by
  obtain ⟨k1, k2, k3, k4, k5, k6, k7, k8, k9⟩ := hk
  exact ⟨by rw [k1, h.slots]; rfl, by rw [k2]; exact h.ids, by rw [k5, h.H]; rfl, h.ha, by omega, by rw [k6, h.O]; rfl, by rw [k7, h.L]; exact hL, by rw [k8]; exact h.f0, by rw [k8]; rfl, by rw [k4]; exact h.rest⟩
end
/-- The sessions as they come to be. -/
def pA : List UInt8 := hp 3 50 ++ [91, 49, 44]
def sA1 : Ses := { Ses.new with inb := Ses.new.inb ++ pA.take 11 }
def rA : Ses × Nat := (sA1.runF 3 50 16 0).getD (Ses.new, 0)
def sA3 : Ses := { rA.1 with outL := dropQ 1 rA.1.outL }
def lA : List UInt8 := [116, 114, 117, 101, 93]
def sA4 : Ses := { sA3 with inb := sA3.inb ++ lA.take 5 }
def sA5 : Ses := { sA4 with half := true }
def rA2 : Ses × Nat := (sA5.runF 3 50 16 0).getD (Ses.new, 0)
def lB : List UInt8 := [84, 82]
def sB1 : Ses := { Ses.new with inb := Ses.new.inb ++ lB.take 2 }
def rB : Ses × Nat := (sB1.runF 3 50 16 0).getD (Ses.new, 0)
def sB3 : Ses := rB.1.fin 13 rB.1.told
theorem pA_len : pA.length = 11 := by decide
theorem rA_run : sA1.runF 3 50 16 0 = some rA := by kernel_rfl
theorem rA_n : rA.2 = 11 := by kernel_rfl
theorem rA_half : rA.1.half = false := by kernel_rfl
theorem rA_ended : rA.1.ended = false := by kernel_rfl
theorem rA_told : rA.1.told = true := by kernel_rfl
theorem rA_inb : rA.1.inb = [] := by kernel_rfl
theorem rA_out : rA.1.outL.flatten = [75] := by kernel_rfl
theorem rA_flat : rA.1.flat = true := by kernel_rfl
theorem rA_charge : rA.1.chargeF ≤ 20 := by decide
theorem sA3_charge : sA3.chargeF ≤ 20 := by decide
theorem sA3_out : sA3.outL.flatten = [] := by kernel_rfl
theorem sA4_charge : sA4.chargeF ≤ 20 := by decide
theorem sA5_charge : sA5.chargeF ≤ 20 := by decide
theorem rA2_run : sA5.runF 3 50 16 0 = some rA2 := by kernel_rfl
theorem rA2_ended : rA2.1.ended = true := by kernel_rfl
theorem rA2_e : rA2.1.e = 0 := by kernel_rfl
theorem rA2_out : rA2.1.outL.flatten = [146, 1, 195, 255, 0] := by kernel_rfl
theorem rA2_charge : rA2.1.chargeF ≤ 20 := by decide
theorem rB_run : sB1.runF 3 50 16 0 = some rB := by kernel_rfl
theorem rB_n : rB.2 = 2 := by kernel_rfl
theorem rB_ended : rB.1.ended = false := by kernel_rfl
theorem rB_out : rB.1.outL.flatten = [] := by kernel_rfl
theorem rB_flat : rB.1.flat = true := by kernel_rfl
theorem sB3_charge : sB3.chargeF ≤ 20 := by decide
theorem sA3_flat : sA3.flat = true := by kernel_rfl
theorem sA3_ended : sA3.ended = false := by kernel_rfl
theorem sA3_half : sA3.half = false := by kernel_rfl
theorem sA3_inb : sA3.inb = [] := by kernel_rfl
theorem sA3_p : sA3.p = rA.1.p := by simp only [sA3]
theorem sA4_p : sA4.p = rA.1.p := by simp only [sA4, sA3]
theorem sA5_p : sA5.p = rA.1.p := by simp only [sA5, sA4, sA3]
theorem sA4_out : sA4.outL.flatten = [] := by kernel_rfl
theorem sA5_out : sA5.outL.flatten = [] := by kernel_rfl
theorem sA4_half : sA4.half = false := by kernel_rfl
theorem sA4_ended : sA4.ended = false := by kernel_rfl
theorem sA5_told : sA5.told = true := by kernel_rfl
theorem sA5_ended : sA5.ended = false := by kernel_rfl
theorem sA5_inb : sA5.inb.length = 5 := by kernel_rfl
theorem rA2_p : rA2.1.p = none := by kernel_rfl
theorem turn1 : Wl.turn [readyO (some sA1), readyO (some sB1)] [0, 1] = some ((0 : Nat) : Int) := by kernel_rfl
theorem turn2 : Wl.turn [readyO (some rA.1), readyO (some sB1)] [1, 0] = some ((1 : Nat) : Int) := by kernel_rfl
theorem turn3 : Wl.turn [readyO (some sA5), readyO none] [0] = some ((0 : Nat) : Int) := by kernel_rfl
theorem sA4_flat : sA4.flat = true := by kernel_rfl
theorem sA5_flat : sA5.flat = true := by kernel_rfl
theorem rA2_flat : rA2.1.flat = true := by kernel_rfl
theorem rB_charge : rB.1.chargeF ≤ 20 := by decide
theorem sB3_out : sB3.outL.flatten = [78, 13] := by kernel_rfl
end Go.Proofs.YtkccjfgkbkodiaaGreat
namespace Go.Proofs.YtkccjfgkbkodiaaGreat
open Go.RowKit
set_option maxRecDepth 100000
theorem GateIs.new {w w' : World} {gp : Nat} {a : GB} {n d sg : Nat} {x : Gt} (h : GateIs w gp a n d sg x) (ho : Only [] w w') : GateIs w' gp a n d sg x := by
  obtain ⟨vw, Ft, SB, own, tn, hM, htn⟩ := h
  exact ⟨_, _, _, _, _, hM.new ho, htn⟩
theorem new_charge {c : Nat} (h : Ses.new.chargeBy c) : c = 2 := by
  rw [Ses.charge_F h (by rfl)]
  rfl
/-- Two that came. -/
theorem Two.made {x0 x1 x2 : Gt} {w W : World} {fr : Frame} (hx0 : x0 = { Gt.fresh 2 0 w W with fr := fr }) (h1 : Joined x0 x1 2 0 0) (h2 : Joined x1 x2 2 1 1) : Two x2 (some Ses.new) (some Ses.new) 2 2 [0, 1] true true ∧ x2.fr = fr := by
  subst hx0
  obtain ⟨c1, hc1, hH1⟩ := h1.H
  obtain ⟨c2, hc2, hH2⟩ := h2.H
  have e1 := new_charge hc1
  have e2 := new_charge hc2
  subst e1 e2
  have s1 : x1.slots = [some Ses.new, none] := by rw [h1.slots]; rfl
  have i1 : x1.ids = [0, 0] := by rw [h1.ids]; rfl
  have o1 : x1.O = [true, false] := by rw [h1.O]; rfl
  have r1 : x1.rest = 0 := by rw [h1.rest]; rfl
  have H1 : x1.H = [2, 0] := by rw [hH1]; rfl
  have l1 : x1.L = [0] := by rw [h1.L]; rfl
  have H2 : x2.H = [2, 2] := by rw [hH2, H1, o1, r1]; rfl
  refine ⟨⟨by rw [h2.slots, s1]; rfl, by rw [h2.ids, i1]; rfl, H2, by omega, by omega, by rw [h2.O, o1]; rfl, by rw [h2.L, l1]; rfl, ?_, ?_, by rw [h2.rest, r1]⟩, h2.fr.trans h1.fr⟩
  · rw [h2.f, if_neg (by decide), h1.f, if_pos (by decide)]
  · rw [h2.f, if_pos (by decide)]
theorem fitA (B : Nat) (hB : 100 ≤ B) : sA1.Fit2 3 50 B [] :=
  ⟨0, ⟨fun _ => rfl, fun _ _ => ⟨by decide, [91, 49, 44], by rfl⟩, fun h => (by cases h), fun h => (by cases h)⟩, by show 0 + 2 * sA1.inb.length ≤ B; rw [show sA1.inb.length = 11 by decide]; omega⟩
theorem fitB (B : Nat) (hB : 100 ≤ B) : sB1.Fit2 3 50 B ((hp 3 50).drop 2) :=
  ⟨0, ⟨fun _ => rfl, fun _ _ => ⟨by decide, [], by rfl⟩, fun h => (by cases h), fun h => (by cases h)⟩, by show 0 + 2 * sB1.inb.length ≤ B; rw [show sB1.inb.length = 2 by decide]; omega⟩
theorem Two.idle {x : Gt} {a b : Option Ses} {ha hb : Nat} {L : List Int} {oa ob : Bool} (h : Two x a b ha hb L oa ob) {i : Nat} {y : Ses} (hy : x.slots[i]? = some (some y)) : (i = 0 ∧ a = some y) ∨ (i = 1 ∧ b = some y) := by
  rw [h.slots] at hy
  match i, hy with
  | 0, hy => exact .inl ⟨rfl, by simpa using hy⟩
  | 1, hy => exact .inr ⟨rfl, by simpa using hy⟩
  | i + 2, hy => simp at hy
theorem GateIs.fits {w : World} {gp : Nat} {a : GB} {n d sg : Nat} {x : Gt} (h : GateIs w gp a n d sg x) : Pu.overs x.H ≤ x.rest := by
  obtain ⟨vw, Ft, SB, own, tn, hM, htn⟩ := h
  exact hM.pu.fits
theorem run_can {w : World} {gp : Nat} {a : GB} {n d sg i c : Nat} {x x' : Gt} {y : Ses} {H' : List Int} (hg : GateIs w gp a n d sg x') (hk : Kept x x' i y) (hH : x'.H = if Pu.canSet x.rest H' x.O i c then H'.set i (c : Int) else H') (ho : Pu.opn x.O (i : Int) = true) (hc : c ≤ 700) : Pu.canSet x.rest H' x.O i c = true := by
  cases h9 : Pu.canSet x.rest H' x.O i c with
  | true => rfl
  | false =>
    have hf := hg.fits
    rw [h9, if_neg (by simp)] at hH
    rw [hH, hk.rest] at hf
    rw [Pu.can_small ho hf hc] at h9
    cases h9
theorem Ses.Fit2.told {y y' : Ses} {d sg B : Nat} {r r' : List UInt8} (h : y.Fit2 d sg B r) (ht : y.told = true) (he : y.ended = false) (h1 : y'.told = true) (h2 : y'.p = y.p) (h3 : y'.ended = false) (h4 : y'.inb.length ≤ 64) : y'.Fit2 d sg (B + 128) r' := by
  obtain ⟨N, hf, hN⟩ := h
  exact ⟨N, ⟨fun h => (by rw [h1] at h; cases h), fun h => (by rw [h1] at h; cases h), fun _ _ => (by rw [h2]; exact hf.pip ht he), fun h => (by rw [h3] at h; cases h)⟩, by omega⟩
/-- What is left of the two sessions' bytes. -/
def rAB : Nat → List UInt8
  | 0 => []
  | _ => (hp 3 50).drop 2
theorem Two.opn0 {x : Gt} {a b : Option Ses} {ha hb : Nat} {L : List Int} {ob : Bool} (h : Two x a b ha hb L true ob) : Pu.opn x.O ((0 : Nat) : Int) = true := by rw [h.O]; rfl
theorem Two.opn1 {x : Gt} {a b : Option Ses} {ha hb : Nat} {L : List Int} {oa : Bool} (h : Two x a b ha hb L oa true) : Pu.opn x.O ((1 : Nat) : Int) = true := by rw [h.O]; rfl
theorem Two.flags {x : Gt} {a b : Option Ses} {ha hb : Nat} {L : List Int} {oa ob : Bool} (h : Two x a b ha hb L oa ob) : x.flags = [readyO a, readyO b] := by unfold Gt.flags; rw [h.slots]; rfl
/-- What a run needs, of two. -/
theorem Two.all {x : Gt} {ya yb : Ses} {ha hb : Nat} {L : List Int} (h : Two x (some ya) (some yb) ha hb L true true) (fa : ya.Fit2 3 50 3000 []) (fb : yb.Fit2 3 50 3000 ((hp 3 50).drop 2)) (wa : ya.Few) (wb : yb.Few) : ∀ (i : Nat) (y : Ses), x.slots[i]? = some (some y) → y.Fit2 3 50 3000 (rAB i) ∧ 3000 ≤ 3900 ∧ y.Few ∧ (x.f (i : Int)).isSome = true ∧ Pu.opn x.O (i : Int) = true := by
  intro i y hy
  rcases h.idle hy with ⟨rfl, e⟩ | ⟨rfl, e⟩
  · cases e
    exact ⟨fa, by omega, wa, h.f0, h.opn0⟩
  · cases e
    exact ⟨fb, by omega, wb, h.f1, h.opn1⟩
theorem Two.alone {x : Gt} {ya : Ses} {ha hb : Nat} {L : List Int} (h : Two x (some ya) none ha hb L true false) (fa : ya.Fit2 3 50 3500 []) (wa : ya.Few) : ∀ (i : Nat) (y : Ses), x.slots[i]? = some (some y) → y.Fit2 3 50 3500 (rAB i) ∧ 3500 ≤ 3900 ∧ y.Few ∧ (x.f (i : Int)).isSome = true ∧ Pu.opn x.O (i : Int) = true := by
  intro i y hy
  rcases h.idle hy with ⟨rfl, e⟩ | ⟨rfl, e⟩
  · cases e
    exact ⟨fa, by omega, wa, h.f0, h.opn0⟩
  · cases e
set_option maxHeartbeats 16000000 in
set_option linter.unusedSimpArgs false in
theorem works_yes (w : World) : Calls Tryz.prog 7 #[] w fun e w' => e = .returned (.bool true) ∧ Only [] w w' := by
  have HNEW := hide (show Calls Tryz.prog 8 #[.int .i64 1400, .int .i64 2] w _ from gate_new w 1400 2 3 50 (by omega) (by omega) (by omega) (by omega))
  have HPUT := fun W => hide (show Calls Tryz.prog 9 #[.agg #[.int .i64 1, .int .i64 3, .int .i64 3, .int .i64 50, .int .i64 0]] W _ from put_any (d := 3) (s := 50) (by omega) (by omega) (by omega) W)
  have HADD := fun W => run_add_S (P := Tryz.prog) (hp 3 50) [91, 49, 44] (by simp [hp]) W
  rw [show S [91, 49, 44] = ⟨#[91, 49, 44]⟩ from rfl, show hp 3 50 ++ [91, 49, 44] = pA from rfl] at HADD
  obtain ⟨P, hP⟩ : ∃ P, P = hp 3 50 := ⟨_, rfl⟩
  rw [← hP] at HPUT HADD
  clear hP
  go_enter Tryz.func7, Tryz.ntmps7
  go_wp2_with fail
  (with_reducible refine (unhide HNEW).mono ?_)
  rintro e w1 ⟨gp, a0, rfl, hg1, ho1⟩
  have HO1 := hide ho1
  go_wp2_with fail
  (with_reducible refine (unhide (HPUT _)).mono ?_)
  rintro e w2 ⟨rfl, ho2⟩
  have hg2 := hg1.new ho2
  rw [show (1400 : Int) - ((2 : Nat) : Int) * 700 = 0 from rfl] at hg2
  obtain ⟨x0, hx0⟩ : ∃ x0, x0 = Gt.fresh 2 0 w w1 := ⟨_, rfl⟩
  rw [← hx0] at hg2
  have HC0 := hide (show Calls Tryz.prog 10 #[.pointer (some ⟨gp, 0, none⟩)] w2 _ from gate_connect hg2 (i := 0) (m := 0) (by rw [hx0]; rfl) (fun j hj => by omega) (by rw [hx0]; rfl) (by omega) (by rw [hx0]; rfl) (by rw [hx0]; rfl) (by rw [hx0]; simp [Gt.fresh]) (by rw [hx0]; exact Nat.zero_le _) (by omega))
  have HX0 := hide hx0
  clear hg1 ho1 ho2 hg2 hx0 HNEW HPUT
  go_wp2_with fail
  (with_reducible refine (unhide HC0).mono ?_)
  rintro e w3 ⟨rfl, a1, x1, hj1, hg3⟩
  have HJ1 := hide hj1
  have hx0 := HX0.out
  have HC1 := hide (show Calls Tryz.prog 10 #[.pointer (some ⟨gp, 0, none⟩)] w3 _ from gate_connect hg3 (i := 1) (m := 1) (by rw [hj1.slots, hx0]; rfl) (fun j hj => ⟨Ses.new, by rw [hj1.slots, hx0, show j = 0 by omega]; rfl⟩) (by rw [hj1.many]) (by omega) (by rw [hj1.O, hx0]; rfl)
    (by have := hj1.f 1
        rw [if_neg (by decide), hx0] at this
        rw [show ((Gt.fresh 2 0 w w1).f 1).isSome = false from rfl] at this
        simpa using this) (by rw [hj1.L, hx0]; simp [Gt.fresh]) (by rw [hj1.tb, hx0]; exact Nat.le_trans (Nat.le_refl 1) (by omega)) (by omega))
  clear hj1 hg3 hx0 HC0
  go_wp2_with fail
  (with_reducible refine (unhide HC1).mono ?_)
  rintro e w4 ⟨rfl, a2, x2, hj2, hg4⟩
  obtain ⟨h2, hfr2⟩ := Two.made (w := w) (W := w1) (fr := ⟨w1, fun k => decide (k < w.heap.size)⟩) (by rw [HX0.out]; rfl) HJ1.out hj2
  have HF2 := hide hfr2
  clear HJ1 HX0 HC1 hj2 hfr2
  obtain ⟨o, ho⟩ := Option.isSome_iff_exists.1 h2.f0
  have HC := hide (show Calls Tryz.prog 11 #[.pointer (some ⟨gp, 0, none⟩), .int .i64 0, .string (S pA)] w4 _ from gate_chunk (N := 0) hg4 (id := 0) (i := 0) rfl (by omega) (by rw [h2.slots]; rfl) (by rw [h2.ids]; rfl) ho (fun m hm => by cases hm) (by omega) (by decide) pA (by decide) 11 (by rw [h2.left0]; rfl))
  have HT := hide h2
  clear h2 hg4 ho
  go_wp2_with fail
  (with_reducible refine (unhide HC).mono ?_)
  rintro e w5 ⟨rfl, c, x3, hc, hsb, hg5⟩
  have e1 : c = sA1.chargeF := Ses.charge_F hc (by rfl)
  have h3 : Two x3 (some sA1) (some Ses.new) c 2 [0, 1] true true := HT.out.same0 hsb (show c ≤ 700 by rw [e1]; decide)
  have hf3 := hsb.kept.1.fr
  obtain ⟨o, ho⟩ := Option.isSome_iff_exists.1 h3.f1
  have HC2 := hide (show Calls Tryz.prog 11 #[.pointer (some ⟨gp, 0, none⟩), .int .i64 3, .string (S lB)] w5 _ from gate_chunk (N := 0) hg5 (id := 3) (i := 1) rfl (by omega) (by rw [h3.slots]; rfl) (by rw [h3.ids]; rfl) ho (fun m hm => by cases hm) (by omega) (by decide) lB (by decide) 2 (by rw [h3.left1]; rfl))
  rw [show S lB = ⟨#[84, 82]⟩ from rfl] at HC2
  have HT3 := hide h3
  have HF3 := hide (hf3.trans HF2.out)
  clear hc hsb hg5 e1 h3 hf3 ho HC HT HF2
  go_wp2_with fail
  (with_reducible refine (unhide HC2).mono ?_)
  rintro e w6 ⟨rfl, c2, x4, hc, hsb, hg6⟩
  have e1 : c2 = sB1.chargeF := Ses.charge_F hc (by rfl)
  have h4 : Two x4 (some sA1) (some sB1) c c2 [0, 1] true true := HT3.out.same1 hsb (show c2 ≤ 700 by rw [e1]; decide)
  have hf4 := hsb.kept.1.fr.trans HF3.out
  have HR := hide (gate_run hg6 (by omega) (by omega) (by omega) rAB (fun _ => 3000) (h4.all (fitA 3000 (by omega)) (fitB 3000 (by omega)) (by unfold Ses.Few; decide) (by unfold Ses.Few; decide)))
  have HT4 := hide h4
  have HF4 := hide hf4
  clear hc hsb hg6 e1 h4 hf4 HC2 HT3 HF3
  go_wp2_with fail
  (with_reducible refine (unhide HR).mono ?_)
  rintro e w7 (⟨he, ht, hg⟩ | ⟨i, y, y', H', k, c, x5, z, ht, hy, hz, rfl, hnok, h64, hrun, hfit, hfew, hc, hk, hL, hH, hg⟩)
  · exfalso
    rw [HT4.out.flags, HT4.out.L, turn1] at ht
    cases ht
  rw [HT4.out.flags, HT4.out.L, turn1] at ht
  obtain rfl : 0 = i := by
    injection ht with ht
    omega
  rw [HT4.out.slots] at hy
  rw [HT4.out.ids] at hz
  cases hy
  cases hz
  obtain ⟨rfl, rfl⟩ := Ses.run_F (fun _ _ _ _ h => h.1) 16 hrun rA_run
  have e1 : c ≤ 20 := by rw [Ses.charge_F hc rA_flat]; exact rA_charge
  have h5 := HT4.out.run0 hrun hk hH (run_can hg hk hH HT4.out.opn0 (by omega)) (by omega) (hL.trans (by rw [HT4.out.L]; rfl) : x5.L = [1, 0])
  have hf5 := hk.fr.trans HF4.out
  have HR := hide (gate_run hg (by omega) (by omega) (by omega) rAB (fun _ => 3000) (h5.all hfit (fitB 3000 (by omega)) hfew (by unfold Ses.Few; decide)))
  have HT5 := hide h5
  have HF5 := hide hf5
  have HFA := hide (And.intro hfit hfew)
  clear ht hnok h64 hrun hfit hfew hc hk hL hH hg e1 h5 hf5 HT4 HF4
  rw [rA_n]
  go_wp2_with fail
  (with_reducible refine (unhide HR).mono ?_)
  rintro e w8 (⟨he, ht, hg⟩ | ⟨i, y, y', H', k, c, x6, z, ht, hy, hz, rfl, hnok, h64, hrun, hfit, hfew, hc, hk, hL, hH, hg⟩)
  · exfalso
    rw [HT5.out.flags, HT5.out.L, turn2] at ht
    cases ht
  rw [HT5.out.flags, HT5.out.L, turn2] at ht
  obtain rfl : 1 = i := by
    injection ht with ht
    omega
  rw [HT5.out.slots] at hy
  rw [HT5.out.ids] at hz
  cases hy
  cases hz
  obtain ⟨rfl, rfl⟩ := Ses.run_F (fun _ _ _ _ h => h.1) 16 hrun rB_run
  have e1 : c ≤ 20 := by rw [Ses.charge_F hc rB_flat]; exact rB_charge
  have h6 := HT5.out.run1 hrun hk hH (run_can hg hk hH HT5.out.opn1 (by omega)) (by omega) (hL.trans (by rw [HT5.out.L]; rfl) : x6.L = [0, 1])
  have hf6 := hk.fr.trans HF5.out
  have HT6 := hide h6
  have HF6 := hide hf6
  obtain ⟨N, hN, _⟩ := hfit
  obtain ⟨NA, hNA, _⟩ := HFA.out.1
  obtain ⟨o, ho⟩ := Option.isSome_iff_exists.1 h6.f0
  have hok : ∀ m, rB.1.p = some m → m.Ok 3 N := hN.ok
  have HOKB := hide hok
  have HW := hide (show Calls Tryz.prog 15 #[.pointer (some ⟨gp, 0, none⟩), .int .i64 0, .int .i64 9] w8 _ from gate_write_on (N := NA) hg (id := 0) (i := 0) (y := rA.1) rfl (by omega) (by rw [h6.slots]; rfl) (by rw [h6.ids]; rfl) ho hNA.ok (by omega) (by rw [rA_out]; decide) 9 1 (by rw [rA_out]; rfl) (by show sA3.outL.flatten.length ≤ _; rw [sA3_out]; decide) (by rw [rA_ended]; rfl))
  rw [show S (rA.1.outL.flatten.take 1) = ⟨#[75]⟩ by rw [rA_out]; rfl] at HW
  clear ht hnok h64 hrun hN hNA hfew hc hk hL hH hg e1 h6 hf6 HT5 HF5 ho hok
  rw [rB_n]
  go_wp2_with fail
  (with_reducible refine (unhide HW).mono ?_)
  rintro e w9 ⟨rfl, c, x7, hc, hsb, hg⟩
  have e1 : c ≤ 20 := by rw [Ses.charge_F hc (by show sA3.flat = true; kernel_rfl)]; exact sA3_charge
  have h7 : Two x7 (some sA3) (some rB.1) c _ [0, 1] true true := HT6.out.same0 hsb (show c ≤ 700 by omega)
  have hf7 := hsb.kept.1.fr.trans HF6.out
  have HCN := hide (show Calls Tryz.prog 16 #[.pointer (some ⟨gp, 0, none⟩), .int .i64 3] w9 _ from gate_cancel (N := N) hg (id := 3) (i := 1) (y := rB.1) rfl (by omega) (by rw [h7.slots]; rfl) (by rw [h7.ids]; rfl) rB_ended HOKB.out (by omega) (by rw [rB_out]; decide))
  have HE7 := hide e1
  have HT7 := hide h7
  have HF7 := hide hf7
  clear hc hsb hg e1 h7 hf7 HW HT6 HF6 HOKB
  go_wp2_with fail
  (with_reducible refine (unhide HCN).mono ?_)
  rintro e w10 ⟨rfl, c2, hc, hg⟩
  have e1 : c2 ≤ 20 := by rw [Ses.charge_F hc (by rfl)]; exact sB3_charge
  have h8 := HT7.out.turn1 (y := sB3) (show c2 ≤ 700 by omega)
  obtain ⟨x8, hx8⟩ : ∃ x8, x8 = (x7.now 1 sB3).charged 1 c2 := ⟨_, rfl⟩
  have hg : GateIs w10 gp a2 2 3 50 x8 := by rw [hx8]; exact hg
  rw [← hx8] at h8
  have hf8 : x8.fr = x7.fr := by rw [hx8]; exact Gt.charged_fr
  have hf8 := hf8.trans HF7.out
  obtain ⟨o, ho⟩ := Option.isSome_iff_exists.1 h8.f1
  have HW := hide (show Calls Tryz.prog 15 #[.pointer (some ⟨gp, 0, none⟩), .int .i64 3, .int .i64 9] w10 _ from gate_write_over (N := 0) hg (id := 3) (i := 1) (y := sB3) rfl (by omega) (by rw [h8.slots]; rfl) (by rw [h8.ids]; rfl) ho (fun m hm => by cases hm) (by omega) (by rw [sB3_out]; decide) 9 2 (by rw [sB3_out]; rfl) (by rw [dropQ_flat, sB3_out]; decide) (by rw [dropQ_flat, sB3_out]; rfl) h8.opn1 (by rw [h8.L]; decide))
  rw [show S (sB3.outL.flatten.take 2) = ⟨#[78, 13]⟩ by rw [sB3_out]; rfl] at HW
  have HT8 := hide h8
  have HF8 := hide hf8
  clear hc hg e1 h8 hx8 hf8 HCN HT7 HF7 ho
  go_wp2_with fail
  (with_reducible refine (unhide HW).mono ?_)
  rintro e w11 ⟨rfl, x9, hg, hov⟩
  have h9 := HT8.out.over1 hov (L' := [0]) (by rfl)
  have hf9 := hov.2.2.2.2.2.2.2.2.trans HF8.out
  obtain ⟨o, ho⟩ := Option.isSome_iff_exists.1 h9.f0
  obtain ⟨N2, hN2, _⟩ := HFA.out.1
  have HC := hide (show Calls Tryz.prog 11 #[.pointer (some ⟨gp, 0, none⟩), .int .i64 0, .string (S lA)] w11 _ from gate_chunk (N := N2) hg (id := 0) (i := 0) (y := sA3) rfl (by omega) (by rw [h9.slots]; rfl) (by rw [h9.ids]; rfl) ho (fun m hm => hN2.ok m (sA3_p.symm.trans hm)) (by omega) (by rw [sA3_out]; decide) lA (by decide) 5 (by
    have := HE7.out
    rw [h9.left0, if_neg (by rw [sA3_half, sA3_ended]; simp), sA3_inb, show lA.length = 5 from rfl]
    show 5 = min (min 5 (max ((700 : Int) - c) 0).toNat) (64 - 0)
    omega))
  rw [show S lA = ⟨#[116, 114, 117, 101, 93]⟩ from rfl] at HC
  have HT9 := hide h9
  have HF9 := hide hf9
  clear hg hov h9 hf9 ho HW HT8 HF8 hN2
  go_wp2_with fail
  (with_reducible refine (unhide HC).mono ?_)
  rintro e w12 ⟨rfl, c3, x10, hc, hsb, hg⟩
  have e1 : c3 ≤ 20 := by rw [Ses.charge_F hc (show sA4.flat = true from sA4_flat)]; exact sA4_charge
  have h10 : Two x10 (some sA4) none c3 0 [0] true false := HT9.out.same0 hsb (show c3 ≤ 700 by omega)
  have hf10 := hsb.kept.1.fr.trans HF9.out
  obtain ⟨N3, hN3, _⟩ := HFA.out.1
  have HH := hide (show Calls Tryz.prog 18 #[.pointer (some ⟨gp, 0, none⟩), .int .i64 0] w12 _ from gate_half (N := N3) hg (id := 0) (i := 0) (y := sA4) rfl (by omega) (by rw [h10.slots]; rfl) (by rw [h10.ids]; rfl) sA4_half sA4_ended (fun m hm => hN3.ok m (sA4_p.symm.trans hm)) (by omega) (by rw [sA4_out]; decide))
  have HT10 := hide h10
  have HF10 := hide hf10
  clear hc hsb hg e1 h10 hf10 HC HT9 HF9 hN3 HE7
  go_wp2_with fail
  (with_reducible refine (unhide HH).mono ?_)
  rintro e w13 ⟨rfl, c4, hc, hg⟩
  have e1 : c4 ≤ 20 := by rw [Ses.charge_F hc (show sA5.flat = true from sA5_flat)]; exact sA5_charge
  have h11 := HT10.out.turn0 (y := sA5) (show c4 ≤ 700 by omega)
  obtain ⟨x11, hx11⟩ : ∃ x11, x11 = (x10.now 0 sA5).charged 0 c4 := ⟨_, rfl⟩
  have hg : GateIs w13 gp a2 2 3 50 x11 := by rw [hx11]; exact hg
  rw [← hx11] at h11
  have hf11 : x11.fr = x10.fr := by rw [hx11]; exact Gt.charged_fr
  have hf11 := hf11.trans HF10.out
  have HR := hide (gate_run hg (by omega) (by omega) (by omega) rAB (fun _ => 3500) (h11.alone ((HFA.out.1.told (y' := sA5) (r' := []) rA_told rA_ended sA5_told sA5_p sA5_ended (by rw [sA5_inb]; omega)).mono (by omega)) (by unfold Ses.Few; rw [sA5_out]; decide)))
  have HT11 := hide h11
  have HF11 := hide hf11
  clear hc hg e1 h11 hx11 hf11 HH HT10 HF10
  go_wp2_with fail
  (with_reducible refine (unhide HR).mono ?_)
  rintro e w14 (⟨he, ht, hg⟩ | ⟨i, y, y', H', k, c, x12, z, ht, hy, hz, rfl, hnok, h64, hrun, hfit, hfew, hc, hk, hL, hH, hg⟩)
  · exfalso
    rw [HT11.out.flags, HT11.out.L, turn3] at ht
    cases ht
  rw [HT11.out.flags, HT11.out.L, turn3] at ht
  obtain rfl : 0 = i := by
    injection ht with ht
    omega
  rw [HT11.out.slots] at hy
  rw [HT11.out.ids] at hz
  cases hy
  cases hz
  obtain ⟨rfl, rfl⟩ := Ses.run_F (fun _ _ _ _ h => h.1) 16 hrun rA2_run
  have e1 : c ≤ 20 := by rw [Ses.charge_F hc rA2_flat]; exact rA2_charge
  have h12 := HT11.out.run0 hrun hk hH (run_can hg hk hH HT11.out.opn0 (by omega)) (by omega) (hL.trans (by rw [HT11.out.L]; rfl) : x12.L = [0])
  have hf12 := hk.fr.trans HF11.out
  have HE := hide (show Calls Tryz.prog 14 #[.pointer (some ⟨gp, 0, none⟩), .int .i64 0] w14 _ from gate_ended_yes hg (id := 0) (i := 0) (y := rA2.1) rfl (by omega) (by rw [h12.slots]; rfl) (by rw [h12.ids]; rfl))
  rw [rA2_e, rA2_ended] at HE
  have HT12 := hide h12
  have HF12 := hide hf12
  clear ht hnok h64 hrun hfit hfew hc hk hL hH hg e1 h12 hf12 HT11 HF11 HR
  go_wp2_with fail
  (with_reducible refine (unhide HE).mono ?_)
  rintro e w15 ⟨rfl, hg⟩
  obtain ⟨o, ho⟩ := Option.isSome_iff_exists.1 HT12.out.f0
  have HW := hide (show Calls Tryz.prog 15 #[.pointer (some ⟨gp, 0, none⟩), .int .i64 0, .int .i64 99] w15 _ from gate_write_over (N := 0) hg (id := 0) (i := 0) (y := rA2.1) rfl (by omega) (by rw [HT12.out.slots]; rfl) (by rw [HT12.out.ids]; rfl) ho (fun m hm => by rw [rA2_p] at hm; cases hm) (by omega) (by rw [rA2_out]; decide) 99 5 (by rw [rA2_out]; rfl) (by rw [dropQ_flat, rA2_out]; decide) (by rw [dropQ_flat, rA2_out, rA2_ended]; rfl) HT12.out.opn0 (by rw [HT12.out.L]; decide))
  rw [show S (rA2.1.outL.flatten.take 5) = ⟨#[146, 1, 195, 255, 0]⟩ by rw [rA2_out]; rfl] at HW
  clear hg ho HE
  go_wp2_with fail
  (with_reducible refine (unhide HW).mono ?_)
  rintro e w16 ⟨rfl, x13, hg, hov⟩
  have h13 := HT12.out.over0 hov (L' := []) (by rfl)
  have hf13 := hov.2.2.2.2.2.2.2.2.trans HF12.out
  have HL := hide (gate_live_none hg (fun i hi => by
    rw [h13.slots]
    match i, hi with
    | 0, _ => rfl
    | 1, _ => rfl))
  have HTO := hide (gate_total hg)
  rw [h13.H, show Pu.total [((0 : Nat) : Int), ((0 : Nat) : Int)] = 0 from rfl] at HTO
  have HG := hide (And.intro hg hf13)
  clear hg hov h13 hf13 HW HT12 HF12
  go_wp2_with fail
  (with_reducible refine (unhide HL).mono ?_)
  rintro e w16 ⟨rfl, hw⟩
  subst hw
  go_wp2_with fail
  (with_reducible refine (unhide HTO).mono ?_)
  rintro e w16 ⟨rfl, hw⟩
  subst hw
  go_wp2_with fail
  go_ret
  refine ⟨rfl, HO1.out.own (show Only _ w1 w16 by have := HG.out.1.only; rw [HG.out.2] at this; exact this) fun k hk => .inr ?_⟩
  have h9 := (List.mem_filter.1 hk).2
  simp at h9
  exact h9
end Go.Proofs.YtkccjfgkbkodiaaGreat
