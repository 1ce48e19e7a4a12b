/-
  alive; the walks of CboroutWholes and CboroutTexts.
-/
import Derived.Test.YtjegeoeebbfajaaCbJ
import Derived.Test.YtjegeoeebbfajaaHeadR
import Derived.Lib.SmallJoins
import Derived.Test.YtjegeoeebbfajaaArgs
namespace Go.Proofs.Ytjegeoeebbfajaa
open Go.RowKit

def evsV (E : List EvM) : List Value := E.flatMap (fun e => e.cells.toList)
theorem evsV_get : ∀ (E : List EvM) (i : Nat) (hi : i < E.length) (j : Nat) (u : Value), E[i].cells[j]? = some u → (evsV E)[i * 5 + j]? = some u
  | [], i, hi, _, _, _ => by simp at hi
  | e :: E, 0, hi, j, u, h => by
    have hl : e.cells.toList.length = 5 := rfl
    have hj : j < 5 := by
      obtain ⟨h1, _⟩ := Array.getElem?_eq_some_iff.1 h
      exact h1
    rw [show evsV (e :: E) = e.cells.toList ++ evsV E from by simp [evsV], List.getElem?_append_left (by omega), Nat.zero_mul, Nat.zero_add, Array.getElem?_toList]
    exact h
  | e :: E, i + 1, hi, j, u, h => by
    have hl : e.cells.toList.length = 5 := rfl
    rw [show evsV (e :: E) = e.cells.toList ++ evsV E from by simp [evsV], List.getElem?_append_right (by omega), hl, show (i + 1) * 5 + j - 5 = i * 5 + j by omega]
    exact evsV_get E i (by simpa using hi) j u h
theorem evs_built (w : World) (E : List EvM) (n : Nat) (hn : n = E.length) (cs : Array Value) (hc : cs = (evsV E).toArray) (B : Nat) (hB : B = w.heap.size) : EvsAt (w.alloc (.cells cs 34)) (.slice (some ⟨B, 0, none⟩) n n) E := by
  subst hn hc hB
  refine ⟨_, _, rfl, fun _ => ⟨w.heap.size, 0, rfl, by simp, fun i hi j u hu => ?_⟩⟩
  have h := (Blk.new w 34 (evsV E).toArray).cellv (i * 5 + j) u (by simpa using evsV_get E i hi j u hu)
  rw [show 0 + i * 5 + j = i * 5 + j by omega]
  exact h

set_option maxRecDepth 100000 in
theorem alive_any (w : World) : Calls Try.prog 10 #[] w fun e w' => e = .returned (.bool true) ∧ Below w.heap.size w w' := by
  have H := fun W B hB => all_any (evs_built W [⟨5, false, 0, [], 1⟩, ⟨1, true, 0, [], 0⟩, ⟨7, false, 0, [], 0⟩] 3 rfl #[.int .i64 5, .bool false, .int .u64 0, .string ⟨#[]⟩, .int .i64 1, .int .i64 1, .bool true, .int .u64 0, .string ⟨#[]⟩, .int .i64 0, .int .i64 7, .bool false, .int .u64 0, .string ⟨#[]⟩, .int .i64 0] rfl B hB) (by intro e he; simp at he; rcases he with rfl | rfl | rfl <;> exact ⟨by decide, by decide, by decide⟩) (by decide) [129, 245] 0 (by kernel_rfl)
  have HS : S [129, 245] = ⟨#[129, 245]⟩ := rfl
  rw [HS] at H
  have HH := fun W B hB => hide (H W B hB)
  clear H HS
  go_enter Try.func10, Try.ntmps10
  go_wp2_with fail
  (with_reducible refine (unhide (HH _ _ rfl)).mono ?_)
  rintro e w1 ⟨rfl, hb1⟩
  go_wp2_with fail
  go_ret
  exact ⟨rfl, (Below.more (Below.refl _ _) (Nat.le_refl _) _).trans (hb1.mono (by simp))⟩

set_option maxRecDepth 100000 in
theorem texts_no (l : ByteArray) (b : Bool) (w : World) (h : 300 < l.size) (hl : l.size ≤ 140737488351232) :
    Calls Try.prog 9 #[.string l, .bool b] w fun e w' => e = .returned (.bool true) ∧ Below w.heap.size w w' := by
  have HA := hide (alive_any w)
  have h2 : (300 : Int) < l.size := by omega
  go_enter Try.func9, Try.ntmps9
  go_wp2_with fail
  (with_reducible refine (unhide HA).mono ?_)
  rintro e w1 ⟨rfl, hb⟩
  go_wp2_with fail
  go_ret
  exact ⟨rfl, hb⟩
set_option maxRecDepth 100000 in
theorem texts_go (l : List UInt8) (b : Bool) (w : World) (h : l.length ≤ 300) :
    Calls Try.prog 9 #[.string (S l), .bool b] w fun e w' => e = .returned (.bool true) ∧ Below w.heap.size w w' := by
  have HA := hide (alive_any w)
  have h2 : ¬ (300 : Int) < l.length := by omega
  have hle : (l.length : Int) ≤ 300 := by omega
  have hw : IntKind.u64.wrap (l.length : Int) = l.length := by rw [IntKind.wrap_u64]; omega
  cases b with
  | false =>
    have H := fun W B hB => all_any (evs_built W [⟨3, false, 0, l, 0⟩] 1 rfl #[.int .i64 3, .bool false, .int .u64 0, .string (S l), .int .i64 0] rfl B hB) (by intro e he; simp at he; subst he; exact ⟨Int.le_refl 0, by simp only; omega, by simp⟩) (by simp) (putL 3 l.length ++ l) 0 rfl
    have HH := fun W B hB => hide (H W B hB)
    have HR := fun W => hide (refhead_any 3 l.length W _ rfl (hide (by omega)))
    have hadd := run_add_S (P := Try.prog) (putL 3 l.length) l (by have := putL_length 3 l.length; omega)
    clear H
    go_enter Try.func9, Try.ntmps9
    go_wp2_with fail
    (with_reducible refine (unhide HA).mono ?_)
    rintro e w1 ⟨rfl, hb⟩
    go_wp2_with fail
    (with_reducible refine (unhide (HH _ _ (by simp))).mono ?_)
    rintro e w2 ⟨rfl, hb2⟩
    go_wp2_with fail
    (with_reducible refine (unhide (HR _)).mono ?_)
    rintro e w3 ⟨rfl, ho3⟩
    go_wp2_with fail
    go_ret
    have ho2 : Only [w1.heap.size] w1 w2 := (((Only.refl _ w1).alloc _).alloc _).thenBelow hb2 (by simp; omega)
    have ho4 : Only [w1.heap.size] w1 w3 := ho2.trans (ho3.mono (fun _ h => by cases h))
    exact ⟨rfl, hb.trans (ho4.below hb.size (fun k hk => by rw [List.mem_singleton.1 hk]; exact hb.size))⟩
  | true =>
    have H := fun W B hB => all_any (evs_built W [⟨4, false, 0, l, 0⟩] 1 rfl #[.int .i64 4, .bool false, .int .u64 0, .string (S l), .int .i64 0] rfl B hB) (by intro e he; simp at he; subst he; exact ⟨Int.le_refl 0, by simp only; omega, by simp⟩) (by simp) (putL 2 l.length ++ l) 0 rfl
    have HH := fun W B hB => hide (H W B hB)
    have HR := fun W => hide (refhead_any 2 l.length W _ rfl (hide (by omega)))
    have hadd := run_add_S (P := Try.prog) (putL 2 l.length) l (by have := putL_length 2 l.length; omega)
    clear H
    go_enter Try.func9, Try.ntmps9
    go_wp2_with fail
    (with_reducible refine (unhide HA).mono ?_)
    rintro e w1 ⟨rfl, hb⟩
    go_wp2_with fail
    (with_reducible refine (unhide (HH _ _ (by simp))).mono ?_)
    rintro e w2 ⟨rfl, hb2⟩
    go_wp2_with fail
    (with_reducible refine (unhide (HR _)).mono ?_)
    rintro e w3 ⟨rfl, ho3⟩
    go_wp2_with fail
    go_ret
    have ho2 : Only [w1.heap.size] w1 w2 := (((Only.refl _ w1).alloc _).alloc _).thenBelow hb2 (by simp; omega)
    have ho4 : Only [w1.heap.size] w1 w3 := ho2.trans (ho3.mono (fun _ h => by cases h))
    exact ⟨rfl, hb.trans (ho4.below hb.size (fun k hk => by rw [List.mem_singleton.1 hk]; exact hb.size))⟩

set_option maxRecDepth 100000 in
theorem wholes_any (g : Bool) (m : Nat) (w : World) (hm : m < 18446744073709551616) :
    Calls Try.prog 7 #[.agg #[.bool g, .int .u64 m]] w fun e w' => e = .returned (.bool true) ∧ Below w.heap.size w w' := by
  have HA := fun W => hide (alive_any W)
  cases g with
  | false =>
    have H := fun W B hB => all_any (evs_built W [⟨2, false, m, [], 0⟩] 1 rfl #[.int .i64 2, .bool false, .int .u64 m, .string ⟨#[]⟩, .int .i64 0] rfl B hB) (by intro e he; simp at he; subst he; exact ⟨by simp only; omega, by simp, by simp⟩) (by simp) (putL 0 m) 0 rfl
    have HH := fun W B hB => hide (H W B hB)
    have HR := fun W => hide (refhead_any 0 m W _ rfl (hide hm))
    clear H hm
    go_enter Try.func7, Try.ntmps7
    go_wp2_with fail
    (with_reducible refine (unhide (HA _)).mono ?_)
    rintro e w1 ⟨rfl, hb⟩
    have kb := (Blk.new w 53 #[.bool false, .int .u64 m]).below hb (by simp)
    have c0 := kb.cellv 0 _ rfl
    have c1 := kb.cellv 1 _ rfl
    have hbw : Below w.heap.size w w1 := (Below.more (Below.refl _ _) (Nat.le_refl _) _).trans (hb.mono (by simp))
    go_wp2_with fail
    (with_reducible refine (unhide (HH _ _ rfl)).mono ?_)
    rintro e w2 ⟨rfl, hb2⟩
    have kb2 := (kb.alloc _).below hb2 (by have := kb.lt; simp; omega)
    have d0 := kb2.cellv 0 _ rfl
    have d1 := kb2.cellv 1 _ rfl
    have hbw2 : Below w.heap.size w w2 := (hbw.alloc hbw.size _).trans (hb2.mono (by have := hbw.size; simp; omega))
    clear kb kb2 hb hb2 c0 c1
    go_wp2_with fail
    (with_reducible refine (unhide (HR _)).mono ?_)
    rintro e w3 ⟨rfl, ho3⟩
    go_wp2_with fail
    go_ret
    exact ⟨rfl, hbw2.trans (ho3.nil_below.mono hbw2.size)⟩
  | true =>
    have H := fun W B hB => all_any (evs_built W [⟨2, true, m, [], 0⟩] 1 rfl #[.int .i64 2, .bool true, .int .u64 m, .string ⟨#[]⟩, .int .i64 0] rfl B hB) (by intro e he; simp at he; subst he; exact ⟨by simp only; omega, by simp, by simp⟩) (by simp) (putL 1 m) 0 rfl
    have HH := fun W B hB => hide (H W B hB)
    have HR := fun W => hide (refhead_any 1 m W _ rfl (hide hm))
    clear H hm
    go_enter Try.func7, Try.ntmps7
    go_wp2_with fail
    (with_reducible refine (unhide (HA _)).mono ?_)
    rintro e w1 ⟨rfl, hb⟩
    have kb := (Blk.new w 53 #[.bool true, .int .u64 m]).below hb (by simp)
    have c0 := kb.cellv 0 _ rfl
    have c1 := kb.cellv 1 _ rfl
    have hbw : Below w.heap.size w w1 := (Below.more (Below.refl _ _) (Nat.le_refl _) _).trans (hb.mono (by simp))
    go_wp2_with fail
    (with_reducible refine (unhide (HH _ _ rfl)).mono ?_)
    rintro e w2 ⟨rfl, hb2⟩
    have kb2 := (kb.alloc _).below hb2 (by have := kb.lt; simp; omega)
    have d0 := kb2.cellv 0 _ rfl
    have d1 := kb2.cellv 1 _ rfl
    have hbw2 : Below w.heap.size w w2 := (hbw.alloc hbw.size _).trans (hb2.mono (by have := hbw.size; simp; omega))
    clear kb kb2 hb hb2 c0 c1
    go_wp2_with fail
    (with_reducible refine (unhide (HR _)).mono ?_)
    rintro e w3 ⟨rfl, ho3⟩
    go_wp2_with fail
    go_ret
    exact ⟨rfl, hbw2.trans (ho3.nil_below.mono hbw2.size)⟩

/-- A whole number. -/
structure Row53 where
  g : Bool
  m : Int
def Row53.val (r : Row53) : Value := .agg #[.bool r.g, .int .u64 r.m]
def Row53.ok (r : Row53) : Prop := (Lit.int .u64 r.m).wf = true
theorem row53_of_trod {H : Type} {enc : TypeId × Value → H} {r : Reach} {b0 : Nat} {W : World} {v : Value} {d : DataW H} {p : List MemPlace} (hv : Value.okWide Try.prog W r b0 53 v)
    (h : DataW.Trod enc Try.prog W 0 (fun _ => true) true 53 v d p) : ∃ r : Row53, v = r.val ∧ r.ok := by
  obtain ⟨v0, v1, y0, y1, n, rfl, rfl, rfl, h0, h1⟩ := Go.Joins.open_agg2 Try.underlying53 (by kernel_rfl) (by kernel_rfl) hv h
  obtain ⟨b, e0, _⟩ := DataW.trod_bool Try.underlying4 h0
  obtain ⟨k, e1, _, wk⟩ := DataW.trod_int Try.underlying32 h1
  simp only [List.cons.injEq, and_true] at e0 e1
  subst e0 e1
  exact ⟨⟨b, k⟩, rfl, wk⟩
end Go.Proofs.Ytjegeoeebbfajaa
