/-
  Documents out of numbers: one item (the closure that calls itself).
-/
import Derived.Test.YteggfobeaolafaaPkDb
namespace Go.Proofs.Yteggfobeaolafaa
open Go.RowKit

def arrE (n : Nat) : EvM := ⟨5, false, 0, [], n⟩
def mapE (n : Nat) : EvM := ⟨6, false, 0, [], n⟩
def endE : EvM := ⟨7, false, 0, [], 0⟩
/-- A part that is small, and none that opens or ends. -/
def Leaf (e : EvM) : Prop := 0 ≤ e.k ∧ e.k ≤ 4 ∧ 0 ≤ e.m ∧ e.m < 9223372036854775808 ∧ e.l.length ≤ 28 ∧ e.c = 0
/-- What Doc makes: 0: an item, 1: so many items, 2: so many keys and items. -/
inductive Tree : Nat → Nat → List EvM → Prop
  | leaf (e : EvM) (h : Leaf e) : Tree 0 0 [e]
  | arr (n : Nat) (E : List EvM) (hn : n ≤ 3) (h : Tree 1 n E) : Tree 0 0 (arrE n :: (E ++ [endE]))
  | map (n : Nat) (E : List EvM) (hn : n ≤ 3) (h : Tree 2 n E) : Tree 0 0 (mapE n :: (E ++ [endE]))
  | nil1 : Tree 1 0 []
  | snoc1 (n : Nat) (E F : List EvM) (h : Tree 1 n E) (hF : Tree 0 0 F) : Tree 1 (n + 1) (E ++ F)
  | nil2 : Tree 2 0 []
  | snoc2 (n : Nat) (E F : List EvM) (e : EvM) (h : Tree 2 n E) (he : Leaf e) (hk : e.k = 3) (hF : Tree 0 0 F) : Tree 2 (n + 1) (E ++ (e :: F))
def bnd : Nat → Nat
  | 0 => 5
  | m + 1 => 2 + 3 * (bnd m + 1)

theorem hbelow_app {w0 w : World} {B : Nat} {a : Option Addr} {len cap : Nat} {depth : Int} {at_ : Nat} {outs : List EvM} {v : Value} {W : World} {o : Obj} (h : DocS w0 w B a len cap depth at_ outs v) (ho : Only (slB v) (w.alloc o) W) : Below B w W :=
  (((Only.refl _ _).alloc o).trans ho).below (by have := h.size; omega) (fun k hk => by have := (h.s.lt k hk).1; omega)

section
variable {w0 : World} {B : Nat} {a : Option Addr} {len cap : Nat} {depth : Int}
/-- What an item's closure leaves. -/
def ItemPost (w0 w : World) (B : Nat) (a : Option Addr) (len cap : Nat) (depth : Int) (at_ : Nat) (outs : List EvM) (b : Nat) (e : Ending) (w' : World) : Prop :=
  e = .returned (.tuple #[]) ∧ ∃ (E : List EvM) (at' : Nat) (v' : Value), Tree 0 0 E ∧ E.length ≤ b ∧ at' ≤ at_ + E.length ∧ DocS w0 w' B a len cap depth at' (outs ++ E) v' ∧ Below B w w'
set_option maxRecDepth 100000 in
set_option maxHeartbeats 4000000 in
theorem item_step {z : List Int} (hr : IsRow .i64 w0 a len cap z) (d : Int) (hd0 : 0 ≤ d) (hd1 : d ≤ 100) (b : Nat)
    (hrec : d < depth → ∀ (w : World) (at_ : Nat) (outs : List EvM) (v : Value), DocS w0 w B a len cap depth at_ outs v → at_ + b ≤ 1000000 → outs.length + b ≤ 1000000 →
      Calls Try.prog 34 #[.int .i64 (d + 1), .pointer (some ⟨B + 4, 0, none⟩), .pointer (some ⟨B + 2, 0, none⟩), .pointer (some ⟨B + 1, 0, none⟩), .pointer (some ⟨B + 5, 0, none⟩)] w (ItemPost w0 w B a len cap depth at_ outs b))
    (w : World) (at_ : Nat) (outs : List EvM) (v : Value) (h : DocS w0 w B a len cap depth at_ outs v) (hat : at_ + (2 + 3 * (b + 1)) ≤ 1000000) (hout : outs.length + (2 + 3 * (b + 1)) ≤ 1000000) :
    Calls Try.prog 34 #[.int .i64 d, .pointer (some ⟨B + 4, 0, none⟩), .pointer (some ⟨B + 2, 0, none⟩), .pointer (some ⟨B + 1, 0, none⟩), .pointer (some ⟨B + 5, 0, none⟩)] w (ItemPost w0 w B a len cap depth at_ outs (2 + 3 * (b + 1))) := by
  have HN := hide (next_any h hr (by omega))
  have c1 := h.nx.cellv 0 _ rfl
  have HREC := hide hrec
  have hol := hide hout
  have hpl := h.size
  clear hrec h
  go_enter Try.func34, Try.ntmps34
  go_wp2_with fail
  (with_reducible refine (unhide HN).mono ?_)
  rintro e w1 ⟨x, rfl, hx0, hx1, hD1, hB1⟩
  have hol := hol.out
  have HOV : Hid (B + 2 ∉ slB v) := hide (fun hk => by have := (hD1.s.lt _ hk).1; omega)
  have HD := hide hD1
  have HB1 := hide hB1
  have co := hD1.o.cellv 0 _ rfl
  have cd := hD1.d.cellv 0 _ rfl
  have hz1 := hD1.size
  clear HN hD1 hB1 c1
  have h8 : x % 8 = 0 ∨ x % 8 = 1 ∨ x % 8 = 2 ∨ x % 8 = 3 ∨ x % 8 = 4 ∨ x % 8 = 5 ∨ x % 8 = 6 ∨ x % 8 = 7 := by omega
  rcases h8 with h8 | h8 | h8 | h8 | h8 | h8 | h8 | h8
  ·
    go_wp2_with (at_builtin; refine wpList_append_slN rfl (.tmp 54) (.tmp 56) 22 rfl _ 48 Try.underlying22 info_ev rfl (by decide) (HD.out.s.alloc (.cells #[.int .i64 0, .bool false, .int .u64 0, .string (S []), .int .i64 0] 34)) (SlN.oneN (base := 0) (Nat.zero_le _) (Blk.new w1 34 #[.int .i64 0, .bool false, .int .u64 0, .string (S []), .int .i64 0]) rfl).src rfl rfl rfl (by intro y hy; simp at hy; rcases hy with rfl | rfl | rfl | rfl | rfl <;> rfl) (by unfold maxLen; omega) (by omega) (by have := HD.out.size; simp; omega) ?_; intro v2 w2 hs2 ho2 hf2; obtain ⟨a2, c2, rfl⟩ := hs2.form; have kp := ho2.blk (HD.out.o.alloc (.cells #[.int .i64 0, .bool false, .int .u64 0, .string (S []), .int .i64 0] 34)) HOV.out; have kc := kp.cellv 0 _ rfl; have kf := kp.frozen 0)
    have hpush := HD.out.push (x := (⟨0, false, 0, [], 0⟩ : EvM)) (((Only.refl _ _).alloc _).trans ho2) (fun k hk => (hf2 k hk).imp_right (fun h9 => by simp at h9; omega)) hs2 rfl
    exact bodyPost_ret (results_none rfl _ _ _) rfl ⟨rfl, [(⟨0, false, 0, [], 0⟩ : EvM)], _, _, .leaf _ (by simp [Leaf]), by simp; omega, by simp, hpush, HB1.out.trans (((hbelow_app HD.out ho2)).setCell (by simp) _)⟩
  · obtain ⟨k8, hk8, he8⟩ := i64_and_mask x 8 (by decide)
    have e8 : bits .and .i64 x 8 = (k8 : Int) := he8
    obtain ⟨y, hy⟩ : ∃ y, ((k8 : Int) != 0) = y := ⟨_, rfl⟩
    clear he8
    go_wp2_with (at_builtin; refine wpList_append_slN rfl (.tmp 60) (.tmp 65) 22 rfl _ 48 Try.underlying22 info_ev rfl (by decide) (HD.out.s.alloc (.cells #[.int .i64 1, .bool y, .int .u64 0, .string (S []), .int .i64 0] 34)) (SlN.oneN (base := 0) (Nat.zero_le _) (Blk.new w1 34 #[.int .i64 1, .bool y, .int .u64 0, .string (S []), .int .i64 0]) rfl).src rfl rfl rfl (by intro y hy; simp at hy; rcases hy with rfl | rfl | rfl | rfl | rfl <;> rfl) (by unfold maxLen; omega) (by omega) (by have := HD.out.size; simp; omega) ?_; intro v2 w2 hs2 ho2 hf2; obtain ⟨a2, c2, rfl⟩ := hs2.form; have kp := ho2.blk (HD.out.o.alloc (.cells #[.int .i64 1, .bool y, .int .u64 0, .string (S []), .int .i64 0] 34)) HOV.out; have kc := kp.cellv 0 _ rfl; have kf := kp.frozen 0)
    have hpush := HD.out.push (x := (⟨1, y, 0, [], 0⟩ : EvM)) (((Only.refl _ _).alloc _).trans ho2) (fun k hk => (hf2 k hk).imp_right (fun h9 => by simp at h9; omega)) hs2 rfl
    exact bodyPost_ret (results_none rfl _ _ _) rfl ⟨rfl, [(⟨1, y, 0, [], 0⟩ : EvM)], _, _, .leaf _ (by simp [Leaf]), by simp; omega, by simp, hpush, HB1.out.trans (((hbelow_app HD.out ho2)).setCell (by simp) _)⟩
  · obtain ⟨k8, hk8, he8⟩ := i64_and_mask x 8 (by decide)
    have e8 : bits .and .i64 x 8 = (k8 : Int) := he8
    obtain ⟨y, hy⟩ : ∃ y, ((k8 : Int) != 0) = y := ⟨_, rfl⟩
    obtain ⟨k7, hk7, he7⟩ := i64_and_mask x 7 (by decide)
    have e7 : bits .and .i64 x 7 = (k7 : Int) := he7
    have hw : IntKind.u64.wrap x = x := by rw [IntKind.wrap_u64]; omega
    have hxx : x * x ≤ 65535 * 65535 := Int.mul_le_mul hx1 hx1 hx0 (by omega)
    have hxx0 : 0 ≤ x * x := Int.mul_nonneg hx0 hx0
    have hw2 : IntKind.u64.wrap (x * x) = x * x := by rw [IntKind.wrap_u64]; omega
    clear he8 he7
    obtain ⟨mg, hmg⟩ : ∃ mg, x * x / 2 ^ k7 = mg := ⟨_, rfl⟩
    have hmg0 : 0 ≤ mg := by rw [← hmg]; exact Int.ediv_nonneg hxx0 (Int.pow_nonneg (by omega))
    have hmg1 : mg ≤ x * x := by rw [← hmg]; exact Int.ediv_le_self _ hxx0
    have hmg2 : mg < 9223372036854775808 := by omega
    have HMG := hide hmg2
    clear hmg2 hmg1
    go_upto_region 18 with (fail)
    have co1 : w1.drew.cell? ⟨B + 2, 0, none⟩ = some v := co
    clear co
    refine wp_region_tree (fun W => W.cell? ⟨B + 2, 0, none⟩ = some v) 15 (.take [0, 1, 2, 3, 4, 5, 6, 7, 8, 9, 10, 11, 12] (.step 13 (.step 14 (.step 15 (.fin))))) (by kernel_rfl) (by kernel_rfl) (by intro _ _ _ _ _ h; exact h) ?_
    refine wpTree_take (co1) ?_
    simp only [opsAt, List.getElem?_cons_zero, List.getElem?_cons_succ]
    first | (refine wpPureH_step (v := ?_) rfl (fun W hS => ?_) ?_; rotate_left; · (obtain s1 := hS; (try simp only [Act.put, List.setIfInBounds_toArray, List.set_cons_zero, List.set_cons_succ]); go_simp; with_reducible rfl)) | (refine wpPureH_want (v := ?_) (by rfl) (fun W hS => ?_) ?_; rotate_left; · (obtain s1 := hS; (try simp only [Act.put, List.setIfInBounds_toArray, List.set_cons_zero, List.set_cons_succ]); go_simp; with_reducible rfl))
    first | (refine wpPureH_step (v := ?_) rfl (fun W hS => ?_) ?_; rotate_left; · (obtain s1 := hS; (try simp only [Act.put, List.setIfInBounds_toArray, List.set_cons_zero, List.set_cons_succ]); go_simp; with_reducible rfl)) | (refine wpPureH_want (v := ?_) (by rfl) (fun W hS => ?_) ?_; rotate_left; · (obtain s1 := hS; (try simp only [Act.put, List.setIfInBounds_toArray, List.set_cons_zero, List.set_cons_succ]); go_simp; with_reducible rfl))
    first | (refine wpPureH_step (v := ?_) rfl (fun W hS => ?_) ?_; rotate_left; · (obtain s1 := hS; (try simp only [Act.put, List.setIfInBounds_toArray, List.set_cons_zero, List.set_cons_succ]); go_simp; with_reducible rfl)) | (refine wpPureH_want (v := ?_) (by rfl) (fun W hS => ?_) ?_; rotate_left; · (obtain s1 := hS; (try simp only [Act.put, List.setIfInBounds_toArray, List.set_cons_zero, List.set_cons_succ]); go_simp; with_reducible rfl))
    first | (refine wpPureH_step (v := ?_) rfl (fun W hS => ?_) ?_; rotate_left; · (obtain s1 := hS; (try simp only [Act.put, List.setIfInBounds_toArray, List.set_cons_zero, List.set_cons_succ]); go_simp; with_reducible rfl)) | (refine wpPureH_want (v := ?_) (by rfl) (fun W hS => ?_) ?_; rotate_left; · (obtain s1 := hS; (try simp only [Act.put, List.setIfInBounds_toArray, List.set_cons_zero, List.set_cons_succ]); go_simp; with_reducible rfl))
    first | (refine wpPureH_step (v := ?_) rfl (fun W hS => ?_) ?_; rotate_left; · (obtain s1 := hS; (try simp only [Act.put, List.setIfInBounds_toArray, List.set_cons_zero, List.set_cons_succ]); go_simp; with_reducible rfl)) | (refine wpPureH_want (v := ?_) (by rfl) (fun W hS => ?_) ?_; rotate_left; · (obtain s1 := hS; (try simp only [Act.put, List.setIfInBounds_toArray, List.set_cons_zero, List.set_cons_succ]); go_simp; with_reducible rfl))
    first | (refine wpPureH_step (v := ?_) rfl (fun W hS => ?_) ?_; rotate_left; · (obtain s1 := hS; (try simp only [Act.put, List.setIfInBounds_toArray, List.set_cons_zero, List.set_cons_succ]); go_simp; with_reducible rfl)) | (refine wpPureH_want (v := ?_) (by rfl) (fun W hS => ?_) ?_; rotate_left; · (obtain s1 := hS; (try simp only [Act.put, List.setIfInBounds_toArray, List.set_cons_zero, List.set_cons_succ]); go_simp; with_reducible rfl))
    first | (refine wpPureH_step (v := ?_) rfl (fun W hS => ?_) ?_; rotate_left; · (obtain s1 := hS; (try simp only [Act.put, List.setIfInBounds_toArray, List.set_cons_zero, List.set_cons_succ]); go_simp; with_reducible rfl)) | (refine wpPureH_want (v := ?_) (by rfl) (fun W hS => ?_) ?_; rotate_left; · (obtain s1 := hS; (try simp only [Act.put, List.setIfInBounds_toArray, List.set_cons_zero, List.set_cons_succ]); go_simp; with_reducible rfl))
    first | (refine wpPureH_step (v := ?_) rfl (fun W hS => ?_) ?_; rotate_left; · (obtain s1 := hS; (try simp only [Act.put, List.setIfInBounds_toArray, List.set_cons_zero, List.set_cons_succ]); go_simp; with_reducible rfl)) | (refine wpPureH_want (v := ?_) (by rfl) (fun W hS => ?_) ?_; rotate_left; · (obtain s1 := hS; (try simp only [Act.put, List.setIfInBounds_toArray, List.set_cons_zero, List.set_cons_succ]); go_simp; with_reducible rfl))
    first | (refine wpPureH_step (v := ?_) rfl (fun W hS => ?_) ?_; rotate_left; · (obtain s1 := hS; (try simp only [Act.put, List.setIfInBounds_toArray, List.set_cons_zero, List.set_cons_succ]); go_simp; with_reducible rfl)) | (refine wpPureH_want (v := ?_) (by rfl) (fun W hS => ?_) ?_; rotate_left; · (obtain s1 := hS; (try simp only [Act.put, List.setIfInBounds_toArray, List.set_cons_zero, List.set_cons_succ]); go_simp; with_reducible rfl))
    first | (refine wpPureH_step (v := ?_) rfl (fun W hS => ?_) ?_; rotate_left; · (obtain s1 := hS; (try simp only [Act.put, List.setIfInBounds_toArray, List.set_cons_zero, List.set_cons_succ]); go_simp; with_reducible rfl)) | (refine wpPureH_want (v := ?_) (by rfl) (fun W hS => ?_) ?_; rotate_left; · (obtain s1 := hS; (try simp only [Act.put, List.setIfInBounds_toArray, List.set_cons_zero, List.set_cons_succ]); go_simp; with_reducible rfl))
    first | (refine wpPureH_step (v := ?_) rfl (fun W hS => ?_) ?_; rotate_left; · (obtain s1 := hS; (try simp only [Act.put, List.setIfInBounds_toArray, List.set_cons_zero, List.set_cons_succ]); go_simp; with_reducible rfl)) | (refine wpPureH_want (v := ?_) (by rfl) (fun W hS => ?_) ?_; rotate_left; · (obtain s1 := hS; (try simp only [Act.put, List.setIfInBounds_toArray, List.set_cons_zero, List.set_cons_succ]); go_simp; with_reducible rfl))
    first | (refine wpPureH_step (v := ?_) rfl (fun W hS => ?_) ?_; rotate_left; · (obtain s1 := hS; (try simp only [Act.put, List.setIfInBounds_toArray, List.set_cons_zero, List.set_cons_succ]); go_simp; with_reducible rfl)) | (refine wpPureH_want (v := ?_) (by rfl) (fun W hS => ?_) ?_; rotate_left; · (obtain s1 := hS; (try simp only [Act.put, List.setIfInBounds_toArray, List.set_cons_zero, List.set_cons_succ]); go_simp; with_reducible rfl))
    first | (refine wpPureH_step (v := ?_) rfl (fun W hS => ?_) ?_; rotate_left; · (obtain s1 := hS; (try simp only [Act.put, List.setIfInBounds_toArray, List.set_cons_zero, List.set_cons_succ]); go_simp; with_reducible rfl)) | (refine wpPureH_want (v := ?_) (by rfl) (fun W hS => ?_) ?_; rotate_left; · (obtain s1 := hS; (try simp only [Act.put, List.setIfInBounds_toArray, List.set_cons_zero, List.set_cons_succ]); go_simp; with_reducible rfl))
    refine wpPureH_nil ?_
    simp only [Act.put, List.setIfInBounds_toArray, List.set_cons_zero, List.set_cons_succ]
    have ko1 := (HD.out.drew).o.alloc (.cells #[.int .i64 2, .bool y, .int .u64 mg, .string (S []), .int .i64 0] 34)
    refine wpTree_step ?_
    simp only [opsAt, List.getElem?_cons_zero, List.getElem?_cons_succ]
    go_wp2_with fail
    refine ⟨.inr (ko1.cellv 0 _ rfl), ?_⟩
    refine wpTree_step ?_
    simp only [opsAt, List.getElem?_cons_zero, List.getElem?_cons_succ]
    refine wpList_append_slN rfl (.tmp 70) (.tmp 83) 22 rfl _ 48 Try.underlying22 info_ev rfl (by decide) ((HD.out.drew).s.alloc (.cells #[.int .i64 2, .bool y, .int .u64 mg, .string (S []), .int .i64 0] 34)) (SlN.oneN (base := 0) (Nat.zero_le _) (Blk.new w1.drew 34 #[.int .i64 2, .bool y, .int .u64 mg, .string (S []), .int .i64 0]) rfl).src rfl rfl rfl (by intro y hy; simp at hy; rcases hy with rfl | rfl | rfl | rfl | rfl <;> rfl) (by unfold maxLen; omega) (by omega) (by have := (HD.out.drew).size; simp; omega) ?_
    intro v2 w2 hs2 ho2 hf2
    obtain ⟨a2, c2, rfl⟩ := hs2.form
    have kp := ho2.blk ko1 HOV.out
    have KP := hide kp
    have KN := hide (ho2.blk ((HD.out.drew).nx.alloc (.cells #[.int .i64 2, .bool y, .int .u64 mg, .string (S []), .int .i64 0] 34)) (fun hk => by have := ((HD.out.drew).s.lt _ hk).1; omega))
    clear kp co1
    go_wp2_with fail
    first | refine ⟨.inr (KP.out.cellv 0 _ rfl), ?_⟩ | refine ⟨(KP.out.cellv 0 _ rfl), ?_⟩
    have kc := KP.out.cellv 0 _ rfl
    have kf := KP.out.frozen 0
    refine wpTree_step ?_
    simp only [opsAt, List.getElem?_cons_zero, List.getElem?_cons_succ]
    go_wp2_with fail
    refine ⟨.inl trivial, wpTree_fin ?_⟩
    have hpush := (HD.out.drew).push (x := (⟨2, y, mg, [], 0⟩ : EvM)) (((Only.refl _ _).alloc _).trans ho2) (fun k hk => (hf2 k hk).imp_right (fun h9 => by have h7 : w1.drew.heap.size = w1.heap.size := rfl; simp at h9; omega)) hs2 rfl
    go_wp2_with fail
    exact bodyPost_ret (results_none rfl _ _ _) rfl ⟨rfl, [(⟨2, y, mg, [], 0⟩ : EvM)], _, _, .leaf _ (by (have h64 := HMG.out; simp [Leaf]; omega)), by simp; omega, by simp, hpush, (HB1.out.drew).trans (((hbelow_app (HD.out.drew) ho2)).setCell (by simp) _)⟩
  · obtain ⟨k8, hk8, he8⟩ := i64_and_mask x 8 (by decide)
    have e8 : bits .and .i64 x 8 = (k8 : Int) := he8
    obtain ⟨y, hy⟩ : ∃ y, ((k8 : Int) != 0) = y := ⟨_, rfl⟩
    obtain ⟨k7, hk7, he7⟩ := i64_and_mask x 7 (by decide)
    have e7 : bits .and .i64 x 7 = (k7 : Int) := he7
    have hw : IntKind.u64.wrap x = x := by rw [IntKind.wrap_u64]; omega
    have hxx : x * x ≤ 65535 * 65535 := Int.mul_le_mul hx1 hx1 hx0 (by omega)
    have hxx0 : 0 ≤ x * x := Int.mul_nonneg hx0 hx0
    have hw2 : IntKind.u64.wrap (x * x) = x * x := by rw [IntKind.wrap_u64]; omega
    clear he8 he7
    obtain ⟨mg, hmg⟩ : ∃ mg, x * x / 2 ^ k7 = mg := ⟨_, rfl⟩
    have hmg0 : 0 ≤ mg := by rw [← hmg]; exact Int.ediv_nonneg hxx0 (Int.pow_nonneg (by omega))
    have hmg1 : mg ≤ x * x := by rw [← hmg]; exact Int.ediv_le_self _ hxx0
    have hmg2 : mg < 9223372036854775808 := by omega
    have HMG := hide hmg2
    clear hmg2 hmg1
    go_upto_region 18 with (fail)
    have co1 : w1.drew.cell? ⟨B + 2, 0, none⟩ = some v := co
    clear co
    refine wp_region_tree (fun W => W.cell? ⟨B + 2, 0, none⟩ = some v) 15 (.take [0, 1, 2, 3, 4, 5, 6, 7, 8, 9, 10, 11, 12] (.step 13 (.step 14 (.step 15 (.fin))))) (by kernel_rfl) (by kernel_rfl) (by intro _ _ _ _ _ h; exact h) ?_
    refine wpTree_take (co1) ?_
    simp only [opsAt, List.getElem?_cons_zero, List.getElem?_cons_succ]
    first | (refine wpPureH_step (v := ?_) rfl (fun W hS => ?_) ?_; rotate_left; · (obtain s1 := hS; (try simp only [Act.put, List.setIfInBounds_toArray, List.set_cons_zero, List.set_cons_succ]); go_simp; with_reducible rfl)) | (refine wpPureH_want (v := ?_) (by rfl) (fun W hS => ?_) ?_; rotate_left; · (obtain s1 := hS; (try simp only [Act.put, List.setIfInBounds_toArray, List.set_cons_zero, List.set_cons_succ]); go_simp; with_reducible rfl))
    first | (refine wpPureH_step (v := ?_) rfl (fun W hS => ?_) ?_; rotate_left; · (obtain s1 := hS; (try simp only [Act.put, List.setIfInBounds_toArray, List.set_cons_zero, List.set_cons_succ]); go_simp; with_reducible rfl)) | (refine wpPureH_want (v := ?_) (by rfl) (fun W hS => ?_) ?_; rotate_left; · (obtain s1 := hS; (try simp only [Act.put, List.setIfInBounds_toArray, List.set_cons_zero, List.set_cons_succ]); go_simp; with_reducible rfl))
    first | (refine wpPureH_step (v := ?_) rfl (fun W hS => ?_) ?_; rotate_left; · (obtain s1 := hS; (try simp only [Act.put, List.setIfInBounds_toArray, List.set_cons_zero, List.set_cons_succ]); go_simp; with_reducible rfl)) | (refine wpPureH_want (v := ?_) (by rfl) (fun W hS => ?_) ?_; rotate_left; · (obtain s1 := hS; (try simp only [Act.put, List.setIfInBounds_toArray, List.set_cons_zero, List.set_cons_succ]); go_simp; with_reducible rfl))
    first | (refine wpPureH_step (v := ?_) rfl (fun W hS => ?_) ?_; rotate_left; · (obtain s1 := hS; (try simp only [Act.put, List.setIfInBounds_toArray, List.set_cons_zero, List.set_cons_succ]); go_simp; with_reducible rfl)) | (refine wpPureH_want (v := ?_) (by rfl) (fun W hS => ?_) ?_; rotate_left; · (obtain s1 := hS; (try simp only [Act.put, List.setIfInBounds_toArray, List.set_cons_zero, List.set_cons_succ]); go_simp; with_reducible rfl))
    first | (refine wpPureH_step (v := ?_) rfl (fun W hS => ?_) ?_; rotate_left; · (obtain s1 := hS; (try simp only [Act.put, List.setIfInBounds_toArray, List.set_cons_zero, List.set_cons_succ]); go_simp; with_reducible rfl)) | (refine wpPureH_want (v := ?_) (by rfl) (fun W hS => ?_) ?_; rotate_left; · (obtain s1 := hS; (try simp only [Act.put, List.setIfInBounds_toArray, List.set_cons_zero, List.set_cons_succ]); go_simp; with_reducible rfl))
    first | (refine wpPureH_step (v := ?_) rfl (fun W hS => ?_) ?_; rotate_left; · (obtain s1 := hS; (try simp only [Act.put, List.setIfInBounds_toArray, List.set_cons_zero, List.set_cons_succ]); go_simp; with_reducible rfl)) | (refine wpPureH_want (v := ?_) (by rfl) (fun W hS => ?_) ?_; rotate_left; · (obtain s1 := hS; (try simp only [Act.put, List.setIfInBounds_toArray, List.set_cons_zero, List.set_cons_succ]); go_simp; with_reducible rfl))
    first | (refine wpPureH_step (v := ?_) rfl (fun W hS => ?_) ?_; rotate_left; · (obtain s1 := hS; (try simp only [Act.put, List.setIfInBounds_toArray, List.set_cons_zero, List.set_cons_succ]); go_simp; with_reducible rfl)) | (refine wpPureH_want (v := ?_) (by rfl) (fun W hS => ?_) ?_; rotate_left; · (obtain s1 := hS; (try simp only [Act.put, List.setIfInBounds_toArray, List.set_cons_zero, List.set_cons_succ]); go_simp; with_reducible rfl))
    first | (refine wpPureH_step (v := ?_) rfl (fun W hS => ?_) ?_; rotate_left; · (obtain s1 := hS; (try simp only [Act.put, List.setIfInBounds_toArray, List.set_cons_zero, List.set_cons_succ]); go_simp; with_reducible rfl)) | (refine wpPureH_want (v := ?_) (by rfl) (fun W hS => ?_) ?_; rotate_left; · (obtain s1 := hS; (try simp only [Act.put, List.setIfInBounds_toArray, List.set_cons_zero, List.set_cons_succ]); go_simp; with_reducible rfl))
    first | (refine wpPureH_step (v := ?_) rfl (fun W hS => ?_) ?_; rotate_left; · (obtain s1 := hS; (try simp only [Act.put, List.setIfInBounds_toArray, List.set_cons_zero, List.set_cons_succ]); go_simp; with_reducible rfl)) | (refine wpPureH_want (v := ?_) (by rfl) (fun W hS => ?_) ?_; rotate_left; · (obtain s1 := hS; (try simp only [Act.put, List.setIfInBounds_toArray, List.set_cons_zero, List.set_cons_succ]); go_simp; with_reducible rfl))
    first | (refine wpPureH_step (v := ?_) rfl (fun W hS => ?_) ?_; rotate_left; · (obtain s1 := hS; (try simp only [Act.put, List.setIfInBounds_toArray, List.set_cons_zero, List.set_cons_succ]); go_simp; with_reducible rfl)) | (refine wpPureH_want (v := ?_) (by rfl) (fun W hS => ?_) ?_; rotate_left; · (obtain s1 := hS; (try simp only [Act.put, List.setIfInBounds_toArray, List.set_cons_zero, List.set_cons_succ]); go_simp; with_reducible rfl))
    first | (refine wpPureH_step (v := ?_) rfl (fun W hS => ?_) ?_; rotate_left; · (obtain s1 := hS; (try simp only [Act.put, List.setIfInBounds_toArray, List.set_cons_zero, List.set_cons_succ]); go_simp; with_reducible rfl)) | (refine wpPureH_want (v := ?_) (by rfl) (fun W hS => ?_) ?_; rotate_left; · (obtain s1 := hS; (try simp only [Act.put, List.setIfInBounds_toArray, List.set_cons_zero, List.set_cons_succ]); go_simp; with_reducible rfl))
    first | (refine wpPureH_step (v := ?_) rfl (fun W hS => ?_) ?_; rotate_left; · (obtain s1 := hS; (try simp only [Act.put, List.setIfInBounds_toArray, List.set_cons_zero, List.set_cons_succ]); go_simp; with_reducible rfl)) | (refine wpPureH_want (v := ?_) (by rfl) (fun W hS => ?_) ?_; rotate_left; · (obtain s1 := hS; (try simp only [Act.put, List.setIfInBounds_toArray, List.set_cons_zero, List.set_cons_succ]); go_simp; with_reducible rfl))
    first | (refine wpPureH_step (v := ?_) rfl (fun W hS => ?_) ?_; rotate_left; · (obtain s1 := hS; (try simp only [Act.put, List.setIfInBounds_toArray, List.set_cons_zero, List.set_cons_succ]); go_simp; with_reducible rfl)) | (refine wpPureH_want (v := ?_) (by rfl) (fun W hS => ?_) ?_; rotate_left; · (obtain s1 := hS; (try simp only [Act.put, List.setIfInBounds_toArray, List.set_cons_zero, List.set_cons_succ]); go_simp; with_reducible rfl))
    refine wpPureH_nil ?_
    simp only [Act.put, List.setIfInBounds_toArray, List.set_cons_zero, List.set_cons_succ]
    have ko1 := (HD.out.drew).o.alloc (.cells #[.int .i64 2, .bool y, .int .u64 mg, .string (S []), .int .i64 0] 34)
    refine wpTree_step ?_
    simp only [opsAt, List.getElem?_cons_zero, List.getElem?_cons_succ]
    go_wp2_with fail
    refine ⟨.inr (ko1.cellv 0 _ rfl), ?_⟩
    refine wpTree_step ?_
    simp only [opsAt, List.getElem?_cons_zero, List.getElem?_cons_succ]
    refine wpList_append_slN rfl (.tmp 70) (.tmp 83) 22 rfl _ 48 Try.underlying22 info_ev rfl (by decide) ((HD.out.drew).s.alloc (.cells #[.int .i64 2, .bool y, .int .u64 mg, .string (S []), .int .i64 0] 34)) (SlN.oneN (base := 0) (Nat.zero_le _) (Blk.new w1.drew 34 #[.int .i64 2, .bool y, .int .u64 mg, .string (S []), .int .i64 0]) rfl).src rfl rfl rfl (by intro y hy; simp at hy; rcases hy with rfl | rfl | rfl | rfl | rfl <;> rfl) (by unfold maxLen; omega) (by omega) (by have := (HD.out.drew).size; simp; omega) ?_
    intro v2 w2 hs2 ho2 hf2
    obtain ⟨a2, c2, rfl⟩ := hs2.form
    have kp := ho2.blk ko1 HOV.out
    have KP := hide kp
    have KN := hide (ho2.blk ((HD.out.drew).nx.alloc (.cells #[.int .i64 2, .bool y, .int .u64 mg, .string (S []), .int .i64 0] 34)) (fun hk => by have := ((HD.out.drew).s.lt _ hk).1; omega))
    clear kp co1
    go_wp2_with fail
    first | refine ⟨.inr (KP.out.cellv 0 _ rfl), ?_⟩ | refine ⟨(KP.out.cellv 0 _ rfl), ?_⟩
    have kc := KP.out.cellv 0 _ rfl
    have kf := KP.out.frozen 0
    refine wpTree_step ?_
    simp only [opsAt, List.getElem?_cons_zero, List.getElem?_cons_succ]
    go_wp2_with fail
    refine ⟨.inl trivial, wpTree_fin ?_⟩
    have hpush := (HD.out.drew).push (x := (⟨2, y, mg, [], 0⟩ : EvM)) (((Only.refl _ _).alloc _).trans ho2) (fun k hk => (hf2 k hk).imp_right (fun h9 => by have h7 : w1.drew.heap.size = w1.heap.size := rfl; simp at h9; omega)) hs2 rfl
    go_wp2_with fail
    exact bodyPost_ret (results_none rfl _ _ _) rfl ⟨rfl, [(⟨2, y, mg, [], 0⟩ : EvM)], _, _, .leaf _ (by (have h64 := HMG.out; simp [Leaf]; omega)), by simp; omega, by simp, hpush, (HB1.out.drew).trans (((hbelow_app (HD.out.drew) ho2)).setCell (by simp) _)⟩
  · have HT := hide (fun W => text_any x hx0 hx1 W)
    go_upto_region 20 with (fail)
    have co1 : w1.drew.cell? ⟨B + 2, 0, none⟩ = some v := co
    clear co
    refine wp_region_tree (fun W => W.cell? ⟨B + 2, 0, none⟩ = some v) 6 (.take [0, 1] (.step 2 (.take [3] (.step 4 (.step 5 (.step 6 (.fin))))))) (by kernel_rfl) (by kernel_rfl) (by intro _ _ _ _ _ h; exact h) ?_
    refine wpTree_take (co1) ?_
    simp only [opsAt, List.getElem?_cons_zero, List.getElem?_cons_succ]
    first | (refine wpPureH_step (v := ?_) rfl (fun W hS => ?_) ?_; rotate_left; · (obtain s1 := hS; (try simp only [Act.put, List.setIfInBounds_toArray, List.set_cons_zero, List.set_cons_succ]); go_simp; with_reducible rfl)) | (refine wpPureH_want (v := ?_) (by rfl) (fun W hS => ?_) ?_; rotate_left; · (obtain s1 := hS; (try simp only [Act.put, List.setIfInBounds_toArray, List.set_cons_zero, List.set_cons_succ]); go_simp; with_reducible rfl))
    first | (refine wpPureH_step (v := ?_) rfl (fun W hS => ?_) ?_; rotate_left; · (obtain s1 := hS; (try simp only [Act.put, List.setIfInBounds_toArray, List.set_cons_zero, List.set_cons_succ]); go_simp; with_reducible rfl)) | (refine wpPureH_want (v := ?_) (by rfl) (fun W hS => ?_) ?_; rotate_left; · (obtain s1 := hS; (try simp only [Act.put, List.setIfInBounds_toArray, List.set_cons_zero, List.set_cons_succ]); go_simp; with_reducible rfl))
    refine wpPureH_nil ?_
    simp only [Act.put, List.setIfInBounds_toArray, List.set_cons_zero, List.set_cons_succ]
    refine wpTree_step ?_
    simp only [opsAt, List.getElem?_cons_zero, List.getElem?_cons_succ]
    go_wp2_with fail
    (with_reducible refine (HT.out _).mono ?_)
    rintro e w3 ⟨l, rfl, hl, hb3⟩
    have HD3 := hide (HD.out.drew.only hb3)
    have HB3 := hide (HB1.out.drew.trans (hb3.mono (Nat.le_of_lt HD.out.l.lt)))
    have co3 := HD3.out.o.cellv 0 _ rfl
    clear co1 HT hb3
    have CO := hide co3
    clear co3
    go_wp2_with fail
    first | refine ⟨.inr CO.out, ?_⟩ | refine ⟨CO.out, ?_⟩
    have co3 := CO.out
    refine wpTree_take (co3) ?_
    simp only [opsAt, List.getElem?_cons_zero, List.getElem?_cons_succ]
    first | (refine wpPureH_step (v := ?_) rfl (fun W hS => ?_) ?_; rotate_left; · (obtain s1 := hS; (try simp only [Act.put, List.setIfInBounds_toArray, List.set_cons_zero, List.set_cons_succ]); go_simp; with_reducible rfl)) | (refine wpPureH_want (v := ?_) (by rfl) (fun W hS => ?_) ?_; rotate_left; · (obtain s1 := hS; (try simp only [Act.put, List.setIfInBounds_toArray, List.set_cons_zero, List.set_cons_succ]); go_simp; with_reducible rfl))
    refine wpPureH_nil ?_
    simp only [Act.put, List.setIfInBounds_toArray, List.set_cons_zero, List.set_cons_succ]
    have ko1 := (HD3.out).o.alloc (.cells #[.int .i64 3, .bool false, .int .u64 0, .string (S l), .int .i64 0] 34)
    refine wpTree_step ?_
    simp only [opsAt, List.getElem?_cons_zero, List.getElem?_cons_succ]
    go_wp2_with fail
    refine ⟨.inr (ko1.cellv 0 _ rfl), ?_⟩
    refine wpTree_step ?_
    simp only [opsAt, List.getElem?_cons_zero, List.getElem?_cons_succ]
    refine wpList_append_slN rfl (.tmp 87) (.tmp 91) 22 rfl _ 48 Try.underlying22 info_ev rfl (by decide) ((HD3.out).s.alloc (.cells #[.int .i64 3, .bool false, .int .u64 0, .string (S l), .int .i64 0] 34)) (SlN.oneN (base := 0) (Nat.zero_le _) (Blk.new w3 34 #[.int .i64 3, .bool false, .int .u64 0, .string (S l), .int .i64 0]) rfl).src rfl rfl rfl (by intro y hy; simp at hy; rcases hy with rfl | rfl | rfl | rfl | rfl <;> rfl) (by unfold maxLen; omega) (by omega) (by have := (HD3.out).size; simp; omega) ?_
    intro v2 w2 hs2 ho2 hf2
    obtain ⟨a2, c2, rfl⟩ := hs2.form
    have kp := ho2.blk ko1 HOV.out
    have KP := hide kp
    have KN := hide (ho2.blk ((HD3.out).nx.alloc (.cells #[.int .i64 3, .bool false, .int .u64 0, .string (S l), .int .i64 0] 34)) (fun hk => by have := ((HD3.out).s.lt _ hk).1; omega))
    clear kp co3
    go_wp2_with fail
    first | refine ⟨.inr (KP.out.cellv 0 _ rfl), ?_⟩ | refine ⟨(KP.out.cellv 0 _ rfl), ?_⟩
    have kc := KP.out.cellv 0 _ rfl
    have kf := KP.out.frozen 0
    refine wpTree_step ?_
    simp only [opsAt, List.getElem?_cons_zero, List.getElem?_cons_succ]
    go_wp2_with fail
    refine ⟨.inl trivial, wpTree_fin ?_⟩
    have hpush := (HD3.out).push (x := (⟨3, false, 0, l, 0⟩ : EvM)) (((Only.refl _ _).alloc _).trans ho2) (fun k hk => (hf2 k hk).imp_right (fun h9 => by skip; simp at h9; omega)) hs2 rfl
    go_wp2_with fail
    exact bodyPost_ret (results_none rfl _ _ _) rfl ⟨rfl, [(⟨3, false, 0, l, 0⟩ : EvM)], _, _, .leaf _ (by (simp [Leaf]; omega)), by simp; omega, by simp, hpush, (HB3.out).trans (((hbelow_app (HD3.out) ho2)).setCell (by simp) _)⟩
  · by_cases hdd : d < depth
    · obtain ⟨nn, hnn⟩ : ∃ nn : Nat, x / 8 % 4 = (nn : Int) := ⟨(x / 8 % 4).toNat, by omega⟩
      have hnn3 : nn ≤ 3 := by omega
      go_wp2_with (at_builtin; refine wpList_append_slN rfl (.tmp 105) (.tmp 108) 22 rfl _ 48 Try.underlying22 info_ev rfl (by decide) (HD.out.s.alloc (.cells #[.int .i64 5, .bool false, .int .u64 0, .string (S []), .int .i64 (nn : Int)] 34)) (SlN.oneN (base := 0) (Nat.zero_le _) (Blk.new w1 34 #[.int .i64 5, .bool false, .int .u64 0, .string (S []), .int .i64 (nn : Int)]) rfl).src rfl rfl rfl (by intro y hy; simp at hy; rcases hy with rfl | rfl | rfl | rfl | rfl <;> rfl) (by unfold maxLen; omega) (by omega) (by have := HD.out.size; simp; omega) ?_; intro v2 w2 hs2 ho2 hf2; obtain ⟨a2, c2, rfl⟩ := hs2.form; have kp := ho2.blk (HD.out.o.alloc (.cells #[.int .i64 5, .bool false, .int .u64 0, .string (S []), .int .i64 (nn : Int)] 34)) HOV.out; have kc := kp.cellv 0 _ rfl; have kf := kp.frozen 0)
      have hpush := HD.out.push (x := (arrE nn)) (((Only.refl _ _).alloc _).trans ho2) (fun k hk => (hf2 k hk).imp_right (fun h9 => by simp at h9; omega)) hs2 rfl
      have HBP := hide (HB1.out.trans (((hbelow_app HD.out ho2)).setCell (p := ⟨B + 2, 0, none⟩) (by simp) (.slice a2 (outs.length + 1) c2)))
      have HP := hide hpush
      clear kp kc kf hpush hs2 ho2 hf2 co cd HOV HD HB1
      go_loopg [8] nn (fun g s8 wr => ∃ (i : Nat) (E : List EvM) (at' : Nat) (v' : Value), s8 = .int .i64 i ∧ i + g = nn ∧ Hid (Tree 1 i E) ∧ Hid (E.length ≤ i * b) ∧ Hid (at' ≤ at_ + 1 + E.length) ∧ Hid (DocS w0 wr B a len cap depth at' ((outs ++ [arrE nn]) ++ E) v') ∧ Hid (Below B w wr))
      case atStart => exact ⟨0, [], at_ + 1, _, rfl, by omega, hide .nil1, hide (by simp), hide (by simp), hide (by rw [List.append_nil]; exact HP.out), HBP⟩
      case round =>
        clear HP HBP
        obtain ⟨i, E, at', v', rfl, hi, ht, hel, hat', hd, hbw⟩ := hrel
        have hb0 := hel.out
        have hb1' := hat'.out
        by_cases hin : i < nn
        · have hmul : i * b ≤ 2 * b := Nat.mul_le_mul_right _ (by omega)
          have HR := hide (HREC.out hdd wr at' _ v' hd.out (by omega) (by simp; omega))
          have ci := hd.out.it.cellv 0 _ rfl
          clear hmul
          go_wp2_with fail
          (with_reducible refine (unhide HR).mono ?_)
          rintro e w5 ⟨rfl, F, at2, v5, hF, hFl, hat2, hD5, hB5⟩
          clear HR ci
          go_wp2_with fail
          go_roundg (gk - 1)
          case measure => omega
          case rel => exact ⟨i + 1, E ++ F, at2, v5, by go_num, by omega, hide (.snoc1 _ _ _ ht.out hF), hide (by rw [List.length_append, Nat.add_mul]; omega), hide (by rw [List.length_append]; omega), hide (by rw [← List.append_assoc]; exact hD5), hide (hbw.out.trans hB5)⟩
        · obtain rfl : i = nn := by omega
          have HOV : Hid (B + 2 ∉ slB v') := hide (fun hk => by have := (hd.out.s.lt _ hk).1; omega)
          have HB1 := hbw
          have co := hd.out.o.cellv 0 _ rfl
          have hzr := hd.out.size
          have hmul : i * b ≤ 3 * b := Nat.mul_le_mul_right _ (by omega)
          have hlo : (outs ++ [arrE i] ++ E).length ≤ 1000000 := by simp; omega
          have hd9 := hd.out
          obtain ⟨oo, hoo⟩ : ∃ oo, oo = outs ++ [arrE i] ++ E := ⟨_, rfl⟩
          rw [← hoo] at hd9 hlo
          have HD := hide hd9
          have HOO := hide hoo
          clear hd9 hoo
          go_wp2_with (at_builtin; refine wpList_append_slN rfl (.tmp 119) (.tmp 121) 22 rfl _ 48 Try.underlying22 info_ev rfl (by decide) (HD.out.s.alloc (.cells #[.int .i64 7, .bool false, .int .u64 0, .string (S []), .int .i64 0] 34)) (SlN.oneN (base := 0) (Nat.zero_le _) (Blk.new wr 34 #[.int .i64 7, .bool false, .int .u64 0, .string (S []), .int .i64 0]) rfl).src rfl rfl rfl (by intro y hy; simp at hy; rcases hy with rfl | rfl | rfl | rfl | rfl <;> rfl) (by unfold maxLen; omega) (by omega) (by have := HD.out.size; simp; omega) ?_; intro v2 w2 hs2 ho2 hf2; obtain ⟨a2, c2, rfl⟩ := hs2.form; have kp := ho2.blk (HD.out.o.alloc (.cells #[.int .i64 7, .bool false, .int .u64 0, .string (S []), .int .i64 0] 34)) HOV.out; have kc := kp.cellv 0 _ rfl; have kf := kp.frozen 0)
          have hpush := HD.out.push (x := endE) (((Only.refl _ _).alloc _).trans ho2) (fun k hk => (hf2 k hk).imp_right (fun h9 => by simp at h9; omega)) hs2 rfl
          exact bodyPost_ret (results_none rfl _ _ _) rfl ⟨rfl, arrE i :: (E ++ [endE]), at', .slice a2 (oo.length + 1) c2, .arr _ _ hnn3 ht.out, by simp; omega, by simp; omega, by rw [show outs ++ arrE i :: (E ++ [endE]) = outs ++ [arrE i] ++ E ++ [endE] by simp, ← HOO.out]; exact hpush, HB1.out.trans (((hbelow_app HD.out ho2)).setCell (by simp) _)⟩
    ·
      go_wp2_with (at_builtin; refine wpList_append_slN rfl (.tmp 98) (.tmp 100) 22 rfl _ 48 Try.underlying22 info_ev rfl (by decide) (HD.out.s.alloc (.cells #[.int .i64 3, .bool false, .int .u64 0, .string (S []), .int .i64 0] 34)) (SlN.oneN (base := 0) (Nat.zero_le _) (Blk.new w1 34 #[.int .i64 3, .bool false, .int .u64 0, .string (S []), .int .i64 0]) rfl).src rfl rfl rfl (by intro y hy; simp at hy; rcases hy with rfl | rfl | rfl | rfl | rfl <;> rfl) (by unfold maxLen; omega) (by omega) (by have := HD.out.size; simp; omega) ?_; intro v2 w2 hs2 ho2 hf2; obtain ⟨a2, c2, rfl⟩ := hs2.form; have kp := ho2.blk (HD.out.o.alloc (.cells #[.int .i64 3, .bool false, .int .u64 0, .string (S []), .int .i64 0] 34)) HOV.out; have kc := kp.cellv 0 _ rfl; have kf := kp.frozen 0)
      have hpush := HD.out.push (x := (⟨3, false, 0, [], 0⟩ : EvM)) (((Only.refl _ _).alloc _).trans ho2) (fun k hk => (hf2 k hk).imp_right (fun h9 => by simp at h9; omega)) hs2 rfl
      exact bodyPost_ret (results_none rfl _ _ _) rfl ⟨rfl, [(⟨3, false, 0, [], 0⟩ : EvM)], _, _, .leaf _ (by simp [Leaf]), by simp; omega, by simp, hpush, HB1.out.trans (((hbelow_app HD.out ho2)).setCell (by simp) _)⟩
  · by_cases hdd : d < depth
    · obtain ⟨nn, hnn⟩ : ∃ nn : Nat, x / 8 % 3 = (nn : Int) := ⟨(x / 8 % 3).toNat, by omega⟩
      have hnn3 : nn ≤ 3 := by omega
      go_wp2_with (at_builtin; refine wpList_append_slN rfl (.tmp 27) (.tmp 30) 22 rfl _ 48 Try.underlying22 info_ev rfl (by decide) (HD.out.s.alloc (.cells #[.int .i64 6, .bool false, .int .u64 0, .string (S []), .int .i64 (nn : Int)] 34)) (SlN.oneN (base := 0) (Nat.zero_le _) (Blk.new w1 34 #[.int .i64 6, .bool false, .int .u64 0, .string (S []), .int .i64 (nn : Int)]) rfl).src rfl rfl rfl (by intro y hy; simp at hy; rcases hy with rfl | rfl | rfl | rfl | rfl <;> rfl) (by unfold maxLen; omega) (by omega) (by have := HD.out.size; simp; omega) ?_; intro v2 w2 hs2 ho2 hf2; obtain ⟨a2, c2, rfl⟩ := hs2.form; have kp := ho2.blk (HD.out.o.alloc (.cells #[.int .i64 6, .bool false, .int .u64 0, .string (S []), .int .i64 (nn : Int)] 34)) HOV.out; have kc := kp.cellv 0 _ rfl; have kf := kp.frozen 0)
      have hpush := HD.out.push (x := (mapE nn)) (((Only.refl _ _).alloc _).trans ho2) (fun k hk => (hf2 k hk).imp_right (fun h9 => by simp at h9; omega)) hs2 rfl
      have HBP := hide (HB1.out.trans (((hbelow_app HD.out ho2)).setCell (p := ⟨B + 2, 0, none⟩) (by simp) (.slice a2 (outs.length + 1) c2)))
      have HP := hide hpush
      clear kp kc kf hpush hs2 ho2 hf2 co cd HOV HD HB1
      go_loopg [10] nn (fun g s10 wr => ∃ (i : Nat) (E : List EvM) (at' : Nat) (v' : Value), s10 = .int .i64 i ∧ i + g = nn ∧ Hid (Tree 2 i E) ∧ Hid (E.length ≤ i * (b + 1)) ∧ Hid (at' ≤ at_ + 1 + E.length) ∧ Hid (DocS w0 wr B a len cap depth at' ((outs ++ [mapE nn]) ++ E) v') ∧ Hid (Below B w wr))
      case atStart => exact ⟨0, [], at_ + 1, _, rfl, by omega, hide .nil2, hide (by simp), hide (by simp), hide (by rw [List.append_nil]; exact HP.out), HBP⟩
      case round =>
        clear HP HBP
        obtain ⟨i, E, at', v', rfl, hi, ht, hel, hat', hd, hbw⟩ := hrel
        have hb0 := hel.out
        have hb1' := hat'.out
        by_cases hin : i < nn
        · have hmul : i * (b + 1) ≤ 2 * (b + 1) := Nat.mul_le_mul_right _ (by omega)
          have hlo : (outs ++ [mapE nn] ++ E).length ≤ 999998 - b := by simp; omega
          have hd9 := hd.out
          obtain ⟨oo, hoo⟩ : ∃ oo, oo = outs ++ [mapE nn] ++ E := ⟨_, rfl⟩
          rw [← hoo] at hd9 hlo
          have HOO := hide hoo
          have hd := hide hd9
          clear hd9 hoo
          have HNX := hide (next_any (w := wr.drew) hd.out.drew hr (by omega))
          have co1 := hd.out.o.cellv 0 _ rfl
          have cn1 := hd.out.nx.cellv 0 _ rfl
          go_upto_region 9 with (fail)
          refine wp_region_tree (fun W => W.cell? ⟨B + 2, 0, none⟩ = some v' ∧ W.cell? ⟨B + 4, 0, none⟩ = some (.func (.func 33) #[] #[.pointer (some ⟨B + 3, 0, none⟩), .pointer (some ⟨B, 0, none⟩)])) 7 (.take [0, 1] (.step 2 (.step 3 (.take [4] (.step 5 (.step 6 (.step 7 (.fin)))))))) (by kernel_rfl) (by kernel_rfl) (by intro _ _ _ _ _ h; exact h) ?_
          refine wpTree_take (⟨co1, cn1⟩) ?_
          simp only [opsAt, List.getElem?_cons_zero, List.getElem?_cons_succ]
          first | (refine wpPureH_step (v := ?_) rfl (fun W hS => ?_) ?_; rotate_left; · (obtain ⟨s1, s2⟩ := hS; (try simp only [Act.put, List.setIfInBounds_toArray, List.set_cons_zero, List.set_cons_succ]); go_simp; with_reducible rfl)) | (refine wpPureH_want (v := ?_) (by rfl) (fun W hS => ?_) ?_; rotate_left; · (obtain ⟨s1, s2⟩ := hS; (try simp only [Act.put, List.setIfInBounds_toArray, List.set_cons_zero, List.set_cons_succ]); go_simp; with_reducible rfl))
          first | (refine wpPureH_step (v := ?_) rfl (fun W hS => ?_) ?_; rotate_left; · (obtain ⟨s1, s2⟩ := hS; (try simp only [Act.put, List.setIfInBounds_toArray, List.set_cons_zero, List.set_cons_succ]); go_simp; with_reducible rfl)) | (refine wpPureH_want (v := ?_) (by rfl) (fun W hS => ?_) ?_; rotate_left; · (obtain ⟨s1, s2⟩ := hS; (try simp only [Act.put, List.setIfInBounds_toArray, List.set_cons_zero, List.set_cons_succ]); go_simp; with_reducible rfl))
          refine wpPureH_nil ?_
          simp only [Act.put, List.setIfInBounds_toArray, List.set_cons_zero, List.set_cons_succ]
          refine wpTree_step ?_
          simp only [opsAt, List.getElem?_cons_zero, List.getElem?_cons_succ]
          go_wp2_with fail
          (with_reducible refine (unhide HNX).mono ?_)
          rintro e w3 ⟨x2, rfl, hx20, hx21, hD3, hB3⟩
          have HD3 := hide hD3
          have HB3 := hide (hbw.out.drew.trans hB3)
          have HT := hide (fun W => text_any x2 hx20 hx21 W)
          clear co1 cn1 HNX hD3 hB3
          go_wp2_with fail
          refine ⟨.inr ⟨HD3.out.o.cellv 0 _ rfl, HD3.out.nx.cellv 0 _ rfl⟩, ?_⟩
          refine wpTree_step ?_
          simp only [opsAt, List.getElem?_cons_zero, List.getElem?_cons_succ]
          go_wp2_with fail
          (with_reducible refine (HT.out _).mono ?_)
          rintro e w4 ⟨l, rfl, hl, hb4⟩
          have HD4 := hide (HD3.out.only hb4)
          have HB4 := hide (HB3.out.trans (hb4.mono (Nat.le_of_lt HD3.out.l.lt)))
          have HOV : Hid (B + 2 ∉ slB v') := hide (fun hk => by have := (HD4.out.s.lt _ hk).1; omega)
          have hz4 := HD4.out.size
          clear HT hb4
          go_wp2_with fail
          refine ⟨.inr ⟨HD4.out.o.cellv 0 _ rfl, HD4.out.nx.cellv 0 _ rfl⟩, ?_⟩
          have co4 := HD4.out.o.cellv 0 _ rfl
          have cn4 := HD4.out.nx.cellv 0 _ rfl
          refine wpTree_take (⟨co4, cn4⟩) ?_
          simp only [opsAt, List.getElem?_cons_zero, List.getElem?_cons_succ]
          first | (refine wpPureH_step (v := ?_) rfl (fun W hS => ?_) ?_; rotate_left; · (obtain ⟨s1, s2⟩ := hS; (try simp only [Act.put, List.setIfInBounds_toArray, List.set_cons_zero, List.set_cons_succ]); go_simp; with_reducible rfl)) | (refine wpPureH_want (v := ?_) (by rfl) (fun W hS => ?_) ?_; rotate_left; · (obtain ⟨s1, s2⟩ := hS; (try simp only [Act.put, List.setIfInBounds_toArray, List.set_cons_zero, List.set_cons_succ]); go_simp; with_reducible rfl))
          refine wpPureH_nil ?_
          simp only [Act.put, List.setIfInBounds_toArray, List.set_cons_zero, List.set_cons_succ]
          have ko1 := (HD4.out).o.alloc (.cells #[.int .i64 3, .bool false, .int .u64 0, .string (S l), .int .i64 0] 34)
          refine wpTree_step ?_
          simp only [opsAt, List.getElem?_cons_zero, List.getElem?_cons_succ]
          go_wp2_with fail
          refine ⟨.inr ⟨ko1.cellv 0 _ rfl, (HD4.out.nx.alloc (.cells #[.int .i64 3, .bool false, .int .u64 0, .string (S l), .int .i64 0] 34)).cellv 0 _ rfl⟩, ?_⟩
          refine wpTree_step ?_
          simp only [opsAt, List.getElem?_cons_zero, List.getElem?_cons_succ]
          refine wpList_append_slN rfl (.tmp 37) (.tmp 42) 22 rfl _ 48 Try.underlying22 info_ev rfl (by decide) ((HD4.out).s.alloc (.cells #[.int .i64 3, .bool false, .int .u64 0, .string (S l), .int .i64 0] 34)) (SlN.oneN (base := 0) (Nat.zero_le _) (Blk.new w4 34 #[.int .i64 3, .bool false, .int .u64 0, .string (S l), .int .i64 0]) rfl).src rfl rfl rfl (by intro y hy; simp at hy; rcases hy with rfl | rfl | rfl | rfl | rfl <;> rfl) (by unfold maxLen; omega) (by omega) (by have := (HD4.out).size; simp; omega) ?_
          intro v2 w2 hs2 ho2 hf2
          obtain ⟨a2, c2, rfl⟩ := hs2.form
          have kp := ho2.blk ko1 HOV.out
          have KP := hide kp
          have KN := hide (ho2.blk ((HD4.out).nx.alloc (.cells #[.int .i64 3, .bool false, .int .u64 0, .string (S l), .int .i64 0] 34)) (fun hk => by have := ((HD4.out).s.lt _ hk).1; omega))
          clear kp co4 cn4
          go_wp2_with fail
          first | refine ⟨.inr ⟨KP.out.cellv 0 _ rfl, KN.out.cellv 0 _ rfl⟩, ?_⟩ | refine ⟨⟨KP.out.cellv 0 _ rfl, KN.out.cellv 0 _ rfl⟩, ?_⟩
          have kc := KP.out.cellv 0 _ rfl
          have kf := KP.out.frozen 0
          refine wpTree_step ?_
          simp only [opsAt, List.getElem?_cons_zero, List.getElem?_cons_succ]
          go_wp2_with fail
          refine ⟨.inl trivial, wpTree_fin ?_⟩
          have hpush := (HD4.out).push (x := (⟨3, false, 0, l, 0⟩ : EvM)) (((Only.refl _ _).alloc _).trans ho2) (fun k hk => (hf2 k hk).imp_right (fun h9 => by skip; simp at h9; omega)) hs2 rfl
          obtain ⟨w6, hw6⟩ : ∃ w6, w6 = w2.setCell ⟨B + 2, 0, none⟩ (.slice a2 (oo.length + 1) c2) := ⟨_, rfl⟩
          have HP := hide hpush
          have HB6 : Hid (Below B w w6) := hide (by rw [hw6]; exact HB4.out.trans (((hbelow_app HD4.out ho2)).setCell (p := ⟨B + 2, 0, none⟩) (by simp) _))
          rw [← hw6] at HP ⊢
          have HR := hide (HREC.out hdd w6 _ _ _ HP.out (by omega) (by simp; omega))
          have ci := HP.out.it.cellv 0 _ rfl
          clear hmul kc kf hpush hs2 ho2 hf2 hw6
          go_wp2_with fail
          (with_reducible refine (unhide HR).mono ?_)
          rintro e w5 ⟨rfl, F, at2, v5, hF, hFl, hat2, hD5, hB5⟩
          clear HR ci
          go_wp2_with fail
          go_roundg (gk - 1)
          case measure => omega
          case rel => exact ⟨i + 1, E ++ (⟨3, false, 0, l, 0⟩ :: F), at2, v5, by go_num, by omega, hide (.snoc2 _ _ _ _ ht.out (by simp [Leaf]; omega) rfl hF), hide (by rw [List.length_append, List.length_cons, Nat.add_mul]; omega), hide (by rw [List.length_append, List.length_cons]; omega), hide (by rw [show outs ++ [mapE nn] ++ (E ++ (⟨3, false, 0, l, 0⟩ :: F)) = outs ++ [mapE nn] ++ E ++ [⟨3, false, 0, l, 0⟩] ++ F by simp, ← HOO.out]; exact hD5), hide (HB6.out.trans hB5)⟩
        · obtain rfl : i = nn := by omega
          have HOV : Hid (B + 2 ∉ slB v') := hide (fun hk => by have := (hd.out.s.lt _ hk).1; omega)
          have HB1 := hbw
          have co := hd.out.o.cellv 0 _ rfl
          have hzr := hd.out.size
          have hmul : i * (b + 1) ≤ 3 * (b + 1) := Nat.mul_le_mul_right _ (by omega)
          have hlo : (outs ++ [mapE i] ++ E).length ≤ 1000000 := by simp; omega
          have hd9 := hd.out
          obtain ⟨oo, hoo⟩ : ∃ oo, oo = outs ++ [mapE i] ++ E := ⟨_, rfl⟩
          rw [← hoo] at hd9 hlo
          have HD := hide hd9
          have HOO := hide hoo
          clear hd9 hoo
          go_wp2_with (at_builtin; refine wpList_append_slN rfl (.tmp 48) (.tmp 50) 22 rfl _ 48 Try.underlying22 info_ev rfl (by decide) (HD.out.s.alloc (.cells #[.int .i64 7, .bool false, .int .u64 0, .string (S []), .int .i64 0] 34)) (SlN.oneN (base := 0) (Nat.zero_le _) (Blk.new wr 34 #[.int .i64 7, .bool false, .int .u64 0, .string (S []), .int .i64 0]) rfl).src rfl rfl rfl (by intro y hy; simp at hy; rcases hy with rfl | rfl | rfl | rfl | rfl <;> rfl) (by unfold maxLen; omega) (by omega) (by have := HD.out.size; simp; omega) ?_; intro v2 w2 hs2 ho2 hf2; obtain ⟨a2, c2, rfl⟩ := hs2.form; have kp := ho2.blk (HD.out.o.alloc (.cells #[.int .i64 7, .bool false, .int .u64 0, .string (S []), .int .i64 0] 34)) HOV.out; have kc := kp.cellv 0 _ rfl; have kf := kp.frozen 0)
          have hpush := HD.out.push (x := endE) (((Only.refl _ _).alloc _).trans ho2) (fun k hk => (hf2 k hk).imp_right (fun h9 => by simp at h9; omega)) hs2 rfl
          exact bodyPost_ret (results_none rfl _ _ _) rfl ⟨rfl, mapE i :: (E ++ [endE]), at', .slice a2 (oo.length + 1) c2, .map _ _ hnn3 ht.out, by simp; omega, by simp; omega, by rw [show outs ++ mapE i :: (E ++ [endE]) = outs ++ [mapE i] ++ E ++ [endE] by simp, ← HOO.out]; exact hpush, HB1.out.trans (((hbelow_app HD.out ho2)).setCell (by simp) _)⟩
    ·
      have hw : IntKind.u64.wrap x = x := by rw [IntKind.wrap_u64]; omega
      go_wp2_with (at_builtin; refine wpList_append_slN rfl (.tmp 18) (.tmp 22) 22 rfl _ 48 Try.underlying22 info_ev rfl (by decide) (HD.out.s.alloc (.cells #[.int .i64 2, .bool false, .int .u64 x, .string (S []), .int .i64 0] 34)) (SlN.oneN (base := 0) (Nat.zero_le _) (Blk.new w1 34 #[.int .i64 2, .bool false, .int .u64 x, .string (S []), .int .i64 0]) rfl).src rfl rfl rfl (by intro y hy; simp at hy; rcases hy with rfl | rfl | rfl | rfl | rfl <;> rfl) (by unfold maxLen; omega) (by omega) (by have := HD.out.size; simp; omega) ?_; intro v2 w2 hs2 ho2 hf2; obtain ⟨a2, c2, rfl⟩ := hs2.form; have kp := ho2.blk (HD.out.o.alloc (.cells #[.int .i64 2, .bool false, .int .u64 x, .string (S []), .int .i64 0] 34)) HOV.out; have kc := kp.cellv 0 _ rfl; have kf := kp.frozen 0)
      have hpush := HD.out.push (x := (⟨2, false, x, [], 0⟩ : EvM)) (((Only.refl _ _).alloc _).trans ho2) (fun k hk => (hf2 k hk).imp_right (fun h9 => by simp at h9; omega)) hs2 rfl
      exact bodyPost_ret (results_none rfl _ _ _) rfl ⟨rfl, [(⟨2, false, x, [], 0⟩ : EvM)], _, _, .leaf _ (by (simp [Leaf]; omega)), by simp; omega, by simp, hpush, HB1.out.trans (((hbelow_app HD.out ho2)).setCell (by simp) _)⟩
  · by_cases hdd : d < depth
    · obtain ⟨nn, hnn⟩ : ∃ nn : Nat, x / 8 % 3 = (nn : Int) := ⟨(x / 8 % 3).toNat, by omega⟩
      have hnn3 : nn ≤ 3 := by omega
      go_wp2_with (at_builtin; refine wpList_append_slN rfl (.tmp 27) (.tmp 30) 22 rfl _ 48 Try.underlying22 info_ev rfl (by decide) (HD.out.s.alloc (.cells #[.int .i64 6, .bool false, .int .u64 0, .string (S []), .int .i64 (nn : Int)] 34)) (SlN.oneN (base := 0) (Nat.zero_le _) (Blk.new w1 34 #[.int .i64 6, .bool false, .int .u64 0, .string (S []), .int .i64 (nn : Int)]) rfl).src rfl rfl rfl (by intro y hy; simp at hy; rcases hy with rfl | rfl | rfl | rfl | rfl <;> rfl) (by unfold maxLen; omega) (by omega) (by have := HD.out.size; simp; omega) ?_; intro v2 w2 hs2 ho2 hf2; obtain ⟨a2, c2, rfl⟩ := hs2.form; have kp := ho2.blk (HD.out.o.alloc (.cells #[.int .i64 6, .bool false, .int .u64 0, .string (S []), .int .i64 (nn : Int)] 34)) HOV.out; have kc := kp.cellv 0 _ rfl; have kf := kp.frozen 0)
      have hpush := HD.out.push (x := (mapE nn)) (((Only.refl _ _).alloc _).trans ho2) (fun k hk => (hf2 k hk).imp_right (fun h9 => by simp at h9; omega)) hs2 rfl
      have HBP := hide (HB1.out.trans (((hbelow_app HD.out ho2)).setCell (p := ⟨B + 2, 0, none⟩) (by simp) (.slice a2 (outs.length + 1) c2)))
      have HP := hide hpush
      clear kp kc kf hpush hs2 ho2 hf2 co cd HOV HD HB1
      go_loopg [10] nn (fun g s10 wr => ∃ (i : Nat) (E : List EvM) (at' : Nat) (v' : Value), s10 = .int .i64 i ∧ i + g = nn ∧ Hid (Tree 2 i E) ∧ Hid (E.length ≤ i * (b + 1)) ∧ Hid (at' ≤ at_ + 1 + E.length) ∧ Hid (DocS w0 wr B a len cap depth at' ((outs ++ [mapE nn]) ++ E) v') ∧ Hid (Below B w wr))
      case atStart => exact ⟨0, [], at_ + 1, _, rfl, by omega, hide .nil2, hide (by simp), hide (by simp), hide (by rw [List.append_nil]; exact HP.out), HBP⟩
      case round =>
        clear HP HBP
        obtain ⟨i, E, at', v', rfl, hi, ht, hel, hat', hd, hbw⟩ := hrel
        have hb0 := hel.out
        have hb1' := hat'.out
        by_cases hin : i < nn
        · have hmul : i * (b + 1) ≤ 2 * (b + 1) := Nat.mul_le_mul_right _ (by omega)
          have hlo : (outs ++ [mapE nn] ++ E).length ≤ 999998 - b := by simp; omega
          have hd9 := hd.out
          obtain ⟨oo, hoo⟩ : ∃ oo, oo = outs ++ [mapE nn] ++ E := ⟨_, rfl⟩
          rw [← hoo] at hd9 hlo
          have HOO := hide hoo
          have hd := hide hd9
          clear hd9 hoo
          have HNX := hide (next_any (w := wr.drew) hd.out.drew hr (by omega))
          have co1 := hd.out.o.cellv 0 _ rfl
          have cn1 := hd.out.nx.cellv 0 _ rfl
          go_upto_region 9 with (fail)
          refine wp_region_tree (fun W => W.cell? ⟨B + 2, 0, none⟩ = some v' ∧ W.cell? ⟨B + 4, 0, none⟩ = some (.func (.func 33) #[] #[.pointer (some ⟨B + 3, 0, none⟩), .pointer (some ⟨B, 0, none⟩)])) 7 (.take [0, 1] (.step 2 (.step 3 (.take [4] (.step 5 (.step 6 (.step 7 (.fin)))))))) (by kernel_rfl) (by kernel_rfl) (by intro _ _ _ _ _ h; exact h) ?_
          refine wpTree_take (⟨co1, cn1⟩) ?_
          simp only [opsAt, List.getElem?_cons_zero, List.getElem?_cons_succ]
          first | (refine wpPureH_step (v := ?_) rfl (fun W hS => ?_) ?_; rotate_left; · (obtain ⟨s1, s2⟩ := hS; (try simp only [Act.put, List.setIfInBounds_toArray, List.set_cons_zero, List.set_cons_succ]); go_simp; with_reducible rfl)) | (refine wpPureH_want (v := ?_) (by rfl) (fun W hS => ?_) ?_; rotate_left; · (obtain ⟨s1, s2⟩ := hS; (try simp only [Act.put, List.setIfInBounds_toArray, List.set_cons_zero, List.set_cons_succ]); go_simp; with_reducible rfl))
          first | (refine wpPureH_step (v := ?_) rfl (fun W hS => ?_) ?_; rotate_left; · (obtain ⟨s1, s2⟩ := hS; (try simp only [Act.put, List.setIfInBounds_toArray, List.set_cons_zero, List.set_cons_succ]); go_simp; with_reducible rfl)) | (refine wpPureH_want (v := ?_) (by rfl) (fun W hS => ?_) ?_; rotate_left; · (obtain ⟨s1, s2⟩ := hS; (try simp only [Act.put, List.setIfInBounds_toArray, List.set_cons_zero, List.set_cons_succ]); go_simp; with_reducible rfl))
          refine wpPureH_nil ?_
          simp only [Act.put, List.setIfInBounds_toArray, List.set_cons_zero, List.set_cons_succ]
          refine wpTree_step ?_
          simp only [opsAt, List.getElem?_cons_zero, List.getElem?_cons_succ]
          go_wp2_with fail
          (with_reducible refine (unhide HNX).mono ?_)
          rintro e w3 ⟨x2, rfl, hx20, hx21, hD3, hB3⟩
          have HD3 := hide hD3
          have HB3 := hide (hbw.out.drew.trans hB3)
          have HT := hide (fun W => text_any x2 hx20 hx21 W)
          clear co1 cn1 HNX hD3 hB3
          go_wp2_with fail
          refine ⟨.inr ⟨HD3.out.o.cellv 0 _ rfl, HD3.out.nx.cellv 0 _ rfl⟩, ?_⟩
          refine wpTree_step ?_
          simp only [opsAt, List.getElem?_cons_zero, List.getElem?_cons_succ]
          go_wp2_with fail
          (with_reducible refine (HT.out _).mono ?_)
          rintro e w4 ⟨l, rfl, hl, hb4⟩
          have HD4 := hide (HD3.out.only hb4)
          have HB4 := hide (HB3.out.trans (hb4.mono (Nat.le_of_lt HD3.out.l.lt)))
          have HOV : Hid (B + 2 ∉ slB v') := hide (fun hk => by have := (HD4.out.s.lt _ hk).1; omega)
          have hz4 := HD4.out.size
          clear HT hb4
          go_wp2_with fail
          refine ⟨.inr ⟨HD4.out.o.cellv 0 _ rfl, HD4.out.nx.cellv 0 _ rfl⟩, ?_⟩
          have co4 := HD4.out.o.cellv 0 _ rfl
          have cn4 := HD4.out.nx.cellv 0 _ rfl
          refine wpTree_take (⟨co4, cn4⟩) ?_
          simp only [opsAt, List.getElem?_cons_zero, List.getElem?_cons_succ]
          first | (refine wpPureH_step (v := ?_) rfl (fun W hS => ?_) ?_; rotate_left; · (obtain ⟨s1, s2⟩ := hS; (try simp only [Act.put, List.setIfInBounds_toArray, List.set_cons_zero, List.set_cons_succ]); go_simp; with_reducible rfl)) | (refine wpPureH_want (v := ?_) (by rfl) (fun W hS => ?_) ?_; rotate_left; · (obtain ⟨s1, s2⟩ := hS; (try simp only [Act.put, List.setIfInBounds_toArray, List.set_cons_zero, List.set_cons_succ]); go_simp; with_reducible rfl))
          refine wpPureH_nil ?_
          simp only [Act.put, List.setIfInBounds_toArray, List.set_cons_zero, List.set_cons_succ]
          have ko1 := (HD4.out).o.alloc (.cells #[.int .i64 3, .bool false, .int .u64 0, .string (S l), .int .i64 0] 34)
          refine wpTree_step ?_
          simp only [opsAt, List.getElem?_cons_zero, List.getElem?_cons_succ]
          go_wp2_with fail
          refine ⟨.inr ⟨ko1.cellv 0 _ rfl, (HD4.out.nx.alloc (.cells #[.int .i64 3, .bool false, .int .u64 0, .string (S l), .int .i64 0] 34)).cellv 0 _ rfl⟩, ?_⟩
          refine wpTree_step ?_
          simp only [opsAt, List.getElem?_cons_zero, List.getElem?_cons_succ]
          refine wpList_append_slN rfl (.tmp 37) (.tmp 42) 22 rfl _ 48 Try.underlying22 info_ev rfl (by decide) ((HD4.out).s.alloc (.cells #[.int .i64 3, .bool false, .int .u64 0, .string (S l), .int .i64 0] 34)) (SlN.oneN (base := 0) (Nat.zero_le _) (Blk.new w4 34 #[.int .i64 3, .bool false, .int .u64 0, .string (S l), .int .i64 0]) rfl).src rfl rfl rfl (by intro y hy; simp at hy; rcases hy with rfl | rfl | rfl | rfl | rfl <;> rfl) (by unfold maxLen; omega) (by omega) (by have := (HD4.out).size; simp; omega) ?_
          intro v2 w2 hs2 ho2 hf2
          obtain ⟨a2, c2, rfl⟩ := hs2.form
          have kp := ho2.blk ko1 HOV.out
          have KP := hide kp
          have KN := hide (ho2.blk ((HD4.out).nx.alloc (.cells #[.int .i64 3, .bool false, .int .u64 0, .string (S l), .int .i64 0] 34)) (fun hk => by have := ((HD4.out).s.lt _ hk).1; omega))
          clear kp co4 cn4
          go_wp2_with fail
          first | refine ⟨.inr ⟨KP.out.cellv 0 _ rfl, KN.out.cellv 0 _ rfl⟩, ?_⟩ | refine ⟨⟨KP.out.cellv 0 _ rfl, KN.out.cellv 0 _ rfl⟩, ?_⟩
          have kc := KP.out.cellv 0 _ rfl
          have kf := KP.out.frozen 0
          refine wpTree_step ?_
          simp only [opsAt, List.getElem?_cons_zero, List.getElem?_cons_succ]
          go_wp2_with fail
          refine ⟨.inl trivial, wpTree_fin ?_⟩
          have hpush := (HD4.out).push (x := (⟨3, false, 0, l, 0⟩ : EvM)) (((Only.refl _ _).alloc _).trans ho2) (fun k hk => (hf2 k hk).imp_right (fun h9 => by skip; simp at h9; omega)) hs2 rfl
          obtain ⟨w6, hw6⟩ : ∃ w6, w6 = w2.setCell ⟨B + 2, 0, none⟩ (.slice a2 (oo.length + 1) c2) := ⟨_, rfl⟩
          have HP := hide hpush
          have HB6 : Hid (Below B w w6) := hide (by rw [hw6]; exact HB4.out.trans (((hbelow_app HD4.out ho2)).setCell (p := ⟨B + 2, 0, none⟩) (by simp) _))
          rw [← hw6] at HP ⊢
          have HR := hide (HREC.out hdd w6 _ _ _ HP.out (by omega) (by simp; omega))
          have ci := HP.out.it.cellv 0 _ rfl
          clear hmul kc kf hpush hs2 ho2 hf2 hw6
          go_wp2_with fail
          (with_reducible refine (unhide HR).mono ?_)
          rintro e w5 ⟨rfl, F, at2, v5, hF, hFl, hat2, hD5, hB5⟩
          clear HR ci
          go_wp2_with fail
          go_roundg (gk - 1)
          case measure => omega
          case rel => exact ⟨i + 1, E ++ (⟨3, false, 0, l, 0⟩ :: F), at2, v5, by go_num, by omega, hide (.snoc2 _ _ _ _ ht.out (by simp [Leaf]; omega) rfl hF), hide (by rw [List.length_append, List.length_cons, Nat.add_mul]; omega), hide (by rw [List.length_append, List.length_cons]; omega), hide (by rw [show outs ++ [mapE nn] ++ (E ++ (⟨3, false, 0, l, 0⟩ :: F)) = outs ++ [mapE nn] ++ E ++ [⟨3, false, 0, l, 0⟩] ++ F by simp, ← HOO.out]; exact hD5), hide (HB6.out.trans hB5)⟩
        · obtain rfl : i = nn := by omega
          have HOV : Hid (B + 2 ∉ slB v') := hide (fun hk => by have := (hd.out.s.lt _ hk).1; omega)
          have HB1 := hbw
          have co := hd.out.o.cellv 0 _ rfl
          have hzr := hd.out.size
          have hmul : i * (b + 1) ≤ 3 * (b + 1) := Nat.mul_le_mul_right _ (by omega)
          have hlo : (outs ++ [mapE i] ++ E).length ≤ 1000000 := by simp; omega
          have hd9 := hd.out
          obtain ⟨oo, hoo⟩ : ∃ oo, oo = outs ++ [mapE i] ++ E := ⟨_, rfl⟩
          rw [← hoo] at hd9 hlo
          have HD := hide hd9
          have HOO := hide hoo
          clear hd9 hoo
          go_wp2_with (at_builtin; refine wpList_append_slN rfl (.tmp 48) (.tmp 50) 22 rfl _ 48 Try.underlying22 info_ev rfl (by decide) (HD.out.s.alloc (.cells #[.int .i64 7, .bool false, .int .u64 0, .string (S []), .int .i64 0] 34)) (SlN.oneN (base := 0) (Nat.zero_le _) (Blk.new wr 34 #[.int .i64 7, .bool false, .int .u64 0, .string (S []), .int .i64 0]) rfl).src rfl rfl rfl (by intro y hy; simp at hy; rcases hy with rfl | rfl | rfl | rfl | rfl <;> rfl) (by unfold maxLen; omega) (by omega) (by have := HD.out.size; simp; omega) ?_; intro v2 w2 hs2 ho2 hf2; obtain ⟨a2, c2, rfl⟩ := hs2.form; have kp := ho2.blk (HD.out.o.alloc (.cells #[.int .i64 7, .bool false, .int .u64 0, .string (S []), .int .i64 0] 34)) HOV.out; have kc := kp.cellv 0 _ rfl; have kf := kp.frozen 0)
          have hpush := HD.out.push (x := endE) (((Only.refl _ _).alloc _).trans ho2) (fun k hk => (hf2 k hk).imp_right (fun h9 => by simp at h9; omega)) hs2 rfl
          exact bodyPost_ret (results_none rfl _ _ _) rfl ⟨rfl, mapE i :: (E ++ [endE]), at', .slice a2 (oo.length + 1) c2, .map _ _ hnn3 ht.out, by simp; omega, by simp; omega, by rw [show outs ++ mapE i :: (E ++ [endE]) = outs ++ [mapE i] ++ E ++ [endE] by simp, ← HOO.out]; exact hpush, HB1.out.trans (((hbelow_app HD.out ho2)).setCell (by simp) _)⟩
    ·
      have hw : IntKind.u64.wrap x = x := by rw [IntKind.wrap_u64]; omega
      go_wp2_with (at_builtin; refine wpList_append_slN rfl (.tmp 18) (.tmp 22) 22 rfl _ 48 Try.underlying22 info_ev rfl (by decide) (HD.out.s.alloc (.cells #[.int .i64 2, .bool false, .int .u64 x, .string (S []), .int .i64 0] 34)) (SlN.oneN (base := 0) (Nat.zero_le _) (Blk.new w1 34 #[.int .i64 2, .bool false, .int .u64 x, .string (S []), .int .i64 0]) rfl).src rfl rfl rfl (by intro y hy; simp at hy; rcases hy with rfl | rfl | rfl | rfl | rfl <;> rfl) (by unfold maxLen; omega) (by omega) (by have := HD.out.size; simp; omega) ?_; intro v2 w2 hs2 ho2 hf2; obtain ⟨a2, c2, rfl⟩ := hs2.form; have kp := ho2.blk (HD.out.o.alloc (.cells #[.int .i64 2, .bool false, .int .u64 x, .string (S []), .int .i64 0] 34)) HOV.out; have kc := kp.cellv 0 _ rfl; have kf := kp.frozen 0)
      have hpush := HD.out.push (x := (⟨2, false, x, [], 0⟩ : EvM)) (((Only.refl _ _).alloc _).trans ho2) (fun k hk => (hf2 k hk).imp_right (fun h9 => by simp at h9; omega)) hs2 rfl
      exact bodyPost_ret (results_none rfl _ _ _) rfl ⟨rfl, [(⟨2, false, x, [], 0⟩ : EvM)], _, _, .leaf _ (by (simp [Leaf]; omega)), by simp; omega, by simp, hpush, HB1.out.trans (((hbelow_app HD.out ho2)).setCell (by simp) _)⟩
end
end Go.Proofs.Yteggfobeaolafaa
