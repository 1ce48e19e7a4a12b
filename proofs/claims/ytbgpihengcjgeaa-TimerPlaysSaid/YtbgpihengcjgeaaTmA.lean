/-
  The timer told by who is timed: of, Now, Touch, Limit, Stop, Ages.
-/
import Derived.Test.YtbgpihengcjgeaaMapE
import Derived.Test.YtbgpihengcjgeaaDraw
namespace Go.Proofs.Ytbgpihengcjgeaa
open Go.RowKit

/-- One that is timed. -/
structure One where
  limit : Int
  begun : Int
  active : Int
def oneV (o : One) : Array Value := #[.int .i64 o.limit, .int .i64 o.begun, .int .i64 o.active]
/-- Its times may be. -/
structure Fits (now : Int) (o : One) : Prop where
  l0 : 0 ≤ o.limit
  l1 : o.limit ≤ 9223372036854775807
  b0 : 0 ≤ o.begun
  b1 : o.begun ≤ now
  a0 : 0 ≤ o.active
  a1 : o.active ≤ now
theorem Fits.later {now : Int} {o : One} (h : Fits now o) : Fits (now + 1) o := ⟨h.l0, h.l1, h.b0, by have := h.b1; omega, h.a0, by have := h.a1; omega⟩
def upd {α : Type} (f : Int → Option α) (x : Int) (v : Option α) : Int → Option α := fun y => if y = x then v else f y
theorem upd_same {α : Type} (f : Int → Option α) (x : Int) (v : Option α) : upd f x v x = v := if_pos rfl
theorem upd_other {α : Type} (f : Int → Option α) {x y : Int} (v : Option α) (h : y ≠ x) : upd f x v y = f y := if_neg h
/-- The timer's map at mb, P tells the blocks. -/
structure TmM (w : World) (p : Nat) (now : Int) (n : Nat) (f : Int → Option One) (F : List Nat) (mb : Nat) (P : Int → Option Nat) : Prop where
  blk : Blk w p 27 #[.int .i64 now, .map (some mb)]
  map : MapE ptrE w mb n P
  mF : mb ∈ F
  dom : ∀ x, (P x).isSome = (f x).isSome
  oF : ∀ x b, P x = some b → b ∈ F
  one : ∀ x b o, P x = some b → f x = some o → Blk w b 55 (oneV o)
  inj : ∀ x y b, P x = some b → P y = some b → x = y
/-- The timer at p, of blocks F, from B on: its time is now; f says who is timed; they are n at most. -/
structure Tm (w : World) (B p : Nat) (now : Int) (n : Nat) (f : Int → Option One) (F : List Nat) : Prop where
  n0 : 0 ≤ now
  n1 : now ≤ 1000000
  pF : p ∈ F
  lt : ∀ k ∈ F, B ≤ k ∧ k < w.heap.size
  fits : ∀ x o, f x = some o → Fits now o
  all : (Blk w p 27 #[.int .i64 now, .map none] ∧ ∀ x, f x = none) ∨ ∃ mb P, TmM w p now n f F mb P
theorem zeroP (w : World) : (zeroValue 53).run Try.prog w = .ok (.pointer none) w := by kernel_rfl

section
variable {w w' : World} {B p n mb : Nat} {now : Int} {f : Int → Option One} {F : List Nat} {P : Int → Option Nat}
theorem TmM.keep {S : List Nat} (h : TmM w p now n f F mb P) (hp : p ∈ F) (ho : Only S w w') (hS : ∀ k ∈ F, k ∉ S) : TmM w' p now n f F mb P :=
  ⟨ho.blk h.blk (hS p hp), h.map.keep ho (hS mb h.mF), h.mF, h.dom, h.oF, fun x b o h1 h2 => ho.blk (h.one x b o h1 h2) (hS b (h.oF x b h1)), h.inj⟩
theorem Tm.keep {S : List Nat} (h : Tm w B p now n f F) (ho : Only S w w') (hS : ∀ k ∈ F, k ∉ S) : Tm w' B p now n f F := by
  refine ⟨h.n0, h.n1, h.pF, fun k hk => ⟨(h.lt k hk).1, Nat.lt_of_lt_of_le (h.lt k hk).2 ho.size⟩, h.fits, ?_⟩
  rcases h.all with ⟨h1, h2⟩ | ⟨mb, P, h1⟩
  · exact .inl ⟨ho.blk h1 (hS p h.pF), h2⟩
  · exact .inr ⟨mb, P, h1.keep h.pF ho hS⟩
theorem Tm.below (h : Tm w B p now n f F) (hb : Below w.heap.size w w') : Tm w' B p now n f F := h.keep (Only.of_below hb []) (fun k _ => by simp)
theorem Tm.drewN (h : Tm w B p now n f F) (k : Nat) : Tm (w.drewN k) B p now n f F := h.below (below_drewN (Below.refl _ _) k)
theorem Tm.mono {m : Nat} (h : Tm w B p now n f F) (hm : n ≤ m) : Tm w B p now m f F := by
  refine ⟨h.n0, h.n1, h.pF, h.lt, h.fits, ?_⟩
  rcases h.all with ⟨h1, h2⟩ | ⟨mb, P, h1⟩
  · exact .inl ⟨h1, h2⟩
  · exact .inr ⟨mb, P, h1.blk, h1.map.mono hm, h1.mF, h1.dom, h1.oF, h1.one, h1.inj⟩
theorem Tm.new (h : Blk w p 27 #[.int .i64 0, .map none]) (hB : B ≤ p) : Tm w B p 0 0 (fun _ => none) [p] :=
  ⟨Int.le_refl _, by omega, List.mem_singleton.2 rfl, fun k hk => by rw [List.mem_singleton.1 hk]; exact ⟨hB, h.lt⟩, fun x o h => (by cases h), .inl ⟨h, fun _ => rfl⟩⟩
theorem Tm.plt (h : Tm w B p now n f F) : p < w.heap.size := (h.lt p h.pF).2
theorem Tm.blt (h : Tm w B p now n f F) : B < w.heap.size := Nat.lt_of_le_of_lt (h.lt p h.pF).1 (h.lt p h.pF).2
theorem Tm.wf (h : Tm w B p now n f F) {x : Int} {o : One} (hx : f x = some o) : Wf x := by
  rcases h.all with ⟨_, h2⟩ | ⟨mb, P, h1⟩
  · rw [h2] at hx; cases hx
  · have := h1.dom x
    rw [hx] at this
    obtain ⟨b, hb⟩ := Option.isSome_iff_exists.1 this
    exact h1.map.wf hb
/-- Where the now lies. -/
theorem Tm.now_ (h : Tm w B p now n f F) : ∃ m, Blk w p 27 #[.int .i64 now, m] := by
  rcases h.all with ⟨h1, _⟩ | ⟨mb, P, h1⟩
  · exact ⟨_, h1⟩
  · exact ⟨_, h1.blk⟩
theorem TmM.none_ (h : TmM w p now n f F mb P) {x : Int} (hx : f x = none) : P x = none := by
  have := h.dom x
  rw [hx] at this
  cases hp : P x with
  | none => rfl
  | some b => rw [hp] at this; cases this
theorem TmM.some_ (h : TmM w p now n f F mb P) {x : Int} {o : One} (hx : f x = some o) : ∃ b, P x = some b := by
  have := h.dom x
  rw [hx] at this
  exact Option.isSome_iff_exists.1 this
/-- One's block is written. -/
theorem Tm.put (h : Tm w B p now n f F) (hm : TmM w p now n f F mb P) {x : Int} {b : Nat} (hx : P x = some b) {o' : One} (hf : Fits now o') (hb : Blk w' b 55 (oneV o')) (ho : Only [b] w w') : Tm w' B p now n (upd f x (some o')) F := by
  have hd : (f x).isSome = true := by rw [← hm.dom x, hx]; rfl
  obtain ⟨o, hfo⟩ := Option.isSome_iff_exists.1 hd
  have hbo := hm.one x b o hx hfo
  have hpb : p ≠ b := hm.blk.ne_ hbo (by decide)
  have hmb : mb ≠ b := fun e => hm.map.notBlk hbo e.symm
  refine ⟨h.n0, h.n1, h.pF, fun k hk => ⟨(h.lt k hk).1, Nat.lt_of_lt_of_le (h.lt k hk).2 ho.size⟩, fun y o2 hy => ?_, .inr ⟨mb, P, ho.blk hm.blk (by simpa using hpb), hm.map.keep ho (by simpa using hmb), hm.mF, fun y => ?_, hm.oF, fun y b2 o2 h1 h2 => ?_, hm.inj⟩⟩
  · by_cases hyx : y = x
    · rw [hyx, upd_same] at hy; cases hy; exact hf
    · rw [upd_other f _ hyx] at hy; exact h.fits y o2 hy
  · by_cases hyx : y = x
    · rw [hyx, upd_same, hx]; rfl
    · rw [upd_other f _ hyx]; exact hm.dom y
  · by_cases hyx : y = x
    · rw [hyx, upd_same] at h2
      rw [hyx, hx] at h1
      cases h1
      cases h2
      exact hb
    · rw [upd_other f _ hyx] at h2
      exact ho.blk (hm.one y b2 o2 h1 h2) (by simp; intro e; exact hyx (hm.inj y x b (e ▸ h1) hx))
end

/-- One's entry is gone. -/
theorem Tm.cut {w w' : World} {B p n mb : Nat} {now : Int} {f : Int → Option One} {F : List Nat} {P : Int → Option Nat} (h : Tm w B p now n f F) (hm : TmM w p now n f F mb P) {x : Int} (hm2 : MapE ptrE w' mb n (fun y => if y = x then none else P y)) (ho : Only [mb] w w') : Tm w' B p now n (upd f x none) F := by
  have hpm : p ≠ mb := hm.map.notBlk hm.blk
  refine ⟨h.n0, h.n1, h.pF, fun k hk => ⟨(h.lt k hk).1, Nat.lt_of_lt_of_le (h.lt k hk).2 ho.size⟩, fun y o2 hy => ?_, .inr ⟨mb, _, ho.blk hm.blk (by simpa using hpm), hm2, hm.mF, fun y => ?_, fun y b hy => ?_, fun y b2 o2 h1 h2 => ?_, fun y z b h1 h2 => ?_⟩⟩
  · by_cases hyx : y = x
    · rw [hyx, upd_same] at hy; cases hy
    · rw [upd_other f _ hyx] at hy; exact h.fits y o2 hy
  · by_cases hyx : y = x
    · rw [hyx, upd_same, if_pos rfl]; rfl
    · rw [upd_other f _ hyx, if_neg hyx]; exact hm.dom y
  · by_cases hyx : y = x
    · rw [if_pos hyx] at hy; cases hy
    · rw [if_neg hyx] at hy; exact hm.oF y b hy
  · by_cases hyx : y = x
    · rw [if_pos hyx] at h1; cases h1
    · rw [if_neg hyx] at h1
      rw [upd_other f _ hyx] at h2
      have hb := hm.one y b2 o2 h1 h2
      exact ho.blk hb (by simpa using hm.map.notBlk hb)
  · by_cases hyx : y = x
    · rw [if_pos hyx] at h1; cases h1
    · by_cases hzx : z = x
      · rw [if_pos hzx] at h2; cases h2
      · rw [if_neg hyx] at h1
        rw [if_neg hzx] at h2
        exact hm.inj y z b h1 h2

theorem of_nil (w : World) (id : Int) : Calls Try.prog 19 #[.pointer none, .int .i64 id] w fun e w' => e = .returned (.pointer none) ∧ w' = w := by
  go_enter Try.func19, Try.ntmps19
  go_wp2_with fail
  go_ret
  exact ⟨rfl, rfl⟩
theorem of_none {w : World} {B p n : Nat} {now : Int} {f : Int → Option One} {F : List Nat} (h : Tm w B p now n f F) {id : Int} (hid : Wf id) (hf : f id = none) :
    Calls Try.prog 19 #[.pointer (some ⟨p, 0, none⟩), .int .i64 id] w fun e w' => e = .returned (.pointer none) ∧ w' = w := by
  rcases h.all with ⟨h1, _⟩ | ⟨mb, P, h1⟩
  · have c1 := h1.cellv 1 _ rfl
    have hl := look_none (w := w) ptrE (t := 25) Try.underlying25 (zeroP w) hid
    simp only [ptrE] at hl
    clear h h1 hf hid
    go_enter Try.func19, Try.ntmps19
    go_wp2_with fail
    go_ret
    exact ⟨rfl, rfl⟩
  · have c1 := h1.blk.cellv 1 _ rfl
    have hl := h1.map.look (t := 25) Try.underlying25 (zeroP w) hid
    rw [h1.none_ hf] at hl
    simp only [ptrE, elV] at hl
    clear h h1 hf hid
    go_enter Try.func19, Try.ntmps19
    go_wp2_with fail
    go_ret
    exact ⟨rfl, rfl⟩
theorem of_some {w : World} {p n mb : Nat} {now : Int} {f : Int → Option One} {F : List Nat} {P : Int → Option Nat} (h1 : TmM w p now n f F mb P) {id : Int} {b : Nat} (hb : P id = some b) :
    Calls Try.prog 19 #[.pointer (some ⟨p, 0, none⟩), .int .i64 id] w fun e w' => e = .returned (.pointer (some ⟨b, 0, none⟩)) ∧ w' = w := by
  have c1 := h1.blk.cellv 1 _ rfl
  have hl := h1.map.look (t := 25) Try.underlying25 (zeroP w) (h1.map.wf hb)
  rw [hb] at hl
  simp only [ptrE, elV] at hl
  clear h1 hb
  go_enter Try.func19, Try.ntmps19
  go_wp2_with fail
  go_ret
  exact ⟨rfl, rfl⟩

theorem now_any {w : World} {B p n : Nat} {now : Int} {f : Int → Option One} {F : List Nat} (h : Tm w B p now n f F) :
    Calls Try.prog 16 #[.pointer (some ⟨p, 0, none⟩)] w fun e w' => e = .returned (.int .i64 now) ∧ w' = w := by
  obtain ⟨m, h1⟩ := h.now_
  have c0 := h1.cellv 0 _ rfl
  clear h h1
  go_enter Try.func16, Try.ntmps16
  go_wp2_with fail
  go_ret
  exact ⟨rfl, rfl⟩
theorem now_nil (w : World) : Calls Try.prog 16 #[.pointer none] w fun e w' => e = .returned (.int .i64 0) ∧ w' = w := by
  go_enter Try.func16, Try.ntmps16
  go_wp2_with fail
  go_ret
  exact ⟨rfl, rfl⟩

theorem touch_none {w : World} {B p n : Nat} {now : Int} {f : Int → Option One} {F : List Nat} (h : Tm w B p now n f F) {id : Int} (hid : Wf id) (hf : f id = none)  :
    Calls Try.prog 11 #[.pointer (some ⟨p, 0, none⟩), .int .i64 id] w fun e w' => e = .returned (.bool false) ∧ w' = w := by
  have HO := hide (of_none h hid hf)
  clear h hid hf
  go_enter Try.func11, Try.ntmps11
  go_wp2_with fail
  (with_reducible refine (unhide HO).mono ?_)
  rintro e w1 ⟨rfl, hw1⟩
  subst hw1
  go_wp2_with fail
  go_ret
  exact ⟨rfl, rfl⟩
theorem touch_nil (w : World) (id : Int)  :
    Calls Try.prog 11 #[.pointer none, .int .i64 id] w fun e w' => e = .returned (.bool false) ∧ w' = w := by
  have HO := hide (of_nil w id)
  go_enter Try.func11, Try.ntmps11
  go_wp2_with fail
  (with_reducible refine (unhide HO).mono ?_)
  rintro e w1 ⟨rfl, hw1⟩
  subst hw1
  go_wp2_with fail
  go_ret
  exact ⟨rfl, rfl⟩
theorem limit_none {w : World} {B p n : Nat} {now : Int} {f : Int → Option One} {F : List Nat} (h : Tm w B p now n f F) {id : Int} (hid : Wf id) (hf : f id = none) (lim : Int) :
    Calls Try.prog 13 #[.pointer (some ⟨p, 0, none⟩), .int .i64 id, .int .i64 lim] w fun e w' => e = .returned (.bool false) ∧ w' = w := by
  have HO := hide (of_none h hid hf)
  clear h hid hf
  go_enter Try.func13, Try.ntmps13
  go_wp2_with fail
  (with_reducible refine (unhide HO).mono ?_)
  rintro e w1 ⟨rfl, hw1⟩
  subst hw1
  go_wp2_with fail
  go_ret
  exact ⟨rfl, rfl⟩
theorem limit_nil (w : World) (id : Int) (lim : Int) :
    Calls Try.prog 13 #[.pointer none, .int .i64 id, .int .i64 lim] w fun e w' => e = .returned (.bool false) ∧ w' = w := by
  have HO := hide (of_nil w id)
  go_enter Try.func13, Try.ntmps13
  go_wp2_with fail
  (with_reducible refine (unhide HO).mono ?_)
  rintro e w1 ⟨rfl, hw1⟩
  subst hw1
  go_wp2_with fail
  go_ret
  exact ⟨rfl, rfl⟩
theorem stop_none {w : World} {B p n : Nat} {now : Int} {f : Int → Option One} {F : List Nat} (h : Tm w B p now n f F) {id : Int} (hid : Wf id) (hf : f id = none)  :
    Calls Try.prog 12 #[.pointer (some ⟨p, 0, none⟩), .int .i64 id] w fun e w' => e = .returned (.bool false) ∧ w' = w := by
  have HO := hide (of_none h hid hf)
  clear h hid hf
  go_enter Try.func12, Try.ntmps12
  go_wp2_with fail
  (with_reducible refine (unhide HO).mono ?_)
  rintro e w1 ⟨rfl, hw1⟩
  subst hw1
  go_wp2_with fail
  go_ret
  exact ⟨rfl, rfl⟩
theorem stop_nil (w : World) (id : Int)  :
    Calls Try.prog 12 #[.pointer none, .int .i64 id] w fun e w' => e = .returned (.bool false) ∧ w' = w := by
  have HO := hide (of_nil w id)
  go_enter Try.func12, Try.ntmps12
  go_wp2_with fail
  (with_reducible refine (unhide HO).mono ?_)
  rintro e w1 ⟨rfl, hw1⟩
  subst hw1
  go_wp2_with fail
  go_ret
  exact ⟨rfl, rfl⟩
theorem ages_none {w : World} {B p n : Nat} {now : Int} {f : Int → Option One} {F : List Nat} (h : Tm w B p now n f F) {id : Int} (hid : Wf id) (hf : f id = none)  :
    Calls Try.prog 15 #[.pointer (some ⟨p, 0, none⟩), .int .i64 id] w fun e w' => e = .returned (.tuple #[.int .i64 0, .int .i64 0, .bool false]) ∧ w' = w := by
  have HO := hide (of_none h hid hf)
  clear h hid hf
  go_enter Try.func15, Try.ntmps15
  go_wp2_with fail
  (with_reducible refine (unhide HO).mono ?_)
  rintro e w1 ⟨rfl, hw1⟩
  subst hw1
  go_wp2_with fail
  go_ret3
  exact ⟨rfl, rfl⟩
theorem ages_nil (w : World) (id : Int)  :
    Calls Try.prog 15 #[.pointer none, .int .i64 id] w fun e w' => e = .returned (.tuple #[.int .i64 0, .int .i64 0, .bool false]) ∧ w' = w := by
  have HO := hide (of_nil w id)
  go_enter Try.func15, Try.ntmps15
  go_wp2_with fail
  (with_reducible refine (unhide HO).mono ?_)
  rintro e w1 ⟨rfl, hw1⟩
  subst hw1
  go_wp2_with fail
  go_ret3
  exact ⟨rfl, rfl⟩

theorem touch_some {w : World} {B p n : Nat} {now : Int} {f : Int → Option One} {F : List Nat} (h : Tm w B p now n f F) {id : Int} {o : One} (hf : f id = some o) :
    Calls Try.prog 11 #[.pointer (some ⟨p, 0, none⟩), .int .i64 id] w fun e w' => e = .returned (.bool true) ∧ Tm w' B p now n (upd f id (some ⟨o.limit, o.begun, now⟩)) F ∧ Only F w w' := by
  rcases h.all with ⟨_, h2⟩ | ⟨mb, P, h1⟩
  · rw [h2] at hf; cases hf
  obtain ⟨b, hb⟩ := h1.some_ hf
  have hbo := h1.one id b o hb hf
  have HO := hide (of_some h1 hb)
  have hfit := h.fits id o hf
  have HF := fun w' => hide (h.put (w' := w') h1 hb (o' := ⟨o.limit, o.begun, now⟩) ⟨hfit.l0, hfit.l1, hfit.b0, hfit.b1, h.n0, Int.le_refl _⟩)
  have c0 := h1.blk.cellv 0 _ rfl
  have z2 := hbo.cellv 2 _ rfl
  have zf := hbo.frozen 2
  have HB := hide hbo
  have HBF := hide (h1.oF id b hb)
  clear h h1 hfit hbo hb hf
  go_enter Try.func11, Try.ntmps11
  go_wp2_with fail
  (with_reducible refine (unhide HO).mono ?_)
  rintro e w1 ⟨rfl, hw1⟩
  subst hw1
  go_wp2_with fail
  go_ret
  exact ⟨rfl, (HF _).out (HB.out.set_ 2 _) ((Only.refl _ _).setCell (by simp) _), (Only.refl _ _).setCell HBF.out _⟩
theorem limit_less {w : World} {B p n : Nat} {now : Int} {f : Int → Option One} {F : List Nat} (h : Tm w B p now n f F) {id : Int} {o : One} (hf : f id = some o) {lim : Int} (hl : lim < 0) :
    Calls Try.prog 13 #[.pointer (some ⟨p, 0, none⟩), .int .i64 id, .int .i64 lim] w fun e w' => e = .returned (.bool false) ∧ w' = w := by
  rcases h.all with ⟨_, h2⟩ | ⟨mb, P, h1⟩
  · rw [h2] at hf; cases hf
  obtain ⟨b, hb⟩ := h1.some_ hf
  have HO := hide (of_some h1 hb)
  clear h h1 hb hf
  go_enter Try.func13, Try.ntmps13
  go_wp2_with fail
  (with_reducible refine (unhide HO).mono ?_)
  rintro e w1 ⟨rfl, hw1⟩
  subst hw1
  go_wp2_with fail
  go_ret
  exact ⟨rfl, rfl⟩
theorem limit_some {w : World} {B p n : Nat} {now : Int} {f : Int → Option One} {F : List Nat} (h : Tm w B p now n f F) {id : Int} {o : One} (hf : f id = some o) {lim : Int} (hl : 0 ≤ lim) (hl2 : lim ≤ 9223372036854775807) :
    Calls Try.prog 13 #[.pointer (some ⟨p, 0, none⟩), .int .i64 id, .int .i64 lim] w fun e w' => e = .returned (.bool true) ∧ Tm w' B p now n (upd f id (some ⟨lim, o.begun, o.active⟩)) F ∧ Only F w w' := by
  rcases h.all with ⟨_, h2⟩ | ⟨mb, P, h1⟩
  · rw [h2] at hf; cases hf
  obtain ⟨b, hb⟩ := h1.some_ hf
  have hbo := h1.one id b o hb hf
  have HO := hide (of_some h1 hb)
  have hfit := h.fits id o hf
  have HF := fun w' => hide (h.put (w' := w') h1 hb (o' := ⟨lim, o.begun, o.active⟩) ⟨hl, hl2, hfit.b0, hfit.b1, hfit.a0, hfit.a1⟩)
  have z0 := hbo.cellv 0 _ rfl
  have zf := hbo.frozen 0
  have HB := hide hbo
  have HBF := hide (h1.oF id b hb)
  clear h h1 hfit hbo hb hf hl2
  go_enter Try.func13, Try.ntmps13
  go_wp2_with fail
  (with_reducible refine (unhide HO).mono ?_)
  rintro e w1 ⟨rfl, hw1⟩
  subst hw1
  go_wp2_with fail
  go_ret
  exact ⟨rfl, (HF _).out (HB.out.set_ 0 _) ((Only.refl _ _).setCell (by simp) _), (Only.refl _ _).setCell HBF.out _⟩
set_option maxHeartbeats 1000000 in
theorem ages_some {w : World} {B p n : Nat} {now : Int} {f : Int → Option One} {F : List Nat} (h : Tm w B p now n f F) {id : Int} {o : One} (hf : f id = some o) :
    Calls Try.prog 15 #[.pointer (some ⟨p, 0, none⟩), .int .i64 id] w fun e w' => e = .returned (.tuple #[.int .i64 (now - o.begun), .int .i64 (now - o.active), .bool true]) ∧ ∃ k, w' = w.drewN k := by
  rcases h.all with ⟨_, h2⟩ | ⟨mb, P, h1⟩
  · rw [h2] at hf; cases hf
  obtain ⟨b, hb⟩ := h1.some_ hf
  have hbo := h1.one id b o hb hf
  have HO := hide (of_some h1 hb)
  have hfit := h.fits id o hf
  have c0 := h1.blk.cellv 0 _ rfl
  have z1 : w.cell? ⟨b, 1, none⟩ = some (.int .i64 o.begun) := hbo.cellv 1 _ rfl
  have z2 : w.cell? ⟨b, 2, none⟩ = some (.int .i64 o.active) := hbo.cellv 2 _ rfl
  have hn0 := h.n0
  have hn1 := h.n1
  obtain ⟨l0, l1, b0, b1, a0, a1⟩ := hfit
  obtain ⟨ol, ob, oa⟩ := o
  simp only at b0 b1 a0 a1 z1 z2 ⊢
  have e1 : IntKind.i64.wrap (now - ob) = now - ob := by rw [IntKind.wrap_i64]; omega
  have e2 : IntKind.i64.wrap (now - oa) = now - oa := by rw [IntKind.wrap_i64]; omega
  clear h h1 hbo hb hf l0 l1
  go_enter Try.func15, Try.ntmps15
  go_wp2_with fail
  (with_reducible refine (unhide HO).mono ?_)
  rintro e w1 ⟨rfl, hw1⟩
  subst hw1
  go_wp2_with fail
  go_quiet (fail)
  go_wp2_with fail
  go_ret3
  exact ⟨rfl, _, rfl⟩
set_option maxHeartbeats 1000000 in
theorem stop_some {w : World} {B p n : Nat} {now : Int} {f : Int → Option One} {F : List Nat} (h : Tm w B p now n f F) {id : Int} {o : One} (hf : f id = some o) :
    Calls Try.prog 12 #[.pointer (some ⟨p, 0, none⟩), .int .i64 id] w fun e w' => e = .returned (.bool true) ∧ Tm w' B p now n (upd f id none) F ∧ Only F w w' := by
  rcases h.all with ⟨_, h2⟩ | ⟨mb, P, h1⟩
  · rw [h2] at hf; cases hf
  obtain ⟨b, hb⟩ := h1.some_ hf
  have HO := hide (of_some h1 hb)
  have c1 := h1.blk.cellv 1 _ rfl
  obtain ⟨w2, hd, hm2, ht⟩ := h1.map.drop (t := 25) Try.underlying25 (h1.map.wf hb) 0
  have HT := hide (turned_only ht)
  have HM := hide hm2
  have H := hide h
  have H1 := hide h1
  clear h h1 hb hf hm2 ht
  go_enter Try.func12, Try.ntmps12
  go_wp2_with fail
  (with_reducible refine (unhide HO).mono ?_)
  rintro e w1 ⟨rfl, hw1⟩
  subst hw1
  go_wp2_with fail
  go_ret
  exact ⟨rfl, H.out.cut H1.out HM.out HT.out, HT.out.mono (by intro k hk; rw [List.mem_singleton.1 hk]; exact H1.out.mF)⟩
end Go.Proofs.Ytbgpihengcjgeaa
