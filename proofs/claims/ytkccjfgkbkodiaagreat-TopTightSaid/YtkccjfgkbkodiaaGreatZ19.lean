/-
  StgD · Blo · Pip · PipB: parts of the walk of TopTight, under no condition.
-/
import Derived.Test.YtkccjfgkbkodiaaGreatZ04
import Derived.Test.YtkccjfgkbkodiaaGreatZ13
import Derived.Test.YtkccjfgkbkodiaaGreatZ18
namespace Go.Proofs.YtkccjfgkbkodiaaGreat
open Go.RowKit
set_option maxRecDepth 100000 in
theorem stg_held {w : World} {s : Nat} {F : List Nat} {st : Stg} (h : StgIs w s F st) :
    Calls Tryz.prog 98 #[.pointer (some ⟨s, 0, none⟩)] w fun e w' => e = .returned (.int .i64 st.size) ∧ w' = w := by
  obtain ⟨hv, ov, hM, _⟩ := h
  have c2 : w.cell? ⟨s, 2, none⟩ = some (.int .i64 st.size) := hM.blk.cellv 2 _ rfl
  clear hM
  go_enter Tryz.func98, Tryz.ntmps98
  go_wp2_with fail
  go_ret
  exact ⟨rfl, rfl⟩
def Stg.new (n : Nat) : Stg := ⟨n, [], 0, [], 0⟩
set_option maxRecDepth 100000 in
set_option maxHeartbeats 1000000 in
theorem stg_new (w : World) (n : Nat) (hn : n ≤ 2000) :
    Calls Tryz.prog 108 #[.int .i64 n] w fun e w' => e = .returned (.pointer (some ⟨w.heap.size, 0, none⟩)) ∧ StgIs w' w.heap.size [] (Stg.new n) ∧ Only [] w w' := by
  have H1 := fun (ts : Array TypeId) (t : TypeId) W => max_i64 (P := Tryz.prog) ts t (n : Int) 0 (n : Int) (by omega) W
  have H2 := fun (ts : Array TypeId) (t : TypeId) W => min_i64 (P := Tryz.prog) ts t (n : Int) 2000 (n : Int) (by omega) W
  clear hn
  go_enter Tryz.func108, Tryz.ntmps108
  go_wp2_with fail
  go_ret
  exact ⟨rfl, ⟨.slice none 0 0, .slice none 0 0, ⟨Blk.new _ _ _, SlN.nil _ _ _ _, SlN.nil _ _ _ _⟩, by simp [slB], by simp [slB]⟩, (Only.refl _ _).alloc _⟩
theorem Stg.hold_ok {s : Stg} {p : Part} (h1 : s.limit ≤ 2000) (h2 : s.held.length ≤ s.size) (h3 : ∀ c ∈ s.opn, ∃ m, (s.held ++ [p])[c.1]? = some (.begin_ m (-1))) (h4 : ∀ c ∈ s.opn, c.2 ≤ s.held.length + 1) (h5 : s.opn.length ≤ s.held.length + 1) : (s.hold p).1.Ok := by
  unfold Stg.hold
  split
  · exact ⟨Nat.zero_le _, Nat.le_refl _, Nat.le_refl _, by simp, by simp, by simp⟩
  · rename_i hx
    exact ⟨h1, by simp; omega, by simp only; omega, h3, by simpa using h4, by simpa using h5⟩
end Go.Proofs.YtkccjfgkbkodiaaGreat
namespace Go.Proofs.YtkccjfgkbkodiaaGreat
open Go.Shelf Go.RowKit
/-- The builder in the parser at b holds the bytes xs (as cells), in a row of its own from B on. -/
structure Blo (w : World) (b : Nat) (pre post : List Value) (B : Nat) (a v : Value) (xs : List Value) : Prop where
  mid : Mid w b 122 pre [a, v] post 0
  len : pre = [] ∧ post = []
  addr : a = .pointer none ∨ a = .pointer (some ⟨b, 0, none⟩)
  own : w.ownsRow B 5 1 v xs.length xs
theorem lies_blo : liesAt Tryz.prog Tryz.prog.depth 122 (2 / Tryz.prog.cellsOf 122) 0 122 1 = true := by kernel_rfl
section
variable {w : World} {b B : Nat} {pre post : List Value} {a v : Value} {xs : List Value}
theorem Blo.shape (h : Blo w b pre post B a v xs) : w.shape? b = some (122, 2) := by
  have h1 := h.mid.2
  unfold Blk at h1
  simp [World.shape?, h1, h.len.1, h.len.2]
theorem Blo.out (h : Blo w b pre post B a v xs) : v.ownBlock ≠ some b := own_blk_ne h.own h.mid.2 (by decide)
end
set_option maxRecDepth 100000 in
set_option maxHeartbeats 1000000 in
theorem ocheck_any {w : World} {b B : Nat} {pre post : List Value} {a v : Value} {xs : List Value} (h : Blo w b pre post B a v xs) :
    Calls Tryz.prog 109 #[.pointer (some ⟨b, 0, none⟩)] w fun e w' => e = .returned (.tuple #[]) ∧ Blo w' b pre post B (.pointer (some ⟨b, 0, none⟩)) v xs ∧ Only [b] w w' := by
  have c0 : w.cell? ⟨b, 0, none⟩ = some a := h.mid.cell0 _ rfl
  have f0 := h.mid.frozen 0
  have hsh := h.shape
  obtain ⟨j, hj, hjs⟩ := info_bld
  have H := hide h
  rcases h.addr with rfl | rfl
  · clear h
    go_enter Tryz.func109, Tryz.ntmps109
    go_wp2_with fail
    rw [Lib.run_to_unsafe w ⟨b, 0, none⟩ Tryz.underlying120 Tryz.underlying220 hj (by rw [hjs]; decide) hsh (by show 0 < 2; omega)]
    simp only [Result.andThen]
    rw [Oper.upon_value]
    go_wp2_with fail
    rw [run_callFunc_extern Tryz.func124 (by kernel_rfl) (by kernel_rfl) (by kernel_rfl) (e := Extern.AbiNoEscape.same) (by kernel_rfl)]
    rw [Lib.run_noEscape]
    simp only [Result.andThen]
    rw [Oper.upon_value]
    go_wp2_with fail
    rw [Lib.run_from_unsafe w ⟨b, 0, none⟩ Tryz.underlying220 Tryz.underlying120 hj hsh lies_blo]
    simp only [Result.andThen]
    rw [Oper.upon_value]
    go_wp2_with fail
    go_end0
    have hset := H.out.mid.set 0 (by simp) (.pointer (some ⟨b, 0, none⟩))
    have ho : Only [b] w (w.setCell ⟨b, 0, none⟩ (.pointer (some ⟨b, 0, none⟩))) := (Only.refl _ _).setCell (by simp) _
    refine ⟨rfl, ⟨hset, H.out.len, .inr rfl, ?_⟩, ho⟩
    exact H.out.own.kept (row := some b) ⟨rfl, rfl, rfl, by simp [World.setCell], fun k _ hk => Below.heap_setCell _ _ _ _ (fun e => hk (by simp [e]))⟩ (Or.inr H.out.out)
  · clear h
    go_enter Tryz.func109, Tryz.ntmps109
    go_wp2_with fail
    rw [Lib.run_neq_ptr_same w _ Tryz.underlying120 hj]
    go_wp2_with fail
    go_end0
    exact ⟨rfl, H.out, Only.refl _ _⟩
set_option maxRecDepth 100000 in
set_option maxHeartbeats 1000000 in
theorem owrite_any {w : World} {b B : Nat} {pre post : List Value} {a v : Value} {xs : List Value} (h : Blo w b pre post B a v xs) (s : ByteArray) (hl : xs.length + s.size ≤ 1000000) (hB : B ≤ w.heap.size) :
    Calls Tryz.prog 90 #[.pointer (some ⟨b, 0, none⟩), .string s] w fun e w' => ∃ v', e = .returned (.tuple #[.int .i64 s.size, .nilIface]) ∧ Blo w' b pre post B (.pointer (some ⟨b, 0, none⟩)) v' (xs ++ Lib.strCells s) ∧
      Only (b :: slB v) w w' ∧ ∀ k ∈ slB v', k ∈ slB v ∨ w.heap.size ≤ k := by
  obtain ⟨i0, hi, hz0, hz1, hz2⟩ := info_parts info_u8
  have HC := hide (ocheck_any h)
  have hls : s.size ≤ 9223372036854775807 := by omega
  have HL := hide hl
  have HB := hide hB
  clear h hl hB
  go_enter Tryz.func90, Tryz.ntmps90
  go_wp2_with fail
  (with_reducible refine (unhide HC).mono ?_)
  rintro e w1 ⟨rfl, h1, ho1⟩
  have c1 : w1.cell? ⟨b, 1, none⟩ = some v := h1.mid.cell 1 _ rfl
  have hs1 := ho1.size
  have H1 := hide h1
  have HO1 := hide ho1
  clear HC h1 ho1
  go_wp2_with (at_builtin; go_loud (refine wpList_append_string_at _ rfl _ _ 63 9 rfl B 5 i0 Tryz.underlying63 Tryz.underlying9 hi hz0 hz1 hz2 _ _ _ rfl H1.out.own s rfl ?c3 ?c4 ?c5 ?_))
  case c3 => have := HL.out; unfold maxLen; omega
  case c4 => have := HL.out; omega
  case c5 => have := HB.out; omega
  intro v' w2 hown' hgrow hfresh
  have hm2 : Mid w2 b 122 pre [.pointer (some ⟨b, 0, none⟩), v] post 0 := ⟨H1.out.mid.1, H1.out.mid.2.grown hgrow (fun e => H1.out.out e.symm)⟩
  have d1 : w2.cell? ⟨b, 1, none⟩ = some v := hm2.cell 1 _ rfl
  have f1 := hm2.frozen 1
  have hne : v'.ownBlock ≠ some b := own_blk_ne hown' hm2.2 (by decide)
  have hset := hm2.set 1 (by simp) v'
  have hkept : (w2.setCell ⟨b, 1, none⟩ v').ownsRow B 5 1 v' (xs.length + s.size) (xs ++ Lib.strCells s) := hown'.kept (row := some b) ⟨rfl, rfl, rfl, by simp [World.setCell], fun k _ hk => Below.heap_setCell _ _ _ _ (fun e => hk (by simp [e]))⟩ (Or.inr hne)
  have hfin : Blo (w2.setCell ⟨b, 1, none⟩ v') b pre post B (.pointer (some ⟨b, 0, none⟩)) v' (xs ++ Lib.strCells s) := ⟨hset, H1.out.len, .inr rfl, by rw [List.length_append, Lib.strCells_length]; exact hkept⟩
  have HF := hide hfin
  have HO : Hid (Only (b :: slB v) w (w2.setCell ⟨b, 1, none⟩ v')) := hide (((HO1.out.mono (by intro k hk; rw [List.mem_singleton.1 hk]; exact List.mem_cons_self ..)).trans ((only_grown hgrow).mono (fun k hk => List.mem_cons_of_mem _ hk))).setCell (p := ⟨b, 1, none⟩) (List.mem_cons_self ..) _)
  have HFR : Hid (∀ k ∈ slB v', k ∈ slB v ∨ w.heap.size ≤ k) := hide (fun k hk => (hfresh k hk).imp_right (fun h9 => by omega))
  obtain ⟨ao, n', cap, rfl⟩ : ∃ ao n' cap, v' = .slice ao n' cap := by
    rcases hown'.2 with ⟨hv, _⟩ | ⟨g, cap, cur, hv, _⟩
    · exact ⟨_, _, _, hv⟩
    · exact ⟨_, _, _, hv⟩
  clear hown' hgrow hm2 hne hset hkept hfin hfresh c1 hs1 H1 HO1
  go_wp2_with fail
  go_ret2
  exact ⟨_, rfl, HF.out, HO.out, HFR.out⟩
set_option maxRecDepth 100000 in
set_option maxHeartbeats 2000000 in
theorem ostring_any {w : World} {b B : Nat} {pre post : List Value} {a v : Value} {l : List UInt8} (h : Blo w b pre post B a v (Lib.byteCells l)) :
    Calls Tryz.prog 91 #[.pointer (some ⟨b, 0, none⟩)] w fun e w' => e = .returned (.string ⟨l.toArray⟩) ∧ Only (slB v) w w' := by
  have hUS := fun (W : World) (q : Option Addr) => Lib.run_unsafeString_none (P := Tryz.prog) W 178 3 9 q
  have hmid := h.mid
  rcases h.own.2 with ⟨rfl, h0⟩ | ⟨g, cap, cur, rfl, hbg, hg, hnc, hcm, hcs, htake⟩
  · have hl : l = [] := List.eq_nil_of_length_eq_zero (by rw [← Lib.byteCells_length]; exact h0)
    subst hl
    have c1 : w.drew.cell? ⟨b, 1, none⟩ = some (.slice none 0 0) := h.mid.cell 1 _ rfl
    have hSD : (Builtin.unsafeSliceData_ #[63] 178 #[.slice none 0 0]).run Tryz.prog w.drew = .ok (.pointer none) w.drew := rfl
    clear h hmid h0
    go_enter Tryz.func91, Tryz.ntmps91
    go_wp2_with fail
    go_region
    all_goals (go_wp2; go_ret; exact ⟨rfl, (Only.refl _ w).drew⟩)
  · by_cases hl : l = []
    · subst hl
      have h0 : (Lib.byteCells []).length = 0 := rfl
      rw [h0] at hmid hnc htake ⊢
      by_cases hc0 : cap = 0
      · subst hc0
        have c1 : w.drew.cell? ⟨b, 1, none⟩ = some (.slice (some ⟨g, 0, none⟩) 0 0) := hmid.cell 1 _ rfl
        have hSD : (Builtin.unsafeSliceData_ #[63] 178 #[.slice (some ⟨g, 0, none⟩) 0 0]).run Tryz.prog w.drew = .ok (.pointer (some ⟨w.drew.heap.size, 0, none⟩)) (w.drew.alloc (.view ⟨g, 0, none⟩ 5)) :=
          Lib.run_unsafeSliceData_zero w.drew _ _ 5 Tryz.underlying178 ⟨g, 0, none⟩ 0 (5, cur.size) (by have hg' : w.drew.heap[g]? = some (.cells cur 5 (0, 0)) := hg; simp [World.shape?, hg'])
        have c2 : (w.drew.alloc (.view ⟨g, 0, none⟩ 5)).cell? ⟨b, 1, none⟩ = some (.slice (some ⟨g, 0, none⟩) 0 0) := (hmid.alloc _).cell 1 _ rfl
        have c3 : (w.alloc (.view ⟨g, 0, none⟩ 5)).drew.cell? ⟨b, 1, none⟩ = some (.slice (some ⟨g, 0, none⟩) 0 0) := c2
        have c0 : w.cell? ⟨b, 1, none⟩ = some (.slice (some ⟨g, 0, none⟩) 0 0) := c1
        clear h hmid h0 hnc hcm hcs htake hbg
        go_enter Tryz.func91, Tryz.ntmps91
        go_wp2_with fail
        go_region
        all_goals (go_wp2; go_ret; exact ⟨rfl, ((Only.refl _ w).drew).alloc _⟩)
      · have c1 : w.drew.cell? ⟨b, 1, none⟩ = some (.slice (some ⟨g, 0, none⟩) 0 cap) := hmid.cell 1 _ rfl
        have hSD : (Builtin.unsafeSliceData_ #[63] 178 #[.slice (some ⟨g, 0, none⟩) 0 cap]).run Tryz.prog w.drew = .ok (.pointer (some ⟨g, 0, none⟩)) w.drew :=
          Lib.run_unsafeSliceData_row _ _ _ _ _ _ hc0
        clear h hmid h0 hnc hcm hcs htake hbg hc0 hg
        go_enter Tryz.func91, Tryz.ntmps91
        go_wp2_with fail
        go_region
        all_goals (go_wp2; go_ret; exact ⟨rfl, (Only.refl _ w).drew⟩)
    · have hl0 : l.length ≠ 0 := by simpa using hl
      have hlen : (Lib.byteCells l).length = l.length := Lib.byteCells_length l
      rw [hlen] at hnc
      have hown := h.own
      rw [hlen] at hown hmid ⊢
      have c1 : w.drew.cell? ⟨b, 1, none⟩ = some (.slice (some ⟨g, 0, none⟩) l.length cap) := hmid.cell 1 _ rfl
      have hSD : (Builtin.unsafeSliceData_ #[63] 178 #[.slice (some ⟨g, 0, none⟩) l.length cap]).run Tryz.prog w.drew = .ok (.pointer (some ⟨g, 0, none⟩)) w.drew :=
        Lib.run_unsafeSliceData_row _ _ _ _ _ _ (by omega)
      have hUS2 : (Builtin.unsafeString_ #[178, 3] 9 #[.pointer (some ⟨g, 0, none⟩), .int .i64 l.length]).run Tryz.prog w.drew = .ok (.string ⟨l.toArray⟩) (w.drew.freeze ⟨g, 0, none⟩ l.length) := by
        refine Lib.run_unsafeString_row w.drew 178 3 9 5 Tryz.underlying178 cellsByte g cur.size (by have hg' : w.drew.heap[g]? = some (.cells cur 5 (0, 0)) := hg; simp [World.shape?, hg']) l hl (by omega) (by unfold maxLen at hcm; omega) ?_
        intro j x hx
        exact hown.cells (g := g) rfl j (.int .u8 x.toNat) (by simp [Lib.byteCells, hx])
      clear hUS h hmid hnc hcm hcs htake hbg hlen hown hg hl hl0
      go_enter Tryz.func91, Tryz.ntmps91
      go_wp2_with fail
      go_region
      all_goals (go_wp2; go_ret; exact ⟨rfl, ((Only.refl _ w).drew).freeze (by simp [slB]) _⟩)
end Go.Proofs.YtkccjfgkbkodiaaGreat
namespace Go.Proofs.YtkccjfgkbkodiaaGreat
open Go.RowKit
theorem ta_writer (o : Nat) (w : World) : (Instr.typeAssert (.iface 173 (.pointer (some ⟨o, 0, none⟩))) 20 207 true).run Tryz.prog w = .ok (.tuple #[.iface 173 (.pointer (some ⟨o, 0, none⟩)), .bool true]) w := by kernel_rfl
theorem ta_reader (o : Nat) (w : World) : (Instr.typeAssert (.iface 150 (.pointer (some ⟨o, 0, none⟩))) 20 145 true).run Tryz.prog w = .ok (.tuple #[.iface 150 (.pointer (some ⟨o, 0, none⟩)), .bool true]) w := by kernel_rfl
theorem ta_parser (o : Nat) (w : World) : (Instr.typeAssert (.iface 150 (.pointer (some ⟨o, 0, none⟩))) 20 150 true).run Tryz.prog w = .ok (.tuple #[.pointer (some ⟨o, 0, none⟩), .bool true]) w := by kernel_rfl
theorem me_pstep (n b : Nat) (hn : 0 < n) (w : World) : (Go.method n 150 (.pointer (some ⟨b, 0, none⟩)) "Step").run Tryz.prog w = Result.ok (186, Value.pointer (some ⟨b, 0, none⟩)) w := by
  obtain ⟨m, rfl⟩ : ∃ m, n = m + 1 := ⟨n - 1, by omega⟩
  kernel_rfl
theorem me_pheld (n b : Nat) (hn : 0 < n) (w : World) : (Go.method n 150 (.pointer (some ⟨b, 0, none⟩)) "Held").run Tryz.prog w = Result.ok (185, Value.pointer (some ⟨b, 0, none⟩)) w := by
  obtain ⟨m, rfl⟩ : ∃ m, n = m + 1 := ⟨n - 1, by omega⟩
  kernel_rfl
theorem me_wstep (n b : Nat) (hn : 0 < n) (w : World) : (Go.method n 173 (.pointer (some ⟨b, 0, none⟩)) "Step").run Tryz.prog w = Result.ok (283, Value.pointer (some ⟨b, 0, none⟩)) w := by
  obtain ⟨m, rfl⟩ : ∃ m, n = m + 1 := ⟨n - 1, by omega⟩
  kernel_rfl
/-- Parts that a stage may let go: counts may be known. -/
def Part.js2 : Part → Bool
  | .word l => decide (l.length ≤ 200)
  | .whole _ m => decide (0 ≤ m ∧ m < 18446744073709551616)
  | .begin_ _ n => decide (-1 ≤ n ∧ n ≤ 3000)
  | .blob _ => false
  | .odd => false
  | _ => true
theorem Part.js_js2 {p : Part} (h : p.js = true) : p.js2 = true := by cases p <;> simp [Part.js] at h <;> simp [Part.js2, h]
theorem Part.js2_fits {p : Part} (h : p.js2 = true) : p.fits = true := by cases p <;> simp [Part.js2] at h <;> simp [Part.fits, h] <;> omega
/-- How much parts are. -/
def wt : List Part → Nat
  | [] => 0
  | p :: l => 1 + p.len + wt l
structure Stg.Inv (s : Stg) : Prop where
  ok : s.Ok
  dec : s.opn.Pairwise fun a b => b.1 < a.1
  all : ∀ p ∈ s.held, p.js2 = true
  sz : wt s.held = s.size
structure Pip where
  par : Par
  R : List Cont
  dn : Bool
  stg : Stg
  over : Bool
  e : Int
def Pip.put1 : Pip → List Part → List UInt8 → Pip × List UInt8
  | m, [], out => (m, out)
  | m, x :: xs, out => if m.e = 0 then Pip.put1 { m with R := (stepC m.R m.dn x).2.2.1, dn := (stepC m.R m.dn x).2.2.2, e := (stepC m.R m.dn x).1 } xs (out ++ (stepC m.R m.dn x).2.1) else Pip.put1 m xs out
def Pip.write : Pip → List Part → Int → List UInt8 → Pip × List UInt8 × Int
  | m, [], e, out => ({ m with e := e }, out, e)
  | m, v :: l, e, out =>
    if (Pip.put1 { m with stg := (m.stg.step v).1, e := (m.stg.step v).2.2 } (m.stg.step v).2.1 out).1.e ≠ 0 then
      ((Pip.put1 { m with stg := (m.stg.step v).1, e := (m.stg.step v).2.2 } (m.stg.step v).2.1 out).1, (Pip.put1 { m with stg := (m.stg.step v).1, e := (m.stg.step v).2.2 } (m.stg.step v).2.1 out).2, (Pip.put1 { m with stg := (m.stg.step v).1, e := (m.stg.step v).2.2 } (m.stg.step v).2.1 out).1.e)
    else Pip.write (Pip.put1 { m with stg := (m.stg.step v).1, e := (m.stg.step v).2.2 } (m.stg.step v).2.1 out).1 l e (Pip.put1 { m with stg := (m.stg.step v).1, e := (m.stg.step v).2.2 } (m.stg.step v).2.1 out).2
def SmallS (w : World) (F : List Nat) : Prop := ∀ k ∈ F, ∃ t cs, (t = 20 ∨ t = 249) ∧ Blk w k t cs
theorem StgIs.small {w : World} {s : Nat} {F : List Nat} {st : Stg} (h : StgIs w s F st) : ∃ G, StgIs w s G st ∧ (∀ k ∈ G, k ∈ F) ∧ SmallS w G := by
  obtain ⟨hv, ov, hm, h1, h2⟩ := h
  refine ⟨slB hv ++ slB ov, ⟨hv, ov, hm, fun k hk => List.mem_append_left _ hk, fun k hk => List.mem_append_right _ hk⟩, fun k hk => (List.mem_append.1 hk).elim (h1 k) (h2 k), fun k hk => ?_⟩
  rcases List.mem_append.1 hk with hk | hk
  · obtain ⟨cs, hb⟩ := hm.held.blkOf k hk
    exact ⟨_, cs, .inl rfl, hb⟩
  · obtain ⟨cs, hb⟩ := hm.opn.blkOf k hk
    exact ⟨_, cs, .inr rfl, hb⟩
def pipV (b o s : Nat) (over : Bool) (e : Int) : Array Value := #[.iface 150 (.pointer (some ⟨b, 0, none⟩)), .iface 173 (.pointer (some ⟨o, 0, none⟩)), .pointer (some ⟨s, 0, none⟩), .bool over, .int .i64 e]
structure PipM (w : World) (q b o s : Nat) (Fj Fs : List Nat) (vo : Value) (d : Nat) (m : Pip) : Prop where
  blk : Blk w q 149 (pipV b o s m.over m.e)
  par : ParIs w b Fj d m.par
  smj : SmallF w Fj
  out : Wr w 0 o vo m.R.reverse m.dn
  stg : StgIs w s Fs m.stg
  sms : SmallS w Fs
section
variable {w w' : World} {q b o s d : Nat} {Fj Fs T : List Nat} {vo : Value} {m : Pip}
theorem SmallF.keep {F : List Nat} (h : SmallF w F) (ho : Only T w w') (hd : ∀ k ∈ F, k ∉ T) : SmallF w' F := fun k hk => by
  obtain ⟨t, cs, ht, hb⟩ := h k hk
  exact ⟨t, cs, ht, ho.blk hb (hd k hk)⟩
theorem SmallS.keep {F : List Nat} (h : SmallS w F) (ho : Only T w w') (hd : ∀ k ∈ F, k ∉ T) : SmallS w' F := fun k hk => by
  obtain ⟨t, cs, ht, hb⟩ := h k hk
  exact ⟨t, cs, ht, ho.blk hb (hd k hk)⟩
theorem SmallF.lt {F : List Nat} (h : SmallF w F) : ∀ k ∈ F, k < w.heap.size := fun k hk => by
  obtain ⟨t, cs, ht, hb⟩ := h k hk
  exact hb.lt
theorem SmallS.lt {F : List Nat} (h : SmallS w F) : ∀ k ∈ F, k < w.heap.size := fun k hk => by
  obtain ⟨t, cs, ht, hb⟩ := h k hk
  exact hb.lt
theorem PipM.far (h : PipM w q b o s Fj Fs vo d m) (ho : Only T w w') (h1 : q ∉ T) (h2 : b ∉ T) (h3 : ∀ k ∈ Fj, k ∉ T) (h4 : o ∉ T) (h5 : ∀ k ∈ slB vo, k ∉ T) (h6 : s ∉ T) (h7 : ∀ k ∈ Fs, k ∉ T) : PipM w' q b o s Fj Fs vo d m :=
  ⟨ho.blk h.blk h1, h.par.keep ho h2 h3, h.smj.keep ho h3, h.out.keep ho h4 h5, h.stg.keep ho h6 h7, h.sms.keep ho h7⟩
theorem PipM.new (h : PipM w q b o s Fj Fs vo d m) (ho : Only [] w w') : PipM w' q b o s Fj Fs vo d m := h.far ho (by simp) (by simp) (by simp) (by simp) (by simp) (by simp) (by simp)
theorem ParIs.blk (h : ParIs w b Fj d m.par) : ∃ cs, Blk w b 201 cs := by
  obtain ⟨mv, h⟩ := h
  obtain ⟨pre, hm⟩ := h.mid
  exact ⟨_, hm.2⟩
theorem StgIs.blk {st : Stg} (h : StgIs w s Fs st) : ∃ cs, Blk w s 191 cs := by
  obtain ⟨hv, ov, h, _⟩ := h
  exact ⟨_, h.blk⟩
/-- The blocks of a pipe, by their types. -/
theorem PipM.types (h : PipM w q b o s Fj Fs vo d m) : (∃ cs, Blk w q 149 cs) ∧ (∃ cs, Blk w b 201 cs) ∧ (∃ cs, Blk w o 176 cs) ∧ (∃ cs, Blk w s 191 cs) ∧ ∀ k ∈ slB vo, ∃ cs, Blk w k 351 cs :=
  ⟨⟨_, h.blk⟩, h.par.blk, ⟨_, h.out.2.1⟩, h.stg.blk, h.out.2.2.blkOf⟩
/-- The stage went on. -/
theorem PipM.stage (h : PipM w q b o s Fj Fs vo d m) {st : Stg} {F' : List Nat} (hs : StgIs w' s F' st) (ho : Only (s :: Fs) w w') : ∃ Fs', PipM w' q b o s Fj Fs' vo d { m with stg := st } ∧ ∀ k ∈ Fs', k ∈ F' := by
  obtain ⟨⟨c1, b1⟩, ⟨c2, b2⟩, ⟨c3, b3⟩, ⟨c4, b4⟩, h5⟩ := h.types
  obtain ⟨G, g1, g2, g3⟩ := hs.small
  have key : ∀ k t cs, Blk w k t cs → t ≠ 191 → t ≠ 20 → t ≠ 249 → k ∉ s :: Fs := fun k t cs hb n1 n2 n3 hm => by
    rcases List.mem_cons.1 hm with rfl | hm
    · exact hb.ne_ b4 n1 rfl
    · obtain ⟨t', cs', ht, hb'⟩ := h.sms k hm
      exact hb.ne_ hb' (by rcases ht with rfl | rfl; exact n2; exact n3) rfl
  have kj : ∀ k ∈ Fj, k ∉ s :: Fs := fun k hk => by
    obtain ⟨t, cs, ht, hb⟩ := h.smj k hk
    exact key k t cs hb (by rcases ht with rfl | rfl <;> decide) (by rcases ht with rfl | rfl <;> decide) (by rcases ht with rfl | rfl <;> decide)
  refine ⟨G, ⟨ho.blk h.blk (key q _ _ b1 (by decide) (by decide) (by decide)), h.par.keep ho (key b _ _ b2 (by decide) (by decide) (by decide)) kj, h.smj.keep ho kj, h.out.keep ho (key o _ _ b3 (by decide) (by decide) (by decide)) (fun k hk => ?_), g1, g3⟩, g2⟩
  obtain ⟨cs, hb⟩ := h5 k hk
  exact key k _ _ hb (by decide) (by decide) (by decide)
/-- The writer went on. -/
theorem PipM.writer (h : PipM w q b o s Fj Fs vo d m) {R : List Cont} {dn : Bool} {vo' : Value} (hw : Wr w' 0 o vo' R.reverse dn) (ho : Only (o :: slB vo) w w') : PipM w' q b o s Fj Fs vo' d { m with R := R, dn := dn } := by
  obtain ⟨⟨c1, b1⟩, ⟨c2, b2⟩, ⟨c3, b3⟩, ⟨c4, b4⟩, h5⟩ := h.types
  have key : ∀ k t cs, Blk w k t cs → t ≠ 176 → t ≠ 351 → k ∉ o :: slB vo := fun k t cs hb n1 n2 hm => by
    rcases List.mem_cons.1 hm with rfl | hm
    · exact hb.ne_ b3 n1 rfl
    · obtain ⟨cs', hb'⟩ := h5 k hm
      exact hb.ne_ hb' n2 rfl
  have kj : ∀ k ∈ Fj, k ∉ o :: slB vo := fun k hk => by
    obtain ⟨t, cs, ht, hb⟩ := h.smj k hk
    exact key k t cs hb (by rcases ht with rfl | rfl <;> decide) (by rcases ht with rfl | rfl <;> decide)
  have ks : ∀ k ∈ Fs, k ∉ o :: slB vo := fun k hk => by
    obtain ⟨t, cs, ht, hb⟩ := h.sms k hk
    exact key k t cs hb (by rcases ht with rfl | rfl <;> decide) (by rcases ht with rfl | rfl <;> decide)
  exact ⟨ho.blk h.blk (key q _ _ b1 (by decide) (by decide)), h.par.keep ho (key b _ _ b2 (by decide) (by decide)) kj, h.smj.keep ho kj, hw, h.stg.keep ho (key s _ _ b4 (by decide) (by decide)) ks, h.sms.keep ho ks⟩
/-- The parser went on. -/
theorem PipM.parser (h : PipM w q b o s Fj Fs vo d m) {p : Par} {F' : List Nat} (hp : ParIs w' b F' d p) (ho : Only (b :: Fj) w w') : ∃ Fj', PipM w' q b o s Fj' Fs vo d { m with par := p } ∧ ∀ k ∈ Fj', k ∈ F' := by
  obtain ⟨⟨c1, b1⟩, ⟨c2, b2⟩, ⟨c3, b3⟩, ⟨c4, b4⟩, h5⟩ := h.types
  obtain ⟨G, g1, g2, g3, _⟩ := hp.small
  have key : ∀ k t cs, Blk w k t cs → t ≠ 201 → t ≠ 5 → t ≠ 4 → k ∉ b :: Fj := fun k t cs hb n1 n2 n3 hm => by
    rcases List.mem_cons.1 hm with rfl | hm
    · exact hb.ne_ b2 n1 rfl
    · obtain ⟨t', cs', ht, hb'⟩ := h.smj k hm
      exact hb.ne_ hb' (by rcases ht with rfl | rfl; exact n2; exact n3) rfl
  have ks : ∀ k ∈ Fs, k ∉ b :: Fj := fun k hk => by
    obtain ⟨t, cs, ht, hb⟩ := h.sms k hk
    exact key k t cs hb (by rcases ht with rfl | rfl <;> decide) (by rcases ht with rfl | rfl <;> decide) (by rcases ht with rfl | rfl <;> decide)
  refine ⟨G, ⟨ho.blk h.blk (key q _ _ b1 (by decide) (by decide) (by decide)), g1, g3, h.out.keep ho (key o _ _ b3 (by decide) (by decide) (by decide)) (fun k hk => ?_), h.stg.keep ho (key s _ _ b4 (by decide) (by decide) (by decide)) ks, h.sms.keep ho ks⟩, g2⟩
  obtain ⟨cs, hb⟩ := h5 k hk
  exact key k _ _ hb (by decide) (by decide) (by decide)
/-- Its own cells. -/
theorem PipM.setown (h : PipM w q b o s Fj Fs vo d m) {i : Nat} {u : Value} {ov : Bool} {e : Int} (hc : (pipV b o s m.over m.e).setIfInBounds i u = pipV b o s ov e) : PipM (w.setCell ⟨q, i, none⟩ u) q b o s Fj Fs vo d { m with over := ov, e := e } := by
  obtain ⟨⟨c1, b1⟩, ⟨c2, b2⟩, ⟨c3, b3⟩, ⟨c4, b4⟩, h5⟩ := h.types
  have ho : Only [q] w (w.setCell ⟨q, i, none⟩ u) := (Only.refl _ w).setCell (p := ⟨q, i, none⟩) (by simp) _
  have key : ∀ k t cs, Blk w k t cs → t ≠ 149 → k ∉ [q] := fun k t cs hb n1 hm => by
    rw [List.mem_singleton.1 hm] at hb
    exact hb.ne_ b1 n1 rfl
  have h1 := h.blk.set_ i u
  rw [hc] at h1
  have kj : ∀ k ∈ Fj, k ∉ [q] := fun k hk => by
    obtain ⟨t, cs, ht, hb⟩ := h.smj k hk
    exact key k t cs hb (by rcases ht with rfl | rfl <;> decide)
  have ks : ∀ k ∈ Fs, k ∉ [q] := fun k hk => by
    obtain ⟨t, cs, ht, hb⟩ := h.sms k hk
    exact key k t cs hb (by rcases ht with rfl | rfl <;> decide)
  refine ⟨h1, h.par.keep ho (key b _ _ b2 (by decide)) kj, h.smj.keep ho kj, h.out.keep ho (key o _ _ b3 (by decide)) (fun k hk => ?_), h.stg.keep ho (key s _ _ b4 (by decide)) ks, h.sms.keep ho ks⟩
  obtain ⟨cs, hb⟩ := h5 k hk
  exact key k _ _ hb (by decide)
theorem PipM.seterr (h : PipM w q b o s Fj Fs vo d m) (e : Int) : PipM (w.setCell ⟨q, 4, none⟩ (.int .i64 e)) q b o s Fj Fs vo d { m with e := e } := h.setown rfl
theorem PipM.setover (h : PipM w q b o s Fj Fs vo d m) : PipM (w.setCell ⟨q, 3, none⟩ (.bool true)) q b o s Fj Fs vo d { m with over := true } := h.setown rfl
end
def Pip.may (m : Pip) : Int := if m.e ≠ 0 then m.e else if m.over then 14 else 0
set_option maxRecDepth 100000 in
theorem pip_may {w : World} {q b o s d : Nat} {Fj Fs : List Nat} {vo : Value} {m : Pip} (h : PipM w q b o s Fj Fs vo d m) :
    Calls Tryz.prog 97 #[.pointer (some ⟨q, 0, none⟩)] w fun e w' => e = .returned (.int .i64 m.may) ∧ w' = w := by
  have c3 : w.cell? ⟨q, 3, none⟩ = some (.bool m.over) := h.blk.cellv 3 _ rfl
  have c4 : w.cell? ⟨q, 4, none⟩ = some (.int .i64 m.e) := h.blk.cellv 4 _ rfl
  clear h
  obtain ⟨r, hr⟩ : ∃ r, m.may = r := ⟨_, rfl⟩
  rw [hr]
  unfold Pip.may at hr
  by_cases he : m.e = 0
  · rw [if_neg (by simp [he])] at hr
    have e0 : (m.e != 0) = false := by simp [he]
    cases ho : m.over with
    | true =>
      rw [ho, if_pos rfl] at hr
      rw [ho] at c3
      subst hr
      clear he
      go_enter Tryz.func97, Tryz.ntmps97
      go_wp2_with fail
      go_ret
      exact ⟨rfl, rfl⟩
    | false =>
      rw [ho, if_neg (by simp)] at hr
      rw [ho] at c3
      subst hr
      clear he
      go_enter Tryz.func97, Tryz.ntmps97
      go_wp2_with fail
      go_ret
      exact ⟨rfl, rfl⟩
  · rw [if_pos he] at hr
    have e0 : (m.e != 0) = true := by simpa using he
    subst hr
    clear he
    go_enter Tryz.func97, Tryz.ntmps97
    go_wp2_with fail
    go_ret
    exact ⟨rfl, rfl⟩
end Go.Proofs.YtkccjfgkbkodiaaGreat
namespace Go.Proofs.YtkccjfgkbkodiaaGreat
open Go.RowKit
def Upto (j : Nat) (R : List Cont) : Prop := (∀ c ∈ R, c.parts ≤ j) ∧ R.length ≤ j
theorem Upto.small {j : Nat} {R : List Cont} (h : Upto j R) (hj : j ≤ 1000000) : SmallC R := ⟨fun c hc => Nat.le_trans (h.1 c hc) hj, Nat.le_trans h.2 hj⟩
theorem Upto.more {j : Nat} {R : List Cont} (h : Upto j R) : Upto (j + 1) R := ⟨fun c hc => Nat.le_succ_of_le (h.1 c hc), Nat.le_succ_of_le h.2⟩
theorem opens_upto (pt : Part) : (∀ c ∈ pt.opens, c.parts = 0) ∧ pt.opens.length ≤ 1 := by
  cases pt <;> simp [Part.opens]
theorem Upto.step {j : Nat} {R : List Cont} (h : Upto j R) (d : Bool) (pt : Part) : Upto (j + 1) (stepC R d pt).2.2.1 := by
  obtain ⟨o1, o2⟩ := opens_upto pt
  unfold stepC
  split
  · exact h.more
  split
  · cases R with
    | nil => exact h.more
    | cons c M =>
      simp only
      split
      · exact ⟨fun x hx => Nat.le_succ_of_le (h.1 x (List.mem_cons_of_mem _ hx)), by have := h.2; simp at this ⊢; omega⟩
      · exact h.more
  · cases R with
    | nil =>
      simp only
      split
      · exact ⟨fun x hx => by rw [o1 x hx]; omega, by simp only; omega⟩
      · exact h.more
    | cons c M =>
      simp only
      split
      · exact h.more
      split
      · exact h.more
      split
      · refine ⟨fun x hx => ?_, by have := h.2; simp at this ⊢; omega⟩
        rcases List.mem_append.1 hx with hx | hx
        · rw [o1 x hx]; omega
        · rcases List.mem_cons.1 hx with rfl | hx
          · have := h.1 c (List.mem_cons_self ..); simp only [Cont.more]; omega
          · exact Nat.le_succ_of_le (h.1 x (List.mem_cons_of_mem _ hx))
      · exact h.more
theorem partR_short {pt : Part} (h : pt.js2 = true) : (partR pt).1.length ≤ 9 + pt.len := by
  have hs : ∀ f L v, (∀ n ∈ L, n ≤ 8) → (sizedL f 0 L v).length ≤ 9 := fun f L v hL => sizedL_length f L 0 v hL
  cases pt with
  | word l =>
    have := hs 217 [1, 2, 4] l.length (by simp)
    simp only [partR, plainR, wordB, Part.len]
    split
    · simp
    · rw [List.length_append]; omega
  | null => simp [partR, plainR, Part.len]
  | bool b => cases b <;> simp [partR, plainR, Part.len]
  | whole g m =>
    refine Nat.le_trans (m := 9) ?_ (by omega)
    simp only [partR, plainR]
    split
    · unfold belowR belowL
      (repeat' split) <;> simp
    · split
      · simp
      · have := hs 204 [1, 2, 4, 8] m.toNat (by simp); simp only; omega
  | blob l => simp [Part.js2] at h
  | begin_ m n =>
    refine Nat.le_trans (m := 9) ?_ (by omega)
    simp only [partR, beginR]
    split
    · simp
    · unfold headB
      have := hs (if m = true then 222 else 220) [2, 4] n.toNat (by simp)
      split
      · simp
      · simp only; omega
  | close => simp [partR, plainR, Part.len]
  | odd => simp [Part.js2] at h
theorem stepC_short (R : List Cont) (d : Bool) {pt : Part} (h : pt.js2 = true) : (stepC R d pt).2.1.length ≤ 9 + pt.len := by
  have h1 := partR_short h
  unfold stepC
  split
  · simp
  split
  · cases R with
    | nil => simp
    | cons c M =>
      simp only
      split <;> simp
  · cases R with
    | nil =>
      simp only
      split
      · exact h1
      · simp
    | cons c M =>
      simp only
      split
      · simp
      split
      · simp
      split
      · exact h1
      · simp
theorem stepC_err (R : List Cont) (d : Bool) (pt : Part) : (stepC R d pt).1 = 0 ∨ (stepC R d pt).1 = 7 ∨ (stepC R d pt).1 = 8 ∨ (stepC R d pt).1 = 14 := by
  unfold stepC
  split
  · simp
  split
  · cases R with
    | nil => simp
    | cons c M =>
      simp only
      split <;> simp
  · cases R with
    | nil =>
      simp only
      split <;> simp
    | cons c M =>
      simp only
      (repeat' split) <;> simp
theorem wt_append (a b : List Part) : wt (a ++ b) = wt a + wt b := by
  induction a with
  | nil => simp [wt]
  | cons p a ih => simp only [List.cons_append, wt, ih]; omega
theorem wt_set {l : List Part} {i : Nat} {p p' : Part} (h : l[i]? = some p) (hl : p'.len = p.len) : wt (l.set i p') = wt l := by
  induction l generalizing i with
  | nil => simp at h
  | cons x l ih =>
    cases i with
    | zero =>
      simp at h
      subst h
      simp only [List.set_cons_zero, wt, hl]
    | succ i =>
      simp only [List.set_cons_succ, wt, ih (by simpa using h)]
/-- How many bytes parts come to, at most. -/
def cst : List Part → Nat
  | [] => 0
  | p :: l => 9 + p.len + cst l
theorem cst_wt (l : List Part) : cst l ≤ 9 * wt l := by
  induction l with
  | nil => simp [cst]
  | cons x l ih => simp only [cst, wt]; omega
theorem wt_len (l : List Part) : l.length ≤ wt l := by
  induction l with
  | nil => simp [wt]
  | cons x l ih => simp only [List.length_cons, wt]; omega
theorem Stg.hold_inv {s : Stg} {p : Part} (h1 : s.limit ≤ 2000) (h2 : s.held.length ≤ s.size) (h3 : ∀ c ∈ s.opn, ∃ m, (s.held ++ [p])[c.1]? = some (.begin_ m (-1))) (h4 : ∀ c ∈ s.opn, c.2 ≤ s.held.length + 1) (h5 : s.opn.length ≤ s.held.length + 1)
    (dec : s.opn.Pairwise fun a b => b.1 < a.1) (all : ∀ x ∈ s.held, x.js2 = true) (hp : p.js2 = true) (sz : wt s.held = s.size) :
    (s.hold p).1.Inv ∧ (s.hold p).1.held.length ≤ s.held.length + 1 ∧ ((s.hold p).2 = 10 ∨ (s.hold p).2 = s.e) ∧ (s.hold p).1.limit ≤ s.limit := by
  have hok := Stg.hold_ok (p := p) h1 h2 h3 h4 h5
  unfold Stg.hold at hok ⊢
  split
  · rename_i hx
    rw [if_pos hx] at hok
    exact ⟨⟨hok, by simp, by simp, by simp [wt]⟩, by simp, .inl rfl, by simp⟩
  · rename_i hx
    rw [if_neg hx] at hok
    refine ⟨⟨hok, dec, fun x hx => ?_, ?_⟩, by simp, .inr rfl, Nat.le_refl _⟩
    · rcases List.mem_append.1 hx with hx | hx
      · exact all x hx
      · rw [List.mem_singleton.1 hx]; exact hp
    · simp only
      rw [wt_append, sz]
      simp [wt]
theorem Stg.step_inv {s : Stg} {p : Part} (h : s.Inv) (hp : p.js = true) :
    (s.step p).1.Inv ∧ (∀ x ∈ (s.step p).2.1, x.js2 = true) ∧ (s.step p).2.1.length + (s.step p).1.held.length ≤ s.held.length + 1 ∧ ((s.step p).2.2 = 0 ∨ (s.step p).2.2 = 10 ∨ (s.step p).2.2 = s.e) ∧ (s.step p).1.limit ≤ s.limit ∧ (cst (s.step p).2.1 ≤ 9 + p.len ∨ (p.len = 0 ∧ wt (s.step p).2.1 ≤ s.limit + 1)) := by
  have hj2 := Part.js_js2 hp
  have hlen := h.ok.len
  have hle := h.ok.le
  have hlim := h.ok.lim
  unfold Stg.step
  split
  · exact ⟨h, by simp, by simp, .inr (.inr rfl), Nat.le_refl _, .inl (by simp [cst])⟩
  rename_i he
  have he0 : s.e = 0 := by omega
  split
  · exact ⟨h, by simpa using hj2, by simp; omega, .inl rfl, Nat.le_refl _, .inl (by simp [cst])⟩
  rename_i hnb
  split
  · rename_i hcl
    have hpl : p = .close := by cases p <;> simp [Part.isClose] at hcl; rfl
    subst hpl
    unfold Stg.close
    cases hop : s.opn with
    | nil => exact absurd ⟨hop, rfl⟩ hnb
    | cons c M =>
      obtain ⟨m, hat⟩ := h.ok.at_ c (by rw [hop]; exact List.mem_cons_self ..)
      have hc2 := h.ok.parts c (by rw [hop]; exact List.mem_cons_self ..)
      simp only [hat]
      have hfx : (fixP (.begin_ m (-1)) c.2).js2 = true := by
        simp only [fixP]
        rw [if_pos (by omega)]
        simp only [Part.js2, decide_eq_true_eq]
        cases m <;> simp <;> omega
      have hall : ∀ x ∈ s.held.set c.1 (fixP (.begin_ m (-1)) c.2), x.js2 = true := fun x hx => by
        rcases List.mem_or_eq_of_mem_set hx with hx | rfl
        · exact h.all x hx
        · exact hfx
      have hwt : wt (s.held.set c.1 (fixP (.begin_ m (-1)) c.2)) = s.size := by
        rw [wt_set hat (by simp only [fixP]; rw [if_pos (by omega)]; rfl), h.sz]
      have hdec := h.dec
      rw [hop, List.pairwise_cons] at hdec
      by_cases hM : M = []
      · rw [if_pos hM]
        refine ⟨⟨⟨hlim, Nat.le_refl _, Nat.zero_le _, by simp, by simp, by simp⟩, by simp, by simp, rfl⟩, fun x hx => ?_, by simp, .inl rfl, Nat.le_refl _, .inr ⟨rfl, ?_⟩⟩
        · rcases List.mem_append.1 hx with hx | hx
          · exact hall x hx
          · rw [List.mem_singleton.1 hx]; rfl
        · rw [wt_append, hwt]
          simp [wt, Part.len]
          omega
      · rw [if_neg hM]
        have hh := Stg.hold_inv (s := { s with opn := M, held := s.held.set c.1 (fixP (.begin_ m (-1)) c.2) }) (p := .close) hlim (by simpa using hlen) (fun c' hc' => ?_) (fun c' hc' => ?_) (by have := h.ok.few; rw [hop] at this; simp at this ⊢; omega) hdec.2 hall rfl hwt
        · refine ⟨hh.1, by simp, by simp only [List.length_nil, Nat.zero_add]; have := hh.2.1; simpa using this, ?_, hh.2.2.2, .inl (by simp [cst])⟩
          rcases hh.2.2.1 with h9 | h9
          · exact .inr (.inl h9)
          · exact .inr (.inr h9)
        · obtain ⟨m', hm'⟩ := h.ok.at_ c' (by rw [hop]; exact List.mem_cons_of_mem _ hc')
          have hlt := hdec.1 c' hc'
          refine ⟨m', ?_⟩
          simp only
          rw [List.getElem?_append_left (by rw [List.length_set]; exact (List.getElem?_eq_some_iff.1 hm').1), List.getElem?_set_ne (by omega)]
          exact hm'
        · have := h.ok.parts c' (by rw [hop]; exact List.mem_cons_of_mem _ hc')
          simp only [List.length_set]
          omega
  · rename_i hncl
    have hbat : ∀ c ∈ s.bump, ∃ m, (s.held ++ [p])[c.1]? = some (.begin_ m (-1)) := fun c hc => by
      have : ∃ c' ∈ s.opn, c'.1 = c.1 := by
        unfold Stg.bump at hc
        cases hop : s.opn with
        | nil => rw [hop] at hc; simp at hc
        | cons x M =>
          rw [hop] at hc
          rcases List.mem_cons.1 hc with rfl | hc
          · exact ⟨x, List.mem_cons_self .., rfl⟩
          · exact ⟨c, List.mem_cons_of_mem _ hc, rfl⟩
      obtain ⟨c', hc', e⟩ := this
      obtain ⟨m, hm⟩ := h.ok.at_ c' hc'
      rw [e] at hm
      exact ⟨m, by rw [List.getElem?_append_left (List.getElem?_eq_some_iff.1 hm).1]; exact hm⟩
    have hblt : ∀ c ∈ s.bump, c.1 < s.held.length := fun c hc => by
      unfold Stg.bump at hc
      cases hop : s.opn with
      | nil => rw [hop] at hc; simp at hc
      | cons x M =>
        rw [hop] at hc
        rcases List.mem_cons.1 hc with rfl | hc
        · obtain ⟨m, hm⟩ := h.ok.at_ x (by rw [hop]; exact List.mem_cons_self ..)
          exact (List.getElem?_eq_some_iff.1 hm).1
        · obtain ⟨m, hm⟩ := h.ok.at_ c (by rw [hop]; exact List.mem_cons_of_mem _ hc)
          exact (List.getElem?_eq_some_iff.1 hm).1
    have hbp : ∀ c ∈ s.bump, c.2 ≤ s.held.length + 1 := fun c hc => by
      unfold Stg.bump at hc
      cases hop : s.opn with
      | nil => rw [hop] at hc; simp at hc
      | cons x M =>
        rw [hop] at hc
        rcases List.mem_cons.1 hc with rfl | hc
        · have := h.ok.parts x (by rw [hop]; exact List.mem_cons_self ..)
          simp only
          omega
        · have := h.ok.parts c (by rw [hop]; exact List.mem_cons_of_mem _ hc)
          omega
    have hbd : s.bump.Pairwise fun a b => b.1 < a.1 := by
      have hd := h.dec
      unfold Stg.bump
      cases hop : s.opn with
      | nil => simp
      | cons x M =>
        rw [hop, List.pairwise_cons] at hd
        simp only [List.pairwise_cons]
        exact hd
    have hbf : s.bump.length = s.opn.length := by
      unfold Stg.bump
      cases s.opn <;> rfl
    have hfew := h.ok.few
    have hh := Stg.hold_inv (s := { s with opn := if p.isBegin then (s.held.length, 0) :: s.bump else s.bump }) (p := p) hlim hlen (fun c hc => ?_) (fun c hc => ?_) ?_ ?_ h.all hj2 h.sz
    · refine ⟨hh.1, by simp, by simp only [List.length_nil, Nat.zero_add]; exact hh.2.1, ?_, hh.2.2.2, .inl (by simp [cst])⟩
      rcases hh.2.2.1 with h9 | h9
      · exact .inr (.inl h9)
      · exact .inr (.inr h9)
    · cases hb : p.isBegin with
      | false => rw [hb] at hc; exact hbat c hc
      | true =>
        rw [hb] at hc
        rcases List.mem_cons.1 hc with rfl | hc
        · simp only
          rw [List.getElem?_append_right (Nat.le_refl _), Nat.sub_self]
          cases p <;> simp [Part.isBegin] at hb
          simp [Part.js] at hp
          subst hp
          exact ⟨_, rfl⟩
        · exact hbat c hc
    · cases hb : p.isBegin with
      | false => rw [hb] at hc; exact hbp c hc
      | true =>
        rw [hb] at hc
        rcases List.mem_cons.1 hc with rfl | hc
        · simp
        · exact hbp c hc
    · simp only
      split
      · simp; omega
      · omega
    · simp only
      split
      · rw [List.pairwise_cons]
        exact ⟨fun c hc => hblt c hc, hbd⟩
      · exact hbd
/-- A builder of its own, where others wrote. -/
theorem Blo.far {w w' : World} {b B : Nat} {pre post : List Value} {a v : Value} {xs : List Value} {T : List Nat} (h : Blo w b pre post B a v xs) (ho : Only T w w') (h1 : b ∉ T) (h2 : ∀ k ∈ slB v, k ∉ T) : Blo w' b pre post B a v xs :=
  ⟨h.mid.keep ho h1, h.len, h.addr, row_only h.own ho h2⟩
theorem Blo.rowBlk {w : World} {b B : Nat} {pre post : List Value} {a v : Value} {xs : List Value} (h : Blo w b pre post B a v xs) : ∀ k ∈ slB v, ∃ cs, Blk w k 5 cs := by
  rcases h.own.2 with ⟨rfl, _⟩ | ⟨g, cap, cur, rfl, _, hh, _⟩
  · intro k hk; simp [slB] at hk
  · intro k hk
    have : k = g := by simpa [slB] using hk
    subst this
    exact ⟨_, hh⟩
end Go.Proofs.YtkccjfgkbkodiaaGreat
