/-
  PipI · Str · Hel: parts of the walk of TopTight, under no condition.
-/
import Derived.Laws.Strings2
import Derived.Test.YtkccjfgkbkodiaaGreatZ01
import Derived.Test.YtkccjfgkbkodiaaGreatZ21
namespace Go.Proofs.YtkccjfgkbkodiaaGreat
open Go.RowKit
def setV (f t d s l : Int) : Value := .agg #[.int .i64 f, .int .i64 t, .int .i64 d, .int .i64 s, .int .i64 l]
theorem format_any (f : Int) (w : World) (r : Bool) (hr : r = (decide (1 ≤ f) && decide (f ≤ 3))) :
    Calls Tryz.prog 57 #[.int .i64 f] w fun e w' => e = .returned (.bool r) ∧ w' = w := by
  subst hr
  by_cases h1 : 1 ≤ f
  · have e1 : decide (1 ≤ f) = true := by simpa using h1
    clear h1
    go_enter Tryz.func57, Tryz.ntmps57
    go_wp2_with fail
    go_ret
    exact ⟨by rw [e1]; simp, rfl⟩
  · have e1 : decide (1 ≤ f) = false := by simpa using h1
    clear h1
    go_enter Tryz.func57, Tryz.ntmps57
    go_wp2_with fail
    go_ret
    exact ⟨by rw [e1]; simp, rfl⟩
/-- A setup from JSON to MessagePack, of 8 (or 3) containers in one another. -/
theorem right_js {d s : Nat} (hd1 : 1 ≤ d) (hd2 : d ≤ 16) (hs : s ≤ 2000) (w : World) :
    Calls Tryz.prog 24 #[setV 1 3 d s 0] w fun e w' => e = .returned (.bool true) ∧ Only [] w w' := by
  have H1 := fun W => hide (format_any 1 W true rfl)
  have H3 := fun W => hide (format_any 3 W true rfl)
  have a1 : decide ((1 : Int) ≤ (d : Int)) = true := by simp; omega
  have a2 : decide ((d : Int) ≤ 16) = true := by simp; omega
  have a3 : decide ((0 : Int) ≤ (s : Int)) = true := by simp
  have a4 : decide ((s : Int) ≤ 2000) = true := by simp; omega
  unfold setV
  clear hd1 hd2 hs
  go_enter Tryz.func24, Tryz.ntmps24
  go_wp2_with fail
  (with_reducible refine (unhide (H1 _)).mono ?_)
  rintro e w1 ⟨rfl, hw1⟩
  subst hw1
  go_wp2_with fail
  (with_reducible refine (unhide (H3 _)).mono ?_)
  rintro e w1 ⟨rfl, hw1⟩
  subst hw1
  go_wp2_with fail
  go_ret
  exact ⟨rfl, (Only.refl _ _).alloc _⟩
def Pip.new (s : Nat) : Pip := ⟨Par.new, [], false, Stg.new s, false, 0⟩
theorem Pip.new_good (d s : Nat) (hs : s ≤ 2000) : (Pip.new s).Good d 0 s :=
  ⟨⟨(Par.new_ok d).1, (Par.new_ok d).2, ⟨⟨hs, Nat.le_refl _, Nat.zero_le _, by simp [Pip.new, Stg.new], by simp [Pip.new, Stg.new], by simp [Pip.new, Stg.new]⟩, by simp [Pip.new, Stg.new], by simp [Pip.new, Stg.new], rfl⟩, 0, ⟨by simp [Pip.new], Nat.le_refl _⟩, by simp [Pip.new, Stg.new]⟩, Nat.le_refl _, .zero, .zero, .zero, .zero⟩
set_option maxRecDepth 100000 in
set_option maxHeartbeats 4000000 in
theorem pip_new {d s : Nat} (hd1 : 1 ≤ d) (hd2 : d ≤ 16) (hs : s ≤ 2000) (w : World) :
    Calls Tryz.prog 87 #[setV 1 3 d s 0] w fun e w' => ∃ q F, e = .returned (.pointer (some ⟨q, 0, none⟩)) ∧ PipIs w' q F d (Pip.new s) ∧ Only [] w w' ∧ w.heap.size ≤ q ∧ ∀ k ∈ F, w.heap.size ≤ k := by
  have HR := fun W => hide (right_js hd1 hd2 hs W)
  have HP := fun W => hide (par_new W d hd1 hd2)
  have HS := fun W => hide (stg_new W s hs)
  unfold setV at HR ⊢
  clear hd1 hd2 hs
  go_enter Tryz.func87, Tryz.ntmps87
  go_wp2_with fail
  (with_reducible refine (unhide (HR _)).mono ?_)
  rintro e w1 ⟨rfl, ho1⟩
  have bs := ho1.blk (Blk.new w 29 #[.int .i64 1, .int .i64 3, .int .i64 d, .int .i64 s, .int .i64 0]) (by simp)
  have c0 : w1.cell? ⟨w.heap.size, 0, none⟩ = some (.int .i64 1) := bs.cellv 0 _ rfl
  have c2 : w1.cell? ⟨w.heap.size, 2, none⟩ = some (.int .i64 d) := bs.cellv 2 _ rfl
  have ls := bs.lt
  have HO1 := hide ((Only.refl [] w).alloc (.cells #[.int .i64 1, .int .i64 3, .int .i64 d, .int .i64 s, .int .i64 0] 29) |>.trans ho1)
  have HBS := hide bs
  clear ho1 bs HR
  go_wp2_with fail
  (with_reducible refine (unhide (HP _)).mono ?_)
  rintro e w2 ⟨rfl, hp2, ho2⟩
  have bq2 := ho2.blk (Blk.new w1 149 #[.nilIface, .nilIface, .pointer none, .bool false, .int .i64 0]) (by simp)
  have bs2 := ho2.blk (HBS.out.alloc (.cells #[.nilIface, .nilIface, .pointer none, .bool false, .int .i64 0] 149)) (by simp)
  have x0 : w2.cell? ⟨w1.heap.size, 0, none⟩ = some .nilIface := bq2.cellv 0 _ rfl
  have f0 := bq2.frozen 0
  have d1 : w2.cell? ⟨w.heap.size, 1, none⟩ = some (.int .i64 3) := bs2.cellv 1 _ rfl
  have d3 : w2.cell? ⟨w.heap.size, 3, none⟩ = some (.int .i64 s) := bs2.cellv 3 _ rfl
  have ls2 := bs2.lt
  have lq2 := bq2.lt
  have hne : w1.heap.size ≠ w.heap.size := by omega
  have hne2 : w.heap.size ≠ w1.heap.size := by omega
  have HP2 := hide hp2
  have HO2 := hide ho2
  have HO2' := HO2
  have HQ2 := hide bq2
  clear hp2 ho2 bq2 bs2 HP c0 c2
  go_wp2_with fail
  (with_reducible refine (unhide (HS _)).mono ?_)
  rintro e w5 ⟨he, hs5, ho5⟩
  rw [show ((w2.setCell ⟨w1.heap.size, 0, none⟩ (.iface 150 (.pointer (some ⟨w1.heap.size + 1, 0, none⟩)))).alloc (.cells #[.slice none 0 0, .bool false] 176)).heap.size = w2.heap.size + 1 by simp] at he hs5
  subst he
  have hb1 : (w1.alloc (.cells #[.nilIface, .nilIface, .pointer none, .bool false, .int .i64 0] 149)).heap.size = w1.heap.size + 1 := by simp
  have bq5 := ho5.blk ((HQ2.out.set_ 0 (.iface 150 (.pointer (some ⟨w1.heap.size + 1, 0, none⟩)))).alloc (.cells #[.slice none 0 0, .bool false] 176)) (by simp)
  have bo5 : Blk w5 w2.heap.size 176 #[.slice none 0 0, .bool false] := ho5.blk (by simpa using Blk.new (w2.setCell ⟨w1.heap.size, 0, none⟩ (.iface 150 (.pointer (some ⟨w1.heap.size + 1, 0, none⟩)))) 176 #[.slice none 0 0, .bool false]) (by simp)
  have y1 : w5.cell? ⟨w1.heap.size, 1, none⟩ = some .nilIface := bq5.cellv 1 _ rfl
  have y2 : w5.cell? ⟨w1.heap.size, 2, none⟩ = some (.pointer none) := bq5.cellv 2 _ rfl
  have g1 := bq5.frozen 1
  have g2 := bq5.frozen 2
  have hp2 := HP2.out
  rw [hb1] at hp2
  have hoX : Only [w1.heap.size] w2 ((w5.setCell ⟨w1.heap.size, 1, none⟩ (.iface 173 (.pointer (some ⟨w2.heap.size, 0, none⟩)))).setCell ⟨w1.heap.size, 2, none⟩ (.pointer (some ⟨w2.heap.size + 1, 0, none⟩))) :=
    ((((((Only.refl [w1.heap.size] w2).setCell (p := ⟨w1.heap.size, 0, none⟩) (by simp) (.iface 150 (.pointer (some ⟨w1.heap.size + 1, 0, none⟩)))).alloc (.cells #[.slice none 0 0, .bool false] 176)).trans (ho5.mono (by simp))).setCell (p := ⟨w1.heap.size, 1, none⟩) (by simp) _).setCell (p := ⟨w1.heap.size, 2, none⟩) (by simp) _)
  have hoY : Only [w1.heap.size] w5 ((w5.setCell ⟨w1.heap.size, 1, none⟩ (.iface 173 (.pointer (some ⟨w2.heap.size, 0, none⟩)))).setCell ⟨w1.heap.size, 2, none⟩ (.pointer (some ⟨w2.heap.size + 1, 0, none⟩))) :=
    ((Only.refl [w1.heap.size] w5).setCell (p := ⟨w1.heap.size, 1, none⟩) (by simp) _).setCell (p := ⟨w1.heap.size, 2, none⟩) (by simp) _
  have hM : PipM ((w5.setCell ⟨w1.heap.size, 1, none⟩ (.iface 173 (.pointer (some ⟨w2.heap.size, 0, none⟩)))).setCell ⟨w1.heap.size, 2, none⟩ (.pointer (some ⟨w2.heap.size + 1, 0, none⟩))) w1.heap.size (w1.heap.size + 1) w2.heap.size (w2.heap.size + 1) [] [] (.slice none 0 0) d (Pip.new s) :=
    ⟨(bq5.set_ 1 _).set_ 2 _, hp2.keep hoX (by simp) (by simp), fun k hk => (by cases hk), ⟨Nat.zero_le _, hoY.blk bo5 (by simp; omega), SlN.nil _ _ _ _⟩, hs5.keep hoY (by simp; omega) (by simp), fun k hk => (by cases hk)⟩
  have HM := hide hM
  have HO2 := HO2.out.size
  have HOX : Hid (Only [] w ((w5.setCell ⟨w1.heap.size, 1, none⟩ (.iface 173 (.pointer (some ⟨w2.heap.size, 0, none⟩)))).setCell ⟨w1.heap.size, 2, none⟩ (.pointer (some ⟨w2.heap.size + 1, 0, none⟩)))) := hide ((HO1.out.trans (((Only.refl [] w1).alloc (.cells #[.nilIface, .nilIface, .pointer none, .bool false, .int .i64 0] 149)).trans HO2'.out)).own hoX (fun k hk => .inr (by rw [List.mem_singleton.1 hk]; omega)))
  clear hs5 ho5 bq5 bo5 hp2 hoX hoY hM HP2 HQ2 x0 f0 d1 d3
  go_wp2_with fail
  go_ret
  refine ⟨_, [w1.heap.size + 1, w2.heap.size, w2.heap.size + 1], rfl, ⟨_, _, _, _, _, _, HM.out, fun k hk => ?_⟩, HOX.out, by omega, fun k hk => ?_⟩
  · rcases hk with h | h | h | h | h | h
    · simp [h]
    · simp [h]
    · simp [h]
    · simp [slB] at h
    · cases h
    · cases h
  · simp at hk
    simp at HO2
    omega
end Go.Proofs.YtkccjfgkbkodiaaGreat
namespace Go.Proofs.YtkccjfgkbkodiaaGreat
open Go.RowKit
theorem index_S {P : Program} {t : TypeId} (ht : P.underlying t = some .string) (l : List UInt8) (k : Nat) (hk : k < l.length) (ki : Int) (hki : ki = k) (b : Int) (hb : b = (l[k].toNat : Int)) (w : World) :
    (Instr.index t (.string (S l)) (.int .i64 ki)).run P w = .ok (.int .u8 b) w := by
  subst hki hb
  rw [run_index_string w t (S l) .i64 (k : Int) ht, dif_pos ⟨by omega, by rw [S_size]; omega⟩]
  rfl
theorem slice_mid {P : Program} {t : TypeId} (ht : P.underlying t = some .string) (l : List UInt8) (a b : Nat) (hab : a ≤ b) (hb : b ≤ l.length) (ai bi : Int) (hai : ai = a) (hbi : bi = b) (r : List UInt8) (hr : r = (l.drop a).take (b - a)) (w : World) :
    (Instr.slice t (.string (S l)) (some (.int .i64 ai)) (some (.int .i64 bi)) none).run P w = .ok (.string (S r)) w := by
  subst hai hbi hr
  have h := run_slice_string (P := P) w t (S l) .i64 .i64 (a : Int) (b : Int) ht (by omega) (by omega) (by rw [S_size]; omega)
  rw [h, S_extract]
  simp
theorem slice_to_at {P : Program} {t : TypeId} (ht : P.underlying t = some .string) (l : List UInt8) (k : Nat) (hk : k ≤ l.length) (ki : Int) (hki : ki = k) (r : List UInt8) (hr : r = l.take k) (w : World) :
    (Instr.slice t (.string (S l)) none (some (.int .i64 ki)) none).run P w = .ok (.string (S r)) w := by
  subst hki hr
  exact slice_to ht l k hk w
theorem slice_from_at {P : Program} {t : TypeId} (ht : P.underlying t = some .string) (l : List UInt8) (k : Nat) (hk : k ≤ l.length) (ki : Int) (hki : ki = k) (r : List UInt8) (hr : r = l.drop k) (w : World) :
    (Instr.slice t (.string (S l)) (some (.int .i64 ki)) none none).run P w = .ok (.string (S r)) w := by
  subst hki hr
  exact slice_from ht l k hk w
theorem slice_one {P : Program} {t : TypeId} (ht : P.underlying t = some .string) (l : List UInt8) (k : Nat) (hk : k < l.length) (ki kj : Int) (hki : ki = k) (hkj : kj = k + 1) (b : UInt8) (hb : b = l[k]) (w : World) :
    (Instr.slice t (.string (S l)) (some (.int .i64 ki)) (some (.int .i64 kj)) none).run P w = .ok (.string (S [b])) w := by
  refine slice_mid ht l k (k + 1) (by omega) (by omega) ki kj hki (by rw [hkj]; push_cast; rfl) [b] ?_ w
  rw [hb, List.drop_eq_getElem_cons hk, show k + 1 - k = 0 + 1 by omega, List.take_succ_cons, List.take_zero]
end Go.Proofs.YtkccjfgkbkodiaaGreat
namespace Go.Proofs.YtkccjfgkbkodiaaGreat
open Go.RowKit
theorem or_i64 (a b : Nat) (ha : a < 64) (hb : b < 256) : bits BinOp.or IntKind.i64 ((a : Int) * 256) (b : Int) = ((a * 256 + b : Nat) : Int) := by
  have h1 : a * 256 ||| b = a * 256 + b := by
    have := Nat.shiftLeft_add_eq_or_of_lt (b := b) (i := 8) (by omega) a
    rw [Nat.shiftLeft_eq, show (2 : Nat) ^ 8 = 256 from rfl] at this
    omega
  show IntKind.i64.wrap ((BitVec.ofInt 64 ((a : Int) * 256) ||| BitVec.ofInt 64 (b : Int)).toNat : Int) = _
  rw [show ((a : Int) * 256) = ((a * 256 : Nat) : Int) by omega, BitVec.toNat_or, ofInt_u64 (a * 256) (by omega), ofInt_u64 b (by omega), h1]
  exact wrap_small _ (by omega) (by omega)
def nb (e : Int) : UInt8 := UInt8.ofNat (e % 256).toNat
set_option maxRecDepth 100000 in
theorem number_any (e : Int) (w : World) : Calls Tryz.prog 79 #[.int .i64 e] w fun r w' => r = .returned (.string (S [nb e])) ∧ Only [] w w' := by
  have hn : IntKind.u8.wrap e = ((nb e).toNat : Int) := by
    unfold nb
    have h1 : 0 ≤ e % 256 := by omega
    have h2 : e % 256 < 256 := by omega
    rw [show IntKind.u8.wrap e = e % 256 from rfl]
    simp
    omega
  have HC := run_string_blk (P := Tryz.prog) (src := 63) (dst := 9) (e := 5) Tryz.underlying63 Tryz.underlying5 Tryz.underlying9 (Blk.new w 5 (bytesV [nb e])) 1 1 rfl
  rw [show bytesV [nb e] = #[.int .u8 ((nb e).toNat : Int)] from rfl] at HC
  generalize nb e = v at hn HC
  go_enter Tryz.func79, Tryz.ntmps79
  go_wp2_with fail
  go_ret
  exact ⟨rfl, (Only.refl _ _).alloc _⟩
set_option maxRecDepth 100000 in
theorem no_any (e : Int) (w : World) : Calls Tryz.prog 56 #[.int .i64 e] w fun r w' => r = .returned (.string (S [78, nb e])) ∧ Only [] w w' := by
  have HN := fun W => hide (number_any e W)
  have HA := fun W => run_add_S (P := Tryz.prog) [78] [nb e] (by simp) W
  rw [show S [78] = ⟨#[78]⟩ from rfl] at HA
  generalize nb e = v at HN HA ⊢
  go_enter Tryz.func56, Tryz.ntmps56
  go_wp2_with fail
  (with_reducible refine (unhide (HN _)).mono ?_)
  rintro r w1 ⟨rfl, ho⟩
  have HO := hide ho
  clear HN ho
  go_wp2_with fail
  go_ret
  exact ⟨rfl, HO.out⟩
set_option maxRecDepth 100000 in
theorem trailer_any (e : Int) (w : World) : Calls Tryz.prog 55 #[.int .i64 e] w fun r w' => r = .returned (.string (S [255, nb e])) ∧ Only [] w w' := by
  have HN := fun W => hide (number_any e W)
  have HA := fun W => run_add_S (P := Tryz.prog) [255] [nb e] (by simp) W
  rw [show S [255] = ⟨#[255]⟩ from rfl] at HA
  generalize nb e = v at HN HA ⊢
  go_enter Tryz.func55, Tryz.ntmps55
  go_wp2_with fail
  (with_reducible refine (unhide (HN _)).mono ?_)
  rintro r w1 ⟨rfl, ho⟩
  have HO := hide ho
  clear HN ho
  go_wp2_with fail
  go_ret
  exact ⟨rfl, HO.out⟩
theorem yes_any (w : World) : Calls Tryz.prog 88 #[] w fun r w' => r = .returned (.string (S [75])) ∧ w' = w := by
  go_enter Tryz.func88, Tryz.ntmps88
  go_wp2_with fail
  go_ret
  exact ⟨rfl, rfl⟩
set_option maxRecDepth 100000 in
theorem prefix_yes (l m : List UInt8) (h1 : m.length ≤ l.length) (h2 : l.take m.length = m) (h3 : l.length ≤ 1000) (w : World) : Calls Tryz.prog 104 #[.string (S l), .string (S m)] w fun r w' => r = .returned (.bool true) ∧ w' = w := by
  have HS := fun W => slice_to (P := Tryz.prog) Tryz.underlying9 l m.length h1 W
  rw [h2] at HS
  have e1 : decide ((m.length : Int) ≤ (l.length : Int)) = true := by simp; omega
  have e2 : (l.length : Int) ≤ 1000 := by omega
  have e3 : (m.length : Int) ≤ 1000 := by omega
  clear h2 h3
  have HI := hide (show Calls Tryz.prog 123 #[.string (S l), .string (S m)] w fun r w' => r = .returned (.bool true) ∧ w' = w by
    go_enter Tryz.func123, Tryz.ntmps123
    go_wp2_with fail
    go_ret
    exact ⟨rfl, rfl⟩)
  go_enter Tryz.func104, Tryz.ntmps104
  go_wp2_with fail
  (with_reducible refine (unhide HI).mono ?_)
  rintro e w ⟨rfl, hw⟩
  subst hw
  go_wp2_with fail
  go_ret
  exact ⟨rfl, rfl⟩
/-- What negotiates a session from JSON to MessagePack. -/
def hp (d s : Nat) : List UInt8 := [84, 82, 1, 3, UInt8.ofNat d, UInt8.ofNat (s / 256), UInt8.ofNat (s % 256), 0]
set_option maxRecDepth 100000 in
set_option maxHeartbeats 4000000 in
theorem get_more {l : List UInt8} {d s : Nat} (h1 : l ≠ []) (h8 : l.length < 8) (hl : l = (hp d s).take l.length) (w : World) :
    Calls Tryz.prog 86 #[.string (S l)] w fun e w' => e = .returned (.tuple #[setV 0 0 0 0 0, .int .i64 3]) ∧ Only [] w w' := by
  obtain ⟨n, hn⟩ : ∃ n, n = l.length := ⟨_, rfl⟩
  have hn1 : 1 ≤ n := by rw [hn]; exact List.length_pos_iff.2 h1
  have HP := fun W => hide (prefix_yes l ((hp d s).take (min n 2)) (by rw [List.length_take]; simp [hp]; omega) (by
    rw [hl]
    simp only [List.length_take, List.take_take]
    congr 1
    simp [hp]
    omega) (by omega) W)
  have HSL := fun W => slice_to (P := Tryz.prog) Tryz.underlying9 [84, 82] (min n 2) (by simp; omega) W
  rw [show ([84, 82] : List UInt8).take (min n 2) = (hp d s).take (min n 2) from by
    have : n = 1 ∨ 2 ≤ n := by omega
    rcases this with h | h
    · subst h; rfl
    · rw [show min n 2 = 2 by omega]; rfl] at HSL
  have HMIN := fun (ts : Array TypeId) (t : TypeId) W => min_i64 (P := Tryz.prog) ts t (l.length : Int) 2 ((min n 2 : Nat) : Int) (by omega) W
  have e8 : decide ((l.length : Int) < 8) = true := by simp; omega
  have h8' : (l.length : Int) ≤ 8 := by omega
  rw [show S [84, 82] = ⟨#[84, 82]⟩ from rfl] at HSL
  generalize (hp d s).take (min n 2) = pfx at HP HSL
  generalize min n 2 = mn at HSL HMIN
  unfold setV
  clear hl h1 hn hn1
  go_enter Tryz.func86, Tryz.ntmps86
  go_wp2_with fail
  (with_reducible refine (unhide (HP _)).mono ?_)
  rintro e w1 ⟨rfl, hw1⟩
  subst hw1
  go_wp2_with fail
  refine bodyPost_ret (v := .tuple #[.agg #[.int .i64 0, .int .i64 0, .int .i64 0, .int .i64 0, .int .i64 0], .int .i64 3]) (by simp [results, Tryz.results86, go_sem]; try rfl) rfl ⟨rfl, (Only.refl _ _).alloc _⟩
set_option maxRecDepth 100000 in
set_option maxHeartbeats 4000000 in
theorem get_ok {d s : Nat} (hd1 : 1 ≤ d) (hd2 : d ≤ 16) (hs : s ≤ 2000) (w : World) :
    Calls Tryz.prog 86 #[.string (S (hp d s))] w fun e w' => e = .returned (.tuple #[setV 1 3 d s 0, .int .i64 0]) ∧ Only [] w w' := by
  have HP := fun W => hide (prefix_yes (hp d s) [84, 82] (by simp [hp]) rfl (by simp [hp]) W)
  have HR := fun W => hide (right_js hd1 hd2 hs W)
  have hdv : ((UInt8.ofNat d).toNat : Int) = (d : Int) := by simp; omega
  have hh : ((UInt8.ofNat (s / 256)).toNat : Int) = ((s / 256 : Nat) : Int) := by simp; omega
  have hlo : ((UInt8.ofNat (s % 256)).toNat : Int) = ((s % 256 : Nat) : Int) := by simp
  obtain ⟨l, hl⟩ : ∃ l, l = hp d s := ⟨_, rfl⟩
  have h8 : l.length = 8 := by rw [hl]; rfl
  have ix : ∀ (k : Nat) (b : Int) (ki : Int), ki = k → (∃ x, (hp d s)[k]? = some x ∧ b = (x.toNat : Int)) → ∀ W, (Instr.index 9 (.string (S l)) (.int .i64 ki)).run Tryz.prog W = .ok (.int .u8 b) W := fun k b ki hki ⟨x, hx, hb⟩ W => by
    have hk : k < l.length := by rw [hl]; exact (List.getElem?_eq_some_iff.1 hx).1
    refine index_S Tryz.underlying9 l k hk ki hki b ?_ W
    rw [hb]
    have h9 : l[k]? = some x := by rw [hl]; exact hx
    rw [List.getElem?_eq_getElem hk] at h9
    injection h9 with h9
    rw [h9]
  have i2 := ix 2 1 2 rfl ⟨1, rfl, rfl⟩
  have i3 := ix 3 3 3 rfl ⟨3, rfl, rfl⟩
  have i4 := ix 4 d 4 rfl ⟨UInt8.ofNat d, rfl, hdv.symm⟩
  have i5 := ix 5 ((s / 256 : Nat) : Int) 5 rfl ⟨UInt8.ofNat (s / 256), rfl, hh.symm⟩
  have i6 := ix 6 ((s % 256 : Nat) : Int) 6 rfl ⟨UInt8.ofNat (s % 256), rfl, hlo.symm⟩
  have i7 := ix 7 0 7 rfl ⟨0, rfl, rfl⟩
  rw [← hl] at HP ⊢
  unfold setV at HR ⊢
  have HDD := hide hd2
  have HB := hide hs
  have h8i : (l.length : Int) = 8 := by omega
  clear hdv hh hlo hd1 hd2 hs hl ix h8
  obtain ⟨hi, hhi⟩ : ∃ hi, hi = s / 256 := ⟨_, rfl⟩
  obtain ⟨lo, hlo⟩ : ∃ lo, lo = s % 256 := ⟨_, rfl⟩
  rw [← hhi] at i5
  rw [← hlo] at i6
  have HHI := hide (And.intro hhi hlo)
  have b1 : (hi : Int) ≤ 8 := by have := HB.out; omega
  have b2 : (lo : Int) < 256 := by omega
  have b3 : (d : Int) ≤ 16 := by have := HDD.out; omega
  have wo := or_i64 hi lo (by omega) (by omega)
  rw [show hi * 256 + lo = s by omega] at wo
  clear hhi hlo
  have HSL : ∀ W, (Instr.slice 9 (.string ⟨#[84, 82]⟩) none (some (.int .i64 2)) none).run Tryz.prog W = .ok (.string (S [84, 82])) W := fun W => slice_to (P := Tryz.prog) Tryz.underlying9 [84, 82] 2 (by simp) W
  have HMIN := fun (ts : Array TypeId) (t : TypeId) W => min_i64 (P := Tryz.prog) ts t 8 2 2 rfl W
  go_enter Tryz.func86, Tryz.ntmps86
  go_wp2_with fail
  (with_reducible refine (unhide (HP _)).mono ?_)
  rintro e w ⟨rfl, hw1⟩
  subst hw1
  go_upto_region 5 with (fail)
  refine wp_region_tree (fun _ => True) 22 (.take [0, 1, 2, 3, 4, 5, 6, 7, 8, 9, 10, 11, 12, 13, 14, 15, 16, 17, 18, 19, 20] (.step 21 (.step 22 (.fin)))) (by kernel_rfl) (by kernel_rfl) (by intro _ _ _ _ _ h; exact h) ?_
  refine wpTree_take (trivial) ?_
  simp only [opsAt, List.getElem?_cons_zero, List.getElem?_cons_succ]
  iterate 21 (first | (refine wpPureH_step (v := ?_) rfl (fun W hS => ?_) ?_; rotate_left; · (obtain _ := hS; (try simp only [Act.put, List.setIfInBounds_toArray, List.set_cons_zero, List.set_cons_succ]); go_simp; with_reducible rfl)) | (refine wpPureH_want (v := ?_) (by rfl) (fun W hS => ?_) ?_; rotate_left; · (obtain _ := hS; (try simp only [Act.put, List.setIfInBounds_toArray, List.set_cons_zero, List.set_cons_succ]); go_simp; with_reducible rfl)))
  refine wpPureH_nil ?_
  simp only [Act.put, List.setIfInBounds_toArray, List.set_cons_zero, List.set_cons_succ]
  have w1 : IntKind.i64.wrap 1 = 1 := rfl
  have w3 : IntKind.i64.wrap 3 = 3 := rfl
  have w0 : IntKind.i64.wrap 0 = 0 := rfl
  have wd : IntKind.i64.wrap (d : Int) = d := wrap_small _ (by omega) (by omega)
  have wh : IntKind.i64.wrap (hi : Int) = (hi : Int) := wrap_small _ (by omega) (by omega)
  have wh2 : IntKind.i64.wrap ((hi : Int) * 256) = (hi : Int) * 256 := wrap_small _ (by omega) (by omega)
  have wl : IntKind.i64.wrap (lo : Int) = (lo : Int) := wrap_small _ (by omega) (by omega)
  simp only [w1, w3, w0, wd, wh, wh2, wl, wo]
  clear w1 w3 w0 wd wh wh2 wl wo HP HSL HMIN i2 i3 i4 i5 i6 i7
  refine wpTree_step ?_
  simp only [opsAt, List.getElem?_cons_zero, List.getElem?_cons_succ]
  go_wp2_with fail
  refine ⟨.inr trivial, ?_⟩
  refine wpTree_step ?_
  simp only [opsAt, List.getElem?_cons_zero, List.getElem?_cons_succ]
  go_wp2_with fail
  refine ⟨.inl trivial, wpTree_fin ?_⟩
  go_wp2_with fail
  (with_reducible refine (unhide (HR _)).mono ?_)
  rintro e w3 ⟨rfl, ho3⟩
  have bt := ho3.blk (Blk.drew (by simpa using Blk.new (w.alloc (.cells #[.int .i64 0, .int .i64 0, .int .i64 0, .int .i64 0, .int .i64 0] 29)) 29 #[.int .i64 1, .int .i64 3, .int .i64 d, .int .i64 s, .int .i64 0])) (by simp)
  have bz := ho3.blk (Blk.drew ((Blk.new w 29 #[.int .i64 0, .int .i64 0, .int .i64 0, .int .i64 0, .int .i64 0]).alloc (.cells #[.int .i64 1, .int .i64 3, .int .i64 d, .int .i64 s, .int .i64 0] 29))) (by simp)
  have e0 : w3.cell? ⟨w.heap.size + 1, 0, none⟩ = some (.int .i64 1) := bt.cellv 0 _ rfl
  have e1 : w3.cell? ⟨w.heap.size + 1, 1, none⟩ = some (.int .i64 3) := bt.cellv 1 _ rfl
  have e2 : w3.cell? ⟨w.heap.size + 1, 2, none⟩ = some (.int .i64 d) := bt.cellv 2 _ rfl
  have e3 : w3.cell? ⟨w.heap.size + 1, 3, none⟩ = some (.int .i64 s) := bt.cellv 3 _ rfl
  have e4 : w3.cell? ⟨w.heap.size + 1, 4, none⟩ = some (.int .i64 0) := bt.cellv 4 _ rfl
  have z0 : w3.cell? ⟨w.heap.size, 0, none⟩ = some (.int .i64 0) := bz.cellv 0 _ rfl
  have z1 : w3.cell? ⟨w.heap.size, 1, none⟩ = some (.int .i64 0) := bz.cellv 1 _ rfl
  have z2 : w3.cell? ⟨w.heap.size, 2, none⟩ = some (.int .i64 0) := bz.cellv 2 _ rfl
  have z3 : w3.cell? ⟨w.heap.size, 3, none⟩ = some (.int .i64 0) := bz.cellv 3 _ rfl
  have z4 : w3.cell? ⟨w.heap.size, 4, none⟩ = some (.int .i64 0) := bz.cellv 4 _ rfl
  have k0 := bz.frozen 0
  have k1 := bz.frozen 1
  have k2 := bz.frozen 2
  have k3 := bz.frozen 3
  have k4 := bz.frozen 4
  have HO := hide (((((Only.refl [] w).alloc (.cells #[.int .i64 0, .int .i64 0, .int .i64 0, .int .i64 0, .int .i64 0] 29)).alloc (.cells #[.int .i64 1, .int .i64 3, .int .i64 d, .int .i64 s, .int .i64 0] 29)).drew).trans ho3)
  clear ho3 bt HR
  go_wp2_with fail
  refine bodyPost_ret (v := .tuple #[.agg #[.int .i64 1, .int .i64 3, .int .i64 d, .int .i64 s, .int .i64 0], .int .i64 0]) (by simp_all [results, Tryz.results86, go_sem]; try rfl) rfl ⟨rfl, ?_⟩
  refine HO.out.own (T := [w.heap.size]) ?_ (fun k hk => .inr (by rw [List.mem_singleton.1 hk]; exact Nat.le_refl _))
  exact ((((((Only.refl [w.heap.size] w3).setCell (p := ⟨w.heap.size, 0, none⟩) (by simp) _).setCell (p := ⟨w.heap.size, 1, none⟩) (by simp) _).setCell (p := ⟨w.heap.size, 2, none⟩) (by simp) _).setCell (p := ⟨w.heap.size, 3, none⟩) (by simp) _).setCell (p := ⟨w.heap.size, 4, none⟩) (by simp) _)
end Go.Proofs.YtkccjfgkbkodiaaGreat
