/-
  Words · Raw: parts of the walk of TopTight, under no condition.
-/
import Derived.WalkKit
import Derived.WalkSpells
import Derived.WalkLawsBesides
import Derived.Lib.Hide
import Derived.Deep.Draws
import Derived.Deep.LoopGhost
import Derived.Deep.DeepCutAuto
import Derived.Deep.QuietTactic
import Derived.Deep.RegionLaw
import Derived.Deep.RegionLawGrows
import Derived.Deep.RegionWith
import Derived.BigQuiet
import Derived.StillTailTactics
import Derived.Laws.CopyOwn
import Derived.Test.YtkccjfgkbkodiaaGreatRows
namespace Go.Proofs.YtkccjfgkbkodiaaGreat
open Go.RowKit
theorem hide {p : Prop} (h : p) : Hid p := h
theorem unhide {p : Prop} (h : Hid p) : p := h
/-- Block g is just the cells cs of element type t, none frozen. -/
def Blk (w : World) (g : Nat) (t : TypeId) (cs : Array Value) : Prop := w.heap[g]? = some (.cells cs t (0, 0))
section
variable {w w' : World} {g : Nat} {t : TypeId} {cs : Array Value}
theorem Blk.lt (h : Blk w g t cs) : g < w.heap.size := by
  rcases Nat.lt_or_ge g w.heap.size with hlt | hge
  · exact hlt
  · unfold Blk at h; rw [Array.getElem?_eq_none hge] at h; cases h
theorem Blk.cell (h : Blk w g t cs) (i : Nat) : w.cell? ⟨g, i, none⟩ = cs[i]? := cell_of_row w g i cs t (0, 0) h
theorem Blk.cellv (h : Blk w g t cs) (i : Nat) (v : Value) (hv : cs[i]? = some v) : w.cell? ⟨g, i, none⟩ = some v := (h.cell i).trans hv
theorem Blk.frozen (h : Blk w g t cs) (i : Nat) : w.frozen? ⟨g, i, none⟩ = false := by
  unfold Blk at h
  simp [World.frozen?, h]
theorem Blk.new (w : World) (t : TypeId) (cs : Array Value) : Blk (w.alloc (.cells cs t)) w.heap.size t cs := heap_alloc_new w _
theorem Blk.drew (h : Blk w g t cs) : Blk w.drew g t cs := h
theorem Blk.drewN (h : Blk w g t cs) (n : Nat) : Blk (w.drewN n) g t cs := h
theorem Blk.alloc (h : Blk w g t cs) (o : Obj) : Blk (w.alloc o) g t cs := (Below.heap_alloc w o g h.lt).trans h
theorem Blk.set_ (h : Blk w g t cs) (i : Nat) (u : Value) : Blk (w.setCell ⟨g, i, none⟩ u) g t (cs.setIfInBounds i u) := by
  unfold Blk at h ⊢
  simp [World.setCell, Array.getElem?_modify, h]
theorem Blk.far (h : Blk w g t cs) {p : Addr} (hp : g ≠ p.block) (u : Value) : Blk (w.setCell p u) g t cs := (Below.heap_setCell w p u g hp).trans h
theorem Blk.below {B : Nat} (h : Blk w g t cs) (hb : Below B w w') (hg : g < B) : Blk w' g t cs := (hb.block g hg).trans h
theorem Blk.grown {row : Option Nat} (h : Blk w g t cs) (hb : w.grownBy w' row) (hg : some g ≠ row) : Blk w' g t cs := (hb.block g h.lt hg).trans h
theorem Blk.ne_ {g' : Nat} {t' : TypeId} {cs' : Array Value} (h : Blk w g t cs) (h' : Blk w g' t' cs') (hne : t ≠ t') : g ≠ g' := by
  rintro rfl
  unfold Blk at h h'
  rw [h] at h'
  injection h' with h'
  injection h' with _ ht
  exact hne ht
theorem own_blk_ne {base : Nat} {e : TypeId} {size n : Nat} {v : Value} {xs : List Value} (h : w.ownsRow base e size v n xs) (hg : Blk w g t cs) (hne : e ≠ t) : v.ownBlock ≠ some g := by
  rcases h.2 with ⟨rfl, _⟩ | ⟨g', cap, cur, rfl, _, hh, _⟩
  · simp [Value.ownBlock]
  · intro he
    have : g' = g := by simpa [Value.ownBlock] using he
    subst this
    exact Blk.ne_ (t := e) hh hg hne rfl
end
theorem below_drewN {B : Nat} {a w : World} (h : Below B a w) (n : Nat) : Below B a (w.drewN n) := ⟨h.os, h.tape, h.output, h.size, h.block⟩
/-- Blocks of other types than t1, t2 are as they were. -/
def KeepT (t1 t2 : TypeId) (w w' : World) : Prop := ∀ (g : Nat) (t : TypeId) (cs : Array Value), t ≠ t1 → t ≠ t2 → Blk w g t cs → Blk w' g t cs
section
variable {t1 t2 : TypeId} {a w w' : World}
theorem KeepT.refl (t1 t2 : TypeId) (w : World) : KeepT t1 t2 w w := fun _ _ _ _ _ h => h
theorem KeepT.trans {c : World} (h : KeepT t1 t2 a w) (k : KeepT t1 t2 w c) : KeepT t1 t2 a c := fun g t cs h1 h2 hb => k g t cs h1 h2 (h g t cs h1 h2 hb)
theorem KeepT.drew (h : KeepT t1 t2 a w) : KeepT t1 t2 a w.drew := h
theorem KeepT.drewN (h : KeepT t1 t2 a w) (n : Nat) : KeepT t1 t2 a (w.drewN n) := h
theorem KeepT.below (h : Below w.heap.size w w') : KeepT t1 t2 w w' := fun _ _ _ _ _ hb => hb.below h hb.lt
theorem KeepT.alloc (h : KeepT t1 t2 a w) (o : Obj) : KeepT t1 t2 a (w.alloc o) := fun g t cs h1 h2 hb => (h g t cs h1 h2 hb).alloc o
theorem KeepT.set1 (h : KeepT t1 t2 a w) {p : Addr} {cs : Array Value} (hp : Blk w p.block t1 cs) (u : Value) : KeepT t1 t2 a (w.setCell p u) :=
  fun g t cs' h1 h2 hb => (h g t cs' h1 h2 hb).far ((h g t cs' h1 h2 hb).ne_ hp h1) u
theorem KeepT.set2 (h : KeepT t1 t2 a w) {p : Addr} {cs : Array Value} (hp : Blk w p.block t2 cs) (u : Value) : KeepT t1 t2 a (w.setCell p u) :=
  fun g t cs' h1 h2 hb => (h g t cs' h1 h2 hb).far ((h g t cs' h1 h2 hb).ne_ hp h2) u
end
/-- Only the blocks of S may have turned (and new ones are there). -/
structure Only (S : List Nat) (w w' : World) : Prop where
  os : w'.os = w.os
  tape : w'.tape = w.tape
  output : w'.output = w.output
  size : w.heap.size ≤ w'.heap.size
  block : ∀ k, k < w.heap.size → k ∉ S → w'.heap[k]? = w.heap[k]?
section
variable {S T : List Nat} {a w w' : World}
theorem Only.refl (S : List Nat) (w : World) : Only S w w := ⟨rfl, rfl, rfl, Nat.le_refl _, fun _ _ _ => rfl⟩
theorem Only.trans {c : World} (h : Only S a w) (k : Only S w c) : Only S a c :=
  ⟨k.os.trans h.os, k.tape.trans h.tape, k.output.trans h.output, Nat.le_trans h.size k.size, fun i hi hn => (k.block i (Nat.lt_of_lt_of_le hi h.size) hn).trans (h.block i hi hn)⟩
theorem Only.mono (h : Only S a w) (hs : ∀ k, k ∈ S → k ∈ T) : Only T a w := ⟨h.os, h.tape, h.output, h.size, fun i hi hn => h.block i hi fun hk => hn (hs i hk)⟩
theorem Only.drew (h : Only S a w) : Only S a w.drew := ⟨h.os, h.tape, h.output, h.size, h.block⟩
theorem Only.drewN (h : Only S a w) (n : Nat) : Only S a (w.drewN n) := ⟨h.os, h.tape, h.output, h.size, h.block⟩
theorem Only.alloc (h : Only S a w) (o : Obj) : Only S a (w.alloc o) :=
  h.trans ⟨rfl, rfl, rfl, by simp, fun k hk _ => Below.heap_alloc _ _ _ hk⟩
theorem Only.setCell (h : Only S a w) {p : Addr} (hp : p.block ∈ S) (u : Value) : Only S a (w.setCell p u) :=
  h.trans ⟨rfl, rfl, rfl, by simp [World.setCell], fun k _ hn => Below.heap_setCell _ _ _ _ (fun e => hn (e ▸ hp))⟩
theorem Only.blk {g : Nat} {t : TypeId} {cs : Array Value} (h : Only S w w') (hb : Blk w g t cs) (hg : g ∉ S) : Blk w' g t cs := (h.block g hb.lt hg).trans hb
theorem Only.below {B : Nat} (h : Only S w w') (hB : B ≤ w.heap.size) (hs : ∀ k ∈ S, B ≤ k) : Below B w w' :=
  ⟨h.os, h.tape, h.output, h.size, fun k hk => h.block k (by omega) (fun hm => by have := hs k hm; omega)⟩
theorem Only.of_below (h : Below w.heap.size w w') (S : List Nat) : Only S w w' := ⟨h.os, h.tape, h.output, h.size, fun k hk _ => h.block k hk⟩
theorem Only.nil_below (h : Only [] w w') : Below w.heap.size w w' := h.below (Nat.le_refl _) (fun _ h => by cases h)
end
/-- Numbers and Bools as cells. -/
def intsV (l : List Int) : Array Value := (l.map fun n => Value.int .i64 n).toArray
def boolsV (l : List Bool) : Array Value := (l.map fun b => Value.bool b).toArray
theorem intsV_get (l : List Int) (i : Nat) : (intsV l)[i]? = l[i]?.map fun n => Value.int .i64 n := by simp [intsV]
theorem boolsV_get (l : List Bool) (i : Nat) : (boolsV l)[i]? = l[i]?.map fun b => Value.bool b := by simp [boolsV]
theorem intsV_set (l : List Int) (i : Nat) (n : Int) : (intsV l).setIfInBounds i (.int .i64 n) = intsV (l.set i n) := by simp [intsV, List.map_set]
theorem boolsV_set (l : List Bool) (i : Nat) (b : Bool) : (boolsV l).setIfInBounds i (.bool b) = boolsV (l.set i b) := by simp [boolsV, List.map_set]
/-- make([]T, n) of elements of one cell. -/
theorem run_make_cells {P : Program} {t e : TypeId} (ht : P.underlying t = some (.slice e)) (v : Value) (bytes : Nat) (hinfo : (P.info? e).map (fun i => (i.zero, i.size, i.bytes)) = some (some v, 1, bytes)) (hc : v.cells = #[v])
    (n : Nat) (z : Int) (hz : z = n) (hb : bytes ≤ 32) (h : n ≤ 1000000) (w : World) :
    (Instr.makeSlice t (.int .i64 z) (.int .i64 z)).run P w = .ok (.slice (some ⟨w.heap.size, 0, none⟩) n n) (w.alloc (.cells (List.replicate n v).toArray e)) := by
  obtain ⟨i0, hi, hz0, hz1, hz2⟩ := info_parts hinfo
  have hbz : ((i0.bytes : Int) * z) ≤ 281474976710656 := by
    have h1 : i0.bytes * n ≤ 32 * 1000000 := Nat.mul_le_mul (by omega) h
    have h2 : ((i0.bytes * n : Nat) : Int) ≤ 281474976710656 := by omega
    rw [hz]; rwa [Int.natCast_mul] at h2
  have hr := run_make (P := P) w t e i0 v ht hi hz0 .i64 .i64 z z (by omega) (by omega) hbz (by omega)
  rw [hr, hz1]
  subst hz
  have e1 : madeCells (Value.cells v) ((n : Int).toNat * 1) = (List.replicate n v).toArray := by
    apply Array.toList_inj.1
    rw [hc, toList_madeCells_one]
    simp
  rw [e1, Int.toNat_natCast]
/-- The bytes of a list, as a Go string. -/
def S (l : List UInt8) : ByteArray := ⟨l.toArray⟩
@[go_sem] theorem S_toList (l : List UInt8) : (S l).toList = l := ByteArray.toList_mk l
theorem S_data (l : List UInt8) : (S l).data.toList = l := rfl
@[go_sem] theorem S_size (l : List UInt8) : (S l).size = l.length := rfl
theorem S_of (s : ByteArray) : s = S s.data.toList := rfl
@[go_sem] theorem S_get (l : List UInt8) (i : Nat) (h : i < (S l).size) : (S l)[i] = l[i]'(Nat.lt_of_lt_of_eq h rfl) := rfl
@[go_sem] theorem S_extract (l : List UInt8) (a b : Nat) : (S l).extract a b = S ((l.drop a).take (b - a)) := ByteArray.extract_mk l a b
@[go_sem] theorem S_append (a b : List UInt8) : S a ++ S b = S (a ++ b) := by apply ByteArray.ext; simp [S]
theorem run_add_S {P : Program} (a b : List UInt8) (h : a.length + b.length ≤ 9223372036854775807) (w : World) : (Op.stringOp .add (S a) (S b)).run P w = .ok (.string (S (a ++ b))) w := by
  rw [run_string_add_sum w (S a) (S b) h, S_append]
theorem slice_to {P : Program} {t : TypeId} (ht : P.underlying t = some .string) (l : List UInt8) (k : Nat) (hk : k ≤ l.length) (w : World) :
    (Instr.slice t (.string (S l)) none (some (.int .i64 (k : Int))) none).run P w = .ok (.string (S (l.take k))) w := by
  rw [run_slice_string_h w t (S l) ht .i64 (k : Int) (by omega) (by rw [S_size]; omega), S_extract]
  simp
theorem slice_from {P : Program} {t : TypeId} (ht : P.underlying t = some .string) (l : List UInt8) (k : Nat) (hk : k ≤ l.length) (w : World) :
    (Instr.slice t (.string (S l)) (some (.int .i64 (k : Int))) none none).run P w = .ok (.string (S (l.drop k))) w := by
  rw [run_slice_string_l w t (S l) ht .i64 (k : Int) (by omega) (by rw [S_size]; omega), S_extract, S_size]
  congr 3
  rw [List.take_of_length_le (by simp)]
  simp
/-- Bytes as cells. -/
def bytesV (l : List UInt8) : Array Value := (l.map fun b => Value.int .u8 (b.toNat : Int)).toArray
theorem bytesV_get (l : List UInt8) (i : Nat) : (bytesV l)[i]? = l[i]?.map fun b => Value.int .u8 (b.toNat : Int) := by simp [bytesV]
theorem bytesV_size (l : List UInt8) : (bytesV l).size = l.length := by simp [bytesV]
theorem bytesV_set (l : List UInt8) (i : Nat) (b : UInt8) : (bytesV l).setIfInBounds i (.int .u8 (b.toNat : Int)) = bytesV (l.set i b) := by
  simp [bytesV, List.map_set]
/-- Bytes as a list of cells. -/
def u8s (l : List UInt8) : List Value := l.map fun b => Value.int .u8 (b.toNat : Int)
theorem bytesV_eq (l : List UInt8) : bytesV l = (u8s l).toArray := rfl
theorem u8s_length (l : List UInt8) : (u8s l).length = l.length := by simp [u8s]
theorem u8s_append (a b : List UInt8) : u8s (a ++ b) = u8s a ++ u8s b := by simp [u8s]
theorem u8s_get (l : List UInt8) (i : Nat) : (u8s l)[i]? = l[i]?.map fun b => Value.int .u8 (b.toNat : Int) := by simp [u8s]
theorem u8_ofNat (b : UInt8) : UInt8.ofNat ((b.toNat : Int)).toNat = b := by simp
theorem foldl_push (l : List UInt8) : ∀ acc : List UInt8, (l.map fun b => (b.toNat : Int)).foldl (fun (r : ByteArray) n => r.push (UInt8.ofNat n.toNat)) (S acc) = S (acc ++ l) := by
  induction l with
  | nil => intro acc; simp
  | cons b l ih =>
    intro acc
    have e : (S acc).push (UInt8.ofNat ((b.toNat : Int)).toNat) = S (acc ++ [b]) := by
      rw [u8_ofNat]
      apply ByteArray.ext
      simp [S, ByteArray.push]
    simp only [List.map_cons, List.foldl_cons, e]
    rw [ih]
    simp
/-- string(b) of bytes that lie at a. -/
theorem run_string_at {P : Program} {src dst e : TypeId} (hs : P.underlying src = some (.slice e)) (he : P.underlying e = some (.int .u8)) (hd : P.underlying dst = some .string)
    (w : World) (a : Addr) (n c : Nat) (l : List UInt8) (hn : l.length = n) (h : ∀ j u, (u8s l)[j]? = some u → w.cell? (a.add j) = some u) :
    (convert src dst (.slice (some a) n c)).run P w = .ok (.string (S l)) w := by
  rw [run_convert_bytes_string w src dst e (some a) n c hs he hd]
  have hl := run_loadCells_list (P := P) w a (u8s l) h
  rw [u8s_length, hn] at hl
  have e1 : (u8s l).toArray = ((l.map fun b => (b.toNat : Int)).map (Value.int .u8)).toArray := by simp [u8s]
  rw [e1] at hl
  rw [run_bytesToString w a n c _ hl]
  have := foldl_push l []
  rw [List.nil_append] at this
  rw [show ByteArray.empty = S [] from rfl, this]
theorem run_string_nil {P : Program} {src dst e : TypeId} (hs : P.underlying src = some (.slice e)) (he : P.underlying e = some (.int .u8)) (hd : P.underlying dst = some .string)
    (w : World) (n c : Nat) : (convert src dst (.slice none n c)).run P w = .ok (.string (S [])) w := by
  rw [run_convert_bytes_string w src dst e none n c hs he hd]
  rfl
/-- string(b) of bytes that the call owns. -/
theorem run_string_own {P : Program} {src dst e : TypeId} (hs : P.underlying src = some (.slice e)) (he : P.underlying e = some (.int .u8)) (hd : P.underlying dst = some .string)
    (w : World) (base : Nat) (v : Value) (n : Nat) (l : List UInt8) (h : w.ownsRow base e 1 v n (u8s l)) :
    (convert src dst v).run P w = .ok (.string (S l)) w := by
  have hl : l.length = n := by have := h.1; rw [u8s_length] at this; omega
  rcases h.2 with ⟨rfl, hn⟩ | ⟨g, cap, cur, rfl, _⟩
  · have : l = [] := List.eq_nil_of_length_eq_zero (by omega)
    subst this
    exact run_string_nil hs he hd w 0 0
  · exact run_string_at hs he hd w ⟨g, 0, none⟩ n cap l hl (h.cells rfl)
/-- .. of a block's bytes. -/
theorem run_string_blk {P : Program} {src dst e : TypeId} (hs : P.underlying src = some (.slice e)) (he : P.underlying e = some (.int .u8)) (hd : P.underlying dst = some .string)
    {w : World} {g : Nat} {t : TypeId} {l : List UInt8} (h : Blk w g t (bytesV l)) (n c : Nat) (hn : l.length = n) : (convert src dst (.slice (some ⟨g, 0, none⟩) n c)).run P w = .ok (.string (S l)) w :=
  run_string_at hs he hd w ⟨g, 0, none⟩ n c l hn (fun j u hu => by
    have := h.cellv j u (by rw [bytesV_eq, List.getElem?_toArray]; exact hu)
    have e : (⟨g, 0, none⟩ : Addr).add j = ⟨g, j, none⟩ := by cases j <;> simp [Addr.add]
    rw [e]; exact this)
theorem min_i64 {P : Program} (ts : Array TypeId) (t : TypeId) (a b n : Int) (hn : n = min a b) (w : World) : (Builtin.min_ ts t #[.int .i64 a, .int .i64 b]).run P w = .ok (.int .i64 n) w := by
  rw [run_min_int2, hn]
  congr 2
  split <;> omega
theorem max_i64 {P : Program} (ts : Array TypeId) (t : TypeId) (a b n : Int) (hn : n = max a b) (w : World) : (Builtin.max_ ts t #[.int .i64 a, .int .i64 b]).run P w = .ok (.int .i64 n) w := by
  rw [run_max_int2, hn]
  congr 2
  split <;> omega
/-- append(v, u) of one element of one cell, v nil or the call's own. -/
theorem wpList_append1 {P : Program} {w : World} {ops : Array Oper} {rest : List Oper} {o : Oper} {a : Act} {Q : Exit → Act → World → Prop} (hgd : o.guard = none) (s x : Operand) (t : TypeId)
    (ho : o.op = .call { callee := .builtin .append, args := #[s, x], argTypes := #[t, t] })
    (base : Nat) (e : TypeId) (z : Value) (bytes : Nat) (ht : P.underlying t = some (.slice e)) (hinfo : (P.info? e).map (fun i => (i.zero, i.size, i.bytes)) = some (some z, 1, bytes))
    (hzs : z.cells.size = 1) (v : Value) (n : Nat) (xs : List Value) (hs : a.eval s = v) (hown : w.ownsRow base e 1 v n xs)
    (g : Nat) (u : Value) (hx : a.eval x = .slice (some ⟨g, 0, none⟩) 1 1) (hc : w.cell? ⟨g, 0, none⟩ = some u) (h1 : u.oneCell' = true)
    (h63 : n + 1 ≤ maxLen) (hbytes : (n + 1) * bytes ≤ 140737488355328) (hbase : base ≤ w.heap.size)
    (h : ∀ v' w', w'.ownsRow base e 1 v' (n + 1) (xs ++ [u]) → w.grownBy w' v.ownBlock → wpList P ops Q rest (a.put o.dst v') w') : wpList P ops Q (o :: rest) a w := by
  obtain ⟨i0, hi, hz0, hz1, hz2⟩ := info_parts hinfo
  refine wpList_append_own w hgd s x t ho base e i0 z 1 bytes ht hi hz0 hz1 hz2 hzs (by omega) v n xs hs hown ⟨g, 0, none⟩ 1 1 [u] hx rfl ?_ ?_ h63 hbytes hbase (fun v' w' a b _ => h v' w' a b)
  · intro j y hj
    match j, hj with
    | 0, hj => simp at hj; subst hj; simpa [Addr.add] using hc
  · intro y hy; simp at hy; subst hy; exact h1
theorem step_append1 {P : Program} {w : World} {ops : Array Oper} {o : Oper} {a : Act} {K : Act → World → Prop} {Q : Exit → Act → World → Prop} {E : Prop} (hgd : o.guard = none) (s x : Operand) (t : TypeId)
    (ho : o.op = .call { callee := .builtin .append, args := #[s, x], argTypes := #[t, t] })
    (base : Nat) (e : TypeId) (z : Value) (bytes : Nat) (ht : P.underlying t = some (.slice e)) (hinfo : (P.info? e).map (fun i => (i.zero, i.size, i.bytes)) = some (some z, 1, bytes))
    (hzs : z.cells.size = 1) (v : Value) (n : Nat) (xs : List Value) (hs : a.eval s = v) (hown : w.ownsRow base e 1 v n xs)
    (g : Nat) (u : Value) (hx : a.eval x = .slice (some ⟨g, 0, none⟩) 1 1) (hc : w.cell? ⟨g, 0, none⟩ = some u) (h1 : u.oneCell' = true)
    (h63 : n + 1 ≤ maxLen) (hbytes : (n + 1) * bytes ≤ 140737488355328) (hbase : base ≤ w.heap.size)
    (h : ∀ v' w', w'.ownsRow base e 1 v' (n + 1) (xs ++ [u]) → w.grownBy w' v.ownBlock → K (a.put o.dst v') w') : if Region.wanted o (yielded ops a.tmps) = true then Oper.wp P o a w K Q else E := by
  have hw : Region.wanted o (yielded ops a.tmps) = true := by simp [Region.wanted, hgd]
  rw [if_pos hw]
  obtain ⟨i0, hi, hz0, hz1, hz2⟩ := info_parts hinfo
  refine wp_append_own w s x t ho base e i0 z 1 bytes ht hi hz0 hz1 hz2 hzs (by omega) v n xs hs hown ⟨g, 0, none⟩ 1 1 [u] hx rfl ?_ ?_ h63 hbytes hbase (fun v' w' a b _ => h v' w' a b)
  · intro j y hj
    match j, hj with
    | 0, hj => simp at hj; subst hj; simpa [Addr.add] using hc
  · intro y hy; simp at hy; subst hy; exact h1
/-- Behind 'v = append(v, u)' of a row of the call's own. -/
theorem below_append1 {B base : Nat} {a w w1 : World} {e : TypeId} {v : Value} {n : Nat} {xs : List Value} {o : Obj} (hb : Below B a w) (hB : B ≤ w.heap.size) (hown : w.ownsRow base e 1 v n xs) (hbase : B ≤ base)
    (hg : (w.alloc o).drew.grownBy w1 v.ownBlock) : Below B a w1 :=
  ((hb.alloc hB o).drew).grown hg (by show B ≤ (w.alloc o).heap.size; simp; omega) (fun k hk => Nat.le_trans hbase (hown.lt k hk).1)
theorem below_append1' {B base : Nat} {a w w1 : World} {e : TypeId} {v : Value} {n : Nat} {xs : List Value} {o : Obj} (hb : Below B a w) (hB : B ≤ w.heap.size) (hown : w.ownsRow base e 1 v n xs) (hbase : B ≤ base)
    (hg : (w.alloc o).grownBy w1 v.ownBlock) : Below B a w1 :=
  (hb.alloc hB o).grown hg (by simp; omega) (fun k hk => Nat.le_trans hbase (hown.lt k hk).1)
/-- What was there reads as before: two rules for the walk. -/
theorem Only.rules {w w' : World} (h : Only [] w w') : (∀ b o, b < w.heap.size → w'.cell? ⟨b, o, none⟩ = w.cell? ⟨b, o, none⟩) ∧ (∀ b o, b < w.heap.size → w'.frozen? ⟨b, o, none⟩ = w.frozen? ⟨b, o, none⟩) :=
  ⟨fun b o hb => h.nil_below.cell (p := ⟨b, o, none⟩) hb, fun b o hb => h.nil_below.frozen (p := ⟨b, o, none⟩) hb⟩
theorem take_snoc {α : Type} (l : List α) (k : Nat) (h : k < l.length) : l.take (k + 1) = l.take k ++ [l[k]] := by
  rw [List.take_succ_eq_append_getElem h]
theorem bget (s : ByteArray) (k : Nat) (h : k < s.size) : s[k] = s.data.toList[k]'h := rfl
end Go.Proofs.YtkccjfgkbkodiaaGreat
namespace Go.Proofs.YtkccjfgkbkodiaaGreat
open Go.RowKit
theorem mid_get (pre mid post : List Value) (j : Nat) (hj : j < mid.length) : (pre ++ mid ++ post).toArray[pre.length + j]? = mid[j]? := by
  rw [List.getElem?_toArray, List.append_assoc, List.getElem?_append_right (by omega), List.getElem?_append_left (by omega)]
  congr 1
  omega
theorem mid_set (pre mid post : List Value) (j : Nat) (hj : j < mid.length) (u : Value) : (pre ++ mid ++ post).toArray.setIfInBounds (pre.length + j) u = (pre ++ mid.set j u ++ post).toArray := by
  rw [List.setIfInBounds_toArray, List.append_assoc, List.set_append_right _ _ (by omega), List.append_assoc, List.set_append_left _ _ (by omega)]
  congr 4
  omega
/-- From off on the block b holds mid; ahead of it pre, behind it post. -/
def Mid (w : World) (b : Nat) (t : TypeId) (pre mid post : List Value) (off : Nat) : Prop := off = pre.length ∧ Blk w b t (pre ++ mid ++ post).toArray
section
variable {w w' : World} {b off : Nat} {t : TypeId} {pre mid post : List Value}
theorem Mid.cell (h : Mid w b t pre mid post off) (j : Nat) (v : Value) (hv : mid[j]? = some v) : w.cell? ⟨b, off + j, none⟩ = some v := by
  have hj : j < mid.length := (List.getElem?_eq_some_iff.1 hv).1
  rw [h.1, h.2.cell, mid_get pre mid post j hj, hv]
theorem Mid.cell0 (h : Mid w b t pre mid post off) (v : Value) (hv : mid[0]? = some v) : w.cell? ⟨b, off, none⟩ = some v := h.cell 0 v hv
theorem Mid.frozen (h : Mid w b t pre mid post off) (j : Nat) : w.frozen? ⟨b, j, none⟩ = false := h.2.frozen j
theorem Mid.set (h : Mid w b t pre mid post off) (j : Nat) (hj : j < mid.length) (u : Value) : Mid (w.setCell ⟨b, off + j, none⟩ u) b t pre (mid.set j u) post off := by
  refine ⟨h.1, ?_⟩
  have h2 := h.2.set_ (off + j) u
  rw [h.1, mid_set pre mid post j hj u] at h2
  rw [h.1]
  exact h2
theorem Mid.lt (h : Mid w b t pre mid post off) : b < w.heap.size := h.2.lt
theorem Mid.drewN (h : Mid w b t pre mid post off) (n : Nat) : Mid (w.drewN n) b t pre mid post off := h
theorem Mid.keep {S : List Nat} (h : Mid w b t pre mid post off) (ho : Only S w w') (hb : b ∉ S) : Mid w' b t pre mid post off := ⟨h.1, ho.blk h.2 hb⟩
theorem Mid.alloc (h : Mid w b t pre mid post off) (o : Obj) : Mid (w.alloc o) b t pre mid post off := ⟨h.1, h.2.alloc o⟩
end
/-- A Bool is handed back. -/
def RetB (e : Ending) : Prop := ∃ r : Bool, e = .returned (.bool r)
def RetI (e : Ending) : Prop := ∃ r : Int, e = .returned (.int .i64 r)
/-- A short text, and an error that may be. -/
def RetSE (n : Nat) (e : Ending) : Prop := ∃ (l : List UInt8) (k : Int), e = .returned (.tuple #[.string (S l), .int .i64 k]) ∧ l.length ≤ n ∧ 0 ≤ k ∧ k ≤ 10
theorem RetSE.of {n : Nat} (s : ByteArray) {k : Int} (h : s.size ≤ n) (h0 : 0 ≤ k) (h1 : k ≤ 10) : RetSE n (.returned (.tuple #[.string s, .int .i64 k])) := ⟨s.data.toList, k, rfl, by simpa using h, h0, h1⟩
def RetSB (n : Nat) (e : Ending) : Prop := ∃ (l : List UInt8) (ok : Bool), e = .returned (.tuple #[.string (S l), .bool ok]) ∧ l.length ≤ n
theorem RetSB.of {n : Nat} (s : ByteArray) {ok : Bool} (h : s.size ≤ n) : RetSB n (.returned (.tuple #[.string s, .bool ok])) := ⟨s.data.toList, ok, rfl, by simpa using h⟩
/-- A cell's kind. -/
inductive Kd where
  | i64
  | u8
  | u64
  | bool
  | str
  | err
def Kd.fits : Kd → Value → Prop
  | .i64, v => ∃ n : Int, v = .int .i64 n
  | .u8, v => ∃ n : Int, v = .int .u8 n
  | .u64, v => ∃ n : Int, v = .int .u64 n
  | .bool, v => ∃ b : Bool, v = .bool b
  | .str, v => ∃ s : ByteArray, v = .string s
  | .err, v => ∃ n : Int, v = .int .i64 n ∧ 0 ≤ n ∧ n ≤ 10
/-- Cells of such kinds. -/
def Typed (ks : List Kd) (vs : List Value) : Prop := vs.length = ks.length ∧ ∀ (j : Nat) (k : Kd) (v : Value), ks[j]? = some k → vs[j]? = some v → k.fits v
theorem Typed.set {ks : List Kd} {vs : List Value} (h : Typed ks vs) (j : Nat) {k : Kd} (hk : ks[j]? = some k) {u : Value} (hu : k.fits u) : Typed ks (vs.set j u) := by
  refine ⟨by rw [List.length_set]; exact h.1, fun i k2 v hi hv => ?_⟩
  rw [List.getElem?_set] at hv
  by_cases hij : j = i
  · subst hij
    rw [hk] at hi
    cases hi
    rw [if_pos rfl] at hv
    split at hv
    · cases hv; exact hu
    · cases hv
  · rw [if_neg hij] at hv
    exact h.2 i k2 v hi hv
theorem Typed.get {ks : List Kd} {vs : List Value} (h : Typed ks vs) (j : Nat) {k : Kd} (hk : ks[j]? = some k) : ∃ v, vs[j]? = some v ∧ k.fits v := by
  have hj : j < ks.length := (List.getElem?_eq_some_iff.1 hk).1
  have : j < vs.length := by rw [h.1]; exact hj
  exact ⟨vs[j], List.getElem?_eq_getElem this, h.2 j k _ hk (List.getElem?_eq_getElem this)⟩
/-- From off on the block b has cells of such kinds. -/
def Raw (w : World) (b : Nat) (t : TypeId) (pre : List Value) (ks : List Kd) (post : List Value) (off : Nat) : Prop := ∃ mid, Mid w b t pre mid post off ∧ Typed ks mid
section
variable {w w' : World} {b off : Nat} {t : TypeId} {pre post : List Value} {ks : List Kd}
theorem Raw.set (h : Raw w b t pre ks post off) {j : Nat} {k : Kd} (hk : ks[j]? = some k) {u : Value} (hu : k.fits u) : Raw (w.setCell ⟨b, off + j, none⟩ u) b t pre ks post off := by
  obtain ⟨mid, h1, h2⟩ := h
  have hj : j < ks.length := (List.getElem?_eq_some_iff.1 hk).1
  exact ⟨_, h1.set j (by rw [h2.1]; exact hj) u, h2.set j hk hu⟩
theorem Raw.set0 (h : Raw w b t pre ks post off) {k : Kd} (hk : ks[0]? = some k) {u : Value} (hu : k.fits u) : Raw (w.setCell ⟨b, off, none⟩ u) b t pre ks post off := h.set hk hu
theorem Raw.setI (h : Raw w b t pre ks post off) {j : Nat} {n : Int} (hk : ks[j]? = some .i64) : Raw (w.setCell ⟨b, off + j, none⟩ (.int .i64 n)) b t pre ks post off := h.set hk ⟨n, rfl⟩
theorem Raw.set0I (h : Raw w b t pre ks post off) {n : Int} (hk : ks[0]? = some .i64) : Raw (w.setCell ⟨b, off, none⟩ (.int .i64 n)) b t pre ks post off := h.set0 hk ⟨n, rfl⟩
theorem Raw.setU8 (h : Raw w b t pre ks post off) {j : Nat} {n : Int} (hk : ks[j]? = some .u8) : Raw (w.setCell ⟨b, off + j, none⟩ (.int .u8 n)) b t pre ks post off := h.set hk ⟨n, rfl⟩
theorem Raw.set0U8 (h : Raw w b t pre ks post off) {n : Int} (hk : ks[0]? = some .u8) : Raw (w.setCell ⟨b, off, none⟩ (.int .u8 n)) b t pre ks post off := h.set0 hk ⟨n, rfl⟩
theorem Raw.setU64 (h : Raw w b t pre ks post off) {j : Nat} {n : Int} (hk : ks[j]? = some .u64) : Raw (w.setCell ⟨b, off + j, none⟩ (.int .u64 n)) b t pre ks post off := h.set hk ⟨n, rfl⟩
theorem Raw.set0U64 (h : Raw w b t pre ks post off) {n : Int} (hk : ks[0]? = some .u64) : Raw (w.setCell ⟨b, off, none⟩ (.int .u64 n)) b t pre ks post off := h.set0 hk ⟨n, rfl⟩
theorem Raw.setB (h : Raw w b t pre ks post off) {j : Nat} {n : Bool} (hk : ks[j]? = some .bool) : Raw (w.setCell ⟨b, off + j, none⟩ (.bool n)) b t pre ks post off := h.set hk ⟨n, rfl⟩
theorem Raw.set0B (h : Raw w b t pre ks post off) {n : Bool} (hk : ks[0]? = some .bool) : Raw (w.setCell ⟨b, off, none⟩ (.bool n)) b t pre ks post off := h.set0 hk ⟨n, rfl⟩
theorem Raw.setE (h : Raw w b t pre ks post off) {j : Nat} {n : Int} (hk : ks[j]? = some .err) (h0 : 0 ≤ n) (h1 : n ≤ 10) : Raw (w.setCell ⟨b, off + j, none⟩ (.int .i64 n)) b t pre ks post off := h.set hk ⟨n, rfl, h0, h1⟩
theorem Raw.get (h : Raw w b t pre ks post off) (j : Nat) {k : Kd} (hk : ks[j]? = some k) : ∃ v, w.cell? ⟨b, off + j, none⟩ = some v ∧ k.fits v := by
  obtain ⟨mid, h1, h2⟩ := h
  obtain ⟨v, hv, hf⟩ := h2.get j hk
  exact ⟨v, h1.cell j v hv, hf⟩
theorem Raw.i64 (h : Raw w b t pre ks post off) (j : Nat) (hk : ks[j]? = some .i64) : ∃ n : Int, w.cell? ⟨b, off + j, none⟩ = some (.int .i64 n) := by
  obtain ⟨v, hv, n, rfl⟩ := h.get j hk
  exact ⟨n, hv⟩
theorem Raw.u8 (h : Raw w b t pre ks post off) (j : Nat) (hk : ks[j]? = some .u8) : ∃ n : Int, w.cell? ⟨b, off + j, none⟩ = some (.int .u8 n) := by
  obtain ⟨v, hv, n, rfl⟩ := h.get j hk
  exact ⟨n, hv⟩
theorem Raw.bool (h : Raw w b t pre ks post off) (j : Nat) (hk : ks[j]? = some .bool) : ∃ n : Bool, w.cell? ⟨b, off + j, none⟩ = some (.bool n) := by
  obtain ⟨v, hv, n, rfl⟩ := h.get j hk
  exact ⟨n, hv⟩
theorem Raw.err (h : Raw w b t pre ks post off) (j : Nat) (hk : ks[j]? = some .err) : ∃ n : Int, w.cell? ⟨b, off + j, none⟩ = some (.int .i64 n) ∧ 0 ≤ n ∧ n ≤ 10 := by
  obtain ⟨v, hv, n, rfl, h0, h1⟩ := h.get j hk
  exact ⟨n, hv, h0, h1⟩
theorem Raw.frozen (h : Raw w b t pre ks post off) (j : Nat) : w.frozen? ⟨b, j, none⟩ = false := by
  obtain ⟨mid, h1, h2⟩ := h
  exact h1.frozen j
theorem Raw.drewN (h : Raw w b t pre ks post off) (n : Nat) : Raw (w.drewN n) b t pre ks post off := h
theorem Raw.drew (h : Raw w b t pre ks post off) : Raw w.drew b t pre ks post off := h
theorem Raw.alloc (h : Raw w b t pre ks post off) (o : Obj) : Raw (w.alloc o) b t pre ks post off := by
  obtain ⟨mid, h1, h2⟩ := h
  exact ⟨mid, h1.alloc o, h2⟩
theorem Raw.keep {S : List Nat} (h : Raw w b t pre ks post off) (ho : Only S w w') (hb : b ∉ S) : Raw w' b t pre ks post off := by
  obtain ⟨mid, h1, h2⟩ := h
  exact ⟨mid, h1.keep ho hb, h2⟩
theorem Raw.lt (h : Raw w b t pre ks post off) : b < w.heap.size := by
  obtain ⟨mid, h1, h2⟩ := h
  exact h1.lt
/-- A wider view: what was ahead and behind of it is of it. -/
theorem Raw.out {pk qk : List Kd} {a : List Value} {c : List Value} (h : Raw w b t (pre ++ a) ks (c ++ post) off) (ha : Typed pk a) (hc : Typed qk c) : Raw w b t pre (pk ++ ks ++ qk) post pre.length := by
  obtain ⟨mid, ⟨h0, h1⟩, h2⟩ := h
  refine ⟨a ++ mid ++ c, ⟨rfl, by simpa [List.append_assoc] using h1⟩, ?_, fun j k v hk hv => ?_⟩
  · simp only [List.length_append, ha.1, h2.1, hc.1]
  · rw [List.append_assoc] at hk hv
    rw [List.getElem?_append] at hk hv
    rw [ha.1] at hv
    by_cases hj : j < pk.length
    · rw [if_pos hj] at hk hv
      exact ha.2 j k v hk hv
    · rw [if_neg hj] at hk hv
      rw [List.getElem?_append] at hk hv
      rw [h2.1] at hv
      by_cases hj2 : j - pk.length < ks.length
      · rw [if_pos hj2] at hk hv
        exact h2.2 _ k v hk hv
      · rw [if_neg hj2] at hk hv
        exact hc.2 _ k v hk hv
/-- A part of it. -/
theorem Raw.part {pk mk qk : List Kd} (h : Raw w b t pre (pk ++ mk ++ qk) post off) : ∃ a c, Typed pk a ∧ Typed qk c ∧ Raw w b t (pre ++ a) mk (c ++ post) (off + pk.length) := by
  obtain ⟨mid, ⟨h0, h1⟩, hl, h2⟩ := h
  simp only [List.length_append] at hl
  refine ⟨mid.take pk.length, mid.drop (pk.length + mk.length), ⟨by rw [List.length_take]; omega, fun j k v hk hv => ?_⟩, ⟨by rw [List.length_drop]; omega, fun j k v hk hv => ?_⟩, (mid.drop pk.length).take mk.length, ⟨by rw [List.length_append, List.length_take, h0]; omega, ?_⟩, by rw [List.length_take, List.length_drop]; omega, fun j k v hk hv => ?_⟩
  · have hj : j < pk.length := (List.getElem?_eq_some_iff.1 hk).1
    rw [List.getElem?_take_of_lt hj] at hv
    exact h2 j k v (by rw [List.append_assoc, List.getElem?_append_left hj]; exact hk) hv
  · rw [List.getElem?_drop] at hv
    refine h2 _ k v ?_ hv
    rw [List.getElem?_append_right (by rw [List.length_append]; omega), List.length_append, Nat.add_sub_cancel_left]
    exact hk
  · have e : pre ++ mid.take pk.length ++ (mid.drop pk.length).take mk.length ++ (mid.drop (pk.length + mk.length) ++ post) = pre ++ mid ++ post := by
      rw [← List.drop_drop]
      simp only [List.append_assoc]
      congr 1
      rw [← List.append_assoc, ← List.append_assoc]
      congr 1
      rw [List.append_assoc, List.take_append_drop, List.take_append_drop]
    rw [e]
    exact h1
  · have hj : j < mk.length := (List.getElem?_eq_some_iff.1 hk).1
    rw [List.getElem?_take_of_lt hj, List.getElem?_drop] at hv
    refine h2 _ k v ?_ hv
    rw [List.append_assoc, List.getElem?_append_right (by omega), Nat.add_sub_cancel_left, List.getElem?_append_left hj]
    exact hk
end
end Go.Proofs.YtkccjfgkbkodiaaGreat
