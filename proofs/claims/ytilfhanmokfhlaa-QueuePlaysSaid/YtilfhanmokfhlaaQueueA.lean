/-
  Queues: what they are in memory; Add, Len, Chunks, Cut.
-/
import Derived.Test.YtilfhanmokfhlaaRows
import Derived.Test.YtilfhanmokfhlaaSl
import Derived.Test.YtilfhanmokfhlaaStr
import Derived.Test.YtilfhanmokfhlaaDraw
import Derived.Test.YtilfhanmokfhlaaArgs2
namespace Go.Proofs.Ytilfhanmokfhlaa
open Go.RowKit

def strV (L : List (List UInt8)) : List Value := L.map fun l => Value.string (S l)
theorem strV_length (L : List (List UInt8)) : (strV L).length = L.length := by simp [strV]
theorem strV_append (L M : List (List UInt8)) : strV (L ++ M) = strV L ++ strV M := by simp [strV]
/-- The queue at p has the chunks L; its list is v. -/
structure Queue (w : World) (base p : Nat) (v : Value) (L : List (List UInt8)) : Prop where
  blk : Blk w p 27 #[v, .int .i64 (L.flatten.length : Nat)]
  sl : Sl w base 9 v (strV L)
  ne : ∀ l ∈ L, l ≠ []
section
variable {w w' : World} {base p : Nat} {v : Value} {L : List (List UInt8)}
theorem Queue.out (h : Queue w base p v L) : p ∉ slB v := h.sl.notBlk h.blk (by decide)
theorem Queue.keep {B : List Nat} (h : Queue w base p v L) (ho : Only B w w') (h1 : p ∉ B) (h2 : ∀ k ∈ slB v, k ∉ B) : Queue w' base p v L := ⟨ho.blk h.blk h1, h.sl.keep ho h2, h.ne⟩
theorem Queue.lt (h : Queue w base p v L) : p < w.heap.size := h.blk.lt
theorem Queue.only_below {c : World} {B : Nat} (h : Queue w base p v L) (ho : Only (p :: slB v) w c) (hB : B ≤ w.heap.size) (hp : B ≤ p) (hb : B ≤ base) : Below B w c :=
  ho.below hB (fun k hk => by
    rcases List.mem_cons.1 hk with rfl | hk
    · exact hp
    · have := (h.sl.lt k hk).1; omega)
theorem flat_le (L : List (List UInt8)) (h : ∀ l ∈ L, l ≠ []) : L.length ≤ L.flatten.length := by
  induction L with
  | nil => simp
  | cons c L ih =>
    have h1 := ih (fun l hl => h l (List.mem_cons_of_mem _ hl))
    have h2 : 0 < c.length := List.length_pos_iff.2 (h c (List.mem_cons_self ..))
    simp only [List.flatten_cons, List.length_append, List.length_cons]
    omega
theorem Queue.new (w : World) (base : Nat) : Queue (w.alloc (.cells #[.slice none 0 0, .int .i64 0] 27)) base w.heap.size (.slice none 0 0) [] := ⟨Blk.new w 27 _, Sl.nil _ _ _, fun _ h => by cases h⟩
end

theorem add_nil (b : ByteArray) (w : World) : Calls Try.prog 9 #[.pointer none, .string b] w fun e w' => e = .returned (.tuple #[]) ∧ w' = w := by
  go_enter Try.func9, Try.ntmps9
  go_wp2
  exact bodyPost_ret (results_none rfl _ _ _) rfl ⟨rfl, rfl⟩
theorem len_nil (w : World) : Calls Try.prog 13 #[.pointer none] w fun e w' => e = .returned (.int .i64 0) ∧ w' = w := by
  go_enter Try.func13, Try.ntmps13
  go_wp2
  go_ret
  exact ⟨rfl, rfl⟩
theorem chunks_nil (w : World) : Calls Try.prog 14 #[.pointer none] w fun e w' => e = .returned (.int .i64 0) ∧ w' = w := by
  go_enter Try.func14, Try.ntmps14
  go_wp2
  go_ret
  exact ⟨rfl, rfl⟩
theorem len_any {w : World} {base p : Nat} {v : Value} {L : List (List UInt8)} (h : Queue w base p v L) (n : Int) (hn : n = (L.flatten.length : Nat)) :
    Calls Try.prog 13 #[.pointer (some ⟨p, 0, none⟩)] w fun e w' => e = .returned (.int .i64 n) ∧ w' = w := by
  have c1 := h.blk.cellv 1 _ rfl
  rw [← hn] at c1
  clear hn
  go_enter Try.func13, Try.ntmps13
  go_wp2
  go_ret
  exact ⟨rfl, rfl⟩
theorem Sl.form {w : World} {base : Nat} {t : TypeId} {v : Value} {xs : List Value} (h : Sl w base t v xs) : ∃ a c, v = .slice a xs.length c := by
  rcases h with ⟨rfl, rfl⟩ | ⟨g, off, cap, cs, rfl, _⟩
  · exact ⟨none, 0, rfl⟩
  · exact ⟨_, _, rfl⟩
theorem chunks_any {w : World} {base p : Nat} {v : Value} {L : List (List UInt8)} (h : Queue w base p v L) (n : Int) (hn : n = L.length) :
    Calls Try.prog 14 #[.pointer (some ⟨p, 0, none⟩)] w fun e w' => e = .returned (.int .i64 n) ∧ w' = w := by
  have c0 := h.blk.cellv 0 _ rfl
  obtain ⟨a, c, rfl⟩ := h.sl.form
  rw [strV_length] at c0
  obtain ⟨k, hk⟩ : ∃ k, k = L.length := ⟨_, rfl⟩
  rw [← hk] at c0 hn
  subst hn
  clear hk
  go_enter Try.func14, Try.ntmps14
  go_wp2
  go_ret
  exact ⟨rfl, rfl⟩

theorem info_str : (Try.prog.info? 9).map (fun i => (i.zero, i.size, i.bytes)) = some (some (.string ByteArray.empty), 1, 16) := by kernel_rfl

theorem add_empty {w : World} {p : Nat} : Calls Try.prog 9 #[.pointer (some ⟨p, 0, none⟩), .string (S [])] w fun e w' => e = .returned (.tuple #[]) ∧ w' = w := by
  go_enter Try.func9, Try.ntmps9
  go_wp2
  exact bodyPost_ret (results_none rfl _ _ _) rfl ⟨rfl, rfl⟩

theorem add_some {w : World} {base p : Nat} {v : Value} {L : List (List UInt8)} (h : Queue w base p v L) (b : List UInt8) (hb : b ≠ []) (hsz : L.flatten.length + b.length ≤ 1000000) (hbase : base ≤ w.heap.size) :
    Calls Try.prog 9 #[.pointer (some ⟨p, 0, none⟩), .string (S b)] w fun e w' => e = .returned (.tuple #[]) ∧ ∃ v', Queue w' base p v' (L ++ [b]) ∧ Only (p :: slB v) w w' ∧ (∀ k ∈ slB v', k ∈ slB v ∨ w.heap.size ≤ k) := by
  have c0 := h.blk.cellv 0 _ rfl
  have c1 := h.blk.cellv 1 _ rfl
  have f0 := h.blk.frozen 0
  have f1 := h.blk.frozen 1
  have hlt := h.lt
  have hne := h.ne
  have hfl := flat_le L h.ne
  have hbe : b.isEmpty = false := by cases b with | nil => exact absurd rfl hb | cons _ _ => rfl
  obtain ⟨n, hn⟩ : ∃ n : Nat, n = L.flatten.length := ⟨_, rfl⟩
  rw [← hn] at c1 hsz hfl
  have HN := hide hn
  have HH := hide h
  have HB := hide hb
  have HK := hide (show Blk w p 27 #[v, .int .i64 n] from by rw [hn]; exact h.blk)
  have HO := hide h.out
  clear h hn hb hne
  go_enter Try.func9, Try.ntmps9
  go_wp2_with (at_builtin; refine wpList_append_sl rfl (.tmp 14) (.tmp 16) 25 rfl base 9 (.string ByteArray.empty) 16 Try.underlying25 info_str rfl v (strV L) rfl (HH.out.sl.alloc _) w.heap.size (.string (S b)) rfl (Blk.cell (Blk.new _ _ _) 0) rfl (by rw [strV_length]; unfold maxLen; omega) (by rw [strV_length]; omega) (by simp; omega) ?_; intro v' w1 hown1 ho1 hfresh; obtain ⟨a', c', rfl⟩ := hown1.form; have hb1 := ho1.blk (HK.out.alloc _) HO.out; have d0 := hb1.cellv 0 _ rfl; have d1 := hb1.cellv 1 _ rfl; have g0 := hb1.frozen 0; have g1 := hb1.frozen 1)
  go_end0
  have e1 : (strV L ++ [Value.string (S b)]).length = (strV L).length + 1 := by simp
  rw [e1] at hown1 hfresh
  have hpn := hown1.notBlk hb1 (by decide)
  refine ⟨rfl, .slice a' ((strV L).length + 1) c', ⟨?_, ?_, ?_⟩, ?_, ?_⟩
  · rw [show (((L ++ [b]).flatten.length : Nat) : Int) = (n : Int) + b.length by rw [HN.out]; simp]
    exact (hb1.set_ 0 _).set_ 1 _
  · rw [strV_append]
    exact (hown1.far (p := ⟨p, 0, none⟩) hpn _).far (p := ⟨p, 1, none⟩) hpn _
  · intro l hl
    rcases List.mem_append.1 hl with hl | hl
    · exact HH.out.ne l hl
    · rw [List.mem_singleton.1 hl]; exact HB.out
  · exact ((((Only.refl _ _).alloc _).trans (ho1.mono (fun k hk => List.mem_cons_of_mem _ hk))).setCell (by simp) _).setCell (by simp) _
  · intro k hk
    rcases hfresh k hk with h | h
    · exact .inl h
    · exact .inr (by simp at h; omega)
end Go.Proofs.Ytilfhanmokfhlaa
