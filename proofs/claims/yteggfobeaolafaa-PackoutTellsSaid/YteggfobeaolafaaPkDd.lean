/-
  Documents out of numbers: Doc.
-/
import Derived.Test.YteggfobeaolafaaPkDc
import Derived.Laws.EntriesVeiled
namespace Go.Proofs.Yteggfobeaolafaa
open Go.RowKit

section
variable {w0 : World} {B : Nat} {a : Option Addr} {len cap : Nat} {depth : Int}
theorem item_any {z : List Int} (hr : IsRow .i64 w0 a len cap z) : ∀ (m : Nat) (d : Int), 0 ≤ d → d ≤ 100 → depth ≤ 100 → depth = d + m → bnd m ≤ 900000 → ∀ (w : World) (at_ : Nat) (outs : List EvM) (v : Value), DocS w0 w B a len cap depth at_ outs v → at_ + bnd m ≤ 1000000 → outs.length + bnd m ≤ 1000000 →
    Calls Try.prog 34 #[.int .i64 d, .pointer (some ⟨B + 4, 0, none⟩), .pointer (some ⟨B + 2, 0, none⟩), .pointer (some ⟨B + 1, 0, none⟩), .pointer (some ⟨B + 5, 0, none⟩)] w (ItemPost w0 w B a len cap depth at_ outs (bnd m))
  | 0, d, h0, h1, _, hd, _, w, at_, outs, v, h, ha, ho => item_step hr d h0 h1 0 (fun hlt => absurd hlt (by omega)) w at_ outs v h ha ho
  | m + 1, d, h0, h1, hde, hd, hb, w, at_, outs, v, h, ha, ho => item_step hr d h0 h1 (bnd m) (fun _ w at_ outs v h ha ho => item_any hr m (d + 1) (by omega) (by omega) hde (by rw [hd]; push_cast; omega) (by simp only [bnd] at hb; omega) w at_ outs v h ha ho) w at_ outs v h ha ho
end
set_option maxRecDepth 100000 in
theorem doc_any {w : World} {a : Option Addr} {len cap : Nat} {z : List Int} (hr : IsRow .i64 w a len cap z) (m : Nat) (hm : m ≤ 8) (depth : Int) (hdm : depth = m) :
    Calls Try.prog 20 #[.slice a len cap, .int .i64 depth] w fun e w' => ∃ (E : List EvM) (v : Value), e = .returned v ∧ Tree 0 0 E ∧ E.length ≤ 50000 ∧ SlN w' w.heap.size 34 5 v E.length (evsV E) ∧ Below w.heap.size w w' := by
  have hmf : ∀ (fn : Fn) (first cap : Array Value) (w : World), (Instr.makeFunc fn first cap).run Try.prog w = .ok (.func fn first cap) w := fun _ _ _ _ => rfl
  have hD : DocS w ((((((w.alloc (.cells #[.slice a len cap] 47)).alloc (.cells #[.int .i64 (m : Int)] 3)).alloc (.cells #[.slice none 0 0] 22)).alloc (.cells #[.int .i64 0] 3)).alloc (.cells #[.func (.func 33) #[] #[.pointer (some ⟨w.heap.size + 1 + 1 + 1, 0, none⟩), .pointer (some ⟨w.heap.size, 0, none⟩)]] 81)).alloc (.cells #[.func (.func 34) #[] #[.pointer (some ⟨w.heap.size + 1 + 1 + 1 + 1, 0, none⟩), .pointer (some ⟨w.heap.size + 1 + 1, 0, none⟩), .pointer (some ⟨w.heap.size + 1, 0, none⟩), .pointer (some ⟨w.heap.size + 1 + 1 + 1 + 1 + 1, 0, none⟩)]] 82)) w.heap.size a len cap m 0 [] (.slice none 0 0) := by
    refine ⟨rfl, ?_, ?_, ?_, ?_, ?_, ?_, ?_, SlN.nil _ _ _ _⟩
    · repeat refine Below.more ?_ (Nat.le_refl _) _
      exact Below.refl _ _
    · exact ((((Blk.new w 47 _).alloc _).alloc _).alloc _ |>.alloc _).alloc _
    · exact (((by simpa using Blk.new (w.alloc (.cells #[.slice a len cap] 47)) 3 #[.int .i64 (m : Int)] : Blk ((w.alloc (.cells #[.slice a len cap] 47)).alloc (.cells #[.int .i64 (m : Int)] 3)) (w.heap.size + 1) 3 #[.int .i64 (m : Int)]).alloc _).alloc _ |>.alloc _).alloc _
    · exact ((by simpa using Blk.new ((w.alloc (.cells #[.slice a len cap] 47)).alloc (.cells #[.int .i64 (m : Int)] 3)) 22 #[.slice none 0 0] : Blk (((w.alloc (.cells #[.slice a len cap] 47)).alloc (.cells #[.int .i64 (m : Int)] 3)).alloc (.cells #[.slice none 0 0] 22)) (w.heap.size + 1 + 1) 22 #[.slice none 0 0]).alloc _).alloc _ |>.alloc _
    · exact ((by simpa using Blk.new (((w.alloc (.cells #[.slice a len cap] 47)).alloc (.cells #[.int .i64 (m : Int)] 3)).alloc (.cells #[.slice none 0 0] 22)) 3 #[.int .i64 0] : Blk ((((w.alloc (.cells #[.slice a len cap] 47)).alloc (.cells #[.int .i64 (m : Int)] 3)).alloc (.cells #[.slice none 0 0] 22)).alloc (.cells #[.int .i64 0] 3)) (w.heap.size + 1 + 1 + 1) 3 #[.int .i64 0]).alloc _).alloc _
    · exact (by simpa using Blk.new ((((w.alloc (.cells #[.slice a len cap] 47)).alloc (.cells #[.int .i64 (m : Int)] 3)).alloc (.cells #[.slice none 0 0] 22)).alloc (.cells #[.int .i64 0] 3)) 81 #[.func (.func 33) #[] #[.pointer (some ⟨w.heap.size + 1 + 1 + 1, 0, none⟩), .pointer (some ⟨w.heap.size, 0, none⟩)]] : Blk (((((w.alloc (.cells #[.slice a len cap] 47)).alloc (.cells #[.int .i64 (m : Int)] 3)).alloc (.cells #[.slice none 0 0] 22)).alloc (.cells #[.int .i64 0] 3)).alloc (.cells #[.func (.func 33) #[] #[.pointer (some ⟨w.heap.size + 1 + 1 + 1, 0, none⟩), .pointer (some ⟨w.heap.size, 0, none⟩)]] 81)) (w.heap.size + 1 + 1 + 1 + 1) 81 #[.func (.func 33) #[] #[.pointer (some ⟨w.heap.size + 1 + 1 + 1, 0, none⟩), .pointer (some ⟨w.heap.size, 0, none⟩)]]).alloc _
    · exact (by simpa using Blk.new (((((w.alloc (.cells #[.slice a len cap] 47)).alloc (.cells #[.int .i64 (m : Int)] 3)).alloc (.cells #[.slice none 0 0] 22)).alloc (.cells #[.int .i64 0] 3)).alloc (.cells #[.func (.func 33) #[] #[.pointer (some ⟨w.heap.size + 1 + 1 + 1, 0, none⟩), .pointer (some ⟨w.heap.size, 0, none⟩)]] 81)) 82 #[.func (.func 34) #[] #[.pointer (some ⟨w.heap.size + 1 + 1 + 1 + 1, 0, none⟩), .pointer (some ⟨w.heap.size + 1 + 1, 0, none⟩), .pointer (some ⟨w.heap.size + 1, 0, none⟩), .pointer (some ⟨w.heap.size + 1 + 1 + 1 + 1 + 1, 0, none⟩)]] : Blk ((((((w.alloc (.cells #[.slice a len cap] 47)).alloc (.cells #[.int .i64 (m : Int)] 3)).alloc (.cells #[.slice none 0 0] 22)).alloc (.cells #[.int .i64 0] 3)).alloc (.cells #[.func (.func 33) #[] #[.pointer (some ⟨w.heap.size + 1 + 1 + 1, 0, none⟩), .pointer (some ⟨w.heap.size, 0, none⟩)]] 81)).alloc (.cells #[.func (.func 34) #[] #[.pointer (some ⟨w.heap.size + 1 + 1 + 1 + 1, 0, none⟩), .pointer (some ⟨w.heap.size + 1 + 1, 0, none⟩), .pointer (some ⟨w.heap.size + 1, 0, none⟩), .pointer (some ⟨w.heap.size + 1 + 1 + 1 + 1 + 1, 0, none⟩)]] 82)) (w.heap.size + 1 + 1 + 1 + 1 + 1) 82 #[.func (.func 34) #[] #[.pointer (some ⟨w.heap.size + 1 + 1 + 1 + 1, 0, none⟩), .pointer (some ⟨w.heap.size + 1 + 1, 0, none⟩), .pointer (some ⟨w.heap.size + 1, 0, none⟩), .pointer (some ⟨w.heap.size + 1 + 1 + 1 + 1 + 1, 0, none⟩)]])
  have hbm : bnd m ≤ 50000 := by
    have h8 : m = 0 ∨ m = 1 ∨ m = 2 ∨ m = 3 ∨ m = 4 ∨ m = 5 ∨ m = 6 ∨ m = 7 ∨ m = 8 := by omega
    rcases h8 with rfl | rfl | rfl | rfl | rfl | rfl | rfl | rfl | rfl <;> decide
  have H : Hid (Calls Try.prog 34 #[.int .i64 0, .pointer (some ⟨w.heap.size + 1 + 1 + 1 + 1, 0, none⟩), .pointer (some ⟨w.heap.size + 1 + 1, 0, none⟩), .pointer (some ⟨w.heap.size + 1, 0, none⟩), .pointer (some ⟨w.heap.size + 1 + 1 + 1 + 1 + 1, 0, none⟩)] ((((((w.alloc (.cells #[.slice a len cap] 47)).alloc (.cells #[.int .i64 (m : Int)] 3)).alloc (.cells #[.slice none 0 0] 22)).alloc (.cells #[.int .i64 0] 3)).alloc (.cells #[.func (.func 33) #[] #[.pointer (some ⟨w.heap.size + 1 + 1 + 1, 0, none⟩), .pointer (some ⟨w.heap.size, 0, none⟩)]] 81)).alloc (.cells #[.func (.func 34) #[] #[.pointer (some ⟨w.heap.size + 1 + 1 + 1 + 1, 0, none⟩), .pointer (some ⟨w.heap.size + 1 + 1, 0, none⟩), .pointer (some ⟨w.heap.size + 1, 0, none⟩), .pointer (some ⟨w.heap.size + 1 + 1 + 1 + 1 + 1, 0, none⟩)]] 82)) (ItemPost w ((((((w.alloc (.cells #[.slice a len cap] 47)).alloc (.cells #[.int .i64 (m : Int)] 3)).alloc (.cells #[.slice none 0 0] 22)).alloc (.cells #[.int .i64 0] 3)).alloc (.cells #[.func (.func 33) #[] #[.pointer (some ⟨w.heap.size + 1 + 1 + 1, 0, none⟩), .pointer (some ⟨w.heap.size, 0, none⟩)]] 81)).alloc (.cells #[.func (.func 34) #[] #[.pointer (some ⟨w.heap.size + 1 + 1 + 1 + 1, 0, none⟩), .pointer (some ⟨w.heap.size + 1 + 1, 0, none⟩), .pointer (some ⟨w.heap.size + 1, 0, none⟩), .pointer (some ⟨w.heap.size + 1 + 1 + 1 + 1 + 1, 0, none⟩)]] 82)) w.heap.size a len cap m 0 [] (bnd m))) :=
    hide (item_any hr m 0 (by omega) (by omega) (by omega) (by omega) (by omega) ((((((w.alloc (.cells #[.slice a len cap] 47)).alloc (.cells #[.int .i64 (m : Int)] 3)).alloc (.cells #[.slice none 0 0] 22)).alloc (.cells #[.int .i64 0] 3)).alloc (.cells #[.func (.func 33) #[] #[.pointer (some ⟨w.heap.size + 1 + 1 + 1, 0, none⟩), .pointer (some ⟨w.heap.size, 0, none⟩)]] 81)).alloc (.cells #[.func (.func 34) #[] #[.pointer (some ⟨w.heap.size + 1 + 1 + 1 + 1, 0, none⟩), .pointer (some ⟨w.heap.size + 1 + 1, 0, none⟩), .pointer (some ⟨w.heap.size + 1, 0, none⟩), .pointer (some ⟨w.heap.size + 1 + 1 + 1 + 1 + 1, 0, none⟩)]] 82)) 0 [] _ hD (by omega) (by simp; omega))
  have HBM := hide hbm
  clear hD hbm hr
  subst hdm
  go_enter Try.func20, Try.ntmps20
  go_wp2_with fail
  (with_reducible refine (unhide H).mono ?_)
  rintro e w5 ⟨rfl, E, at2, v5, hE, hEl, hat2, hD5, hB5⟩
  rw [List.nil_append] at hD5
  have c2 : w5.cell? ⟨w.heap.size + 1 + 1, 0, none⟩ = some v5 := hD5.o.cellv 0 _ rfl
  have HD5 := hide hD5
  clear H hD5
  go_wp2_with fail
  go_ret
  exact ⟨E, v5, rfl, hE, Nat.le_trans hEl HBM.out, HD5.out.s.mono (by omega), HD5.out.below⟩
end Go.Proofs.Yteggfobeaolafaa
