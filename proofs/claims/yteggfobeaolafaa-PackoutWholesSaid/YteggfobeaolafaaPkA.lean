/-
  Parts as values; event.Of, event.Plain.
-/
import Derived.Test.YteggfobeaolafaaRows
import Derived.Test.YteggfobeaolafaaWords
namespace Go.Proofs.Yteggfobeaolafaa
open Go.RowKit

/-- What Step may be handed. -/
inductive Part where
  | null
  | bool (b : Bool)
  | whole (neg : Bool) (mag : Int)
  | word (l : List UInt8)
  | blob (l : List UInt8)
  | begin_ (m : Bool) (n : Int)
  | close
  | odd
def Part.val : Part → Value
  | .null => .nilIface
  | .bool b => .iface 4 (.bool b)
  | .whole g m => .iface 53 (.agg #[.bool g, .int .u64 m])
  | .word l => .iface 64 (.string (S l))
  | .blob l => .iface 65 (.string (S l))
  | .begin_ m n => .iface 62 (.agg #[.bool m, .int .i64 n])
  | .close => .iface 67 (.agg #[])
  | .odd => .iface 3 (.int .i64 5)
/-- An Ev's cells. -/
def evV (k : Int) (y : Bool) (m : Int) (l : List UInt8) (c : Int) : Array Value := #[.int .i64 k, .bool y, .int .u64 m, .string (S l), .int .i64 c]
def Part.ev : Part → Array Value
  | .null => evV 0 false 0 [] 0
  | .bool b => evV 1 b 0 [] 0
  | .whole g m => evV 2 g m [] 0
  | .word l => evV 3 false 0 l 0
  | .blob l => evV 4 false 0 l 0
  | .begin_ m n => if n < -1 then evV 0 false 0 [] 0 else evV (if m then 6 else 5) false 0 [] n
  | .close => evV 7 false 0 [] 0
  | .odd => evV 0 false 0 [] 0
def Part.may : Part → Bool
  | .begin_ _ n => decide (-1 ≤ n)
  | .odd => false
  | _ => true

def Part.isBool : Part → Bool
  | .bool _ => true
  | _ => false
def Part.asBool : Part → Value
  | .bool b => .bool b
  | _ => .bool false
def Part.isWhole : Part → Bool
  | .whole _ _ => true
  | _ => false
def Part.asWhole : Part → Value
  | .whole g m => .agg #[.bool g, .int .u64 m]
  | _ => .agg #[.bool false, .int .u64 0]
def Part.isWord : Part → Bool
  | .word _ => true
  | _ => false
def Part.asWord : Part → Value
  | .word l => .string (S l)
  | _ => .string (S [])
def Part.isBlob : Part → Bool
  | .blob _ => true
  | _ => false
def Part.asBlob : Part → Value
  | .blob l => .string (S l)
  | _ => .string (S [])
def Part.isBegin : Part → Bool
  | .begin_ _ _ => true
  | _ => false
def Part.asBegin : Part → Value
  | .begin_ m n => .agg #[.bool m, .int .i64 n]
  | _ => .agg #[.bool false, .int .i64 0]
def Part.isClose : Part → Bool
  | .close => true
  | _ => false
theorem ta_bool (p : Part) (w : World) : (Instr.typeAssert p.val 20 4 true).run Try.prog w = .ok (.tuple #[p.asBool, .bool p.isBool]) w := by cases p <;> kernel_rfl
theorem ta_whole (p : Part) (w : World) : (Instr.typeAssert p.val 20 53 true).run Try.prog w = .ok (.tuple #[p.asWhole, .bool p.isWhole]) w := by cases p <;> kernel_rfl
theorem ta_word (p : Part) (w : World) : (Instr.typeAssert p.val 20 64 true).run Try.prog w = .ok (.tuple #[p.asWord, .bool p.isWord]) w := by cases p <;> kernel_rfl
theorem ta_blob (p : Part) (w : World) : (Instr.typeAssert p.val 20 65 true).run Try.prog w = .ok (.tuple #[p.asBlob, .bool p.isBlob]) w := by cases p <;> kernel_rfl
theorem ta_close (p : Part) (w : World) : (Instr.typeAssert p.val 20 67 true).run Try.prog w = .ok (.tuple #[.agg #[], .bool p.isClose]) w := by cases p <;> kernel_rfl
theorem ta_begin (p : Part) (w : World) : (Instr.typeAssert p.val 20 62 true).run Try.prog w = .ok (.tuple #[p.asBegin, .bool p.isBegin]) w := by cases p <;> kernel_rfl

theorem Below.more {B : Nat} {a w : World} (h : Below B a w) (hB : B ≤ a.heap.size) (o : Obj) : Below B a (w.alloc o) := h.alloc (Nat.le_trans hB h.size) o

set_option maxRecDepth 100000 in
set_option maxHeartbeats 1000000 in
theorem plain_any (p : Part) (w : World) : Calls Try.prog 23 #[p.val] w fun e w' => e = .returned (.tuple #[.agg p.ev, .bool p.may]) ∧ Below w.heap.size w w' := by
  cases p with
  | null =>
    unfold Part.val Part.ev Part.may evV
    have t1 := fun w => ta_bool Part.null w
    have t2 := fun w => ta_whole Part.null w
    have t3 := fun w => ta_word Part.null w
    have t4 := fun w => ta_blob Part.null w
    have t5 := fun w => ta_close Part.null w
    have t6 := fun w => ta_begin Part.null w
    simp only [Part.val, Part.asBool, Part.isBool, Part.asWhole, Part.isWhole, Part.asWord, Part.isWord, Part.asBlob, Part.isBlob, Part.isClose, Part.asBegin, Part.isBegin] at t1 t2 t3 t4 t5 t6
    go_enter Try.func23, Try.ntmps23
    go_wp2_with fail
    refine bodyPost_ret (v := .tuple #[.agg Part.null.ev, .bool true]) (by simp [results, Try.results23, go_sem]; try rfl) rfl ⟨rfl, ?_⟩
    repeat refine Below.more ?_ (Nat.le_refl _) _
    exact Below.refl _ _
  | bool b =>
    unfold Part.val Part.ev Part.may evV
    have t1 := fun w => ta_bool (Part.bool b) w
    have t2 := fun w => ta_whole (Part.bool b) w
    have t3 := fun w => ta_word (Part.bool b) w
    have t4 := fun w => ta_blob (Part.bool b) w
    have t5 := fun w => ta_close (Part.bool b) w
    have t6 := fun w => ta_begin (Part.bool b) w
    simp only [Part.val, Part.asBool, Part.isBool, Part.asWhole, Part.isWhole, Part.asWord, Part.isWord, Part.asBlob, Part.isBlob, Part.isClose, Part.asBegin, Part.isBegin] at t1 t2 t3 t4 t5 t6
    go_enter Try.func23, Try.ntmps23
    go_wp2_with fail
    refine bodyPost_ret (v := .tuple #[.agg (Part.bool b).ev, .bool true]) (by simp [results, Try.results23, go_sem]; try rfl) rfl ⟨rfl, ?_⟩
    repeat refine Below.more ?_ (Nat.le_refl _) _
    exact Below.refl _ _
  | whole g m =>
    unfold Part.val Part.ev Part.may evV
    have t1 := fun w => ta_bool (Part.whole g m) w
    have t2 := fun w => ta_whole (Part.whole g m) w
    have t3 := fun w => ta_word (Part.whole g m) w
    have t4 := fun w => ta_blob (Part.whole g m) w
    have t5 := fun w => ta_close (Part.whole g m) w
    have t6 := fun w => ta_begin (Part.whole g m) w
    simp only [Part.val, Part.asBool, Part.isBool, Part.asWhole, Part.isWhole, Part.asWord, Part.isWord, Part.asBlob, Part.isBlob, Part.isClose, Part.asBegin, Part.isBegin] at t1 t2 t3 t4 t5 t6
    go_enter Try.func23, Try.ntmps23
    go_wp2_with fail
    refine bodyPost_ret (v := .tuple #[.agg (Part.whole g m).ev, .bool true]) (by simp [results, Try.results23, go_sem]; try rfl) rfl ⟨rfl, ?_⟩
    repeat refine Below.more ?_ (Nat.le_refl _) _
    exact Below.refl _ _
  | word l =>
    unfold Part.val Part.ev Part.may evV
    have t1 := fun w => ta_bool (Part.word l) w
    have t2 := fun w => ta_whole (Part.word l) w
    have t3 := fun w => ta_word (Part.word l) w
    have t4 := fun w => ta_blob (Part.word l) w
    have t5 := fun w => ta_close (Part.word l) w
    have t6 := fun w => ta_begin (Part.word l) w
    simp only [Part.val, Part.asBool, Part.isBool, Part.asWhole, Part.isWhole, Part.asWord, Part.isWord, Part.asBlob, Part.isBlob, Part.isClose, Part.asBegin, Part.isBegin] at t1 t2 t3 t4 t5 t6
    go_enter Try.func23, Try.ntmps23
    go_wp2_with fail
    refine bodyPost_ret (v := .tuple #[.agg (Part.word l).ev, .bool true]) (by simp [results, Try.results23, go_sem]; try rfl) rfl ⟨rfl, ?_⟩
    repeat refine Below.more ?_ (Nat.le_refl _) _
    exact Below.refl _ _
  | blob l =>
    unfold Part.val Part.ev Part.may evV
    have t1 := fun w => ta_bool (Part.blob l) w
    have t2 := fun w => ta_whole (Part.blob l) w
    have t3 := fun w => ta_word (Part.blob l) w
    have t4 := fun w => ta_blob (Part.blob l) w
    have t5 := fun w => ta_close (Part.blob l) w
    have t6 := fun w => ta_begin (Part.blob l) w
    simp only [Part.val, Part.asBool, Part.isBool, Part.asWhole, Part.isWhole, Part.asWord, Part.isWord, Part.asBlob, Part.isBlob, Part.isClose, Part.asBegin, Part.isBegin] at t1 t2 t3 t4 t5 t6
    go_enter Try.func23, Try.ntmps23
    go_wp2_with fail
    refine bodyPost_ret (v := .tuple #[.agg (Part.blob l).ev, .bool true]) (by simp [results, Try.results23, go_sem]; try rfl) rfl ⟨rfl, ?_⟩
    repeat refine Below.more ?_ (Nat.le_refl _) _
    exact Below.refl _ _
  | begin_ m n =>
    by_cases hn : n < -1
    · have hm : (Part.begin_ m n).may = false := by simp [Part.may]; omega
      have he : (Part.begin_ m n).ev = evV 0 false 0 [] 0 := by simp [Part.ev, hn]
      rw [hm, he]
      clear hm he
      unfold Part.val evV
      have t1 := fun w => ta_bool (Part.begin_ m n) w
      have t2 := fun w => ta_whole (Part.begin_ m n) w
      have t3 := fun w => ta_word (Part.begin_ m n) w
      have t4 := fun w => ta_blob (Part.begin_ m n) w
      have t5 := fun w => ta_close (Part.begin_ m n) w
      have t6 := fun w => ta_begin (Part.begin_ m n) w
      simp only [Part.val, Part.asBool, Part.isBool, Part.asWhole, Part.isWhole, Part.asWord, Part.isWord, Part.asBlob, Part.isBlob, Part.isClose, Part.asBegin, Part.isBegin] at t1 t2 t3 t4 t5 t6
      go_enter Try.func23, Try.ntmps23
      go_wp2_with fail
      refine bodyPost_ret (v := .tuple #[.agg (evV 0 false 0 [] 0), .bool false]) (by simp [results, Try.results23, go_sem]; try rfl) rfl ⟨rfl, ?_⟩
      repeat refine Below.more ?_ (Nat.le_refl _) _
      exact Below.refl _ _
    · have hm : (Part.begin_ m n).may = true := by simp [Part.may]; omega
      cases m with
      | true =>
        have he : (Part.begin_ true n).ev = evV 6 false 0 [] n := by simp [Part.ev, hn]
        rw [hm, he]
        clear hm he
        unfold Part.val evV
        have t1 := fun w => ta_bool (Part.begin_ true n) w
        have t2 := fun w => ta_whole (Part.begin_ true n) w
        have t3 := fun w => ta_word (Part.begin_ true n) w
        have t4 := fun w => ta_blob (Part.begin_ true n) w
        have t5 := fun w => ta_close (Part.begin_ true n) w
        have t6 := fun w => ta_begin (Part.begin_ true n) w
        simp only [Part.val, Part.asBool, Part.isBool, Part.asWhole, Part.isWhole, Part.asWord, Part.isWord, Part.asBlob, Part.isBlob, Part.isClose, Part.asBegin, Part.isBegin] at t1 t2 t3 t4 t5 t6
        go_enter Try.func23, Try.ntmps23
        go_wp2_with fail
        refine bodyPost_ret (v := .tuple #[.agg (evV 6 false 0 [] n), .bool true]) (by simp [results, Try.results23, go_sem]; try rfl) rfl ⟨rfl, ?_⟩
        repeat refine Below.more ?_ (Nat.le_refl _) _
        exact Below.refl _ _
      | false =>
        have he : (Part.begin_ false n).ev = evV 5 false 0 [] n := by simp [Part.ev, hn]
        rw [hm, he]
        clear hm he
        unfold Part.val evV
        have t1 := fun w => ta_bool (Part.begin_ false n) w
        have t2 := fun w => ta_whole (Part.begin_ false n) w
        have t3 := fun w => ta_word (Part.begin_ false n) w
        have t4 := fun w => ta_blob (Part.begin_ false n) w
        have t5 := fun w => ta_close (Part.begin_ false n) w
        have t6 := fun w => ta_begin (Part.begin_ false n) w
        simp only [Part.val, Part.asBool, Part.isBool, Part.asWhole, Part.isWhole, Part.asWord, Part.isWord, Part.asBlob, Part.isBlob, Part.isClose, Part.asBegin, Part.isBegin] at t1 t2 t3 t4 t5 t6
        go_enter Try.func23, Try.ntmps23
        go_wp2_with fail
        refine bodyPost_ret (v := .tuple #[.agg (evV 5 false 0 [] n), .bool true]) (by simp [results, Try.results23, go_sem]; try rfl) rfl ⟨rfl, ?_⟩
        repeat refine Below.more ?_ (Nat.le_refl _) _
        exact Below.refl _ _
  | close =>
    unfold Part.val Part.ev Part.may evV
    have t1 := fun w => ta_bool Part.close w
    have t2 := fun w => ta_whole Part.close w
    have t3 := fun w => ta_word Part.close w
    have t4 := fun w => ta_blob Part.close w
    have t5 := fun w => ta_close Part.close w
    have t6 := fun w => ta_begin Part.close w
    simp only [Part.val, Part.asBool, Part.isBool, Part.asWhole, Part.isWhole, Part.asWord, Part.isWord, Part.asBlob, Part.isBlob, Part.isClose, Part.asBegin, Part.isBegin] at t1 t2 t3 t4 t5 t6
    go_enter Try.func23, Try.ntmps23
    go_wp2_with fail
    refine bodyPost_ret (v := .tuple #[.agg Part.close.ev, .bool true]) (by simp [results, Try.results23, go_sem]; try rfl) rfl ⟨rfl, ?_⟩
    repeat refine Below.more ?_ (Nat.le_refl _) _
    exact Below.refl _ _
  | odd =>
    unfold Part.val Part.ev Part.may evV
    have t1 := fun w => ta_bool Part.odd w
    have t2 := fun w => ta_whole Part.odd w
    have t3 := fun w => ta_word Part.odd w
    have t4 := fun w => ta_blob Part.odd w
    have t5 := fun w => ta_close Part.odd w
    have t6 := fun w => ta_begin Part.odd w
    simp only [Part.val, Part.asBool, Part.isBool, Part.asWhole, Part.isWhole, Part.asWord, Part.isWord, Part.asBlob, Part.isBlob, Part.isClose, Part.asBegin, Part.isBegin] at t1 t2 t3 t4 t5 t6
    go_enter Try.func23, Try.ntmps23
    go_wp2_with fail
    refine bodyPost_ret (v := .tuple #[.agg Part.odd.ev, .bool false]) (by simp [results, Try.results23, go_sem]; try rfl) rfl ⟨rfl, ?_⟩
    repeat refine Below.more ?_ (Nat.le_refl _) _
    exact Below.refl _ _

/-- The part that an Ev is. -/
def partOf (k : Int) (y : Bool) (m : Int) (l : List UInt8) (c : Int) : Option Part :=
  if k = 0 then some .null
  else if k = 1 then some (.bool y)
  else if k = 2 then some (.whole y m)
  else if k = 3 then some (.word l)
  else if k = 4 then some (.blob l)
  else if k = 5 ∨ k = 6 then (if c < -1 then none else some (.begin_ (decide (k = 6)) c))
  else if k = 7 then some .close
  else none
def optVal : Option Part → Value
  | none => .nilIface
  | some p => p.val
set_option maxRecDepth 100000 in
theorem of_any (k : Int) (y : Bool) (m : Int) (l : List UInt8) (c : Int) (w : World) (r : Option Part) (hr : r = partOf k y m l c) :
    Calls Try.prog 11 #[.agg (evV k y m l c)] w fun e w' => e = .returned (.tuple #[optVal r, .bool r.isSome]) ∧ Below w.heap.size w w' := by
  unfold evV
  unfold partOf at hr
  by_cases h0 : k = 0
  · rw [if_pos h0] at hr
    subst h0 hr
    go_enter Try.func11, Try.ntmps11
    go_wp2_with fail
    go_ret2
    exact ⟨rfl, (Below.refl _ _).alloc (Nat.le_refl _) _⟩
  rw [if_neg h0] at hr
  have e0 : (k == 0) = false := by simpa using h0
  by_cases h1 : k = 1
  · rw [if_pos h1] at hr
    subst h1 hr
    go_enter Try.func11, Try.ntmps11
    go_wp2_with fail
    go_ret2
    exact ⟨rfl, (Below.refl _ _).alloc (Nat.le_refl _) _⟩
  rw [if_neg h1] at hr
  have e1 : (k == 1) = false := by simpa using h1
  by_cases h2 : k = 2
  · rw [if_pos h2] at hr
    subst h2 hr
    go_enter Try.func11, Try.ntmps11
    go_wp2_with fail
    go_ret2
    exact ⟨rfl, (Below.refl _ _).alloc (Nat.le_refl _) _⟩
  rw [if_neg h2] at hr
  have e2 : (k == 2) = false := by simpa using h2
  by_cases h3 : k = 3
  · rw [if_pos h3] at hr
    subst h3 hr
    go_enter Try.func11, Try.ntmps11
    go_wp2_with fail
    go_ret2
    exact ⟨rfl, (Below.refl _ _).alloc (Nat.le_refl _) _⟩
  rw [if_neg h3] at hr
  have e3 : (k == 3) = false := by simpa using h3
  by_cases h4 : k = 4
  · rw [if_pos h4] at hr
    subst h4 hr
    go_enter Try.func11, Try.ntmps11
    go_wp2_with fail
    go_ret2
    exact ⟨rfl, (Below.refl _ _).alloc (Nat.le_refl _) _⟩
  rw [if_neg h4] at hr
  have e4 : (k == 4) = false := by simpa using h4
  by_cases h5 : k = 5
  · rw [if_pos (.inl h5)] at hr
    subst h5
    by_cases hc : c < -1
    · rw [if_pos hc] at hr
      subst hr
      go_enter Try.func11, Try.ntmps11
      go_wp2_with fail
      go_ret2
      exact ⟨rfl, (Below.refl _ _).alloc (Nat.le_refl _) _⟩
    · rw [if_neg hc] at hr
      subst hr
      go_enter Try.func11, Try.ntmps11
      go_wp2_with fail
      go_ret2
      exact ⟨rfl, (Below.refl _ _).alloc (Nat.le_refl _) _⟩
  have e5 : (k == 5) = false := by simpa using h5
  by_cases h6 : k = 6
  · rw [if_pos (.inr h6)] at hr
    subst h6
    by_cases hc : c < -1
    · rw [if_pos hc] at hr
      subst hr
      go_enter Try.func11, Try.ntmps11
      go_wp2_with fail
      go_ret2
      exact ⟨rfl, (Below.refl _ _).alloc (Nat.le_refl _) _⟩
    · rw [if_neg hc] at hr
      subst hr
      go_enter Try.func11, Try.ntmps11
      go_wp2_with fail
      go_ret2
      exact ⟨rfl, (Below.refl _ _).alloc (Nat.le_refl _) _⟩
  rw [if_neg (by omega)] at hr
  have e6 : (k == 6) = false := by simpa using h6
  by_cases h7 : k = 7
  · rw [if_pos h7] at hr
    subst h7 hr
    go_enter Try.func11, Try.ntmps11
    go_wp2_with fail
    go_ret2
    exact ⟨rfl, (Below.refl _ _).alloc (Nat.le_refl _) _⟩
  rw [if_neg h7] at hr
  have e7 : (k == 7) = false := by simpa using h7
  subst hr
  go_enter Try.func11, Try.ntmps11
  go_wp2_with fail
  go_ret2
  exact ⟨rfl, (Below.refl _ _).alloc (Nat.le_refl _) _⟩
end Go.Proofs.Yteggfobeaolafaa
