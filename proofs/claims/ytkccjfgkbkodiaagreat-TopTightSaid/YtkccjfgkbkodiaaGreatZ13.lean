/-
  PkI · Par · ParB: parts of the walk of TopTight, under no condition.
-/
import Derived.Test.YtkccjfgkbkodiaaGreatZ07
import Derived.Test.YtkccjfgkbkodiaaGreatZ09
import Derived.Test.YtkccjfgkbkodiaaGreatZ10
import Derived.Test.YtkccjfgkbkodiaaGreatZ11
import Derived.Test.YtkccjfgkbkodiaaGreatZ12
namespace Go.Proofs.YtkccjfgkbkodiaaGreat
open Go.RowKit
/-- Its numbers lie in their types, its texts are not too long. -/
def Part.fits : Part → Bool
  | .whole _ m => decide (0 ≤ m ∧ m < 18446744073709551616)
  | .word l => decide (l.length ≤ 1000000)
  | .blob l => decide (l.length ≤ 1000000)
  | .begin_ _ n => decide (n ≤ 9223372036854775807)
  | _ => true
def partR : Part → List UInt8 × Int
  | .begin_ m n => beginR m n
  | pt => plainR pt
def Part.opens : Part → List Cont
  | .begin_ m n => [⟨m, n, 0⟩]
  | _ => []
theorem partR_two (pt : Part) : (partR pt).2 = 0 ∨ partR pt = ([], 7) := by
  cases pt <;> simp only [partR, plainR, true_or]
  · rename_i g m
    split
    · unfold belowR; split <;> simp
    · split <;> simp
  · unfold beginR; split <;> simp
/-- The error, the bytes, the open containers (the innermost first), whether it is done. -/
def stepC (R : List Cont) (d : Bool) (pt : Part) : Int × List UInt8 × List Cont × Bool :=
  if pt.may = false ∨ d = true then (14, [], R, d)
  else if pt.isClose then
    match R with
    | [] => (14, [], R, d)
    | c :: M => if c.full then (0, [], M, decide (M = [])) else (14, [], R, d)
  else
    match R with
    | [] => if (partR pt).2 = 0 then (0, (partR pt).1, pt.opens, !pt.isBegin) else (7, [], R, d)
    | c :: M => if c.full then (14, [], R, d) else if c.takes pt = false then (8, [], R, d) else if (partR pt).2 = 0 then (0, (partR pt).1, pt.opens ++ c.more :: M, false) else (7, [], R, d)
def SmallC (R : List Cont) : Prop := (∀ c ∈ R, c.parts ≤ 1000000) ∧ R.length ≤ 1000000
theorem step_any {w : World} {B p : Nat} {v : Value} {R : List Cont} {d : Bool} (h : Wr w B p v R.reverse d) (hs : SmallC R) (pt : Part) (hfit : pt.fits = true) (k : Int) (out : List UInt8) (R' : List Cont) (d' : Bool) (hr : (k, out, R', d') = stepC R d pt) :
    Calls Tryz.prog 283 #[.pointer (some ⟨p, 0, none⟩), pt.val] w fun e w' => e = .returned (.tuple #[.string (S out), .int .i64 k]) ∧ ∃ v', Wr w' B p v' R'.reverse d' ∧ Only (p :: slB v) w w' ∧ ∀ k ∈ slB v', k ∈ slB v ∨ w.heap.size ≤ k := by
  have still : ∀ {e : Ending} {w' : World} {k0 : Int}, (k, out, R', d') = (k0, [], R, d) → (e = .returned (.tuple #[.string (S []), .int .i64 k0]) ∧ Below w.heap.size w w') → e = .returned (.tuple #[.string (S out), .int .i64 k]) ∧ ∃ v', Wr w' B p v' R'.reverse d' ∧ Only (p :: slB v) w w' ∧ ∀ k ∈ slB v', k ∈ slB v ∨ w.heap.size ≤ k := by
    intro e w' k0 he hw
    obtain ⟨rfl, hb⟩ := hw
    injection he with e1 he
    injection he with e2 he
    injection he with e3 e4
    subst e1 e2 e3 e4
    exact ⟨rfl, v, h.below hb, Only.ofBelow hb, fun k hk => .inl hk⟩
  unfold stepC at hr
  by_cases hbad : pt.may = false ∨ d = true
  · rw [if_pos hbad] at hr
    exact (step_bad h pt hbad).mono fun e w' hw => still hr hw
  rw [if_neg hbad] at hr
  have hmay : pt.may = true := by cases hm : pt.may with
    | true => rfl
    | false => exact absurd (.inl hm) hbad
  have hd : d = false := by cases hm : d with
    | false => rfl
    | true => exact absurd (.inr hm) hbad
  subst hd
  cases hcl : pt.isClose with
  | true =>
    rw [if_pos hcl] at hr
    have hpt : pt = .close := by cases pt <;> simp [Part.isClose] at hcl; rfl
    subst hpt
    cases R with
    | nil => exact (step_close_empty h).mono fun e w' hw => still hr hw
    | cons c M =>
      have hp := hs.1 c (List.mem_cons_self ..)
      have hl : M.reverse.length ≤ 1000000 := by have := hs.2; simp at this ⊢; omega
      rw [List.reverse_cons] at h
      simp only at hr
      cases he : c.full with
      | false =>
        rw [he] at hr
        exact (step_close_no h hp hl he).mono fun e w' hw => still hr hw
      | true =>
        rw [he, if_pos rfl] at hr
        injection hr with e1 hr
        injection hr with e2 hr
        injection hr with e3 e4
        subst e1 e2 e3 e4
        refine (step_close_yes h hp hl he _ rfl).mono fun e w' hw => ?_
        obtain ⟨rfl, v', h1, h2, h3⟩ := hw
        refine ⟨rfl, v', ?_, h2, fun k hk => .inl (h3 k hk)⟩
        simpa using h1
  | false =>
    rw [hcl] at hr
    simp only [Bool.false_eq_true, if_false] at hr
    have plain : ∀ r k, (r, k) = plainR pt → ∀ W, Calls Tryz.prog 286 #[pt.val] W fun e w' => e = .returned (.tuple #[.string (S r), .int .i64 k]) ∧ Below W.heap.size W w' := fun r k hrk W =>
      cplain_any pt hcl hmay (fun g m e => by subst e; simpa [Part.fits] using hfit) (fun l e => by rcases e with rfl | rfl <;> simpa [Part.fits] using hfit) W r k hrk
    have isplain : pt.isBegin = false → partR pt = plainR pt ∧ pt.opens = [] := fun hb =>
      ⟨by cases pt <;> first | rfl | simp [Part.isBegin] at hb, by cases pt <;> first | rfl | simp [Part.isBegin] at hb⟩
    have begins : pt.isBegin = true → ∃ m n, pt = .begin_ m n ∧ -1 ≤ n ∧ n ≤ 9223372036854775807 := fun hb => by
      cases pt <;> simp [Part.isBegin] at hb
      exact ⟨_, _, rfl, by simpa [Part.may] using hmay, by simpa [Part.fits] using hfit⟩
    have two := partR_two pt
    cases R with
    | nil =>
      simp only at hr
      by_cases hz : (partR pt).2 = 0
      · rw [if_pos hz] at hr
        injection hr with e1 hr
        injection hr with e2 hr
        injection hr with e3 e4
        subst e1 e2 e3 e4
        cases hb : pt.isBegin with
        | false =>
          obtain ⟨e1, e2⟩ := isplain hb
          rw [e2]
          exact (step_plain_nil h pt hmay hcl hb _ (plain _ 0 (by rw [← e1, ← hz]))).mono fun e w' hw => ⟨hw.1, v, hw.2.1, hw.2.2, fun k hk => .inl hk⟩
        | true =>
          obtain ⟨m, n, rfl, h1, h2⟩ := begins hb
          exact step_begin_nil h m n h1 _ (plain [0xc0] 0 rfl) (fun W => begin_any m n h2 h1 W _ 0 (by rw [← hz]; rfl))
      · rw [if_neg hz] at hr
        have h7 := two.resolve_left hz
        cases hb : pt.isBegin with
        | false =>
          obtain ⟨e1, e2⟩ := isplain hb
          exact (step_perr_nil h pt hmay hcl hb (plain _ 7 (by rw [← e1, h7]))).mono fun e w' hw => still hr hw
        | true =>
          obtain ⟨m, n, rfl, h1, h2⟩ := begins hb
          exact (step_berr_nil h m n h1 (plain [0xc0] 0 rfl) (fun W => begin_any m n h2 h1 W _ 7 (by rw [← h7]; rfl))).mono fun e w' hw => still hr hw
    | cons c M =>
      have hp := hs.1 c (List.mem_cons_self ..)
      have hl : M.reverse.length ≤ 1000000 := by have := hs.2; simp at this ⊢; omega
      rw [List.reverse_cons] at h
      simp only at hr
      cases hf : c.full with
      | true =>
        rw [hf, if_pos rfl] at hr
        exact (step_full h hp hl pt hmay hcl hf).mono fun e w' hw => still hr hw
      | false =>
        rw [hf] at hr
        simp only [Bool.false_eq_true, if_false] at hr
        cases ht : c.takes pt with
        | false =>
          rw [if_pos ht] at hr
          exact (step_kind h hp hl pt hmay hcl hf ht).mono fun e w' hw => still hr hw
        | true =>
          rw [ht, if_neg (by decide)] at hr
          by_cases hz : (partR pt).2 = 0
          · rw [if_pos hz] at hr
            injection hr with e1 hr
            injection hr with e2 hr
            injection hr with e3 e4
            subst e1 e2 e3 e4
            cases hb : pt.isBegin with
            | false =>
              obtain ⟨e1, e2⟩ := isplain hb
              rw [e2]
              refine (step_plain_top h hp hl pt hmay hcl hb hf ht _ (plain _ 0 (by rw [← e1, ← hz]))).mono fun e w' hw => ⟨hw.1, v, ?_, hw.2.2, fun k hk => .inl hk⟩
              simpa using hw.2.1
            | true =>
              obtain ⟨m, n, rfl, h1, h2⟩ := begins hb
              refine (step_begin_top h hp hl m n h1 hf ht _ (plain [0xc0] 0 rfl) (fun W => begin_any m n h2 h1 W _ 0 (by rw [← hz]; rfl))).mono fun e w' hw => ?_
              obtain ⟨rfl, v', h3, h4, h5⟩ := hw
              refine ⟨rfl, v', ?_, h4, h5⟩
              simpa [Part.opens] using h3
          · rw [if_neg hz] at hr
            have h7 := two.resolve_left hz
            cases hb : pt.isBegin with
            | false =>
              obtain ⟨e1, e2⟩ := isplain hb
              exact (step_perr_top h hp hl pt hmay hcl hb hf ht (plain _ 7 (by rw [← e1, h7]))).mono fun e w' hw => still hr hw
            | true =>
              obtain ⟨m, n, rfl, h1, h2⟩ := begins hb
              exact (step_berr_top h hp hl m n h1 hf ht (plain [0xc0] 0 rfl) (fun W => begin_any m n h2 h1 W _ 7 (by rw [← h7]; rfl))).mono fun e w' hw => still hr hw
end Go.Proofs.YtkccjfgkbkodiaaGreat
namespace Go.Proofs.YtkccjfgkbkodiaaGreat
open Go.RowKit
structure Par where
  l : Lex
  maps : List Bool
  next : Int
  e : Int
def boolsL (R : List Bool) : List Value := R.reverse.map Value.bool
theorem boolsL_length (R : List Bool) : (boolsL R).length = R.length * 1 := by simp [boolsL]
def Par.behind (p : Par) : Par := { p with next := if p.maps = [] then 6 else 5 }
def Par.value (p : Par) (d : Nat) (t : Tok) : Par × Option Part :=
  if t.kind = 91 ∨ t.kind = 123 then
    if p.maps.length = d then ({ p with e := 4 }, none)
    else ({ p with maps := decide (t.kind = 123) :: p.maps, next := if t.kind = 123 then 2 else 1 }, some (.begin_ (decide (t.kind = 123)) (-1)))
  else if t.kind = 115 then (p.behind, some (.word t.text))
  else if t.kind = 110 then (p.behind, some (.whole t.neg t.mag))
  else if t.kind = 116 ∨ t.kind = 102 then (p.behind, some (.bool (decide (t.kind = 116))))
  else if t.kind = 48 then (p.behind, some .null)
  else ({ p with e := 2 }, none)
def Par.token (p : Par) (d : Nat) (t : Tok) : Par × Option Part :=
  if t.kind = 58 ∧ p.next = 4 then ({ p with next := 0 }, none)
  else if t.kind = 44 ∧ p.next = 5 then ({ p with next := if p.maps.head? = some true then 3 else 0 }, none)
  else if (t.kind = 93 ∧ p.maps.head? = some false ∧ (p.next = 1 ∨ p.next = 5)) ∨ (t.kind = 125 ∧ p.maps.head? = some true ∧ (p.next = 2 ∨ p.next = 5)) then
    (({ p with maps := p.maps.tail } : Par).behind, some .close)
  else if t.kind = 115 ∧ (p.next = 3 ∨ p.next = 2) then ({ p with next := 4 }, some (.word t.text))
  else if p.next ≠ 0 ∧ p.next ≠ 1 then ({ p with e := 2 }, none)
  else p.value d t
def Par.parts (d : Nat) : Par → List Tok → List Part → Int → Par × List Part × Int
  | p, [], out, e => ({ p with e := e }, out, e)
  | p, t :: ts, out, e => if (p.token d t).1.e ≠ 0 then ((p.token d t).1, out, (p.token d t).1.e) else Par.parts d (p.token d t).1 ts (out ++ (p.token d t).2.toList) e
/-- What a parser always is. -/
structure Par.Ok (p : Par) (d : Nat) : Prop where
  five : p.next = 5 → p.maps ≠ []
  deep : p.maps.length ≤ d
theorem LexT.row {w : World} {b : Nat} {F : List Nat} {post es : List Value} {x : Lex} {a v : Value} (h : LexM w b post x es a v) (ht : LexT w b F es a v) {w' : World} (ho : Only [b] w w') : LexT w' b F es a v := by
  have hout := LexT.out h ht
  obtain ⟨l, h1, h2⟩ := ht.own
  exact ⟨ht.esc, ht.addr, ⟨l, row_only h1 ho fun k hk hm => hout (List.mem_singleton.1 hm ▸ hk), h2⟩, ht.sub⟩
/-- The cells behind the lexer. -/
theorem LexIs.post {w : World} {b : Nat} {F : List Nat} {post : List Value} {x : Lex} (h : LexIs w b F post x) :
    ∃ pre, pre.length = 23 ∧ Mid w b 201 pre post [] 23 ∧ ∀ (w' : World) (post' : List Value), Only [b] w w' → Mid w' b 201 pre post' [] 23 → LexIs w' b F post' x := by
  obtain ⟨es, a, v, hm, ht⟩ := h
  have hl : (x.enc es a v).length = 23 := by simp [Lex.enc, Num.enc, hm.len]
  refine ⟨x.enc es a v, hl, ⟨hl.symm, by simpa using hm.mid.2⟩, fun w' post' ho h' => ⟨es, a, v, ⟨⟨rfl, by simpa using h'.2⟩, hm.len, hm.ok, hm.e0, hm.e10⟩, fun h1 h2 => (ht h1 h2).row hm ho⟩⟩
structure ParM (w : World) (b : Nat) (F : List Nat) (d : Nat) (p : Par) (mv : Value) : Prop where
  lex : LexIs w b F [.int .i64 d, mv, .int .i64 p.next, .int .i64 p.e] p.l
  row : SlN w 0 4 1 mv p.maps.length (boolsL p.maps)
  sub : ∀ k ∈ slB mv, k ∈ F
def ParIs (w : World) (b : Nat) (F : List Nat) (d : Nat) (p : Par) : Prop := ∃ mv, ParM w b F d p mv
section
variable {w w' : World} {b d : Nat} {F T : List Nat} {p : Par} {mv : Value}
theorem ParM.keep (h : ParM w b F d p mv) (ho : Only T w w') (hb : b ∉ T) (hd : ∀ k ∈ F, k ∉ T) : ParM w' b F d p mv :=
  ⟨h.lex.keep ho hb hd, h.row.keep ho fun k hk => hd k (h.sub k hk), h.sub⟩
theorem ParIs.keep (h : ParIs w b F d p) (ho : Only T w w') (hb : b ∉ T) (hd : ∀ k ∈ F, k ∉ T) : ParIs w' b F d p := by
  obtain ⟨mv, h⟩ := h
  exact ⟨mv, h.keep ho hb hd⟩
theorem ParM.new (h : ParM w b F d p mv) (ho : Only [] w w') : ParM w' b F d p mv := h.keep ho (by simp) (by simp)
theorem ParM.mid (h : ParM w b F d p mv) : ∃ pre, Mid w b 201 pre [.int .i64 d, mv, .int .i64 p.next, .int .i64 p.e] [] 23 := by
  obtain ⟨pre, _, hm, _⟩ := h.lex.post
  exact ⟨pre, hm⟩
theorem ParM.out (h : ParM w b F d p mv) : b ∉ slB mv := by
  obtain ⟨pre, hm⟩ := h.mid
  exact h.row.notBlk hm.2 (by decide)
theorem ParM.setnext (h : ParM w b F d p mv) (k : Int) : ParM (w.setCell ⟨b, 25, none⟩ (.int .i64 k)) b F d { p with next := k } mv := by
  obtain ⟨pre, _, hm, hb⟩ := h.lex.post
  have ho : Only [b] w (w.setCell ⟨b, 25, none⟩ (.int .i64 k)) := (Only.refl _ w).setCell (p := ⟨b, 25, none⟩) (by simp) _
  exact ⟨hb _ _ ho (hm.set 2 (by simp) _), h.row.keep ho fun k hk hm => h.out (List.mem_singleton.1 hm ▸ hk), h.sub⟩
theorem ParM.seterr (h : ParM w b F d p mv) (k : Int) : ParM (w.setCell ⟨b, 26, none⟩ (.int .i64 k)) b F d { p with e := k } mv := by
  obtain ⟨pre, _, hm, hb⟩ := h.lex.post
  have ho : Only [b] w (w.setCell ⟨b, 26, none⟩ (.int .i64 k)) := (Only.refl _ w).setCell (p := ⟨b, 26, none⟩) (by simp) _
  exact ⟨hb _ _ ho (hm.set 3 (by simp) _), h.row.keep ho fun k hk hm => h.out (List.mem_singleton.1 hm ▸ hk), h.sub⟩
/-- The list of containers is another one. -/
theorem LexIs.setmaps {mv' : Value} {R : List Bool} (h : LexIs w b F [.int .i64 d, mv, .int .i64 p.next, .int .i64 p.e] p.l) (hr : SlN w 0 4 1 mv' R.length (boolsL R)) : ParM (w.setCell ⟨b, 24, none⟩ mv') b (slB mv' ++ F) d { p with maps := R } mv' := by
  obtain ⟨pre, _, hm, hb⟩ := h.post
  have ho : Only [b] w (w.setCell ⟨b, 24, none⟩ mv') := (Only.refl _ w).setCell (p := ⟨b, 24, none⟩) (by simp) _
  have hout : b ∉ slB mv' := hr.notBlk hm.2 (by decide)
  refine ⟨?_, hr.keep ho fun k hk hm => hout (List.mem_singleton.1 hm ▸ hk), fun k hk => List.mem_append_left _ hk⟩
  have h9 := hb _ _ ho (hm.set 1 (by simp) mv')
  obtain ⟨es, a, v, h1, h2⟩ := h9
  exact ⟨es, a, v, h1, fun h3 h4 => ⟨(h2 h3 h4).esc, (h2 h3 h4).addr, (h2 h3 h4).own, fun k hk => List.mem_append_right _ ((h2 h3 h4).sub k hk)⟩⟩
end
theorem SlN.init {w : World} {base : Nat} {t : TypeId} {g off n cap : Nat} {xs : List Value} {u : Value} (h : SlN w base t 1 (.slice (some ⟨g, off, none⟩) (n + 1) cap) (n + 1) (xs ++ [u])) : SlN w base t 1 (.slice (some ⟨g, off, none⟩) n cap) n xs := by
  rcases h with ⟨hv, _⟩ | ⟨g', off', cap', cs, hv, hb, hg, h1, h2, h3, h4, h5⟩
  · cases hv
  · injection hv with e1 e2 e3
    injection e1 with e1
    injection e1 with e4 e5
    subst e3 e4 e5
    simp only [List.length_append, List.length_singleton] at h4 h5
    refine .inr ⟨g, off, cap, cs, rfl, hb, hg, h1, by omega, h3, by omega, fun j hj => ?_⟩
    rw [h5 j (by omega), List.getElem?_append_left hj]
end Go.Proofs.YtkccjfgkbkodiaaGreat
namespace Go.Proofs.YtkccjfgkbkodiaaGreat
open Go.RowKit
def ParPost (w : World) (b : Nat) (F : List Nat) (d : Nat) (r : Par × Option Part) (e : Ending) (w' : World) : Prop :=
  e = .returned (.tuple #[optVal r.2, .bool r.2.isSome]) ∧ ∃ F', ParIs w' b F' d r.1 ∧ Only (b :: F) w w' ∧ ∀ k ∈ F', k ∈ F ∨ w.heap.size ≤ k
theorem ParPost.of {w w' : World} {b d : Nat} {F F' : List Nat} {r : Par × Option Part} {e : Ending} {mv : Value} (he : e = .returned (.tuple #[optVal r.2, .bool r.2.isSome])) (h : ParM w' b F' d r.1 mv) (ho : Only (b :: F) w w') (hf : ∀ k ∈ F', k ∈ F ∨ w.heap.size ≤ k) : ParPost w b F d r e w' := ⟨he, F', ⟨mv, h⟩, ho, hf⟩
def tokV (t : Tok) : Value := .agg #[.int .u8 t.kind, .string (S t.text), .bool t.neg, .int .u64 (t.mag : Int)]
theorem info_bool : (Tryz.prog.info? 4).map (fun i => (i.zero, i.size, i.bytes)) = some (some (.bool false), 1, 1) := by kernel_rfl
set_option maxRecDepth 100000 in
set_option maxHeartbeats 2000000 in
theorem par_behind {w : World} {b d : Nat} {F : List Nat} {p : Par} {mv : Value} (h : ParM w b F d p mv) :
    Calls Tryz.prog 155 #[.pointer (some ⟨b, 0, none⟩)] w fun e w' => e = .returned (.tuple #[]) ∧ ParM w' b F d p.behind mv ∧ Only [b] w w' := by
  obtain ⟨pre, hm⟩ := h.mid
  obtain ⟨ma, mc, rfl⟩ := h.row.form
  obtain ⟨n, hn⟩ : ∃ n, n = p.maps.length := ⟨_, rfl⟩
  rw [← hn] at h hm ⊢
  have c24 : w.cell? ⟨b, 24, none⟩ = some (.slice ma n mc) := hm.cell 1 _ rfl
  have c25 : w.cell? ⟨b, 25, none⟩ = some (.int .i64 p.next) := hm.cell 2 _ rfl
  have f25 := hm.frozen 25
  have H := hide h
  clear h hm
  by_cases h0 : n = 0
  · have hb : p.behind = { p with next := 6 } := by unfold Par.behind; rw [if_pos (List.eq_nil_of_length_eq_zero (hn.symm.trans h0))]
    have HB := hide hb
    have e1 : ((n : Int) == 0) = true := by simp [h0]
    clear hb h0 hn
    go_enter Tryz.func155, Tryz.ntmps155
    go_wp2_with fail
    go_end0
    rw [HB.out]
    exact ⟨rfl, (H.out.setnext 5).setnext 6, ((Only.refl _ w).setCell (p := ⟨b, 25, none⟩) (by simp) _).setCell (p := ⟨b, 25, none⟩) (by simp) _⟩
  · have hb : p.behind = { p with next := 5 } := by unfold Par.behind; rw [if_neg (fun h9 => h0 (by rw [hn, h9]; rfl))]
    have HB := hide hb
    have e1 : ((n : Int) == 0) = false := by simp; omega
    clear hb h0 hn
    go_enter Tryz.func155, Tryz.ntmps155
    go_wp2_with fail
    go_end0
    rw [HB.out]
    exact ⟨rfl, H.out.setnext 5, (Only.refl _ w).setCell (p := ⟨b, 25, none⟩) (by simp) _⟩
set_option maxRecDepth 100000 in
set_option maxHeartbeats 4000000 in
theorem par_value {w : World} {b d : Nat} {F : List Nat} {p : Par} {mv : Value} (h : ParM w b F d p mv) (hk : p.Ok d) (hd : d ≤ 100) (t : Tok) :
    Calls Tryz.prog 156 #[.pointer (some ⟨b, 0, none⟩), tokV t] w (ParPost w b F d (p.value d t)) := by
  obtain ⟨k, tx, ng, mg⟩ := t
  obtain ⟨R, hR⟩ : ∃ r, p.value d ⟨k, tx, ng, mg⟩ = r := ⟨_, rfl⟩
  rw [hR]
  unfold Par.value at hR
  unfold tokV
  simp only at hR ⊢
  obtain ⟨pre, hm⟩ := h.mid
  obtain ⟨ma, mc, rfl⟩ := h.row.form
  obtain ⟨n, hn⟩ : ∃ n, n = p.maps.length := ⟨_, rfl⟩
  have hnd : n ≤ d := hn ▸ hk.deep
  rw [← hn] at hR h hm
  have c23 : w.cell? ⟨b, 23, none⟩ = some (.int .i64 d) := hm.cell0 _ rfl
  have c24 : w.cell? ⟨b, 24, none⟩ = some (.slice ma n mc) := hm.cell 1 _ rfl
  have c25 : w.cell? ⟨b, 25, none⟩ = some (.int .i64 p.next) := hm.cell 2 _ rfl
  have c26 : w.cell? ⟨b, 26, none⟩ = some (.int .i64 p.e) := hm.cell 3 _ rfl
  have f24 := hm.frozen 24
  have f25 := hm.frozen 25
  have f26 := hm.frozen 26
  have lb := hm.lt
  have H := hide h
  have HN := hide hn
  have HND := hide hnd
  have HD := hide hd
  clear h hm hk hn hnd hd
  have lb2 : b ≠ w.heap.size := by omega
  by_cases h91 : k = 91 ∨ k = 123
  · rw [if_pos h91] at hR
    by_cases hnd : n = d
    · rw [if_pos hnd] at hR
      have ed : ((n : Int) == (d : Int)) = true := by simp [hnd]
      clear hnd
      rcases h91 with rfl | rfl
      · go_enter Tryz.func156, Tryz.ntmps156
        go_wp2_with fail
        go_quiet (fail)
        go_wp2_with fail
        go_ret2
        subst hR
        refine ParPost.of rfl ((H.out.new (((Only.refl [] w).alloc _).drewN _)).seterr 4) (((((Only.refl _ w).alloc _).drewN _).setCell (p := ⟨b, 26, none⟩) (by simp) _)) (fun k hk => .inl hk)
      · go_enter Tryz.func156, Tryz.ntmps156
        go_wp2_with fail
        go_quiet (fail)
        go_wp2_with fail
        go_ret2
        subst hR
        refine ParPost.of rfl ((H.out.new (((Only.refl [] w).alloc _).drewN _)).seterr 4) (((((Only.refl _ w).alloc _).drewN _).setCell (p := ⟨b, 26, none⟩) (by simp) _)) (fun k hk => .inl hk)
    · rw [if_neg hnd] at hR
      have ed : ((n : Int) == (d : Int)) = false := by simp; omega
      clear hnd
      rcases h91 with rfl | rfl
      · simp at hR
        go_enter Tryz.func156, Tryz.ntmps156
        go_wp2_with fail
        go_quiet (fail)
        have h1 := H.out.new (((Only.refl [] w).alloc (.cells #[.int .u8 91, .string (S tx), .bool ng, .int .u64 mg] 237)).drewN nq)
        have bt : Blk ((w.alloc (.cells #[.int .u8 91, .string (S tx), .bool ng, .int .u64 mg] 237)).drewN nq) w.heap.size 237 #[.int .u8 91, .string (S tx), .bool ng, .int .u64 mg] := Blk.new w _ _
        obtain ⟨pre1, hm1⟩ := h1.mid
        have d24 : ((w.alloc (.cells #[.int .u8 91, .string (S tx), .bool ng, .int .u64 mg] 237)).drewN nq).cell? ⟨b, 24, none⟩ = some (.slice ma n mc) := hm1.cell 1 _ rfl
        have bt0 : ((w.alloc (.cells #[.int .u8 91, .string (S tx), .bool ng, .int .u64 mg] 237)).drewN nq).cell? ⟨w.heap.size, 0, none⟩ = some (.int .u8 91) := bt.cellv 0 _ rfl
        go_upto_region 10 with (fail)
        refine wp_region_tree (fun W => W.cell? ⟨b, 24, none⟩ = some (.slice ma n mc) ∧ W.cell? ⟨w.heap.size, 0, none⟩ = some (.int .u8 91)) 12 (.take [0, 1, 2, 3, 4, 5, 6, 7] (.step 8 (.step 9 (.step 10 (.step 11 (.step 12 (.fin))))))) (by kernel_rfl) (by kernel_rfl) (by intro _ _ _ _ _ h; exact h) ?_
        refine wpTree_take (⟨d24, bt0⟩) ?_
        simp only [opsAt, List.getElem?_cons_zero, List.getElem?_cons_succ]
        iterate 8 (first | (refine wpPureH_step (v := ?_) rfl (fun W hS => ?_) ?_; rotate_left; · (obtain ⟨s1, s2⟩ := hS; (try simp only [Act.put, List.setIfInBounds_toArray, List.set_cons_zero, List.set_cons_succ]); go_simp; with_reducible rfl)) | (refine wpPureH_want (v := ?_) (by rfl) (fun W hS => ?_) ?_; rotate_left; · (obtain ⟨s1, s2⟩ := hS; (try simp only [Act.put, List.setIfInBounds_toArray, List.set_cons_zero, List.set_cons_succ]); go_simp; with_reducible rfl)))
        refine wpPureH_nil ?_
        simp only [Act.put, List.setIfInBounds_toArray, List.set_cons_zero, List.set_cons_succ]
        have hrow : SlN ((w.alloc (.cells #[.int .u8 91, .string (S tx), .bool ng, .int .u64 mg] 237)).drewN nq) 0 4 1 (.slice ma n mc) n (boolsL p.maps) := by have h9 := h1.row; rw [← HN.out] at h9; exact h9
        have kw0 := hrow.alloc (.cells #[.bool false] 4)
        have bb0 : Blk (((w.alloc (.cells #[.int .u8 91, .string (S tx), .bool ng, .int .u64 mg] 237)).drewN nq).alloc (.cells #[.bool false] 4)) (w.heap.size + 1) 4 #[.bool false] := by simpa using Blk.new ((w.alloc (.cells #[.int .u8 91, .string (S tx), .bool ng, .int .u64 mg] 237)).drewN nq) 4 #[.bool false]
        have bt1 := bt.alloc (.cells #[.bool false] 4)
        have hm2 := hm1.alloc (.cells #[.bool false] 4)
        have hL2 : LexIs (((w.alloc (.cells #[.int .u8 91, .string (S tx), .bool ng, .int .u64 mg] 237)).drewN nq).alloc (.cells #[.bool false] 4)).drew b F _ p.l := h1.lex.keep (((Only.refl [] _).alloc _).drew) (by simp) (by simp)
        have hlt : ∀ k ∈ slB (.slice ma n mc), k < w.heap.size := fun k hk => (H.out.row.lt k hk).2
        refine wpTree_step ?_
        simp only [opsAt, List.getElem?_cons_zero, List.getElem?_cons_succ]
        go_wp2_with fail
        refine ⟨.inr ⟨hm2.cell 1 _ rfl, bt1.cellv 0 _ rfl⟩, ?_⟩
        refine wpTree_step ?_
        simp only [opsAt, List.getElem?_cons_zero, List.getElem?_cons_succ]
        refine wpList_append_slN rfl (.tmp 32) (.tmp 36) 75 rfl _ 1 Tryz.underlying75 info_bool rfl (by decide) kw0.drew (SlN.one (base := 0) (Nat.zero_le _) bb0.drew).src rfl rfl rfl (by intro y hy; simp at hy; subst hy; rfl) (by have := HND.out; have := HD.out; unfold maxLen; omega) (by have := HND.out; have := HD.out; omega) (Nat.zero_le _) ?_
        intro v' w' hv' ho' hf'
        obtain ⟨a', c', rfl⟩ := hv'.form
        have hL3 := hL2.past kw0.drew ho' (by decide) (by decide)
        have hm3 : Mid w' b 201 pre1 _ [] 23 := (hm2.drewN 1).keep ho' (kw0.notBlk hm2.2 (by decide))
        have bt3 := ho'.blk bt1.drew (fun hk => by have := hlt _ hk; omega)
        have HV := hide hv'
        have hP := hL3.setmaps (R := false :: p.maps) (mv' := .slice a' (n + 1) c') (by have h9 := hv'; rw [show boolsL (false :: p.maps) = boolsL p.maps ++ [.bool false] by simp [boolsL], List.length_cons, ← HN.out]; exact h9)
        have ho3 : Only (b :: F) w (w'.setCell ⟨b, 24, none⟩ (.slice a' (n + 1) c')) := ((((((Only.refl _ w).alloc (.cells #[.int .u8 91, .string (S tx), .bool ng, .int .u64 mg] 237)).drewN nq).alloc (.cells #[.bool false] 4)).drew).trans (ho'.mono fun k hk => List.mem_cons_of_mem _ (H.out.sub k hk))).setCell (p := ⟨b, 24, none⟩) (List.mem_cons_self ..) _
        have HF : Hid (∀ k ∈ slB (.slice a' (n + 1) c') ++ F, k ∈ F ∨ w.heap.size ≤ k) := hide (fun k hk => (List.mem_append.1 hk).elim (fun h9 => (hf' k h9).elim (fun h8 => .inl (H.out.sub k h8)) (fun h8 => .inr (by simp at h8; omega))) .inl)
        have HP := hide hP
        have HO := hide ho3
        have p24 := hm3.cell 1 _ rfl
        have p25 : w'.cell? ⟨b, 25, none⟩ = some (.int .i64 p.next) := hm3.cell 2 _ rfl
        have g24 := hm3.frozen 24
        have g25 := hm3.frozen 25
        have tk0 := bt3.cellv 0 _ rfl
        clear hrow kw0 bb0 bt1 hm2 hL2 hL3 hv' ho' hf' hP ho3 h1 bt hm1 d24 bt0 hlt c23 c24 c25 c26 f24 f25 f26
        go_wp2_with fail
        refine ⟨.inr ⟨p24, tk0⟩, ?_⟩
        refine wpTree_step ?_
        simp only [opsAt, List.getElem?_cons_zero, List.getElem?_cons_succ]
        go_wp2_with fail
        refine ⟨.inr (⟨p24, tk0⟩), ?_⟩
        refine wpTree_step ?_
        simp only [opsAt, List.getElem?_cons_zero, List.getElem?_cons_succ]
        go_wp2_with fail
        refine ⟨.inr (⟨p24, tk0⟩), ?_⟩
        refine wpTree_step ?_
        simp only [opsAt, List.getElem?_cons_zero, List.getElem?_cons_succ]
        go_wp2_with fail
        refine ⟨.inl trivial, wpTree_fin ?_⟩
        go_wp2_with fail
        go_ret2
        subst hR
        exact ParPost.of rfl (HP.out.setnext 1) (HO.out.setCell (p := ⟨b, 25, none⟩) (List.mem_cons_self ..) _) HF.out
      · simp at hR
        go_enter Tryz.func156, Tryz.ntmps156
        go_wp2_with fail
        go_quiet (fail)
        have h1 := H.out.new (((Only.refl [] w).alloc (.cells #[.int .u8 123, .string (S tx), .bool ng, .int .u64 mg] 237)).drewN nq)
        have bt : Blk ((w.alloc (.cells #[.int .u8 123, .string (S tx), .bool ng, .int .u64 mg] 237)).drewN nq) w.heap.size 237 #[.int .u8 123, .string (S tx), .bool ng, .int .u64 mg] := Blk.new w _ _
        obtain ⟨pre1, hm1⟩ := h1.mid
        have d24 : ((w.alloc (.cells #[.int .u8 123, .string (S tx), .bool ng, .int .u64 mg] 237)).drewN nq).cell? ⟨b, 24, none⟩ = some (.slice ma n mc) := hm1.cell 1 _ rfl
        have bt0 : ((w.alloc (.cells #[.int .u8 123, .string (S tx), .bool ng, .int .u64 mg] 237)).drewN nq).cell? ⟨w.heap.size, 0, none⟩ = some (.int .u8 123) := bt.cellv 0 _ rfl
        go_upto_region 10 with (fail)
        refine wp_region_tree (fun W => W.cell? ⟨b, 24, none⟩ = some (.slice ma n mc) ∧ W.cell? ⟨w.heap.size, 0, none⟩ = some (.int .u8 123)) 12 (.take [0, 1, 2, 3, 4, 5, 6, 7] (.step 8 (.step 9 (.step 10 (.step 11 (.step 12 (.fin))))))) (by kernel_rfl) (by kernel_rfl) (by intro _ _ _ _ _ h; exact h) ?_
        refine wpTree_take (⟨d24, bt0⟩) ?_
        simp only [opsAt, List.getElem?_cons_zero, List.getElem?_cons_succ]
        iterate 8 (first | (refine wpPureH_step (v := ?_) rfl (fun W hS => ?_) ?_; rotate_left; · (obtain ⟨s1, s2⟩ := hS; (try simp only [Act.put, List.setIfInBounds_toArray, List.set_cons_zero, List.set_cons_succ]); go_simp; with_reducible rfl)) | (refine wpPureH_want (v := ?_) (by rfl) (fun W hS => ?_) ?_; rotate_left; · (obtain ⟨s1, s2⟩ := hS; (try simp only [Act.put, List.setIfInBounds_toArray, List.set_cons_zero, List.set_cons_succ]); go_simp; with_reducible rfl)))
        refine wpPureH_nil ?_
        simp only [Act.put, List.setIfInBounds_toArray, List.set_cons_zero, List.set_cons_succ]
        have hrow : SlN ((w.alloc (.cells #[.int .u8 123, .string (S tx), .bool ng, .int .u64 mg] 237)).drewN nq) 0 4 1 (.slice ma n mc) n (boolsL p.maps) := by have h9 := h1.row; rw [← HN.out] at h9; exact h9
        have kw0 := hrow.alloc (.cells #[.bool true] 4)
        have bb0 : Blk (((w.alloc (.cells #[.int .u8 123, .string (S tx), .bool ng, .int .u64 mg] 237)).drewN nq).alloc (.cells #[.bool true] 4)) (w.heap.size + 1) 4 #[.bool true] := by simpa using Blk.new ((w.alloc (.cells #[.int .u8 123, .string (S tx), .bool ng, .int .u64 mg] 237)).drewN nq) 4 #[.bool true]
        have bt1 := bt.alloc (.cells #[.bool true] 4)
        have hm2 := hm1.alloc (.cells #[.bool true] 4)
        have hL2 : LexIs (((w.alloc (.cells #[.int .u8 123, .string (S tx), .bool ng, .int .u64 mg] 237)).drewN nq).alloc (.cells #[.bool true] 4)).drew b F _ p.l := h1.lex.keep (((Only.refl [] _).alloc _).drew) (by simp) (by simp)
        have hlt : ∀ k ∈ slB (.slice ma n mc), k < w.heap.size := fun k hk => (H.out.row.lt k hk).2
        refine wpTree_step ?_
        simp only [opsAt, List.getElem?_cons_zero, List.getElem?_cons_succ]
        go_wp2_with fail
        refine ⟨.inr ⟨hm2.cell 1 _ rfl, bt1.cellv 0 _ rfl⟩, ?_⟩
        refine wpTree_step ?_
        simp only [opsAt, List.getElem?_cons_zero, List.getElem?_cons_succ]
        refine wpList_append_slN rfl (.tmp 32) (.tmp 36) 75 rfl _ 1 Tryz.underlying75 info_bool rfl (by decide) kw0.drew (SlN.one (base := 0) (Nat.zero_le _) bb0.drew).src rfl rfl rfl (by intro y hy; simp at hy; subst hy; rfl) (by have := HND.out; have := HD.out; unfold maxLen; omega) (by have := HND.out; have := HD.out; omega) (Nat.zero_le _) ?_
        intro v' w' hv' ho' hf'
        obtain ⟨a', c', rfl⟩ := hv'.form
        have hL3 := hL2.past kw0.drew ho' (by decide) (by decide)
        have hm3 : Mid w' b 201 pre1 _ [] 23 := (hm2.drewN 1).keep ho' (kw0.notBlk hm2.2 (by decide))
        have bt3 := ho'.blk bt1.drew (fun hk => by have := hlt _ hk; omega)
        have HV := hide hv'
        have hP := hL3.setmaps (R := true :: p.maps) (mv' := .slice a' (n + 1) c') (by have h9 := hv'; rw [show boolsL (true :: p.maps) = boolsL p.maps ++ [.bool true] by simp [boolsL], List.length_cons, ← HN.out]; exact h9)
        have ho3 : Only (b :: F) w (w'.setCell ⟨b, 24, none⟩ (.slice a' (n + 1) c')) := ((((((Only.refl _ w).alloc (.cells #[.int .u8 123, .string (S tx), .bool ng, .int .u64 mg] 237)).drewN nq).alloc (.cells #[.bool true] 4)).drew).trans (ho'.mono fun k hk => List.mem_cons_of_mem _ (H.out.sub k hk))).setCell (p := ⟨b, 24, none⟩) (List.mem_cons_self ..) _
        have HF : Hid (∀ k ∈ slB (.slice a' (n + 1) c') ++ F, k ∈ F ∨ w.heap.size ≤ k) := hide (fun k hk => (List.mem_append.1 hk).elim (fun h9 => (hf' k h9).elim (fun h8 => .inl (H.out.sub k h8)) (fun h8 => .inr (by simp at h8; omega))) .inl)
        have HP := hide hP
        have HO := hide ho3
        have p24 := hm3.cell 1 _ rfl
        have p25 : w'.cell? ⟨b, 25, none⟩ = some (.int .i64 p.next) := hm3.cell 2 _ rfl
        have g24 := hm3.frozen 24
        have g25 := hm3.frozen 25
        have tk0 := bt3.cellv 0 _ rfl
        clear hrow kw0 bb0 bt1 hm2 hL2 hL3 hv' ho' hf' hP ho3 h1 bt hm1 d24 bt0 hlt c23 c24 c25 c26 f24 f25 f26
        go_wp2_with fail
        refine ⟨.inr ⟨p24, tk0⟩, ?_⟩
        refine wpTree_step ?_
        simp only [opsAt, List.getElem?_cons_zero, List.getElem?_cons_succ]
        go_wp2_with fail
        refine ⟨.inr (⟨p24, tk0⟩), ?_⟩
        refine wpTree_step ?_
        simp only [opsAt, List.getElem?_cons_zero, List.getElem?_cons_succ]
        go_wp2_with fail
        refine ⟨.inr (⟨p24, tk0⟩), ?_⟩
        refine wpTree_step ?_
        simp only [opsAt, List.getElem?_cons_zero, List.getElem?_cons_succ]
        go_wp2_with fail
        refine ⟨.inl trivial, wpTree_fin ?_⟩
        go_wp2_with fail
        go_ret2
        subst hR
        exact ParPost.of rfl ((HP.out.setnext 1).setnext 2) ((HO.out.setCell (p := ⟨b, 25, none⟩) (List.mem_cons_self ..) _).setCell (p := ⟨b, 25, none⟩) (List.mem_cons_self ..) _) HF.out
  rw [if_neg h91] at hR
  by_cases h115 : k = 115
  · subst h115
    rw [if_pos rfl] at hR
    clear h91
    have HB := hide (par_behind (H.out.new ((Only.refl [] w).alloc (.cells #[.int .u8 115, .string (S tx), .bool ng, .int .u64 mg] 237))))
    go_enter Tryz.func156, Tryz.ntmps156
    go_wp2_with fail
    (with_reducible refine (unhide HB).mono ?_)
    rintro e w1 ⟨rfl, hp1, ho1⟩
    have HP := hide hp1
    have HO := hide ho1
    clear HB hp1 ho1 c23 c24 c25 c26 f24 f25 f26
    go_wp2_with fail
    go_ret2
    subst hR
    exact ParPost.of rfl HP.out (((Only.refl _ w).alloc _).trans (HO.out.mono (fun k hk => by rw [List.mem_singleton.1 hk]; exact List.mem_cons_self ..))) (fun k hk => .inl hk)
  rw [if_neg h115] at hR
  by_cases h110 : k = 110
  · subst h110
    rw [if_pos rfl] at hR
    clear h91 h115
    have HB := hide (par_behind (H.out.new ((Only.refl [] w).alloc (.cells #[.int .u8 110, .string (S tx), .bool ng, .int .u64 mg] 237))))
    go_enter Tryz.func156, Tryz.ntmps156
    go_wp2_with fail
    (with_reducible refine (unhide HB).mono ?_)
    rintro e w1 ⟨rfl, hp1, ho1⟩
    have HP := hide hp1
    have HO := hide ho1
    clear HB hp1 ho1 c23 c24 c25 c26 f24 f25 f26
    go_wp2_with fail
    go_ret2
    subst hR
    exact ParPost.of rfl HP.out (((Only.refl _ w).alloc _).trans (HO.out.mono (fun k hk => by rw [List.mem_singleton.1 hk]; exact List.mem_cons_self ..))) (fun k hk => .inl hk)
  rw [if_neg h110] at hR
  by_cases h116 : k = 116 ∨ k = 102
  · rw [if_pos h116] at hR
    rcases h116 with rfl | rfl
    · clear h91 h115 h110
      simp at hR
      have HB := hide (par_behind (H.out.new ((Only.refl [] w).alloc (.cells #[.int .u8 116, .string (S tx), .bool ng, .int .u64 mg] 237))))
      go_enter Tryz.func156, Tryz.ntmps156
      go_wp2_with fail
      (with_reducible refine (unhide HB).mono ?_)
      rintro e w1 ⟨rfl, hp1, ho1⟩
      have HP := hide hp1
      have HO := hide ho1
      clear HB hp1 ho1 c23 c24 c25 c26 f24 f25 f26
      go_wp2_with fail
      go_ret2
      subst hR
      exact ParPost.of rfl HP.out (((Only.refl _ w).alloc _).trans (HO.out.mono (fun k hk => by rw [List.mem_singleton.1 hk]; exact List.mem_cons_self ..))) (fun k hk => .inl hk)
    · clear h91 h115 h110
      simp at hR
      have HB := hide (par_behind (H.out.new ((Only.refl [] w).alloc (.cells #[.int .u8 102, .string (S tx), .bool ng, .int .u64 mg] 237))))
      go_enter Tryz.func156, Tryz.ntmps156
      go_wp2_with fail
      (with_reducible refine (unhide HB).mono ?_)
      rintro e w1 ⟨rfl, hp1, ho1⟩
      have HP := hide hp1
      have HO := hide ho1
      clear HB hp1 ho1 c23 c24 c25 c26 f24 f25 f26
      go_wp2_with fail
      go_ret2
      subst hR
      exact ParPost.of rfl HP.out (((Only.refl _ w).alloc _).trans (HO.out.mono (fun k hk => by rw [List.mem_singleton.1 hk]; exact List.mem_cons_self ..))) (fun k hk => .inl hk)
  rw [if_neg h116] at hR
  by_cases h48 : k = 48
  · subst h48
    rw [if_pos rfl] at hR
    clear h91 h115 h110 h116
    have HB := hide (par_behind (H.out.new ((Only.refl [] w).alloc (.cells #[.int .u8 48, .string (S tx), .bool ng, .int .u64 mg] 237))))
    go_enter Tryz.func156, Tryz.ntmps156
    go_wp2_with fail
    (with_reducible refine (unhide HB).mono ?_)
    rintro e w1 ⟨rfl, hp1, ho1⟩
    have HP := hide hp1
    have HO := hide ho1
    clear HB hp1 ho1 c23 c24 c25 c26 f24 f25 f26
    go_wp2_with fail
    go_ret2
    subst hR
    exact ParPost.of rfl HP.out (((Only.refl _ w).alloc _).trans (HO.out.mono (fun k hk => by rw [List.mem_singleton.1 hk]; exact List.mem_cons_self ..))) (fun k hk => .inl hk)
  · rw [if_neg h48] at hR
    have e1 : (k == 91) = false := by simp; omega
    have e2 : (k == 123) = false := by simp; omega
    have e3 : (k == 115) = false := by simpa using h115
    have e4 : (k == 110) = false := by simpa using h110
    have e5 : (k == 116) = false := by simp; omega
    have e6 : (k == 102) = false := by simp; omega
    have e7 : (k == 48) = false := by simpa using h48
    clear h91 h115 h110 h116 h48
    go_enter Tryz.func156, Tryz.ntmps156
    go_wp2_with fail
    go_ret2
    subst hR
    exact ParPost.of rfl ((H.out.seterr 2).new ((Only.refl [] _).alloc _)) (((Only.refl _ w).setCell (p := ⟨b, 26, none⟩) (by simp) _).alloc _) (fun k hk => .inl hk)
end Go.Proofs.YtkccjfgkbkodiaaGreat
