/-
  LexC · LexD · LexE · LexF: parts of the walk of TopTight, under no condition.
-/
import Derived.Lib.DecodeN
import Derived.Test.YtkccjfgkbkodiaaGreatZ05
namespace Go.Proofs.YtkccjfgkbkodiaaGreat
open Go.RowKit
def wsL : List UInt8 := [32, 9, 10, 13]
def puL : List UInt8 := [123, 125, 91, 93, 58, 44]
def tokOf (k : Int) : Tok := ⟨k, [], false, 0⟩
def Lex.between (l : Lex) (u : UInt8) : Lex × List Tok :=
  if 0 ≤ Lib.indexByte wsL u then (l, [])
  else if 0 ≤ Lib.indexByte puL u then (l, [tokOf u.toNat])
  else if u.toNat = 34 then ({ l with st := 1 }, [])
  else if u.toNat = 45 ∨ (48 ≤ u.toNat ∧ u.toNat ≤ 57) then ({ l with st := 2, n := (Num.new.step u.toNat).1, e := (Num.new.step u.toNat).2.2 }, [])
  else if u.toNat = 116 then ({ l with st := 3, rest := [114, 117, 101], kind := 116 }, [])
  else if u.toNat = 102 then ({ l with st := 3, rest := [97, 108, 115, 101], kind := 102 }, [])
  else if u.toNat = 110 then ({ l with st := 3, rest := [117, 108, 108], kind := 48 }, [])
  else ({ l with e := 2 }, [])
/-- The state of a text: the escape reader by kinds, the builder, its row one of F. -/
structure LexT (w : World) (b : Nat) (F : List Nat) (es : List Value) (a v : Value) : Prop where
  esc : Typed escK es
  addr : a = .pointer none ∨ a = .pointer (some ⟨b, 10, none⟩)
  own : ∃ l : List UInt8, w.ownsRow 0 5 1 v l.length (Lib.byteCells l) ∧ l.length ≤ 200
  sub : ∀ k ∈ slB v, k ∈ F
def LexIs (w : World) (b : Nat) (F : List Nat) (post : List Value) (x : Lex) : Prop := ∃ es a v, LexM w b post x es a v ∧ (x.st = 1 → x.e = 0 → LexT w b F es a v)
def BetPost (w : World) (b : Nat) (F : List Nat) (post : List Value) (r : Lex × List Tok) (e : Ending) (w' : World) : Prop :=
  ∃ u, e = .returned u ∧ SlN w' w.heap.size 237 4 u r.2.length (toksEnc r.2) ∧ LexIs w' b F post r.1 ∧ Only [b] w w'
theorem row_only {w w' : World} {base size n : Nat} {e : TypeId} {v : Value} {xs : List Value} {T : List Nat} (h : w.ownsRow base e size v n xs) (ho : Only T w w') (hd : ∀ k ∈ slB v, k ∉ T) : w'.ownsRow base e size v n xs := by
  obtain ⟨hl, h⟩ := h
  rcases h with ⟨rfl, hn⟩ | ⟨g, cap, cur, rfl, hb, hh, h⟩
  · exact ⟨hl, .inl ⟨rfl, hn⟩⟩
  · exact ⟨hl, .inr ⟨g, cap, cur, rfl, hb, ho.blk (t := e) hh (hd g (by simp [slB])), h⟩⟩
theorem LexT.keep {w w' : World} {b : Nat} {F T : List Nat} {es : List Value} {a v : Value} (h : LexT w b F es a v) (ho : Only T w w') (hd : ∀ k ∈ F, k ∉ T) : LexT w' b F es a v := by
  obtain ⟨l, h1, h2⟩ := h.own
  exact ⟨h.esc, h.addr, ⟨l, row_only h1 ho fun k hk => hd k (h.sub k hk), h2⟩, h.sub⟩
theorem LexIs.keep {w w' : World} {b : Nat} {F T : List Nat} {post : List Value} {x : Lex} (h : LexIs w b F post x) (ho : Only T w w') (hb : b ∉ T) (hd : ∀ k ∈ F, k ∉ T) : LexIs w' b F post x := by
  obtain ⟨es, a, v, h1, h2⟩ := h
  exact ⟨es, a, v, h1.keep ho hb, fun h3 h4 => (h2 h3 h4).keep ho hd⟩
/-- What turns the blocks of a slice of another type alone leaves it. -/
theorem LexIs.past {w w' : World} {b base s n : Nat} {F : List Nat} {post xs : List Value} {x : Lex} {u : Value} {t : TypeId} (h : LexIs w b F post x) (hs : SlN w base t s u n xs) (ho : Only (slB u) w w') (h1 : t ≠ 201) (h2 : t ≠ 5) : LexIs w' b F post x := by
  obtain ⟨es, a, v, hm, ht⟩ := h
  refine ⟨es, a, v, hm.keep ho (hs.notBlk hm.mid.2 h1), fun h3 h4 => ?_⟩
  have ht := ht h3 h4
  obtain ⟨l, hl1, hl2⟩ := ht.own
  refine ⟨ht.esc, ht.addr, ⟨l, row_only hl1 ho fun k hk => ?_, hl2⟩, ht.sub⟩
  rcases hl1.2 with ⟨rfl, _⟩ | ⟨g, cap, cur, rfl, _, hh, _⟩
  · simp [slB] at hk
  · have : k = g := by simpa [slB] using hk
    subst this
    exact hs.notBlk (t' := 5) hh h2
theorem LexM.setst {w : World} {b : Nat} {post es : List Value} {x : Lex} {a v : Value} (h : LexM w b post x es a v) (k : Int) : LexM (w.setCell ⟨b, 0, none⟩ (.int .i64 k)) b post { x with st := k } es a v := by
  obtain ⟨p2, hh, hb⟩ := h.head
  exact hb _ k (hh.set 0 (by simp) (.int .i64 k))
theorem LexM.seterr {w : World} {b : Nat} {post es : List Value} {x : Lex} {a v : Value} (h : LexM w b post x es a v) {k : Int} (h0 : 0 ≤ k) (h1 : k ≤ 10) : LexM (w.setCell ⟨b, 22, none⟩ (.int .i64 k)) b post { x with e := k } es a v := by
  obtain ⟨p2, hh, hb⟩ := h.tail
  exact hb _ x.rest x.kind k h0 h1 (hh.set 2 (by simp) (.int .i64 k))
theorem LexM.setword {w : World} {b : Nat} {post es : List Value} {x : Lex} {a v : Value} (h : LexM w b post x es a v) (r : List UInt8) (k : Int) :
    LexM (((w.setCell ⟨b, 0, none⟩ (.int .i64 3)).setCell ⟨b, 20, none⟩ (.string (S r))).setCell ⟨b, 21, none⟩ (.int .u8 k)) b post { x with st := 3, rest := r, kind := k } es a v := by
  obtain ⟨p2, hh, hb⟩ := (h.setst 3).tail
  exact hb _ r k x.e h.e0 h.e10 ((hh.set 0 (by simp) (.string (S r))).set 1 (by simp) (.int .u8 k))
theorem only_word {w : World} {b : Nat} (u1 u2 u3 : Value) : Only [b] w (((w.setCell ⟨b, 0, none⟩ u1).setCell ⟨b, 20, none⟩ u2).setCell ⟨b, 21, none⟩ u3) :=
  (((Only.refl _ w).setCell (p := ⟨b, 0, none⟩) (by simp) _).setCell (p := ⟨b, 20, none⟩) (by simp) _).setCell (p := ⟨b, 21, none⟩) (by simp) _
set_option maxRecDepth 100000 in
set_option maxHeartbeats 4000000 in
theorem lex_between {w : World} {b : Nat} {F : List Nat} {post es : List Value} {x : Lex} {a v : Value} (h : LexM w b post x es a v) (hs : x.st = 0 ∨ x.st = 2) (u : UInt8) :
    Calls Tryz.prog 193 #[.pointer (some ⟨b, 0, none⟩), .int .u8 (u.toNat : Int)] w (BetPost w b F post (x.between u)) := by
  have HS := hide (show x.st ≠ 1 by rcases hs with h | h <;> omega)
  have hu : ((u.toNat : Int)).toNat.toUInt8 = u := by simp
  have HI1 := fun (W : World) => hide (show Calls Tryz.prog 197 #[.string ⟨#[32, 9, 10, 13]⟩, .int .u8 (u.toNat : Int)] W fun e w' => e = .returned (.int .i64 (Lib.indexByte wsL u)) ∧ w' = W by
    have h9 := index_byte ⟨#[32, 9, 10, 13]⟩ (u.toNat : Int) W
    rw [hu] at h9
    exact h9)
  have HI2 := fun (W : World) => hide (show Calls Tryz.prog 197 #[.string ⟨#[123, 125, 91, 93, 58, 44]⟩, .int .u8 (u.toNat : Int)] W fun e w' => e = .returned (.int .i64 (Lib.indexByte puL u)) ∧ w' = W by
    have h9 := index_byte ⟨#[123, 125, 91, 93, 58, 44]⟩ (u.toNat : Int) W
    rw [hu] at h9
    exact h9)
  obtain ⟨R, hm⟩ : ∃ r, x.between u = r := ⟨_, rfl⟩
  rw [hm]
  unfold Lex.between at hm
  have H := hide h
  have lb := h.mid.lt
  obtain ⟨s1, s2, s3, s4, s5, s6, s7, s8, s9, rfl⟩ : ∃ s1 s2 s3 s4 s5 s6 s7 s8 s9, es = [s1, s2, s3, s4, s5, s6, s7, s8, s9] := by
    have hl := h.len
    match es, hl with
    | [s1, s2, s3, s4, s5, s6, s7, s8, s9], _ => exact ⟨s1, s2, s3, s4, s5, s6, s7, s8, s9, rfl⟩
  have c0 := h.mid.cell 0 _ rfl
  have f0 := h.mid.frozen 0
  rw [Nat.zero_add] at c0
  have c1 := h.mid.cell 1 _ rfl
  have f1 := h.mid.frozen 1
  rw [Nat.zero_add] at c1
  have c2 := h.mid.cell 2 _ rfl
  have f2 := h.mid.frozen 2
  rw [Nat.zero_add] at c2
  have c3 := h.mid.cell 3 _ rfl
  have f3 := h.mid.frozen 3
  rw [Nat.zero_add] at c3
  have c4 := h.mid.cell 4 _ rfl
  have f4 := h.mid.frozen 4
  rw [Nat.zero_add] at c4
  have c5 := h.mid.cell 5 _ rfl
  have f5 := h.mid.frozen 5
  rw [Nat.zero_add] at c5
  have c6 := h.mid.cell 6 _ rfl
  have f6 := h.mid.frozen 6
  rw [Nat.zero_add] at c6
  have c7 := h.mid.cell 7 _ rfl
  have f7 := h.mid.frozen 7
  rw [Nat.zero_add] at c7
  have c8 := h.mid.cell 8 _ rfl
  have f8 := h.mid.frozen 8
  rw [Nat.zero_add] at c8
  have c9 := h.mid.cell 9 _ rfl
  have f9 := h.mid.frozen 9
  rw [Nat.zero_add] at c9
  have c12 := h.mid.cell 12 _ rfl
  have f12 := h.mid.frozen 12
  rw [Nat.zero_add] at c12
  have c13 := h.mid.cell 13 _ rfl
  have f13 := h.mid.frozen 13
  rw [Nat.zero_add] at c13
  have c14 := h.mid.cell 14 _ rfl
  have f14 := h.mid.frozen 14
  rw [Nat.zero_add] at c14
  have c15 := h.mid.cell 15 _ rfl
  have f15 := h.mid.frozen 15
  rw [Nat.zero_add] at c15
  have c16 := h.mid.cell 16 _ rfl
  have f16 := h.mid.frozen 16
  rw [Nat.zero_add] at c16
  have c17 := h.mid.cell 17 _ rfl
  have f17 := h.mid.frozen 17
  rw [Nat.zero_add] at c17
  have c18 := h.mid.cell 18 _ rfl
  have f18 := h.mid.frozen 18
  rw [Nat.zero_add] at c18
  have c19 := h.mid.cell 19 _ rfl
  have f19 := h.mid.frozen 19
  rw [Nat.zero_add] at c19
  have c20 := h.mid.cell 20 _ rfl
  have f20 := h.mid.frozen 20
  rw [Nat.zero_add] at c20
  have c21 := h.mid.cell 21 _ rfl
  have f21 := h.mid.frozen 21
  rw [Nat.zero_add] at c21
  have c22 := h.mid.cell 22 _ rfl
  have f22 := h.mid.frozen 22
  rw [Nat.zero_add] at c22
  generalize hi1 : Lib.indexByte wsL u = i1 at HI1 hm
  generalize hi2 : Lib.indexByte puL u = i2 at HI2 hm
  clear h hs hu hi1 hi2
  by_cases h1 : 0 ≤ i1
  · rw [if_pos h1] at hm
    subst hm
    go_enter Tryz.func193, Tryz.ntmps193
    go_wp2_with fail
    (with_reducible refine (unhide (HI1 _)).mono ?_)
    rintro e w1 ⟨rfl, hw1⟩
    subst hw1
    go_wp2_with fail
    go_ret
    exact ⟨_, rfl, SlN.nil _ _ _ _, ⟨_, _, _, H.out, fun h9 _ => absurd h9 HS.out⟩, Only.refl _ _⟩
  rw [if_neg h1] at hm
  by_cases h2 : 0 ≤ i2
  · rw [if_pos h2] at hm
    subst hm
    go_enter Tryz.func193, Tryz.ntmps193
    go_wp2_with fail
    (with_reducible refine (unhide (HI1 _)).mono ?_)
    rintro e w1 ⟨rfl, hw1⟩
    subst hw1
    go_wp2_with fail
    (with_reducible refine (unhide (HI2 _)).mono ?_)
    rintro e w2 ⟨rfl, hw2⟩
    subst hw2
    go_wp2_with fail
    go_ret
    refine ⟨_, rfl, SlN.row (n := 1) (cs := [.int .u8 u.toNat, .string ⟨#[]⟩, .bool false, .int .u64 0]) (Nat.le_refl _) (Blk.new _ _ _) rfl (by simp), ⟨_, _, _, H.out.keep ((Only.refl [] _).alloc _) (by simp), fun h9 _ => absurd h9 HS.out⟩, (Only.refl _ _).alloc _⟩
  rw [if_neg h2] at hm
  by_cases h3 : u.toNat = 34
  · rw [if_pos h3] at hm
    subst hm
    have e3 : ((u.toNat : Int) == 34) = true := by simp [h3]
    clear h3
    go_enter Tryz.func193, Tryz.ntmps193
    go_wp2_with fail
    (with_reducible refine (unhide (HI1 _)).mono ?_)
    rintro e w1 ⟨rfl, hw1⟩
    subst hw1
    go_wp2_with fail
    (with_reducible refine (unhide (HI2 _)).mono ?_)
    rintro e w2 ⟨rfl, hw2⟩
    subst hw2
    go_wp2_with fail
    have h4 := H.out.setst 1
    obtain ⟨pe, qe, he, heb⟩ := h4.esc
    have h5 := heb _ _ rfl ((((((((he.set 0 (by simp) (.int .i64 0)).set 1 (by simp) (.int .u8 0)).set 2 (by simp) (.int .u8 0)).set 3 (by simp) (.bool false)).set 4 (by simp) (.int .i64 0)).set 5 (by simp) (.int .i64 0)).set 6 (by simp) (.int .i64 0)).set 7 (by simp) (.int .i64 0) |>.set 8 (by simp) (.int .i64 0))
    obtain ⟨pb, qb, hq, hbm, hbb⟩ := h5.bld
    refine (breset_any hbm).mono ?_
    rintro e w3 ⟨rfl, hr1, hr2⟩
    have h6 := hide (hbb _ _ _ hr1)
    have ho : Only [b] w2 _ := (((((((((((Only.refl [b] w2).setCell (p := ⟨b, 0, none⟩) (by simp) (.int .i64 1)).setCell (p := ⟨b, 1, none⟩) (by simp) (.int .i64 0)).setCell (p := ⟨b, 2, none⟩) (by simp) (.int .u8 0)).setCell (p := ⟨b, 3, none⟩) (by simp) (.int .u8 0)).setCell (p := ⟨b, 4, none⟩) (by simp) (.bool false)).setCell (p := ⟨b, 5, none⟩) (by simp) (.int .i64 0)).setCell (p := ⟨b, 6, none⟩) (by simp) (.int .i64 0)).setCell (p := ⟨b, 7, none⟩) (by simp) (.int .i64 0)).setCell (p := ⟨b, 8, none⟩) (by simp) (.int .i64 0)).setCell (p := ⟨b, 9, none⟩) (by simp) (.int .i64 0)).trans hr2
    have HO := hide ho
    clear ho h4 he heb h5 hq hbm hbb hr1 hr2
    go_wp2_with fail
    go_ret
    refine ⟨_, rfl, SlN.nil _ _ _ _, ⟨_, _, _, h6.out, fun _ _ => ⟨⟨rfl, ?_⟩, .inl rfl, ⟨[], World.ownsRow_nil _ _ _ _, by simp⟩, by simp [slB]⟩⟩, HO.out⟩
    intro j k u hk hu
    match j, hk, hu with
    | 0, hk, hu => cases hk; cases hu; exact ⟨_, rfl⟩
    | 1, hk, hu => cases hk; cases hu; exact ⟨_, rfl⟩
    | 2, hk, hu => cases hk; cases hu; exact ⟨_, rfl⟩
    | 3, hk, hu => cases hk; cases hu; exact ⟨_, rfl⟩
    | 4, hk, hu => cases hk; cases hu; exact ⟨_, rfl⟩
    | 5, hk, hu => cases hk; cases hu; exact ⟨_, rfl⟩
    | 6, hk, hu => cases hk; cases hu; exact ⟨_, rfl⟩
    | 7, hk, hu => cases hk; cases hu; exact ⟨_, rfl⟩
    | 8, hk, hu => cases hk; cases hu; exact ⟨_, rfl, by omega, by omega⟩
    | j + 9, hk, hu => cases hk
  rw [if_neg h3] at hm
  have e3 : ((u.toNat : Int) == 34) = false := by simp; omega
  by_cases h4 : u.toNat = 45 ∨ (48 ≤ u.toNat ∧ u.toNat ≤ 57)
  · rw [if_pos h4] at hm
    subst hm
    by_cases h45 : u.toNat = 45
    · have e4 : ((u.toNat : Int) == 45) = true := by simp [h45]
      clear h3 h4 h45
      go_enter Tryz.func193, Tryz.ntmps193
      go_wp2_with fail
      (with_reducible refine (unhide (HI1 _)).mono ?_)
      rintro e w1 ⟨rfl, hw1⟩
      subst hw1
      go_wp2_with fail
      (with_reducible refine (unhide (HI2 _)).mono ?_)
      rintro e w2 ⟨rfl, hw2⟩
      subst hw2
      go_wp2_with fail
      have g1 := H.out.setst 2
      obtain ⟨pn, qn, hn, hnb⟩ := g1.num
      have g3 : Mid _ b 201 pn Num.new.enc qn 12 := (((((((hn.set 0 (by simp [Num.enc]) (.bool false)).set 1 (by simp [Num.enc]) (.bool false)).set 2 (by simp [Num.enc]) (.bool false)).set 3 (by simp [Num.enc]) (.bool false)).set 4 (by simp [Num.enc]) (.int .u64 0)).set 5 (by simp [Num.enc]) (.bool false)).set 6 (by simp [Num.enc]) (.bool false)).set 7 (by simp [Num.enc]) (.int .i64 0)
      refine (num_step g3 Num.new_ok u.toNat (by have := u.toNat_lt; omega)).mono ?_
      rintro e w3 ⟨rfl, hr1, hr2⟩
      have hk := Num.step_ok Num.new_ok u.toNat
      have g4 := hnb _ _ hk.1 hr1
      obtain ⟨pt, ht, htb⟩ := g4.tail
      have d22 : w3.cell? ⟨b, 22, none⟩ = some (.int .i64 x.e) := ht.cell 2 _ rfl
      have g22 := ht.frozen 22
      have G4 := hide (g4.seterr hk.2.1 hk.2.2)
      have ho : Only [b] w2 _ := (((((((((Only.refl [b] w2).setCell (p := ⟨b, 0, none⟩) (by simp) (.int .i64 2)).setCell (p := ⟨b, 12, none⟩) (by simp) (.bool false)).setCell (p := ⟨b, 13, none⟩) (by simp) (.bool false)).setCell (p := ⟨b, 14, none⟩) (by simp) (.bool false)).setCell (p := ⟨b, 15, none⟩) (by simp) (.bool false)).setCell (p := ⟨b, 16, none⟩) (by simp) (.int .u64 0)).setCell (p := ⟨b, 17, none⟩) (by simp) (.bool false)).setCell (p := ⟨b, 18, none⟩) (by simp) (.bool false)).setCell (p := ⟨b, 19, none⟩) (by simp) (.int .i64 0) |>.trans hr2
      have HO := hide (ho.setCell (p := ⟨b, 22, none⟩) (by simp) (.int .i64 (Num.new.step u.toNat).2.2))
      clear ho g1 hn hnb g3 hr1 hr2 hk g4 ht htb
      go_wp2_with fail
      go_ret
      exact ⟨_, rfl, SlN.nil _ _ _ _, ⟨_, _, _, G4.out, fun h9 _ => absurd h9 (by simp)⟩, HO.out⟩
    · have e4 : ((u.toNat : Int) == 45) = false := by simp; omega
      have n48 : decide ((48 : Int) ≤ (u.toNat : Int)) = true := by simp; omega
      have n57 : decide ((u.toNat : Int) ≤ 57) = true := by simp; omega
      clear h3 h4 h45
      go_enter Tryz.func193, Tryz.ntmps193
      go_wp2_with fail
      (with_reducible refine (unhide (HI1 _)).mono ?_)
      rintro e w1 ⟨rfl, hw1⟩
      subst hw1
      go_wp2_with fail
      (with_reducible refine (unhide (HI2 _)).mono ?_)
      rintro e w2 ⟨rfl, hw2⟩
      subst hw2
      go_wp2_with fail
      have g1 := H.out.setst 2
      obtain ⟨pn, qn, hn, hnb⟩ := g1.num
      have g3 : Mid _ b 201 pn Num.new.enc qn 12 := (((((((hn.set 0 (by simp [Num.enc]) (.bool false)).set 1 (by simp [Num.enc]) (.bool false)).set 2 (by simp [Num.enc]) (.bool false)).set 3 (by simp [Num.enc]) (.bool false)).set 4 (by simp [Num.enc]) (.int .u64 0)).set 5 (by simp [Num.enc]) (.bool false)).set 6 (by simp [Num.enc]) (.bool false)).set 7 (by simp [Num.enc]) (.int .i64 0)
      refine (num_step g3 Num.new_ok u.toNat (by have := u.toNat_lt; omega)).mono ?_
      rintro e w3 ⟨rfl, hr1, hr2⟩
      have hk := Num.step_ok Num.new_ok u.toNat
      have g4 := hnb _ _ hk.1 hr1
      obtain ⟨pt, ht, htb⟩ := g4.tail
      have d22 : w3.cell? ⟨b, 22, none⟩ = some (.int .i64 x.e) := ht.cell 2 _ rfl
      have g22 := ht.frozen 22
      have G4 := hide (g4.seterr hk.2.1 hk.2.2)
      have ho : Only [b] w2 _ := (((((((((Only.refl [b] w2).setCell (p := ⟨b, 0, none⟩) (by simp) (.int .i64 2)).setCell (p := ⟨b, 12, none⟩) (by simp) (.bool false)).setCell (p := ⟨b, 13, none⟩) (by simp) (.bool false)).setCell (p := ⟨b, 14, none⟩) (by simp) (.bool false)).setCell (p := ⟨b, 15, none⟩) (by simp) (.bool false)).setCell (p := ⟨b, 16, none⟩) (by simp) (.int .u64 0)).setCell (p := ⟨b, 17, none⟩) (by simp) (.bool false)).setCell (p := ⟨b, 18, none⟩) (by simp) (.bool false)).setCell (p := ⟨b, 19, none⟩) (by simp) (.int .i64 0) |>.trans hr2
      have HO := hide (ho.setCell (p := ⟨b, 22, none⟩) (by simp) (.int .i64 (Num.new.step u.toNat).2.2))
      clear ho g1 hn hnb g3 hr1 hr2 hk g4 ht htb
      go_wp2_with fail
      go_ret
      exact ⟨_, rfl, SlN.nil _ _ _ _, ⟨_, _, _, G4.out, fun h9 _ => absurd h9 (by simp)⟩, HO.out⟩
  rw [if_neg h4] at hm
  have e4 : ((u.toNat : Int) == 45) = false := by simp; omega
  have n4 : ¬ ((48 : Int) ≤ (u.toNat : Int) ∧ (u.toNat : Int) ≤ 57) := by omega
  by_cases h5 : u.toNat = 116
  · rw [if_pos h5] at hm
    subst hm
    have e5 : ((u.toNat : Int) == 116) = true := by simp [h5]
    have n48 : decide ((48 : Int) ≤ (u.toNat : Int)) = true := by simp; omega
    have n57 : decide ((u.toNat : Int) ≤ 57) = false := by simp; omega
    clear h3 h4 n4 h5
    go_enter Tryz.func193, Tryz.ntmps193
    go_wp2_with fail
    (with_reducible refine (unhide (HI1 _)).mono ?_)
    rintro e w1 ⟨rfl, hw1⟩
    subst hw1
    go_wp2_with fail
    (with_reducible refine (unhide (HI2 _)).mono ?_)
    rintro e w2 ⟨rfl, hw2⟩
    subst hw2
    go_wp2_with fail
    go_ret
    exact ⟨_, rfl, SlN.nil _ _ _ _, ⟨_, _, _, H.out.setword [114, 117, 101] 116, fun h9 _ => absurd h9 (by simp)⟩, only_word _ _ _⟩
  rw [if_neg h5] at hm
  have e5 : ((u.toNat : Int) == 116) = false := by simp; omega
  by_cases h6 : u.toNat = 102
  · rw [if_pos h6] at hm
    subst hm
    have e6 : ((u.toNat : Int) == 102) = true := by simp [h6]
    have n48 : decide ((48 : Int) ≤ (u.toNat : Int)) = true := by simp; omega
    have n57 : decide ((u.toNat : Int) ≤ 57) = false := by simp; omega
    clear h3 h4 n4 h5 h6
    go_enter Tryz.func193, Tryz.ntmps193
    go_wp2_with fail
    (with_reducible refine (unhide (HI1 _)).mono ?_)
    rintro e w1 ⟨rfl, hw1⟩
    subst hw1
    go_wp2_with fail
    (with_reducible refine (unhide (HI2 _)).mono ?_)
    rintro e w2 ⟨rfl, hw2⟩
    subst hw2
    go_wp2_with fail
    go_ret
    exact ⟨_, rfl, SlN.nil _ _ _ _, ⟨_, _, _, H.out.setword [97, 108, 115, 101] 102, fun h9 _ => absurd h9 (by simp)⟩, only_word _ _ _⟩
  rw [if_neg h6] at hm
  have e6 : ((u.toNat : Int) == 102) = false := by simp; omega
  by_cases h7 : u.toNat = 110
  · rw [if_pos h7] at hm
    subst hm
    have e7 : ((u.toNat : Int) == 110) = true := by simp [h7]
    have n48 : decide ((48 : Int) ≤ (u.toNat : Int)) = true := by simp; omega
    have n57 : decide ((u.toNat : Int) ≤ 57) = false := by simp; omega
    clear h3 h4 n4 h5 h6 h7
    go_enter Tryz.func193, Tryz.ntmps193
    go_wp2_with fail
    (with_reducible refine (unhide (HI1 _)).mono ?_)
    rintro e w1 ⟨rfl, hw1⟩
    subst hw1
    go_wp2_with fail
    (with_reducible refine (unhide (HI2 _)).mono ?_)
    rintro e w2 ⟨rfl, hw2⟩
    subst hw2
    go_wp2_with fail
    go_ret
    exact ⟨_, rfl, SlN.nil _ _ _ _, ⟨_, _, _, H.out.setword [117, 108, 108] 48, fun h9 _ => absurd h9 (by simp)⟩, only_word _ _ _⟩
  rw [if_neg h7] at hm
  have e7 : ((u.toNat : Int) == 110) = false := by simp; omega
  subst hm
  by_cases h8 : (48 : Int) ≤ (u.toNat : Int)
  · have n48 : decide ((48 : Int) ≤ (u.toNat : Int)) = true := by simpa using h8
    have n57 : decide ((u.toNat : Int) ≤ 57) = false := by simp; omega
    clear h3 h4 n4 h5 h6 h7 h8
    go_enter Tryz.func193, Tryz.ntmps193
    go_wp2_with fail
    (with_reducible refine (unhide (HI1 _)).mono ?_)
    rintro e w1 ⟨rfl, hw1⟩
    subst hw1
    go_wp2_with fail
    (with_reducible refine (unhide (HI2 _)).mono ?_)
    rintro e w2 ⟨rfl, hw2⟩
    subst hw2
    go_wp2_with fail
    go_ret
    exact ⟨_, rfl, SlN.nil _ _ _ _, ⟨_, _, _, H.out.seterr (by omega) (by omega), fun h9 _ => absurd h9 HS.out⟩, (Only.refl _ _).setCell (p := ⟨b, 22, none⟩) (by simp) _⟩
  · have n48 : decide ((48 : Int) ≤ (u.toNat : Int)) = false := by simpa using h8
    clear h3 h4 n4 h5 h6 h7 h8
    go_enter Tryz.func193, Tryz.ntmps193
    go_wp2_with fail
    (with_reducible refine (unhide (HI1 _)).mono ?_)
    rintro e w1 ⟨rfl, hw1⟩
    subst hw1
    go_wp2_with fail
    (with_reducible refine (unhide (HI2 _)).mono ?_)
    rintro e w2 ⟨rfl, hw2⟩
    subst hw2
    go_wp2_with fail
    go_ret
    exact ⟨_, rfl, SlN.nil _ _ _ _, ⟨_, _, _, H.out.seterr (by omega) (by omega), fun h9 _ => absurd h9 HS.out⟩, (Only.refl _ _).setCell (p := ⟨b, 22, none⟩) (by simp) _⟩
end Go.Proofs.YtkccjfgkbkodiaaGreat
namespace Go.Proofs.YtkccjfgkbkodiaaGreat
open Go.RowKit
/-- The builder in a lexer that is in a text. -/
theorem LexT.bld {w : World} {b : Nat} {F : List Nat} {es pre p2 : List Value} {a v : Value} (h : LexT w b F es a v) (hm : Mid w b 201 pre [a, v] p2 10) (hl : p2.length = 15) :
    ∃ l : List UInt8, l.length ≤ 200 ∧ Bld w b pre p2 0 a v (Lib.byteCells l) := by
  obtain ⟨l, ho, hll⟩ := h.own
  exact ⟨l, hll, hm, hl, h.addr, by rw [Lib.byteCells_length]; exact ho⟩
set_option maxRecDepth 100000 in
set_option maxHeartbeats 2000000 in
theorem lex_held {w : World} {b : Nat} {F : List Nat} {post : List Value} {x : Lex} (h : LexIs w b F post x) (hp : post.length = 4) :
    Calls Tryz.prog 187 #[.pointer (some ⟨b, 0, none⟩)] w fun e w' => (∃ r : Nat, e = .returned (.int .i64 r) ∧ r ≤ 200 ∧ (x.st ≠ 1 → r = 0)) ∧ w' = w := by
  obtain ⟨es, a, v, h, ht⟩ := h
  obtain ⟨pt, hh, _⟩ := h.tail
  obtain ⟨p0, hh0, _⟩ := h.head
  obtain ⟨pb, qb, hq, hbm, _⟩ := h.bld
  have c22 : w.cell? ⟨b, 22, none⟩ = some (.int .i64 x.e) := hh.cell 2 _ rfl
  have c0 : w.cell? ⟨b, 0, none⟩ = some (.int .i64 x.st) := hh0.cell0 _ rfl
  clear hh hh0
  by_cases he : x.e = 0
  · have e1 : (x.e != 0) = false := by simp [he]
    by_cases hs : x.st = 1
    · have e2 : (x.st != 1) = false := by simp [hs]
      obtain ⟨l, hll, hB⟩ := (ht hs he).bld hbm (by omega)
      have HB := hide (blen_any hB)
      have HL := hide hll
      clear ht hbm hB hll h hq he hs
      rw [Lib.byteCells_length] at HB
      go_enter Tryz.func187, Tryz.ntmps187
      go_wp2_with fail
      (with_reducible refine (unhide HB).mono ?_)
      rintro e w1 ⟨rfl, hw1⟩
      subst hw1
      go_wp2_with fail
      go_ret
      exact ⟨⟨_, rfl, HL.out, fun h9 => absurd (by simpa using e2) h9⟩, rfl⟩
    · have e2 : (x.st != 1) = true := by simpa using hs
      clear ht hbm h hq he hs
      go_enter Tryz.func187, Tryz.ntmps187
      go_wp2_with fail
      go_ret
      exact ⟨⟨0, rfl, by omega, fun _ => rfl⟩, rfl⟩
  · have e1 : (x.e != 0) = true := by simpa using he
    clear ht hbm h hq he
    go_enter Tryz.func187, Tryz.ntmps187
    go_wp2_with fail
    go_ret
    exact ⟨⟨0, rfl, by omega, fun _ => rfl⟩, rfl⟩
end Go.Proofs.YtkccjfgkbkodiaaGreat
namespace Go.Proofs.YtkccjfgkbkodiaaGreat
open Go.RowKit
def Lex.number (x : Lex) (u : UInt8) : Lex × List Tok :=
  if (x.n.step u.toNat).2.1 = true ∨ (x.n.step u.toNat).2.2 ≠ 0 then ({ x with n := (x.n.step u.toNat).1, e := (x.n.step u.toNat).2.2 }, [])
  else if (Lex.ended { x with n := (x.n.step u.toNat).1, e := (x.n.step u.toNat).2.2 }).1.e ≠ 0 then ((Lex.ended { x with n := (x.n.step u.toNat).1, e := (x.n.step u.toNat).2.2 }).1, [])
  else ((Lex.between (Lex.ended { x with n := (x.n.step u.toNat).1, e := (x.n.step u.toNat).2.2 }).1 u).1,
    (Lex.ended { x with n := (x.n.step u.toNat).1, e := (x.n.step u.toNat).2.2 }).2 ++ (Lex.between (Lex.ended { x with n := (x.n.step u.toNat).1, e := (x.n.step u.toNat).2.2 }).1 u).2)
theorem ended_st (x : Lex) (h : x.st = 0 ∨ x.st = 2) : x.ended.1.st = 0 ∨ x.ended.1.st = 2 := by
  unfold Lex.ended
  split
  · exact h
  · exact .inl rfl
theorem ended_len (x : Lex) : x.ended.2.length ≤ 1 := by
  unfold Lex.ended
  split <;> simp
theorem between_len (x : Lex) (u : UInt8) : (x.between u).2.length ≤ 1 := by
  unfold Lex.between
  repeat' split
  all_goals simp
/-- What is written in new blocks alone is not seen. -/
theorem Only.own {a w w' : World} {S T : List Nat} (h : Only S a w) (h2 : Only T w w') (hT : ∀ k ∈ T, k ∈ S ∨ a.heap.size ≤ k) : Only S a w' :=
  ⟨h2.os.trans h.os, h2.tape.trans h.tape, h2.output.trans h.output, Nat.le_trans h.size h2.size, fun k hk hn => (h2.block k (Nat.lt_of_lt_of_le hk h.size) (fun hm => (hT k hm).elim hn (fun h9 => by omega))).trans (h.block k hk hn)⟩
theorem toksEnc_append (a b : List Tok) : toksEnc (a ++ b) = toksEnc a ++ toksEnc b := by simp [toksEnc]
theorem toksEnc_one (l : List Tok) : ∀ y ∈ toksEnc l, y.oneCell' = true := by
  intro y hy
  simp only [toksEnc, List.mem_flatMap] at hy
  obtain ⟨x, _, hx⟩ := hy
  simp [Tok.enc] at hx
  rcases hx with rfl | rfl | rfl | rfl <;> rfl
theorem info_tok : (Tryz.prog.info? 237).map (fun i => (i.zero, i.size, i.bytes)) = some (some (.agg #[.int .u8 0, .string ⟨#[]⟩, .bool false, .int .u64 0]), 4, 40) := by kernel_rfl
set_option maxRecDepth 100000 in
set_option maxHeartbeats 4000000 in
theorem lex_number {w : World} {b : Nat} {F : List Nat} {post es : List Value} {x : Lex} {a v : Value} (h : LexM w b post x es a v) (hs : x.st = 2) (u : UInt8) :
    Calls Tryz.prog 192 #[.pointer (some ⟨b, 0, none⟩), .int .u8 (u.toNat : Int)] w (BetPost w b F post (x.number u)) := by
  obtain ⟨pn, qn, hn, hnb⟩ := h.num
  obtain ⟨R, hm⟩ : ∃ r, x.number u = r := ⟨_, rfl⟩
  rw [hm]
  unfold Lex.number at hm
  have hk := Num.step_ok h.ok u.toNat
  have HN := hide (num_step hn h.ok u.toNat (by have := u.toNat_lt; omega))
  have HB := hide hnb
  have HS := hide hs
  generalize x.n.step u.toNat = f at HN hk hm
  obtain ⟨n1, is, er⟩ := f
  have HK := hide hk
  have HM := hide hm
  clear h hn hnb hs hk hm
  go_enter Tryz.func192, Tryz.ntmps192
  go_wp2_with fail
  (with_reducible refine (unhide HN).mono ?_)
  rintro e w1 ⟨rfl, hr1, hr2⟩
  have g4 := HB.out _ _ HK.out.1 hr1
  obtain ⟨pt, ht, htb⟩ := g4.tail
  have d22 : w1.cell? ⟨b, 22, none⟩ = some (.int .i64 x.e) := ht.cell 2 _ rfl
  have g22 := ht.frozen 22
  have G4 := hide (g4.seterr HK.out.2.1 HK.out.2.2)
  have HO := hide (hr2.setCell (p := ⟨b, 22, none⟩) (by simp) (.int .i64 er))
  clear HN HB hr1 hr2 g4 ht htb
  cases is with
  | true =>
    have hm := HM.out
    rw [if_pos (.inl rfl)] at hm
    subst hm
    go_wp2_with fail
    go_ret
    exact ⟨_, rfl, SlN.nil _ _ _ _, ⟨_, _, _, G4.out, fun h9 _ => absurd (HS.out.symm.trans h9) (by simp)⟩, HO.out⟩
  | false =>
    by_cases he : er = 0
    · subst he
      go_wp2_with fail
      (with_reducible refine (lex_ended G4.out).mono ?_)
      rintro e w2 ⟨u2, rfl, hsl, hlm, hon⟩
      have hm := HM.out
      rw [if_neg (by simp)] at hm
      have hst := ended_st { x with n := n1, e := 0 } (.inr HS.out)
      have hln := ended_len { x with n := n1, e := 0 }
      generalize Lex.ended { x with n := n1, e := 0 } = E at hm hsl hlm hst hln
      obtain ⟨l2, ts⟩ := E
      obtain ⟨pt2, ht2, _⟩ := hlm.tail
      have k22 : w2.cell? ⟨b, 22, none⟩ = some (.int .i64 l2.e) := ht2.cell 2 _ rfl
      clear ht2
      have HSL := hide hsl
      have HLM := hide hlm
      have HON := hide hon
      have HST := hide hst
      have HLN := hide hln
      have HNB := hide (hsl.notBlk hlm.mid.2 (by decide))
      obtain ⟨q1, q2, rfl⟩ := hsl.form
      have HM2 := hide hm
      clear hsl hlm hon hst hm hln HM
      by_cases he : l2.e = 0
      · have e7 : (l2.e != 0) = false := by simp [he]
        have hm := HM2.out
        rw [if_neg (by simpa using he)] at hm
        have HM3 := hide hm
        clear hm he HM2
        go_wp2_with fail
        (with_reducible refine (lex_between (F := F) HLM.out HST.out u).mono ?_)
        rintro e w3 ⟨u3, rfl, hsl3, hlm3, hon3⟩
        obtain ⟨q3, q4, rfl⟩ := hsl3.form
        have HLN3 := hide (between_len l2 u)
        generalize Lex.between l2 u = E3 at HM3 hsl3 hlm3 HLN3
        obtain ⟨l3, ts3⟩ := E3
        have HS3 := hide hsl3
        have HL3 := hide hlm3
        have HO3 := hide hon3
        have HK2 := hide (HSL.out.keep hon3 (T := [b]) (by intro k hk hm; rw [List.mem_singleton.1 hm] at hk; exact HNB.out hk))
        have HZ := hide (hon3.size)
        clear hsl3 hlm3 hon3 HSL
        go_wp2_with (at_builtin; go_loud (refine wpList_append_slN rfl (.tmp 32) (.tmp 35) 202 rfl _ 40 Tryz.underlying202 info_tok rfl (by decide) HK2.out HS3.out.src rfl rfl (toksEnc_length _) (toksEnc_one _) ?g4 ?g5 ?g6 ?_))
        case g4 => have := HLN.out; have := HLN3.out; unfold maxLen; omega
        case g5 => have := HLN.out; have := HLN3.out; omega
        case g6 => exact Nat.le_trans HON.out.size HZ.out
        intro v' w' hv' ho' hf'
        obtain ⟨q5, q6, rfl⟩ := hv'.form
        have HV := hide hv'
        have HO' := hide ho'
        clear hv' ho' hf'
        go_wp2_with fail
        go_ret
        have hm := HM3.out
        subst hm
        refine ⟨_, rfl, ?_, HL3.out.past HK2.out HO'.out (by decide) (by decide), ?_⟩
        · rw [List.length_append, toksEnc_append]
          exact HV.out.mono (by have := HO.out.size; simp at this ⊢; omega)
        · exact ((HO.out.trans HON.out).trans HO3.out).own HO'.out fun k hk => .inr (by have := (HK2.out.lt k hk).1; have := HO.out.size; omega)
      · have e7 : (l2.e != 0) = true := by simpa using he
        have hm := HM2.out
        rw [if_pos (by simpa using he)] at hm
        subst hm
        clear he
        go_wp2_with fail
        go_ret
        exact ⟨_, rfl, SlN.nil _ _ _ _, ⟨_, _, _, HLM.out, fun _ h9 => absurd h9 (by simpa using e7)⟩, HO.out.trans HON.out⟩
    · have hm := HM.out
      rw [if_pos (.inr he)] at hm
      subst hm
      have e7 : (er != 0) = true := by simpa using he
      clear he
      go_wp2_with fail
      go_ret
      exact ⟨_, rfl, SlN.nil _ _ _ _, ⟨_, _, _, G4.out, fun h9 _ => absurd (HS.out.symm.trans h9) (by simp)⟩, HO.out⟩
end Go.Proofs.YtkccjfgkbkodiaaGreat
namespace Go.Proofs.YtkccjfgkbkodiaaGreat
open Go.RowKit
def Lex.word (x : Lex) (u : UInt8) : Lex × List Tok :=
  match x.rest with
  | [] => ({ x with e := 2 }, [])
  | c :: r => if c = u then (if r = [] then ({ x with rest := [], st := 0 }, [tokOf x.kind]) else ({ x with rest := r }, [])) else ({ x with e := 2 }, [])
theorem decode_head (c : UInt8) (r : List UInt8) (h : c.toNat < 128) : Utf8.decode (S (c :: r)) 0 = (c.toNat, 1) := by
  have h0 : ((S (c :: r)).get! 0) = c := rfl
  unfold Utf8.decode
  simp only [Nat.add_zero, h0]
  rw [if_pos h]
theorem LexM.setrest {w : World} {b : Nat} {post es : List Value} {x : Lex} {a v : Value} (h : LexM w b post x es a v) (r : List UInt8) : LexM (w.setCell ⟨b, 20, none⟩ (.string (S r))) b post { x with rest := r } es a v := by
  obtain ⟨p2, hh, hb⟩ := h.tail
  exact hb _ r x.kind x.e h.e0 h.e10 (hh.set 0 (by simp) (.string (S r)))
set_option maxRecDepth 100000 in
set_option maxHeartbeats 4000000 in
theorem lex_word {w : World} {b : Nat} {F : List Nat} {post es : List Value} {x : Lex} {a v : Value} (h : LexM w b post x es a v) (hs : x.st = 3) (hr : ∀ c ∈ x.rest, c.toNat < 128) (hl : x.rest.length ≤ 4) (u : UInt8) :
    Calls Tryz.prog 191 #[.pointer (some ⟨b, 0, none⟩), .int .u8 (u.toNat : Int)] w (BetPost w b F post (x.word u)) := by
  obtain ⟨R, hm⟩ : ∃ r, x.word u = r := ⟨_, rfl⟩
  rw [hm]
  unfold Lex.word at hm
  obtain ⟨pt, ht, _⟩ := h.tail
  obtain ⟨p0, hh, _⟩ := h.head
  have c20 : w.cell? ⟨b, 20, none⟩ = some (.string (S x.rest)) := ht.cell 0 _ rfl
  have H := hide h
  have HS := hide hs
  clear h ht hh hs
  obtain ⟨rest, hx⟩ : ∃ r, r = x.rest := ⟨_, rfl⟩
  rw [← hx] at hm hr hl c20
  have HX := hide hx.symm
  clear hx
  cases rest with
  | nil =>
    simp only at hm
    have HN := fun ty => run_next_end (P := Tryz.prog) w (S []) 0 ty (by rw [S_size]; simp)
    have ho : Only [] w (w.iter (S ([])) 0) := (Only.refl _ w).alloc _
    have h2 := H.out.keep ho (by simp)
    obtain ⟨pt, ht, _⟩ := h2.tail
    obtain ⟨p0, hh, _⟩ := h2.head
    have d20 : (w.iter (S ([])) 0).cell? ⟨b, 20, none⟩ = some (.string (S x.rest)) := ht.cell 0 _ rfl
    rw [HX.out] at d20
    have d21 : (w.iter (S ([])) 0).cell? ⟨b, 21, none⟩ = some (.int .u8 x.kind) := ht.cell 1 _ rfl
    have d22 : (w.iter (S ([])) 0).cell? ⟨b, 22, none⟩ = some (.int .i64 x.e) := ht.cell 2 _ rfl
    have d0 : (w.iter (S ([])) 0).cell? ⟨b, 0, none⟩ = some (.int .i64 x.st) := hh.cell0 _ rfl
    have g20 := ht.frozen 20
    have g22 := ht.frozen 22
    have g0 := ht.frozen 0
    have lb := ht.lt
    have H2 := hide h2
    have HO := hide (ho.mono (T := [b]) (by simp))
    clear h2 ht hh ho
    go_enter Tryz.func191, Tryz.ntmps191
    go_wp2_with fail
    refine wp_loop_once ?_
    go_wp2_with fail
    go_ret
    subst hm
    exact ⟨_, rfl, SlN.nil _ _ _ _, ⟨_, _, _, by have h9 := H2.out.seterr (k := 2) (by omega) (by omega); rw [HX.out] at h9; exact h9, fun h9 _ => absurd (HS.out.symm.trans h9) (by decide)⟩, HO.out.setCell (p := ⟨b, 22, none⟩) (by simp) _⟩
  | cons c r =>
    simp only at hm
    have hc := hr c (List.mem_cons_self ..)
    have HSL : ∀ W, (Instr.slice 9 (.string (S (c :: r))) (some (.int .i64 1)) none none).run Tryz.prog W = .ok (.string (S r)) W := fun W => slice_from Tryz.underlying9 (c :: r) 1 (by simp) W
    have HN : ∀ ty, (Instr.next (.pointer (some ⟨w.heap.size, 0, none⟩)) true ty).run Tryz.prog (w.iter (S (c :: r)) 0) = .ok (.tuple #[.bool true, .int .i64 0, .int .i32 (c.toNat : Int)]) (w.iter (S (c :: r)) 1) := fun ty =>
      run_next_ascii (P := Tryz.prog) w (S (c :: r)) 0 ty (by rw [S_size]; simp) hc
    have HC := hide hc
    clear hr hc hl
    have ho : Only [] w (w.iter (S (c :: r)) 1) := (Only.refl _ w).alloc _
    have h2 := H.out.keep ho (by simp)
    obtain ⟨pt, ht, _⟩ := h2.tail
    obtain ⟨p0, hh, _⟩ := h2.head
    have d20 : (w.iter (S (c :: r)) 1).cell? ⟨b, 20, none⟩ = some (.string (S x.rest)) := ht.cell 0 _ rfl
    rw [HX.out] at d20
    have d21 : (w.iter (S (c :: r)) 1).cell? ⟨b, 21, none⟩ = some (.int .u8 x.kind) := ht.cell 1 _ rfl
    have d22 : (w.iter (S (c :: r)) 1).cell? ⟨b, 22, none⟩ = some (.int .i64 x.e) := ht.cell 2 _ rfl
    have d0 : (w.iter (S (c :: r)) 1).cell? ⟨b, 0, none⟩ = some (.int .i64 x.st) := hh.cell0 _ rfl
    have g20 := ht.frozen 20
    have g22 := ht.frozen 22
    have g0 := ht.frozen 0
    have lb := ht.lt
    have H2 := hide h2
    have HO := hide (ho.mono (T := [b]) (by simp))
    clear h2 ht hh ho
    have hw32 : wrap32 (u.toNat : Int) = (u.toNat : Int) := by have := u.toNat_lt; unfold wrap32; omega
    by_cases hcu : c = u
    · have ecu : ((c.toNat : Int) != (u.toNat : Int)) = false := by rw [hcu]; simp
      rw [if_pos hcu] at hm
      by_cases hr0 : r = []
      · subst hr0
        rw [if_pos rfl] at hm
        clear hcu
        go_enter Tryz.func191, Tryz.ntmps191
        go_wp2_with fail
        refine wp_loop_once ?_
        go_wp2_with fail
        go_ret
        subst hm
        have h9 := (H2.out.setrest []).setst 0
        have ho9 := (HO.out.setCell (p := ⟨b, 20, none⟩) (by simp) (.string (S []))).setCell (p := ⟨b, 0, none⟩) (by simp) (.int .i64 0)
        have hb9 := Blk.new (((w.iter (S [c]) 1).setCell ⟨b, 20, none⟩ (.string (S []))).setCell ⟨b, 0, none⟩ (.int .i64 0)) 237 #[.int .u8 x.kind, .string ⟨#[]⟩, .bool false, .int .u64 0]
        rw [show (((w.iter (S [c]) 1).setCell ⟨b, 20, none⟩ (.string (S []))).setCell ⟨b, 0, none⟩ (.int .i64 0)).heap.size = (w.iter (S [c]) 1).heap.size by simp] at hb9
        refine ⟨_, rfl, SlN.row (n := 1) (cs := [.int .u8 x.kind, .string ⟨#[]⟩, .bool false, .int .u64 0]) (by have := HO.out.size; simp at this ⊢; omega) hb9 rfl (by simp), ⟨_, _, _, h9.keep ((Only.refl [] _).alloc _) (by simp), fun h9 _ => absurd h9 (by simp)⟩, ho9.alloc _⟩
      · have hie : r.isEmpty = false := by simpa using hr0
        rw [if_neg hr0] at hm
        clear hcu
        go_enter Tryz.func191, Tryz.ntmps191
        go_wp2_with fail
        refine wp_loop_once ?_
        go_wp2_with fail
        go_ret
        subst hm
        exact ⟨_, rfl, SlN.nil _ _ _ _, ⟨_, _, _, H2.out.setrest r, fun h9 _ => absurd (HS.out.symm.trans h9) (by decide)⟩, HO.out.setCell (p := ⟨b, 20, none⟩) (by simp) _⟩
    · have ecu : ((c.toNat : Int) != (u.toNat : Int)) = true := by simp; intro h9; exact hcu (UInt8.toNat_inj.1 (by omega))
      rw [if_neg hcu] at hm
      clear hcu
      go_enter Tryz.func191, Tryz.ntmps191
      go_wp2_with fail
      refine wp_loop_once ?_
      go_wp2_with fail
      go_ret
      subst hm
      exact ⟨_, rfl, SlN.nil _ _ _ _, ⟨_, _, _, by have h9 := H2.out.seterr (k := 2) (by omega) (by omega); rw [HX.out] at h9; exact h9, fun h9 _ => absurd (HS.out.symm.trans h9) (by decide)⟩, HO.out.setCell (p := ⟨b, 22, none⟩) (by simp) _⟩
end Go.Proofs.YtkccjfgkbkodiaaGreat
