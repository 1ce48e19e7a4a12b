/-
  LexG · LexH · Args · Args2: parts of the walk of TopTight, under no condition.
-/
import Derived.WalkKit
import Derived.ProofKit
import Derived.OpenShut
import Derived.Deep.Slices
import Derived.Deep.Fields
import Derived.ChangeSame
import Derived.Laws.BitsAllLaws
import Derived.Deep.Grids
import Derived.SliceStrings
import Derived.Test.YtkccjfgkbkodiaaGreatZ06
namespace Go.Proofs.YtkccjfgkbkodiaaGreat
open Go.RowKit
def TextDid (x x' : Lex) (ts : List Tok) : Prop :=
  (∃ k : Int, 0 ≤ k ∧ k ≤ 10 ∧ x' = { x with e := k } ∧ ts = []) ∨ ∃ l : List UInt8, l.length ≤ 200 ∧ x' = { x with st := 0 } ∧ ts = [⟨115, l, false, 0⟩]
def LexPost (w : World) (b : Nat) (F : List Nat) (post : List Value) (Q : Lex → List Tok → Prop) (e : Ending) (w' : World) : Prop :=
  ∃ u x' ts F', e = .returned u ∧ Q x' ts ∧ SlN w' w.heap.size 237 4 u ts.length (toksEnc ts) ∧ LexIs w' b F' post x' ∧ Only (b :: F) w w' ∧ ∀ k ∈ F', k ∈ F ∨ w.heap.size ≤ k
theorem BetPost.lex {w w' : World} {b : Nat} {F : List Nat} {post : List Value} {r : Lex × List Tok} {e : Ending} (h : BetPost w b F post r e w') : LexPost w b F post (fun x' ts => (x', ts) = r) e w' := by
  obtain ⟨u, h1, h2, h3, h4⟩ := h
  exact ⟨u, r.1, r.2, F, h1, rfl, h2, h3, h4.mono (fun k hk => by rw [List.mem_singleton.1 hk]; exact List.mem_cons_self ..), fun k hk => .inl hk⟩
theorem byte_str (l : List UInt8) : Lib.strCells (S l) = Lib.byteCells l := rfl
theorem LexT.out {w : World} {b : Nat} {F : List Nat} {post es : List Value} {x : Lex} {a v : Value} (h : LexM w b post x es a v) (ht : LexT w b F es a v) : b ∉ slB v := by
  obtain ⟨l, hl, _⟩ := ht.own
  exact fun hk => own_blk_ne hl h.mid.2 (by decide) (slB_own.1 hk)
set_option maxRecDepth 100000 in
set_option maxHeartbeats 4000000 in
theorem lex_text {w : World} {b : Nat} {F : List Nat} {post es : List Value} {x : Lex} {a v : Value} (h : LexM w b post x es a v) (ht : LexT w b F es a v) (he : x.e = 0) (hp : post.length = 4) (u : UInt8) :
    Calls Tryz.prog 190 #[.pointer (some ⟨b, 0, none⟩), .int .u8 (u.toNat : Int)] w (LexPost w b F post (TextDid x)) := by
  obtain ⟨l, hown, hll⟩ := ht.own
  obtain ⟨pe, qe, hesc, heb⟩ := h.esc
  have hraw : Raw w b 201 pe escK qe 1 := ⟨es, hesc, ht.esc⟩
  have hout := LexT.out h ht
  have HW := hide (escw_raw hraw)
  have HE := hide (esc_raw hraw u)
  have HEB := hide heb
  have HOWN := hide hown
  have HLL := hide hll
  have HAD := hide ht.addr
  have HSUB := hide ht.sub
  have HOUT := hide hout
  have HP := hide hp
  have HX := hide he
  obtain ⟨p0, hh, _⟩ := h.head
  have c0 : w.cell? ⟨b, 0, none⟩ = some (.int .i64 x.st) := hh.cell0 _ rfl
  have f0 := hh.frozen 0
  have lb := hh.lt
  have H := hide h
  clear hown hll hesc heb hraw hout ht he hp hh h
  by_cases hu : u.toNat = 34
  · have eu : ((u.toNat : Int) == 34) = true := by simp [hu]
    clear hu
    go_enter Tryz.func190, Tryz.ntmps190
    go_wp2_with fail
    (with_reducible refine (unhide HW).mono ?_)
    rintro e w ⟨⟨r, rfl⟩, hw1⟩
    subst hw1
    cases r with
    | true =>
      have g1 := H.out.setst 0
      obtain ⟨pb, qb, hqb, hbm, _⟩ := g1.bld
      have ho1 : Only [b] w (w.setCell ⟨b, 0, none⟩ (.int .i64 0)) := (Only.refl _ w).setCell (p := ⟨b, 0, none⟩) (by simp) _
      have hB : Bld (w.setCell ⟨b, 0, none⟩ (.int .i64 0)) b pb qb 0 a v (Lib.byteCells l) := ⟨hbm, by have := HP.out; omega, HAD.out, by rw [Lib.byteCells_length]; exact row_only HOWN.out ho1 (fun k hk hm => HOUT.out (List.mem_singleton.1 hm ▸ hk))⟩
      have HST := hide (bstring_any hB)
      have G1 := hide g1
      have HO1 := hide ho1
      clear HE HEB hbm hB g1 ho1
      go_wp2_with fail
      (with_reducible refine (unhide HST).mono ?_)
      rintro e w3 ⟨rfl, ho3⟩
      have HO3 := hide ho3
      have hs3 := ho3.size
      clear HST ho3
      go_wp2_with fail
      go_ret
      have g3 := G1.out.keep HO3.out HOUT.out
      refine ⟨_, { x with st := 0 }, [⟨115, l, false, 0⟩], F, rfl, .inr ⟨l, HLL.out, rfl, rfl⟩, ?_, ⟨_, _, _, g3.keep ((Only.refl [] w3).alloc _) (by simp), fun h9 _ => absurd h9 (by simp)⟩, ?_, fun k hk => .inl hk⟩
      · exact SlN.row (n := 1) (cs := [.int .u8 115, .string (S l), .bool false, .int .u64 0]) (by simp at hs3; omega) (Blk.new _ _ _) rfl (by simp)
      · exact ((HO1.out.mono (by intro k hk; rw [List.mem_singleton.1 hk]; exact List.mem_cons_self ..)).trans (HO3.out.mono (fun k hk => List.mem_cons_of_mem _ (HSUB.out k hk)))).alloc _
    | false =>
      go_wp2_with fail
      (with_reducible refine (unhide HE).mono ?_)
      rintro e w2 ⟨⟨l2, k, rfl, hl2, k0, k1⟩, ⟨es2, hm2, hty⟩, ho2⟩
      have g2 := HEB.out w2 es2 hty.1 hm2
      obtain ⟨pb, qb, hqb, hbm, hbb⟩ := g2.bld
      have hB : Bld w2 b pb qb 0 a v (Lib.byteCells l) := ⟨hbm, by have := HP.out; omega, HAD.out, by rw [Lib.byteCells_length]; exact row_only HOWN.out ho2 (fun k hk hm => HOUT.out (List.mem_singleton.1 hm ▸ hk))⟩
      have HBW := hide (bwrite_any hB (S l2) (by rw [Lib.byteCells_length, S_size]; have := HLL.out; omega) (Nat.zero_le _))
      have HO2 := hide ho2
      have HTY := hide hty
      have HL2 := hide hl2
      have HBB := hide hbb
      clear HE HW hm2 hty ho2 g2 hbm hbb hB hl2 c0 f0
      go_wp2_with fail
      (with_reducible refine (unhide HBW).mono ?_)
      rintro e w3 ⟨v3, rfl, hb3, ho3, hf3⟩
      have g3 := HBB.out w3 _ _ hb3.mid
      obtain ⟨pt, htl, _⟩ := g3.tail
      have d22 : w3.cell? ⟨b, 22, none⟩ = some (.int .i64 x.e) := htl.cell 2 _ rfl
      have g22 := htl.frozen 22
      have g4 := g3.seterr k0 k1
      have hown3 := hb3.own
      rw [byte_str, show Lib.byteCells l ++ Lib.byteCells l2 = Lib.byteCells (l ++ l2) by simp [Lib.byteCells], Lib.byteCells_length] at hown3
      have hout3 : b ∉ slB v3 := fun hk => own_blk_ne hown3 g3.mid.2 (by decide) (slB_own.1 hk)
      have ho34 : Only [b] w3 (w3.setCell ⟨b, 22, none⟩ (.int .i64 k)) := (Only.refl _ w3).setCell (p := ⟨b, 22, none⟩) (by simp) _
      have HOW4 := hide (row_only hown3 ho34 (fun k hk hm => hout3 (List.mem_singleton.1 hm ▸ hk)))
      have HOUT3 := hide hout3
      have HO4 : Hid (Only (b :: F) w (w3.setCell ⟨b, 22, none⟩ (.int .i64 k))) := hide (((HO2.out.mono (by intro k hk; rw [List.mem_singleton.1 hk]; exact List.mem_cons_self ..)).trans (ho3.mono (by intro k hk; rcases List.mem_cons.1 hk with rfl | hk; exact List.mem_cons_self ..; exact List.mem_cons_of_mem _ (HSUB.out k hk)))).setCell (p := ⟨b, 22, none⟩) (by simp) _)
      have HF3 : Hid (∀ k ∈ slB v3, k ∈ F ∨ w.heap.size ≤ k) := hide (fun k hk => (hf3 k hk).elim (fun h9 => .inl (HSUB.out k h9)) (fun h9 => .inr (by have := HO2.out.size; omega)))
      have G4 := hide g4
      clear HBW hb3 ho3 hf3 g3 htl g4 hown3 hout3 ho34 HBB
      by_cases hk : k = 0
      · subst hk
        obtain ⟨pb4, qb4, hqb4, hbm4, hbb4⟩ := G4.out.bld
        have hB4 : Bld (w3.setCell ⟨b, 22, none⟩ (.int .i64 0)) b pb4 qb4 0 (.pointer (some ⟨b, 10, none⟩)) v3 (Lib.byteCells (l ++ l2)) := ⟨hbm4, by have := HP.out; omega, .inr rfl, by rw [Lib.byteCells_length]; exact HOW4.out⟩
        have HBL := hide (blen_any hB4)
        clear hbm4 hbb4 hB4
        rw [Lib.byteCells_length] at HBL
        obtain ⟨n, hn⟩ : ∃ n, n = (l ++ l2).length := ⟨_, rfl⟩
        rw [← hn] at HBL
        have HN := hide hn
        clear hn
        go_wp2_with fail
        (with_reducible refine (unhide HBL).mono ?_)
        rintro e w5 ⟨rfl, hw5⟩
        subst hw5
        clear HBL
        by_cases h200 : 200 < n
        · have e200 : decide ((200 : Int) < (n : Int)) = true := by simp; omega
          clear h200
          go_wp2_with fail
          go_ret
          refine ⟨_, { x with e := 5 }, [], F, rfl, .inl ⟨5, by omega, by omega, rfl, rfl⟩, SlN.nil _ _ _ _, ⟨_, _, _, G4.out.seterr (k := 5) (by omega) (by omega), fun _ h9 => absurd h9 (by simp)⟩, HO4.out.setCell (p := ⟨b, 22, none⟩) (by simp) _, fun k hk => .inl hk⟩
        · have e200 : decide ((200 : Int) < (n : Int)) = false := by simp; omega
          have H2 := hide h200
          clear h200
          go_wp2_with fail
          go_ret
          exact ⟨_, { x with e := 0 }, [], slB v3, rfl, .inl ⟨0, by omega, by omega, rfl, rfl⟩, SlN.nil _ _ _ _, ⟨_, _, _, G4.out, fun _ _ => ⟨HTY.out, .inr rfl, ⟨l ++ l2, HOW4.out, by have := HN.out; have := H2.out; omega⟩, fun k hk => hk⟩⟩, HO4.out, HF3.out⟩
      · have e7 : (k == 0) = false := by simpa using hk
        have H7 := hide hk
        clear hk
        go_wp2_with fail
        go_ret
        exact ⟨_, { x with e := k }, [], F, rfl, .inl ⟨k, k0, k1, rfl, rfl⟩, SlN.nil _ _ _ _, ⟨_, _, _, G4.out, fun _ h9 => absurd h9 H7.out⟩, HO4.out, fun k hk => .inl hk⟩
  · have eu : ((u.toNat : Int) == 34) = false := by simp; omega
    clear hu
    go_enter Tryz.func190, Tryz.ntmps190
    go_wp2_with fail
    (with_reducible refine (unhide HE).mono ?_)
    rintro e w2 ⟨⟨l2, k, rfl, hl2, k0, k1⟩, ⟨es2, hm2, hty⟩, ho2⟩
    have g2 := HEB.out w2 es2 hty.1 hm2
    obtain ⟨pb, qb, hqb, hbm, hbb⟩ := g2.bld
    have hB : Bld w2 b pb qb 0 a v (Lib.byteCells l) := ⟨hbm, by have := HP.out; omega, HAD.out, by rw [Lib.byteCells_length]; exact row_only HOWN.out ho2 (fun k hk hm => HOUT.out (List.mem_singleton.1 hm ▸ hk))⟩
    have HBW := hide (bwrite_any hB (S l2) (by rw [Lib.byteCells_length, S_size]; have := HLL.out; omega) (Nat.zero_le _))
    have HO2 := hide ho2
    have HTY := hide hty
    have HL2 := hide hl2
    have HBB := hide hbb
    clear HE HW hm2 hty ho2 g2 hbm hbb hB hl2 c0 f0
    go_wp2_with fail
    (with_reducible refine (unhide HBW).mono ?_)
    rintro e w3 ⟨v3, rfl, hb3, ho3, hf3⟩
    have g3 := HBB.out w3 _ _ hb3.mid
    obtain ⟨pt, htl, _⟩ := g3.tail
    have d22 : w3.cell? ⟨b, 22, none⟩ = some (.int .i64 x.e) := htl.cell 2 _ rfl
    have g22 := htl.frozen 22
    have g4 := g3.seterr k0 k1
    have hown3 := hb3.own
    rw [byte_str, show Lib.byteCells l ++ Lib.byteCells l2 = Lib.byteCells (l ++ l2) by simp [Lib.byteCells], Lib.byteCells_length] at hown3
    have hout3 : b ∉ slB v3 := fun hk => own_blk_ne hown3 g3.mid.2 (by decide) (slB_own.1 hk)
    have ho34 : Only [b] w3 (w3.setCell ⟨b, 22, none⟩ (.int .i64 k)) := (Only.refl _ w3).setCell (p := ⟨b, 22, none⟩) (by simp) _
    have HOW4 := hide (row_only hown3 ho34 (fun k hk hm => hout3 (List.mem_singleton.1 hm ▸ hk)))
    have HOUT3 := hide hout3
    have HO4 : Hid (Only (b :: F) w (w3.setCell ⟨b, 22, none⟩ (.int .i64 k))) := hide (((HO2.out.mono (by intro k hk; rw [List.mem_singleton.1 hk]; exact List.mem_cons_self ..)).trans (ho3.mono (by intro k hk; rcases List.mem_cons.1 hk with rfl | hk; exact List.mem_cons_self ..; exact List.mem_cons_of_mem _ (HSUB.out k hk)))).setCell (p := ⟨b, 22, none⟩) (by simp) _)
    have HF3 : Hid (∀ k ∈ slB v3, k ∈ F ∨ w.heap.size ≤ k) := hide (fun k hk => (hf3 k hk).elim (fun h9 => .inl (HSUB.out k h9)) (fun h9 => .inr (by have := HO2.out.size; omega)))
    have G4 := hide g4
    clear HBW hb3 ho3 hf3 g3 htl g4 hown3 hout3 ho34 HBB
    by_cases hk : k = 0
    · subst hk
      obtain ⟨pb4, qb4, hqb4, hbm4, hbb4⟩ := G4.out.bld
      have hB4 : Bld (w3.setCell ⟨b, 22, none⟩ (.int .i64 0)) b pb4 qb4 0 (.pointer (some ⟨b, 10, none⟩)) v3 (Lib.byteCells (l ++ l2)) := ⟨hbm4, by have := HP.out; omega, .inr rfl, by rw [Lib.byteCells_length]; exact HOW4.out⟩
      have HBL := hide (blen_any hB4)
      clear hbm4 hbb4 hB4
      rw [Lib.byteCells_length] at HBL
      obtain ⟨n, hn⟩ : ∃ n, n = (l ++ l2).length := ⟨_, rfl⟩
      rw [← hn] at HBL
      have HN := hide hn
      clear hn
      go_wp2_with fail
      (with_reducible refine (unhide HBL).mono ?_)
      rintro e w5 ⟨rfl, hw5⟩
      subst hw5
      clear HBL
      by_cases h200 : 200 < n
      · have e200 : decide ((200 : Int) < (n : Int)) = true := by simp; omega
        clear h200
        go_wp2_with fail
        go_ret
        refine ⟨_, { x with e := 5 }, [], F, rfl, .inl ⟨5, by omega, by omega, rfl, rfl⟩, SlN.nil _ _ _ _, ⟨_, _, _, G4.out.seterr (k := 5) (by omega) (by omega), fun _ h9 => absurd h9 (by simp)⟩, HO4.out.setCell (p := ⟨b, 22, none⟩) (by simp) _, fun k hk => .inl hk⟩
      · have e200 : decide ((200 : Int) < (n : Int)) = false := by simp; omega
        have H2 := hide h200
        clear h200
        go_wp2_with fail
        go_ret
        exact ⟨_, { x with e := 0 }, [], slB v3, rfl, .inl ⟨0, by omega, by omega, rfl, rfl⟩, SlN.nil _ _ _ _, ⟨_, _, _, G4.out, fun _ _ => ⟨HTY.out, .inr rfl, ⟨l ++ l2, HOW4.out, by have := HN.out; have := H2.out; omega⟩, fun k hk => hk⟩⟩, HO4.out, HF3.out⟩
    · have e7 : (k == 0) = false := by simpa using hk
      have H7 := hide hk
      clear hk
      go_wp2_with fail
      go_ret
      exact ⟨_, { x with e := k }, [], F, rfl, .inl ⟨k, k0, k1, rfl, rfl⟩, SlN.nil _ _ _ _, ⟨_, _, _, G4.out, fun _ h9 => absurd h9 H7.out⟩, HO4.out, fun k hk => .inl hk⟩
end Go.Proofs.YtkccjfgkbkodiaaGreat
namespace Go.Proofs.YtkccjfgkbkodiaaGreat
open Go.RowKit
/-- What a lexer always is. -/
structure Lex.Wok (x : Lex) : Prop where
  st : x.st = 0 ∨ x.st = 1 ∨ x.st = 2 ∨ x.st = 3
  asc : ∀ c ∈ x.rest, c.toNat < 128
  four : x.rest.length ≤ 4
/-- What a byte does. -/
def Lex.did (x : Lex) (u : UInt8) (x' : Lex) (ts : List Tok) : Prop :=
  if x.e ≠ 0 then x' = x ∧ ts = []
  else if x.st = 1 then ∃ t0, TextDid x x' t0 ∧ ts = if x'.e = 0 then t0 else []
  else if x.st = 3 then x' = (x.word u).1 ∧ ts = if x'.e = 0 then (x.word u).2 else []
  else if x.st = 2 then x' = (x.number u).1 ∧ ts = if x'.e = 0 then (x.number u).2 else []
  else x' = (x.between u).1 ∧ ts = if x'.e = 0 then (x.between u).2 else []
def Lex.endd (x : Lex) : Lex × List Tok := if x.e ≠ 0 ∨ x.st = 0 then (x, []) else if x.st = 2 then x.ended else ({ x with e := 3 }, [])
theorem LexIs.drewN {w : World} {b : Nat} {F : List Nat} {post : List Value} {x : Lex} (h : LexIs w b F post x) (n : Nat) : LexIs (w.drewN n) b F post x := h.keep ((Only.refl [] w).drewN n) (by simp) (by simp)
/-- Tokens and an error are handed back. -/
def LexRes (w : World) (b : Nat) (F : List Nat) (post : List Value) (Q : Lex → List Tok → Prop) (e : Ending) (w' : World) : Prop :=
  ∃ u x' ts F', e = .returned (.tuple #[u, .int .i64 x'.e]) ∧ Q x' ts ∧ SlN w' w.heap.size 237 4 u ts.length (toksEnc ts) ∧ LexIs w' b F' post x' ∧ Only (b :: F) w w' ∧ ∀ k ∈ F', k ∈ F ∨ w.heap.size ≤ k
set_option maxRecDepth 100000 in
set_option maxHeartbeats 4000000 in
theorem lex_step {w : World} {b : Nat} {F : List Nat} {post : List Value} {x : Lex} (h : LexIs w b F post x) (hw : x.Wok) (hp : post.length = 4) (u : UInt8) :
    Calls Tryz.prog 188 #[.pointer (some ⟨b, 0, none⟩), .int .u8 (u.toNat : Int)] w (LexRes w b F post (x.did u)) := by
  obtain ⟨es, a, v, h, ht⟩ := h
  obtain ⟨pt, htl, _⟩ := h.tail
  obtain ⟨p0, hh, _⟩ := h.head
  have c22 : w.cell? ⟨b, 22, none⟩ = some (.int .i64 x.e) := htl.cell 2 _ rfl
  have c0 : w.cell? ⟨b, 0, none⟩ = some (.int .i64 x.st) := hh.cell0 _ rfl
  have H := hide h
  have HT := hide ht
  have HW := hide hw
  have HP := hide hp
  obtain ⟨st, hst⟩ : ∃ st, st = x.st := ⟨_, rfl⟩
  obtain ⟨er, her⟩ : ∃ er, er = x.e := ⟨_, rfl⟩
  rw [← hst] at c0
  rw [← her] at c22
  have HST := hide hst
  have HER := hide her
  clear htl hh h ht hw hp hst her
  by_cases he : er = 0
  · have hx : x.e = 0 := HER.out.symm.trans he
    have HX := hide hx
    clear hx
    subst he
    by_cases h1 : st = 1
    · have hx1 : x.st = 1 := HST.out.symm.trans h1
      subst h1
      have HC := hide (lex_text H.out (HT.out hx1 HX.out) HX.out HP.out u)
      have HX1 := hide hx1
      clear hx1
      go_enter Tryz.func188, Tryz.ntmps188
      go_wp2_with fail
      (with_reducible refine (unhide HC).mono ?_)
      rintro e w1 ⟨q, x', ts, F', rfl, hq, hsl, hli, ho, hf⟩
      have HQ := hide hq
      have HLI := hide hli
      have HO := hide ho
      have HF := hide hf
      obtain ⟨q1, q2, rfl⟩ := hsl.form
      have HSL := hide hsl
      obtain ⟨es1, a1, v1, hm, _⟩ := hli
      obtain ⟨pt1, htl1, _⟩ := hm.tail
      have d22 : w1.cell? ⟨b, 22, none⟩ = some (.int .i64 x'.e) := htl1.cell 2 _ rfl
      clear HC hq hsl ho hf hm htl1 c0 c22
      by_cases h0 : x'.e = 0
      · have e0 : (x'.e != 0) = false := by simp [h0]
        have H0 := hide h0
        clear h0
        go_wp2_with fail
        go_ret2
        refine ⟨_, x', ts, F', by rw [H0.out]; rfl, ?_, HSL.out, HLI.out, HO.out, HF.out⟩
        unfold Lex.did; rw [if_neg (by simp [HX.out]), if_pos HX1.out]; exact ⟨ts, HQ.out, by rw [if_pos H0.out]⟩
      · have e0 : (x'.e != 0) = true := by simpa using h0
        have H0 := hide h0
        clear h0
        go_wp2_with fail
        go_quiet (fail)
        go_wp2_with fail
        go_ret2
        refine ⟨_, x', [], F', rfl, ?_, SlN.nil _ _ _ _, HLI.out.drewN _, HO.out.drewN _, HF.out⟩
        unfold Lex.did; rw [if_neg (by simp [HX.out]), if_pos HX1.out]; exact ⟨ts, HQ.out, by rw [if_neg H0.out]⟩
    by_cases h3 : st = 3
    · have hx3 : x.st = 3 := HST.out.symm.trans h3
      subst h3
      have HC := hide ((lex_word (F := F) H.out hx3 HW.out.asc HW.out.four u).mono fun _ _ h9 => h9.lex)
      have HX3 := hide hx3
      clear hx3 h1
      go_enter Tryz.func188, Tryz.ntmps188
      go_wp2_with fail
      (with_reducible refine (unhide HC).mono ?_)
      rintro e w1 ⟨q, x', ts, F', rfl, hq, hsl, hli, ho, hf⟩
      have HQ := hide hq
      have HLI := hide hli
      have HO := hide ho
      have HF := hide hf
      obtain ⟨q1, q2, rfl⟩ := hsl.form
      have HSL := hide hsl
      obtain ⟨es1, a1, v1, hm, _⟩ := hli
      obtain ⟨pt1, htl1, _⟩ := hm.tail
      have d22 : w1.cell? ⟨b, 22, none⟩ = some (.int .i64 x'.e) := htl1.cell 2 _ rfl
      clear HC hq hsl ho hf hm htl1 c0 c22
      by_cases h0 : x'.e = 0
      · have e0 : (x'.e != 0) = false := by simp [h0]
        have H0 := hide h0
        clear h0
        go_wp2_with fail
        go_ret2
        refine ⟨_, x', ts, F', by rw [H0.out]; rfl, ?_, HSL.out, HLI.out, HO.out, HF.out⟩
        unfold Lex.did; rw [if_neg (by simp [HX.out]), if_neg (by rw [HX3.out]; decide), if_pos HX3.out]; exact ⟨congrArg Prod.fst HQ.out, by rw [if_pos H0.out]; exact congrArg Prod.snd HQ.out⟩
      · have e0 : (x'.e != 0) = true := by simpa using h0
        have H0 := hide h0
        clear h0
        go_wp2_with fail
        go_quiet (fail)
        go_wp2_with fail
        go_ret2
        refine ⟨_, x', [], F', rfl, ?_, SlN.nil _ _ _ _, HLI.out.drewN _, HO.out.drewN _, HF.out⟩
        unfold Lex.did; rw [if_neg (by simp [HX.out]), if_neg (by rw [HX3.out]; decide), if_pos HX3.out]; exact ⟨congrArg Prod.fst HQ.out, by rw [if_neg H0.out]⟩
    by_cases h2 : st = 2
    · have hx2 : x.st = 2 := HST.out.symm.trans h2
      subst h2
      have HC := hide ((lex_number (F := F) H.out hx2 u).mono fun _ _ h9 => h9.lex)
      have HX2 := hide hx2
      clear hx2 h1 h3
      go_enter Tryz.func188, Tryz.ntmps188
      go_wp2_with fail
      (with_reducible refine (unhide HC).mono ?_)
      rintro e w1 ⟨q, x', ts, F', rfl, hq, hsl, hli, ho, hf⟩
      have HQ := hide hq
      have HLI := hide hli
      have HO := hide ho
      have HF := hide hf
      obtain ⟨q1, q2, rfl⟩ := hsl.form
      have HSL := hide hsl
      obtain ⟨es1, a1, v1, hm, _⟩ := hli
      obtain ⟨pt1, htl1, _⟩ := hm.tail
      have d22 : w1.cell? ⟨b, 22, none⟩ = some (.int .i64 x'.e) := htl1.cell 2 _ rfl
      clear HC hq hsl ho hf hm htl1 c0 c22
      by_cases h0 : x'.e = 0
      · have e0 : (x'.e != 0) = false := by simp [h0]
        have H0 := hide h0
        clear h0
        go_wp2_with fail
        go_ret2
        refine ⟨_, x', ts, F', by rw [H0.out]; rfl, ?_, HSL.out, HLI.out, HO.out, HF.out⟩
        unfold Lex.did; rw [if_neg (by simp [HX.out]), if_neg (by rw [HX2.out]; decide), if_neg (by rw [HX2.out]; decide), if_pos HX2.out]; exact ⟨congrArg Prod.fst HQ.out, by rw [if_pos H0.out]; exact congrArg Prod.snd HQ.out⟩
      · have e0 : (x'.e != 0) = true := by simpa using h0
        have H0 := hide h0
        clear h0
        go_wp2_with fail
        go_quiet (fail)
        go_wp2_with fail
        go_ret2
        refine ⟨_, x', [], F', rfl, ?_, SlN.nil _ _ _ _, HLI.out.drewN _, HO.out.drewN _, HF.out⟩
        unfold Lex.did; rw [if_neg (by simp [HX.out]), if_neg (by rw [HX2.out]; decide), if_neg (by rw [HX2.out]; decide), if_pos HX2.out]; exact ⟨congrArg Prod.fst HQ.out, by rw [if_neg H0.out]⟩
    · have hx0 : x.st = 0 := by
        have := HST.out
        rcases HW.out.st with h | h | h | h
        · exact h
        · exact absurd (this.trans h) h1
        · exact absurd (this.trans h) h2
        · exact absurd (this.trans h) h3
      have h0' : st = 0 := HST.out.trans hx0
      subst h0'
      have HC := hide ((lex_between (F := F) H.out (.inl hx0) u).mono fun _ _ h9 => h9.lex)
      have HX0 := hide hx0
      clear hx0 h1 h3 h2
      go_enter Tryz.func188, Tryz.ntmps188
      go_wp2_with fail
      (with_reducible refine (unhide HC).mono ?_)
      rintro e w1 ⟨q, x', ts, F', rfl, hq, hsl, hli, ho, hf⟩
      have HQ := hide hq
      have HLI := hide hli
      have HO := hide ho
      have HF := hide hf
      obtain ⟨q1, q2, rfl⟩ := hsl.form
      have HSL := hide hsl
      obtain ⟨es1, a1, v1, hm, _⟩ := hli
      obtain ⟨pt1, htl1, _⟩ := hm.tail
      have d22 : w1.cell? ⟨b, 22, none⟩ = some (.int .i64 x'.e) := htl1.cell 2 _ rfl
      clear HC hq hsl ho hf hm htl1 c0 c22
      by_cases h0 : x'.e = 0
      · have e0 : (x'.e != 0) = false := by simp [h0]
        have H0 := hide h0
        clear h0
        go_wp2_with fail
        go_ret2
        refine ⟨_, x', ts, F', by rw [H0.out]; rfl, ?_, HSL.out, HLI.out, HO.out, HF.out⟩
        unfold Lex.did; rw [if_neg (by simp [HX.out]), if_neg (by rw [HX0.out]; decide), if_neg (by rw [HX0.out]; decide), if_neg (by rw [HX0.out]; decide)]; exact ⟨congrArg Prod.fst HQ.out, by rw [if_pos H0.out]; exact congrArg Prod.snd HQ.out⟩
      · have e0 : (x'.e != 0) = true := by simpa using h0
        have H0 := hide h0
        clear h0
        go_wp2_with fail
        go_quiet (fail)
        go_wp2_with fail
        go_ret2
        refine ⟨_, x', [], F', rfl, ?_, SlN.nil _ _ _ _, HLI.out.drewN _, HO.out.drewN _, HF.out⟩
        unfold Lex.did; rw [if_neg (by simp [HX.out]), if_neg (by rw [HX0.out]; decide), if_neg (by rw [HX0.out]; decide), if_neg (by rw [HX0.out]; decide)]; exact ⟨congrArg Prod.fst HQ.out, by rw [if_neg H0.out]⟩
  · have e0 : (er != 0) = true := by simpa using he
    have hx : x.e ≠ 0 := fun h9 => he (HER.out.trans h9)
    have HX := hide hx
    clear hx he
    go_enter Tryz.func188, Tryz.ntmps188
    go_wp2_with fail
    go_quiet (fail)
    go_wp2_with fail
    go_ret2
    refine ⟨.slice none 0 0, x, [], F, by rw [← HER.out]; rfl, ?_, SlN.nil _ _ _ _, LexIs.drewN ⟨_, _, _, H.out, HT.out⟩ _, (Only.refl _ _).drewN _, fun k hk => .inl hk⟩
    unfold Lex.did
    rw [if_pos HX.out]
    exact ⟨rfl, rfl⟩
set_option maxRecDepth 100000 in
set_option maxHeartbeats 4000000 in
theorem lex_end {w : World} {b : Nat} {F : List Nat} {post : List Value} {x : Lex} (h : LexIs w b F post x) :
    Calls Tryz.prog 119 #[.pointer (some ⟨b, 0, none⟩)] w (LexRes w b F post (fun x' ts => (x', ts) = x.endd)) := by
  obtain ⟨es, a, v, h, ht⟩ := h
  obtain ⟨pt, htl, _⟩ := h.tail
  obtain ⟨p0, hh, _⟩ := h.head
  have c22 : w.cell? ⟨b, 22, none⟩ = some (.int .i64 x.e) := htl.cell 2 _ rfl
  have f22 := htl.frozen 22
  have c0 : w.cell? ⟨b, 0, none⟩ = some (.int .i64 x.st) := hh.cell0 _ rfl
  have H := hide h
  have HT := hide ht
  obtain ⟨R, hm⟩ : ∃ r, x.endd = r := ⟨_, rfl⟩
  rw [hm]
  unfold Lex.endd at hm
  clear htl hh h ht
  by_cases he : x.e = 0
  · have e0 : (x.e != 0) = false := by simp [he]
    by_cases h0 : x.st = 0
    · have e1 : (x.st == 0) = true := by simp [h0]
      rw [if_pos (.inr h0)] at hm
      have HE := hide he
      clear h0 he
      go_enter Tryz.func119, Tryz.ntmps119
      go_wp2_with fail
      go_quiet (fail)
      go_wp2_with fail
      go_ret2
      subst hm
      exact ⟨_, x, [], F, rfl, rfl, SlN.nil _ _ _ _, LexIs.drewN ⟨_, _, _, H.out, HT.out⟩ _, (Only.refl _ _).drewN _, fun k hk => .inl hk⟩
    have e1 : (x.st == 0) = false := by simpa using h0
    rw [if_neg (by simp [he, h0])] at hm
    by_cases h2 : x.st = 2
    · have e2 : (x.st == 2) = true := by simp [h2]
      rw [if_pos h2] at hm
      have HC := hide (lex_ended H.out)
      have HE := ended_st x (.inr h2)
      have H2 := hide HE
      clear h0 h2 he HE
      go_enter Tryz.func119, Tryz.ntmps119
      go_wp2_with fail
      (with_reducible refine (unhide HC).mono ?_)
      rintro e w1 ⟨q, rfl, hsl, hlm, ho⟩
      rw [hm] at hsl hlm H2
      have HSL := hide hsl
      have HLM := hide hlm
      have HO := hide ho
      obtain ⟨q1, q2, rfl⟩ := hsl.form
      obtain ⟨pt1, htl1, _⟩ := hlm.tail
      have d22 : w1.cell? ⟨b, 22, none⟩ = some (.int .i64 R.1.e) := htl1.cell 2 _ rfl
      clear hsl hlm ho htl1
      go_wp2_with fail
      go_quiet (fail)
      go_wp2_with fail
      go_ret2
      exact ⟨_, R.1, R.2, F, rfl, rfl, HSL.out.drewN _, LexIs.drewN ⟨_, _, _, HLM.out, fun h9 => by rcases H2.out with h | h <;> rw [h] at h9 <;> exact absurd h9 (by decide)⟩ _, (HO.out.mono (fun k hk => by rw [List.mem_singleton.1 hk]; exact List.mem_cons_self ..)).drewN _, fun k hk => .inl hk⟩
    · have e2 : (x.st == 2) = false := by simpa using h2
      rw [if_neg h2] at hm
      clear h0 h2 he
      go_enter Tryz.func119, Tryz.ntmps119
      go_wp2_with fail
      go_quiet (fail)
      go_wp2_with fail
      go_ret2
      subst hm
      exact ⟨_, { x with e := 3 }, [], F, rfl, rfl, SlN.nil _ _ _ _, LexIs.drewN ⟨_, _, _, H.out.seterr (by omega) (by omega), fun _ h9 => absurd h9 (by simp)⟩ _, ((Only.refl _ _).setCell (p := ⟨b, 22, none⟩) (List.mem_cons_self ..) _).drewN _, fun k hk => .inl hk⟩
  · have e0 : (x.e != 0) = true := by simpa using he
    rw [if_pos (.inl he)] at hm
    clear he
    go_enter Tryz.func119, Tryz.ntmps119
    go_wp2_with fail
    go_quiet (fail)
    go_wp2_with fail
    go_ret2
    subst hm
    exact ⟨_, x, [], F, rfl, rfl, SlN.nil _ _ _ _, LexIs.drewN ⟨_, _, _, H.out, HT.out⟩ _, (Only.refl _ _).drewN _, fun k hk => .inl hk⟩
end Go.Proofs.YtkccjfgkbkodiaaGreat
namespace Go.Proofs.YtkccjfgkbkodiaaGreat
open Go.ChangeShapes Go.WideShapes Go.ChangeAt Go.RowKit
/-- A slice of integers that came in: it is nil; or it leads to a row of 'cap' cells, the numbers 'zs' (the first 'len' are its elements), each fitting its kind. -/
def IsRow (k : IntKind) (w : World) (a : Option Addr) (len cap : Nat) (zs : List Int) : Prop :=
  (a = none ∧ len = 0 ∧ cap = 0 ∧ zs = []) ∨
  ∃ x, a = some x ∧ len ≤ cap ∧ cap ≤ maxLen ∧ zs.length = cap ∧ (∀ i, i < zs.length → w.cell? (x.add i) = some (.int k (zs.getD i 0))) ∧ ∀ n ∈ zs, (Lit.int k n).wf = true
theorem isRow_of_trod {H : Type} {enc : TypeId × Value → H} {P : Program} {W : World} {k : IntKind} {t e : TypeId} {a : Option Addr} {len cap : Nat} {d : DataW H} {p : List MemPlace}
    (ht : P.underlying t = some (.slice e)) (he : P.underlying e = some (.int k)) (hc : P.cellsOf e = 1)
    (h : DataW.Trod enc P W 0 (fun _ => true) true t (.slice a len cap) d p) : ∃ zs, IsRow k W a len cap zs := by
  obtain ⟨fuel, hf⟩ := h
  rcases open_ints ht he hc hf with ⟨hcs, _⟩ | ⟨x, l, c, zs, hcs, _, hl, hm, hz, _, hcell, hwz⟩
  · simp [Value.cells] at hcs
    obtain ⟨rfl, rfl, rfl⟩ := hcs
    exact ⟨[], .inl ⟨rfl, rfl, rfl, rfl⟩⟩
  · simp [Value.cells] at hcs
    obtain ⟨rfl, rfl, rfl⟩ := hcs
    exact ⟨zs, .inr ⟨_, rfl, hl, hm, by simpa using hz, hcell, hwz⟩⟩
theorem block_lt_of_cell {w : World} {a : Addr} {v : Value} (h : w.cell? a = some v) : a.block < w.heap.size := by
  rcases Nat.lt_or_ge a.block w.heap.size with hlt | hge
  · exact hlt
  · unfold World.cell? at h; rw [Array.getElem?_eq_none hge] at h; cases h
/-- A slice of integers that is not empty. -/
theorem isRow_at {k : IntKind} {w : World} {a : Option Addr} {len cap : Nat} {zs : List Int} (h : IsRow k w a len cap zs) (h0 : 0 < len) :
    ∃ b off, a = some ⟨b, off, none⟩ ∧ b < w.heap.size ∧ len ≤ cap ∧ cap ≤ maxLen ∧ zs.length = cap ∧ (∀ i, i < zs.length → w.cell? ⟨b, off + i, none⟩ = some (.int k (zs.getD i 0))) ∧ ∀ n ∈ zs, (Lit.int k n).wf = true := by
  rcases h with ⟨rfl, rfl, _⟩ | ⟨⟨b, off, spot⟩, rfl, hl, hm, hz, hcell, hwz⟩
  · omega
  · have hc0 := hcell 0 (by omega)
    have hspot : spot = none := by simpa [Addr.add] using World.cell?_spot hc0
    subst hspot
    refine ⟨b, off, rfl, block_lt_of_cell (a := ⟨b, off, none⟩) (by simpa [Addr.add] using hc0), hl, hm, hz, fun i hi => ?_, hwz⟩
    rw [← add_plain]; exact hcell i hi
theorem isRow_len {k : IntKind} {w : World} {a : Option Addr} {len cap : Nat} {zs : List Int} (h : IsRow k w a len cap zs) : len ≤ 9223372036854775807 := by
  rcases h with ⟨rfl, rfl, _⟩ | ⟨x, rfl, hl, hm, _⟩
  · omega
  · unfold maxLen at hm; omega
theorem wf_bounds {n : Int} (h : (Lit.int .i64 n).wf = true) : -9223372036854775808 ≤ n ∧ n ≤ 9223372036854775807 := by
  simp [Lit.wf, IntKind.min, IntKind.max, IntKind.signed, IntKind.bits] at h
  omega
theorem wf_bounds_u64 {n : Int} (h : (Lit.int .u64 n).wf = true) : 0 ≤ n ∧ n < 18446744073709551616 := by
  simp [Lit.wf, IntKind.min, IntKind.max, IntKind.signed, IntKind.bits] at h
  omega
/-- x & m, whatever x: between 0 and m. -/
theorem i64_and_mask (z : Int) (m : Nat) (hm : m < 4611686018427387904) : ∃ k : Nat, k ≤ m ∧ bits .and .i64 z (m : Int) = (k : Int) := by
  have hx : (BitVec.ofInt 64 z &&& BitVec.ofInt 64 (m : Int)).toNat ≤ m := by
    rw [BitVec.toNat_and, BitVec.ofInt_natCast, BitVec.toNat_ofNat, Nat.mod_eq_of_lt (by omega : m < 2 ^ 64)]
    exact Nat.and_le_right
  refine ⟨(BitVec.ofInt 64 z &&& BitVec.ofInt 64 (m : Int)).toNat, hx, ?_⟩
  show IntKind.i64.wrap ((BitVec.ofInt 64 z &&& BitVec.ofInt 64 (m : Int)).toNat : Int) = _
  rw [IntKind.wrap_i64]
  omega
section
variable {H : Type} {enc : TypeId × Value → H} {P : Program} {w : World} {base : Nat} {spare : Nat → Bool} {held : Bool}
open Go.Deep
/-- An argument that is a slice of structs of one-cell fields. -/
theorem open_slice_fields {t e : TypeId} {fs : Array Field} {fuel : Nat} {cs : List Value} {x : DataW H × List MemPlace} (ht : P.underlying t = some (.slice e)) (he : P.underlying e = some (.struct fs))
    (hone : oneCellFields P fs = true) (hC : P.cellsOf e = fs.size) (h : DataW.trod enc P w base spare held fuel t cs = some x) :
    (cs = [.slice none 0 0]) ∨
    ∃ (a : Addr) (len cap : Nat), cs = [.slice (some a) len cap] ∧ len ≤ cap ∧ cap ≤ maxLen ∧
      ∀ i, i < len → ∃ n : Nat, ∀ (j : Nat) (f : Field), fs[j]? = some f → ∃ (v : Value) (y : DataW H × List MemPlace), w.cell? (a.add (i * fs.size + j)) = some v ∧ DataW.trod enc P w base spare held n f.type [v] = some y := by
  rcases open_slice ht h with h0 | ⟨a, len, cap, m, n, D, Pl, hcs, hb, hl, hm, hmm, hx, hi⟩
  · exact .inl h0.1
  · refine .inr ⟨a, len, cap, hcs, hl, hm, fun i him => ?_⟩
    obtain ⟨cs', hc, ht'⟩ := hi i (by rw [hmm]; split <;> omega)
    rw [hC] at hc
    obtain ⟨ys, n', hn', hy, hlen, hyl, hf⟩ := DataW.trod_struct he ht'
    obtain ⟨_, hcl, hat⟩ := World.cells?_some hc
    refine ⟨n', fun j f hj => ?_⟩
    obtain ⟨ho, hk⟩ := hone_of hone j f hj
    have hjl : j < fs.size := (Array.getElem?_eq_some_iff.1 hj).1
    have hcell := hat j hjl
    have hv : cs'[j]? = some (cs'[j]'(by omega)) := List.getElem?_eq_getElem (by omega)
    have h1 := hf j f hj
    rw [ho, hk] at h1
    have hone' : (cs'.drop j).take 1 = [cs'[j]'(by omega)] := by
      rw [List.drop_eq_getElem_cons (by omega)]
      rfl
    rw [hone'] at h1
    have hys : ys[j]? = some (ys[j]'(by omega)) := List.getElem?_eq_getElem (by omega)
    refine ⟨_, _, ?_, h1.trans hys⟩
    rw [← Go.Deep.add_add, hcell, hv]
end
/-- What is there for each number below n, as a list. -/
theorem list_of_each {α : Type} [Inhabited α] (n : Nat) (Q : Nat → α → Prop) (h : ∀ i, i < n → ∃ r, Q i r) : ∃ z : List α, z.length = n ∧ ∀ i (hi : i < z.length), Q i z[i] := by
  have h' : ∀ i, ∃ r, i < n → Q i r := fun i => by
    by_cases hi : i < n
    · obtain ⟨r, hr⟩ := h i hi; exact ⟨r, fun _ => hr⟩
    · exact ⟨default, fun h => absurd h hi⟩
  refine ⟨(List.range n).map fun i => Classical.choose (h' i), by simp, fun i hi => ?_⟩
  simp only [List.getElem_map, List.getElem_range]
  exact Classical.choose_spec (h' i) (by simpa using hi)
open Go.Deep in
/-- A slice of structs that came in: each element's cells. -/
theorem isFields_of_trod {H : Type} {enc : TypeId × Value → H} {P : Program} {W : World} {t e : TypeId} {fs : Array Field} {a : Option Addr} {len cap : Nat} {d : DataW H} {p : List MemPlace}
    (ht : P.underlying t = some (.slice e)) (he : P.underlying e = some (.struct fs)) (hone : oneCellFields P fs = true) (hC : P.cellsOf e = fs.size)
    (h : DataW.Trod enc P W 0 (fun _ => true) true t (.slice a len cap) d p) :
    (a = none ∧ len = 0 ∧ cap = 0) ∨ ∃ x : Addr, a = some x ∧ len ≤ cap ∧ cap ≤ maxLen ∧
      ∀ i, i < len → ∃ n : Nat, ∀ (j : Nat) (f : Field), fs[j]? = some f → ∃ (v : Value) (y : DataW H × List MemPlace), W.cell? (x.add (i * fs.size + j)) = some v ∧ DataW.trod enc P W 0 (fun _ => true) true n f.type [v] = some y := by
  obtain ⟨fuel, hf⟩ := h
  rcases open_slice_fields ht he hone hC hf with hcs | ⟨x, l, c, hcs, hl, hm, hi⟩
  · simp [Value.cells] at hcs
    exact .inl hcs
  · simp [Value.cells] at hcs
    obtain ⟨rfl, rfl, rfl⟩ := hcs
    exact .inr ⟨x, rfl, hl, hm, hi⟩
end Go.Proofs.YtkccjfgkbkodiaaGreat
namespace Go.Proofs.YtkccjfgkbkodiaaGreat
open Go.ChangeShapes Go.WideShapes Go.ChangeAt Go.RowKit
/-- A slice of bools that came in. -/
def IsBools (w : World) (a : Option Addr) (len cap : Nat) (zs : List Bool) : Prop :=
  (a = none ∧ len = 0 ∧ cap = 0 ∧ zs = []) ∨
  ∃ x, a = some x ∧ len ≤ cap ∧ cap ≤ maxLen ∧ zs.length = cap ∧ ∀ i (hi : i < zs.length), w.cell? (x.add i) = some (.bool zs[i])
theorem isBools_of_trod {H : Type} {enc : TypeId × Value → H} {P : Program} {W : World} {t e : TypeId} {a : Option Addr} {len cap : Nat} {d : DataW H} {p : List MemPlace}
    (ht : P.underlying t = some (.slice e)) (he : P.underlying e = some .bool) (hc : P.cellsOf e = 1)
    (h : DataW.Trod enc P W 0 (fun _ => true) true t (.slice a len cap) d p) : ∃ zs, IsBools W a len cap zs := by
  obtain ⟨fuel, hf⟩ := h
  rcases Go.Deep.open_bools ht he hc hf with ⟨hcs, _⟩ | ⟨x, l, c, B, hcs, _, hl, hm, _, hcell⟩
  · simp [Value.cells] at hcs
    obtain ⟨rfl, rfl, rfl⟩ := hcs
    exact ⟨[], .inl ⟨rfl, rfl, rfl, rfl⟩⟩
  · simp [Value.cells] at hcs
    obtain ⟨rfl, rfl, rfl⟩ := hcs
    exact ⟨(List.range cap).map B, .inr ⟨_, rfl, hl, hm, by simp, fun i hi => by simpa using hcell i (by simpa using hi)⟩⟩
theorem isBools_len {w : World} {a : Option Addr} {len cap : Nat} {zs : List Bool} (h : IsBools w a len cap zs) : len ≤ 9223372036854775807 := by
  rcases h with ⟨rfl, rfl, _⟩ | ⟨x, rfl, hl, hm, _⟩
  · omega
  · unfold maxLen at hm; omega
/-- .. that is not empty. -/
theorem isBools_at {w : World} {a : Option Addr} {len cap : Nat} {zs : List Bool} (h : IsBools w a len cap zs) (h0 : 0 < len) :
    ∃ b off, a = some ⟨b, off, none⟩ ∧ b < w.heap.size ∧ len ≤ cap ∧ cap ≤ maxLen ∧ zs.length = cap ∧ ∀ i (hi : i < zs.length), w.cell? ⟨b, off + i, none⟩ = some (.bool zs[i]) := by
  rcases h with ⟨rfl, rfl, _⟩ | ⟨⟨b, off, spot⟩, rfl, hl, hm, hz, hcell⟩
  · omega
  · have hc0 := hcell 0 (by omega)
    have hspot : spot = none := by simpa [Addr.add] using World.cell?_spot hc0
    subst hspot
    refine ⟨b, off, rfl, block_lt_of_cell (a := ⟨b, off, none⟩) (by simpa [Addr.add] using hc0), hl, hm, hz, fun i hi => ?_⟩
    rw [← add_plain]; exact hcell i hi
/-- A slice of strings that came in. -/
def IsStrs (w : World) (a : Option Addr) (len cap : Nat) (zs : List ByteArray) : Prop :=
  (a = none ∧ len = 0 ∧ cap = 0 ∧ zs = []) ∨
  ∃ x, a = some x ∧ len ≤ cap ∧ cap ≤ maxLen ∧ zs.length = cap ∧ (∀ i (hi : i < zs.length), w.cell? (x.add i) = some (.string zs[i])) ∧ ∀ s ∈ zs, s.size ≤ maxLen
theorem isStrs_of_trod {H : Type} {enc : TypeId × Value → H} {P : Program} {W : World} {t e : TypeId} {a : Option Addr} {len cap : Nat} {d : DataW H} {p : List MemPlace}
    (ht : P.underlying t = some (.slice e)) (he : P.underlying e = some .string) (hc : P.cellsOf e = 1)
    (h : DataW.Trod enc P W 0 (fun _ => true) true t (.slice a len cap) d p) : ∃ zs, IsStrs W a len cap zs := by
  obtain ⟨fuel, hf⟩ := h
  rcases open_strings ht he hc hf with ⟨hcs, _⟩ | ⟨x, l, c, ss, hcs, _, hl, hm, hz, _, hcell, hw⟩
  · simp [Value.cells] at hcs
    obtain ⟨rfl, rfl, rfl⟩ := hcs
    exact ⟨[], .inl ⟨rfl, rfl, rfl, rfl⟩⟩
  · simp [Value.cells] at hcs
    obtain ⟨rfl, rfl, rfl⟩ := hcs
    exact ⟨ss, .inr ⟨_, rfl, hl, hm, by simpa using hz, fun i hi => by rw [hcell i hi]; simp [List.getD, List.getElem?_eq_getElem hi], hw⟩⟩
theorem isStrs_len {w : World} {a : Option Addr} {len cap : Nat} {zs : List ByteArray} (h : IsStrs w a len cap zs) : len ≤ 9223372036854775807 := by
  rcases h with ⟨rfl, rfl, _⟩ | ⟨x, rfl, hl, hm, _⟩
  · omega
  · unfold maxLen at hm; omega
theorem isStrs_at {w : World} {a : Option Addr} {len cap : Nat} {zs : List ByteArray} (h : IsStrs w a len cap zs) (h0 : 0 < len) :
    ∃ b off, a = some ⟨b, off, none⟩ ∧ b < w.heap.size ∧ len ≤ cap ∧ cap ≤ maxLen ∧ zs.length = cap ∧ (∀ i (hi : i < zs.length), w.cell? ⟨b, off + i, none⟩ = some (.string zs[i])) ∧ ∀ s ∈ zs, s.size ≤ maxLen := by
  rcases h with ⟨rfl, rfl, _⟩ | ⟨⟨b, off, spot⟩, rfl, hl, hm, hz, hcell, hw⟩
  · omega
  · have hc0 := hcell 0 (by omega)
    have hspot : spot = none := by simpa [Addr.add] using World.cell?_spot hc0
    subst hspot
    refine ⟨b, off, rfl, block_lt_of_cell (a := ⟨b, off, none⟩) (by simpa [Addr.add] using hc0), hl, hm, hz, fun i hi => ?_, hw⟩
    rw [← add_plain]; exact hcell i hi
end Go.Proofs.YtkccjfgkbkodiaaGreat
