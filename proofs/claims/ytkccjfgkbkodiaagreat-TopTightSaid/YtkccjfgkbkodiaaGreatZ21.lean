/-
  PipD · PipE · PipF · PipG · PipH: parts of the walk of TopTight, under no condition.
-/
import Derived.Test.YtkccjfgkbkodiaaGreatZ20
namespace Go.Proofs.YtkccjfgkbkodiaaGreat
open Go.RowKit
/-- A pipe at q, its other blocks among F. -/
def PipIs (w : World) (q : Nat) (F : List Nat) (d : Nat) (m : Pip) : Prop :=
  ∃ b o s Fj Fs vo, PipM w q b o s Fj Fs vo d m ∧ ∀ k, k = b ∨ k = o ∨ k = s ∨ k ∈ slB vo ∨ k ∈ Fj ∨ k ∈ Fs → k ∈ F
theorem PipIs.keep {w w' : World} {q d : Nat} {F T : List Nat} {m : Pip} (h : PipIs w q F d m) (ho : Only T w w') (h1 : q ∉ T) (h2 : ∀ k ∈ F, k ∉ T) : PipIs w' q F d m := by
  obtain ⟨b, o, s, Fj, Fs, vo, hM, hF⟩ := h
  exact ⟨b, o, s, Fj, Fs, vo, hM.far ho h1 (h2 _ (hF _ (.inl rfl))) (fun k hk => h2 _ (hF _ (.inr (.inr (.inr (.inr (.inl hk))))))) (h2 _ (hF _ (.inr (.inl rfl)))) (fun k hk => h2 _ (hF _ (.inr (.inr (.inr (.inl hk)))))) (h2 _ (hF _ (.inr (.inr (.inl rfl))))) (fun k hk => h2 _ (hF _ (.inr (.inr (.inr (.inr (.inr hk))))))), hF⟩
def Pip.did (m : Pip) (d : Nat) (u : UInt8) (r : Pip × List UInt8 × Int) : Prop :=
  if m.may ≠ 0 then r = (m, [], m.may) else ∃ p', m.par.did d u p' ∧ r = Pip.write { m with par := p'.1 } p'.2.1 p'.2.2 []
def Pip.endd (m : Pip) (d : Nat) : Pip × List UInt8 × Int :=
  if m.may ≠ 0 then (m, [], m.may) else Pip.write { m with over := true, par := (m.par.endd d).1 } (m.par.endd d).2.1 (m.par.endd d).2.2 []
/-- Bytes and an error are handed back by a pipe. -/
def PipRes (w : World) (q : Nat) (F : List Nat) (d : Nat) (Q : Pip × List UInt8 × Int → Prop) (e : Ending) (w' : World) : Prop :=
  ∃ r F', Q r ∧ e = .returned (.tuple #[.string (S r.2.1), .int .i64 r.2.2]) ∧ PipIs w' q F' d r.1 ∧ Only (q :: F) w w' ∧ ∀ k ∈ F', k ∈ F ∨ w.heap.size ≤ k
/-- What a pipe always is: N counts what went in. -/
structure Pip.Ok (m : Pip) (d N : Nat) : Prop where
  par : m.par.Ok d
  lex : m.par.l.Wok
  stg : m.stg.Inv
  upto : ∃ k, Upto k m.R ∧ k + m.stg.held.length ≤ N
theorem value_js {p : Par} {d : Nat} {t : Tok} (ht : t.text.length ≤ 200) (hm : t.mag < 18446744073709551616) : ∀ x ∈ (p.value d t).2.toList, x.js = true := by
  unfold Par.value
  repeat' split
  all_goals intro x hx
  all_goals simp at hx
  all_goals subst hx
  all_goals simp [Part.js]
  · exact ht
  · omega
theorem token_js {p : Par} {d : Nat} {t : Tok} (ht : t.text.length ≤ 200) (hm : t.mag < 18446744073709551616) : ∀ x ∈ (p.token d t).2.toList, x.js = true := by
  unfold Par.token
  repeat' split
  all_goals first
    | exact value_js ht hm
    | (intro x hx; simp at hx; done)
    | (intro x hx; simp at hx; subst hx; rfl)
    | (intro x hx; simp at hx; subst hx; simp [Part.js]; exact ht)
def TokOk (t : Tok) : Prop := t.text.length ≤ 200 ∧ t.mag < 18446744073709551616
theorem parts_js {d : Nat} {ts : List Tok} : ∀ {p : Par} {out : List Part} {e : Int}, (∀ t ∈ ts, TokOk t) → (∀ x ∈ out, x.js = true) → (∀ x ∈ (Par.parts d p ts out e).2.1, x.js = true) ∧ (Par.parts d p ts out e).2.1.length ≤ out.length + ts.length ∧ (p.Ok d → (Par.parts d p ts out e).1.Ok d) ∧ ((Par.parts d p ts out e).1.l = p.l) := by
  have vl : ∀ (p : Par) (t : Tok), (p.value d t).1.l = p.l := fun p t => by
    unfold Par.value
    repeat' split
    all_goals rfl
  have tl : ∀ (p : Par) (t : Tok), (p.token d t).1.l = p.l := fun p t => by
    unfold Par.token
    repeat' split
    all_goals first | rfl | exact vl p t
  induction ts with
  | nil => intro p out e _ ho; exact ⟨ho, by simp [Par.parts], fun h => ⟨h.five, h.deep⟩, rfl⟩
  | cons t ts ih =>
    intro p out e ht ho
    have h0 := ht t (List.mem_cons_self ..)
    have hj := token_js (p := p) (d := d) h0.1 h0.2
    have hol : (p.token d t).2.toList.length ≤ 1 := by cases (p.token d t).2 <;> simp
    unfold Par.parts
    split
    · exact ⟨ho, Nat.le_add_right _ _, fun h => h.token t, tl p t⟩
    · obtain ⟨i1, i2, i3, i4⟩ := ih (p := (p.token d t).1) (out := out ++ (p.token d t).2.toList) (e := e) (fun x hx => ht x (List.mem_cons_of_mem _ hx)) (fun x hx => by
        rcases List.mem_append.1 hx with hx | hx
        · exact ho x hx
        · exact hj x hx)
      refine ⟨i1, ?_, fun h => i3 (h.token t), i4.trans (tl p t)⟩
      rw [List.length_append] at i2
      simp only [List.length_cons]
      omega
theorem ended_ok {x : Lex} (h : x.n.Ok) : ∀ t ∈ x.ended.2, TokOk t := by
  have hk := (Num.fin_ok h).1
  unfold Lex.ended
  split
  · simp
  · intro t ht
    rw [List.mem_singleton.1 ht]
    exact ⟨by simp, hk⟩
theorem between_ok (x : Lex) (u : UInt8) : ∀ t ∈ (x.between u).2, TokOk t := by
  unfold Lex.between
  repeat' split
  all_goals intro t ht
  all_goals simp at ht
  subst ht
  exact ⟨by simp [tokOf], by simp [tokOf]⟩
theorem word_tok (x : Lex) (u : UInt8) : ∀ t ∈ (x.word u).2, TokOk t := by
  unfold Lex.word
  split
  · simp
  · repeat' split
    all_goals intro t ht
    all_goals simp at ht
    subst ht
    exact ⟨by simp [tokOf], by simp [tokOf]⟩
theorem number_tok {x : Lex} (h : x.n.Ok) (u : UInt8) : ∀ t ∈ (x.number u).2, TokOk t := by
  have hk := (Num.step_ok h u.toNat).1
  unfold Lex.number
  repeat' split
  · simp
  · simp
  · intro t ht
    rcases List.mem_append.1 ht with ht | ht
    · exact ended_ok (x := { x with n := (x.n.step u.toNat).1, e := (x.n.step u.toNat).2.2 }) hk t ht
    · exact between_ok _ u t ht
theorem did_tok {x x' : Lex} {u : UInt8} {ts : List Tok} (h : x.n.Ok) (hd : x.did u x' ts) : ∀ t ∈ ts, TokOk t := by
  have key : ∀ (c : Prop) [Decidable c] (l : List Tok), (∀ t ∈ l, TokOk t) → ∀ t ∈ (if c then l else []), TokOk t := fun c _ l hl t ht => by
    split at ht
    · exact hl t ht
    · cases ht
  unfold Lex.did at hd
  split at hd
  · obtain ⟨_, rfl⟩ := hd; simp
  split at hd
  · obtain ⟨t0, ht, rfl⟩ := hd
    refine key _ _ ?_
    rcases ht with ⟨k, _, _, _, rfl⟩ | ⟨l, hl, _, rfl⟩
    · simp
    · intro t ht
      rw [List.mem_singleton.1 ht]
      exact ⟨hl, by simp⟩
  split at hd
  · obtain ⟨_, rfl⟩ := hd; exact key _ _ (word_tok x u)
  split at hd
  · obtain ⟨_, rfl⟩ := hd; exact key _ _ (number_tok h u)
  · obtain ⟨_, rfl⟩ := hd; exact key _ _ (between_ok x u)
end Go.Proofs.YtkccjfgkbkodiaaGreat
namespace Go.Proofs.YtkccjfgkbkodiaaGreat
open Go.RowKit
theorem ParIs.nok {w : World} {b d : Nat} {F : List Nat} {p : Par} (h : ParIs w b F d p) : p.l.n.Ok := by
  obtain ⟨mv, h⟩ := h
  obtain ⟨es, a, v, hm, _⟩ := h.lex
  exact hm.ok
theorem par_did_ok {p : Par} {d : Nat} {u : UInt8} {r : Par × List Part × Int} (h : p.Ok d) (hw : p.l.Wok) (hn : p.l.n.Ok) (hd : p.did d u r) : (∀ x ∈ r.2.1, x.js = true) ∧ r.2.1.length ≤ 2 ∧ r.1.Ok d ∧ r.1.l.Wok := by
  unfold Par.did at hd
  split at hd
  · subst hd; exact ⟨by simp, by simp, h, hw⟩
  · obtain ⟨l', ts, hl, rfl⟩ := hd
    obtain ⟨i1, i2, i3, i4⟩ := parts_js (d := d) (p := { p with l := l' }) (out := []) (e := l'.e) (did_tok hn hl) (by simp)
    have := Lex.did_len hl
    refine ⟨i1, by simp at i2; omega, i3 ⟨h.five, h.deep⟩, ?_⟩
    rw [i4]
    exact hw.did hl
theorem endd_wok {x : Lex} (h : x.Wok) : x.endd.1.Wok := by
  unfold Lex.endd
  split
  · exact h
  split
  · exact h.ended
  · exact ⟨h.st, h.asc, h.four⟩
theorem endd_tok {x : Lex} (h : x.n.Ok) : ∀ t ∈ x.endd.2, TokOk t := by
  unfold Lex.endd
  split
  · simp
  split
  · exact ended_ok h
  · simp
theorem par_endd_ok {p : Par} {d : Nat} (h : p.Ok d) (hw : p.l.Wok) (hn : p.l.n.Ok) : (∀ x ∈ (p.endd d).2.1, x.js = true) ∧ (p.endd d).2.1.length ≤ 2 ∧ (p.endd d).1.Ok d ∧ (p.endd d).1.l.Wok := by
  obtain ⟨i1, i2, i3, i4⟩ := parts_js (d := d) (p := { p with l := p.l.endd.1 }) (out := []) (e := p.l.endd.1.e) (endd_tok hn) (by simp)
  have hl := endd_len p.l
  have hok := i3 ⟨h.five, h.deep⟩
  have hwk : (Par.parts d { p with l := p.l.endd.1 } p.l.endd.2 [] p.l.endd.1.e).1.l.Wok := by rw [i4]; exact endd_wok hw
  have h2 : (Par.parts d { p with l := p.l.endd.1 } p.l.endd.2 [] p.l.endd.1.e).2.1.length ≤ 2 := by simp at i2; omega
  unfold Par.endd
  split
  · exact ⟨by simp, by simp, h, hw⟩
  split
  · exact ⟨i1, h2, ⟨hok.five, hok.deep⟩, hwk⟩
  · exact ⟨i1, h2, hok, hwk⟩
/-- Behind a step: the pipe's blocks. -/
theorem PipRes.of {w w1 w2 : World} {q b o s d : Nat} {F Fj Fj' Fs Fs' : List Nat} {vo vo' : Value} {Q : Pip × List UInt8 × Int → Prop} {r : Pip × List UInt8 × Int} {e : Ending} {F1 : List Nat} (hF : ∀ k, k = b ∨ k = o ∨ k = s ∨ k ∈ slB vo ∨ k ∈ Fj ∨ k ∈ Fs → k ∈ F)
    (ho1 : Only (q :: b :: Fj) w w1) (hj : ∀ k ∈ Fj', k ∈ F1) (hf1 : ∀ k ∈ F1, k ∈ Fj ∨ w.heap.size ≤ k) (hQ : Q r) (he : e = .returned (.tuple #[.string (S r.2.1), .int .i64 r.2.2]))
    (hM2 : PipM w2 q b o s Fj' Fs' vo' d r.1) (ho2 : Only (q :: o :: s :: (slB vo ++ Fs)) w1 w2) (hf2 : ∀ k ∈ Fs' ++ slB vo', k ∈ slB vo ++ Fs ∨ w1.heap.size ≤ k) : PipRes w q F d Q e w2 := by
  have hs := ho1.size
  refine ⟨r, b :: o :: s :: (slB vo' ++ (Fj' ++ Fs')), hQ, he, ⟨b, o, s, Fj', Fs', vo', hM2, fun k hk => ?_⟩, (ho1.mono fun k hk => ?_).trans (ho2.mono fun k hk => ?_), fun k hk => ?_⟩
  · simp only [List.mem_cons, List.mem_append]
    rcases hk with h | h | h | h | h | h
    · exact .inl h
    · exact .inr (.inl h)
    · exact .inr (.inr (.inl h))
    · exact .inr (.inr (.inr (.inl h)))
    · exact .inr (.inr (.inr (.inr (.inl h))))
    · exact .inr (.inr (.inr (.inr (.inr h))))
  · simp only [List.mem_cons] at hk ⊢
    rcases hk with h | h | h
    · exact .inl h
    · exact .inr (hF k (.inl h))
    · exact .inr (hF k (.inr (.inr (.inr (.inr (.inl h))))))
  · simp only [List.mem_cons, List.mem_append] at hk ⊢
    rcases hk with h | h | h | h | h
    · exact .inl h
    · exact .inr (hF k (.inr (.inl h)))
    · exact .inr (hF k (.inr (.inr (.inl h))))
    · exact .inr (hF k (.inr (.inr (.inr (.inl h)))))
    · exact .inr (hF k (.inr (.inr (.inr (.inr (.inr h))))))
  · simp only [List.mem_cons, List.mem_append] at hk
    have fr : ∀ k, k ∈ Fs' ∨ k ∈ slB vo' → k ∈ F ∨ w.heap.size ≤ k := fun k hk => by
      rcases hf2 k (List.mem_append.2 hk) with h | h
      · rcases List.mem_append.1 h with h | h
        · exact .inl (hF k (.inr (.inr (.inr (.inl h)))))
        · exact .inl (hF k (.inr (.inr (.inr (.inr (.inr h))))))
      · exact .inr (by omega)
    rcases hk with h | h | h | h | h | h
    · exact .inl (hF k (.inl h))
    · exact .inl (hF k (.inr (.inl h)))
    · exact .inl (hF k (.inr (.inr (.inl h))))
    · exact fr k (.inr h)
    · rcases hf1 k (hj k h) with h9 | h9
      · exact .inl (hF k (.inr (.inr (.inr (.inr (.inl h9))))))
      · exact .inr h9
    · exact fr k (.inl h)
set_option maxRecDepth 100000 in
set_option maxHeartbeats 4000000 in
theorem pip_step {w : World} {q d N : Nat} {F : List Nat} {m : Pip} (h : PipIs w q F d m) (hk : m.Ok d N) (hd : d ≤ 100) (hN : N ≤ 3900) (u : UInt8) :
    Calls Tryz.prog 85 #[.pointer (some ⟨q, 0, none⟩), .int .u8 (u.toNat : Int)] w (PipRes w q F d (m.did d u)) := by
  have H := hide h
  obtain ⟨b, o, s, Fj, Fs, vo, hM, hF⟩ := h
  have c0 : w.cell? ⟨q, 0, none⟩ = some (.iface 150 (.pointer (some ⟨b, 0, none⟩))) := hM.blk.cellv 0 _ rfl
  have HMAY := hide (pip_may hM)
  have HTR := fun W => ta_reader b W
  have HME := fun (n : Nat) (hn : 0 < n) W => me_pstep n b hn W
  have HST := hide (par_step hM.par hk.par hk.lex hd u)
  have HM := hide hM
  have HF := hide hF
  have HK := hide hk
  have HNN := hide hN
  clear hM hF hk hd hN
  obtain ⟨my, hmy⟩ : ∃ my, my = m.may := ⟨_, rfl⟩
  rw [← hmy] at HMAY
  have HMY := hide hmy
  clear hmy
  by_cases h0 : my = 0
  · subst h0
    go_enter Tryz.func85, Tryz.ntmps85
    go_wp2_with fail
    (with_reducible refine (unhide HMAY).mono ?_)
    rintro e w ⟨rfl, hw1⟩
    subst hw1
    go_wp2_with fail
    (with_reducible refine (unhide HST).mono ?_)
    rintro e w1 ⟨r, hdid, ov, F1, rfl, hsl, hp1, ho1, hf1⟩
    obtain ⟨o1, o2, rfl⟩ := hsl.form
    obtain ⟨Fj', hM1, hj⟩ := HM.out.parser hp1 ho1
    obtain ⟨k, hk1, hk2⟩ := HK.out.upto
    obtain ⟨d1, d2, d3, d4⟩ := par_did_ok HK.out.par HK.out.lex HM.out.par.nok hdid
    have HW := hide (pip_write hM1 HK.out.stg hk1 hk2 (by have := HNN.out; omega) (hsl.mono (Nat.zero_le _)) d1 (fun k hk hm => by have h8 := (hsl.lt k hk).1; have h9 := HM.out.sms.lt k hm; omega) r.2.2)
    have HD := hide hdid
    have HO1 := hide ho1
    have HJ := hide hj
    have HF1 := hide hf1
    clear HST hdid hsl hp1 ho1 hf1 hM1 hj hk1 hk2 d1 d2 d3 d4 c0 HMAY
    go_wp2_with fail
    (with_reducible refine (unhide HW).mono ?_)
    rintro e w2 ⟨rfl, Fs', vo', hM2, ho2, hf2⟩
    have HM2 := hide hM2
    have HO2 := hide ho2
    have HF2 := hide hf2
    clear HW hM2 ho2 hf2
    go_wp2_with fail
    go_ret2
    refine PipRes.of HF.out (HO1.out.mono fun k hk => List.mem_cons_of_mem _ hk) HJ.out HF1.out ?_ rfl HM2.out HO2.out HF2.out
    unfold Pip.did
    rw [if_neg (by rw [← HMY.out]; simp)]
    exact ⟨r, HD.out, rfl⟩
  · have e0 : (my != 0) = true := by simpa using h0
    have H0 := hide h0
    clear h0 HST
    go_enter Tryz.func85, Tryz.ntmps85
    go_wp2_with fail
    (with_reducible refine (unhide HMAY).mono ?_)
    rintro e w ⟨rfl, hw1⟩
    subst hw1
    go_wp2_with fail
    go_ret2
    refine ⟨(m, [], m.may), F, ?_, by rw [HMY.out]; rfl, H.out, Only.refl _ _, fun k hk => .inl hk⟩
    unfold Pip.did
    rw [if_pos (by rw [← HMY.out]; exact H0.out)]
end Go.Proofs.YtkccjfgkbkodiaaGreat
namespace Go.Proofs.YtkccjfgkbkodiaaGreat
open Go.RowKit
set_option maxRecDepth 100000 in
set_option maxHeartbeats 4000000 in
theorem pip_end {w : World} {q d N : Nat} {F : List Nat} {m : Pip} (h : PipIs w q F d m) (hk : m.Ok d N) (hd : d ≤ 100) (hN : N ≤ 3900) :
    Calls Tryz.prog 83 #[.pointer (some ⟨q, 0, none⟩)] w (PipRes w q F d fun r => r = m.endd d) := by
  have H := hide h
  obtain ⟨b, o, s, Fj, Fs, vo, hM, hF⟩ := h
  have c3 : w.cell? ⟨q, 3, none⟩ = some (.bool m.over) := hM.blk.cellv 3 _ rfl
  have f3 := hM.blk.frozen 3
  have HMAY := hide (pip_may hM)
  have HTR := fun W => ta_parser b W
  have hMo := hM.setover
  have d0 : (w.setCell ⟨q, 3, none⟩ (.bool true)).cell? ⟨q, 0, none⟩ = some (.iface 150 (.pointer (some ⟨b, 0, none⟩))) := hMo.blk.cellv 0 _ rfl
  have HST := hide (par_end hMo.par hk.par hd)
  have HM := hide hMo
  have hb : b ≠ q := fun e => by
    obtain ⟨⟨c1, b1⟩, ⟨c2, b2⟩, _⟩ := hM.types
    subst e
    exact b1.ne_ b2 (by decide) rfl
  have c0 : w.cell? ⟨q, 0, none⟩ = some (.iface 150 (.pointer (some ⟨b, 0, none⟩))) := hM.blk.cellv 0 _ rfl
  have HF := hide hF
  have HK := hide hk
  have HNN := hide hN
  clear hM hF hk hd hN hMo
  obtain ⟨my, hmy⟩ : ∃ my, my = m.may := ⟨_, rfl⟩
  rw [← hmy] at HMAY
  have HMY := hide hmy
  clear hmy
  by_cases h0 : my = 0
  · subst h0
    go_enter Tryz.func83, Tryz.ntmps83
    go_wp2_with fail
    (with_reducible refine (unhide HMAY).mono ?_)
    rintro e w ⟨rfl, hw1⟩
    subst hw1
    go_wp2_with fail
    (with_reducible refine (unhide HST).mono ?_)
    rintro e w1 ⟨ov, F1, rfl, hsl, hp1, ho1, hf1⟩
    obtain ⟨o1, o2, rfl⟩ := hsl.form
    obtain ⟨Fj', hM1, hj⟩ := HM.out.parser hp1 ho1
    obtain ⟨k, hk1, hk2⟩ := HK.out.upto
    obtain ⟨d1, d2, d3, d4⟩ := par_endd_ok HK.out.par HK.out.lex HM.out.par.nok
    have HW := hide (pip_write hM1 HK.out.stg hk1 hk2 (by have := HNN.out; omega) (hsl.mono (Nat.zero_le _)) d1 (fun k hk hm => by have h8 := (hsl.lt k hk).1; have h9 := HM.out.sms.lt k hm; omega) (m.par.endd d).2.2)
    have HO1 := hide ((((Only.refl [q] w).setCell (p := ⟨q, 3, none⟩) (by simp) (.bool true)).mono (T := q :: b :: Fj) (by simp)).trans (ho1.mono fun k hk => List.mem_cons_of_mem _ hk))
    have HJ := hide hj
    have HF1 : Hid (∀ k ∈ F1, k ∈ Fj ∨ w.heap.size ≤ k) := hide (fun k hk => (hf1 k hk).imp_right (fun h9 => by simpa using h9))
    clear HST hsl hp1 ho1 hf1 hM1 hj hk1 hk2 d1 d2 d3 d4 c0 c3 d0 f3 HMAY
    go_wp2_with fail
    (with_reducible refine (unhide HW).mono ?_)
    rintro e w2 ⟨rfl, Fs', vo', hM2, ho2, hf2⟩
    have HM2 := hide hM2
    have HO2 := hide ho2
    have HF2 := hide hf2
    clear HW hM2 ho2 hf2
    go_wp2_with fail
    go_ret2
    refine PipRes.of HF.out HO1.out HJ.out HF1.out ?_ rfl HM2.out HO2.out HF2.out
    unfold Pip.endd
    rw [if_neg (by rw [← HMY.out]; simp)]
  · have e0 : (my != 0) = true := by simpa using h0
    have H0 := hide h0
    clear h0 HST
    go_enter Tryz.func83, Tryz.ntmps83
    go_wp2_with fail
    (with_reducible refine (unhide HMAY).mono ?_)
    rintro e w ⟨rfl, hw1⟩
    subst hw1
    go_wp2_with fail
    go_ret2
    refine ⟨(m, [], m.may), F, ?_, by rw [HMY.out]; rfl, H.out, Only.refl _ _, fun k hk => .inl hk⟩
    unfold Pip.endd
    rw [if_pos (by rw [← HMY.out]; exact H0.out)]
def Pip.heldBy (m : Pip) (r : Nat) : Prop := if m.may ≠ 0 then r = 0 else ∃ a, m.par.heldBy a ∧ r = a + m.stg.size
set_option maxRecDepth 100000 in
set_option maxHeartbeats 4000000 in
set_option linter.unusedSimpArgs false in
theorem pip_held {w : World} {q d N : Nat} {F : List Nat} {m : Pip} (h : PipIs w q F d m) (hk : m.Ok d N) (hd : d ≤ 100) :
    Calls Tryz.prog 80 #[.pointer (some ⟨q, 0, none⟩)] w fun e w' => (∃ r : Nat, e = .returned (.int .i64 r) ∧ m.heldBy r) ∧ Only [] w w' := by
  obtain ⟨b, o, s, Fj, Fs, vo, hM, hF⟩ := h
  have c0 : w.cell? ⟨q, 0, none⟩ = some (.iface 150 (.pointer (some ⟨b, 0, none⟩))) := hM.blk.cellv 0 _ rfl
  have HMAY := hide (pip_may hM)
  have HTR := fun W => ta_reader b W
  have HME := fun (n : Nat) (hn : 0 < n) W => me_pheld n b hn W
  have HPH := fun (W : World) (hp : PipM W q b o s Fj Fs vo d m) => hide (par_held hp.par hk.par hd)
  have HSH := fun (W : World) (hp : PipM W q b o s Fj Fs vo d m) => hide (stg_held hp.stg)
  have hsz : (m.stg.size : Int) ≤ 2000 := by have := hk.stg.ok.le; have := hk.stg.ok.lim; omega
  have hdp : m.par.maps.length ≤ 100 := by have := hk.par.deep; omega
  have HM := hide hM
  have HDP := hide hdp
  clear hM hF hk hd hdp
  obtain ⟨my, hmy⟩ : ∃ my, my = m.may := ⟨_, rfl⟩
  rw [← hmy] at HMAY
  have HMY := hide hmy
  clear hmy
  have hhb : ∀ a, m.par.heldBy a → a ≤ 300 := fun a ha => by
    unfold Par.heldBy at ha
    split at ha
    · omega
    · obtain ⟨k, h1, _, rfl⟩ := ha; have := HDP.out; omega
  have HHB := hide hhb
  clear hhb
  by_cases h0 : my = 0
  · subst h0
    go_enter Tryz.func80, Tryz.ntmps80
    go_wp2_with fail
    (with_reducible refine (unhide HMAY).mono ?_)
    rintro e w ⟨rfl, hw1⟩
    subst hw1
    go_upto_region 4 with (fail)
    have c2 : w.cell? ⟨q, 2, none⟩ = some (.pointer (some ⟨s, 0, none⟩)) := HM.out.blk.cellv 2 _ rfl
    refine wp_region_tree (fun W => W.cell? ⟨q, 2, none⟩ = some (.pointer (some ⟨s, 0, none⟩))) 8 (.take [0, 2, 3, 4, 5] (.step 1 (.step 6 (.step 7 (.step 8 (.fin)))))) (by kernel_rfl) (by kernel_rfl) (by intro _ _ _ _ _ h; exact h) ?_
    refine wpTree_take (c2) ?_
    simp only [opsAt, List.getElem?_cons_zero, List.getElem?_cons_succ]
    iterate 5 (first | (refine wpPureH_step (v := ?_) rfl (fun W hS => ?_) ?_; rotate_left; · (obtain s1 := hS; (try simp only [Act.put, List.setIfInBounds_toArray, List.set_cons_zero, List.set_cons_succ]); go_simp; with_reducible rfl)) | (refine wpPureH_want (v := ?_) (by rfl) (fun W hS => ?_) ?_; rotate_left; · (obtain s1 := hS; (try simp only [Act.put, List.setIfInBounds_toArray, List.set_cons_zero, List.set_cons_succ]); go_simp; with_reducible rfl)))
    refine wpPureH_nil ?_
    simp only [Act.put, List.setIfInBounds_toArray, List.set_cons_zero, List.set_cons_succ]
    have hMd := HM.out.new ((Only.refl [] w).drew)
    have H1 := HPH _ hMd
    have HMD := hide hMd
    clear HPH hMd
    refine wpTree_step ?_
    simp only [opsAt, List.getElem?_cons_zero, List.getElem?_cons_succ]
    go_wp2_with fail
    (with_reducible refine (unhide H1).mono ?_)
    rintro e w1 ⟨⟨r, rfl, hr⟩, ho1⟩
    have hM1 := HMD.out.new ho1
    have H2 := HSH _ hM1
    have d2 : w1.cell? ⟨q, 2, none⟩ = some (.pointer (some ⟨s, 0, none⟩)) := hM1.blk.cellv 2 _ rfl
    have hr3 : (r : Int) ≤ 300 := by have := HHB.out r hr; omega
    have HRR := hide hr
    have HO1 := hide ho1
    clear H1 HSH hM1 hr ho1 HMD
    go_wp2_with fail
    refine ⟨.inr d2, ?_⟩
    refine wpTree_step ?_
    simp only [opsAt, List.getElem?_cons_zero, List.getElem?_cons_succ]
    go_wp2_with fail
    (with_reducible refine (unhide H2).mono ?_)
    rintro e w1 ⟨rfl, hw2⟩
    subst hw2
    clear H2
    go_wp2_with fail
    refine ⟨.inr d2, ?_⟩
    refine wpTree_step ?_
    simp only [opsAt, List.getElem?_cons_zero, List.getElem?_cons_succ]
    go_wp2_with fail
    refine ⟨.inr d2, ?_⟩
    refine wpTree_step ?_
    simp only [opsAt, List.getElem?_cons_zero, List.getElem?_cons_succ]
    go_wp2_with fail
    refine ⟨.inl trivial, wpTree_fin ?_⟩
    go_wp2_with fail
    go_ret
    refine ⟨⟨r + m.stg.size, by simp, ?_⟩, ((Only.refl [] w).drew).trans HO1.out⟩
    unfold Pip.heldBy
    rw [if_neg (by rw [← HMY.out]; simp)]
    exact ⟨r, HRR.out, rfl⟩
  · have e0 : (my != 0) = true := by simpa using h0
    have H0 := hide h0
    clear h0
    go_enter Tryz.func80, Tryz.ntmps80
    go_wp2_with fail
    (with_reducible refine (unhide HMAY).mono ?_)
    rintro e w ⟨rfl, hw1⟩
    subst hw1
    go_wp2_with fail
    go_ret
    refine ⟨⟨0, rfl, ?_⟩, Only.refl _ _⟩
    unfold Pip.heldBy
    rw [if_pos (by rw [← HMY.out]; exact H0.out)]
end Go.Proofs.YtkccjfgkbkodiaaGreat
namespace Go.Proofs.YtkccjfgkbkodiaaGreat
open Go.RowKit
theorem put1_ok {X : List Part} : ∀ {m : Pip} {out : List UInt8} {k : Nat}, Upto k m.R → (∀ x ∈ X, x.js2 = true) →
    Upto (k + X.length) (m.put1 X out).1.R ∧ (m.put1 X out).1.stg = m.stg ∧ (m.put1 X out).1.par = m.par ∧ (m.put1 X out).1.over = m.over ∧ (m.put1 X out).2.length ≤ out.length + cst X ∧ ((m.put1 X out).1.e = m.e ∨ (m.put1 X out).1.e = 0 ∨ (m.put1 X out).1.e = 7 ∨ (m.put1 X out).1.e = 8 ∨ (m.put1 X out).1.e = 14) := by
  induction X with
  | nil => intro m out k h _; exact ⟨h, rfl, rfl, rfl, by simp [Pip.put1], .inl rfl⟩
  | cons x X ih =>
    intro m out k h hj
    have hx := hj x (List.mem_cons_self ..)
    have hX := fun y hy => hj y (List.mem_cons_of_mem _ hy)
    unfold Pip.put1
    split
    · obtain ⟨i1, i2, i3, i4, i5, i6⟩ := ih (m := { m with R := (stepC m.R m.dn x).2.2.1, dn := (stepC m.R m.dn x).2.2.2, e := (stepC m.R m.dn x).1 }) (out := out ++ (stepC m.R m.dn x).2.1) (k := k + 1) (h.step m.dn x) hX
      have hl := stepC_short m.R m.dn hx
      refine ⟨?_, i2, i3, i4, ?_, ?_⟩
      · rw [List.length_cons, show k + (X.length + 1) = k + 1 + X.length by omega]
        exact i1
      · rw [List.length_append] at i5
        simp only [cst]
        omega
      · rcases i6 with h9 | h9
        · simp only at h9
          rw [h9]
          exact .inr (stepC_err _ _ _)
        · exact .inr h9
    · have up : Upto (k + 1) m.R := h.more
      obtain ⟨i1, i2, i3, i4, i5, i6⟩ := ih (m := m) (out := out) up hX
      refine ⟨?_, i2, i3, i4, ?_, i6⟩
      · rw [List.length_cons, show k + (X.length + 1) = k + 1 + X.length by omega]
        exact i1
      · simp only [cst]
        omega
theorem hold_e (s : Stg) (p : Part) : (s.hold p).1.e = 10 ∨ (s.hold p).1.e = s.e := by
  unfold Stg.hold
  split
  · exact .inl rfl
  · exact .inr rfl
theorem close_e (s : Stg) : s.close.1.e = 10 ∨ s.close.1.e = s.e := by
  unfold Stg.close
  split
  · exact .inr rfl
  · split
    · exact .inr rfl
    · exact hold_e _ _
theorem step_e (s : Stg) (p : Part) : (s.step p).1.e = 10 ∨ (s.step p).1.e = s.e := by
  unfold Stg.step
  split
  · exact .inr rfl
  split
  · exact .inr rfl
  split
  · exact close_e s
  · exact hold_e _ _
/-- Errors as they come. -/
def ErrOk (e : Int) : Prop := 0 ≤ e ∧ e ≤ 10 ∨ e = 14
theorem write_ok {lim B : Nat} {er : Int} {L : List Part} : ∀ {m : Pip} {out : List UInt8} {k N : Nat}, m.stg.Inv → m.stg.limit ≤ lim → ErrOk m.stg.e → Upto k m.R → k + m.stg.held.length ≤ N → (∀ x ∈ L, x.js = true) → (∀ x ∈ L, 9 + x.len ≤ B) → 9 * (lim + 1) ≤ B → ErrOk er →
    (m.write L er out).1.stg.Inv ∧ (m.write L er out).1.stg.limit ≤ lim ∧ ErrOk (m.write L er out).1.stg.e ∧ (∃ k', Upto k' (m.write L er out).1.R ∧ k' + (m.write L er out).1.stg.held.length ≤ N + L.length) ∧ (m.write L er out).1.par = m.par ∧ (m.write L er out).1.over = m.over ∧ (m.write L er out).2.1.length ≤ out.length + B * L.length ∧ ErrOk (m.write L er out).2.2 ∧ (m.write L er out).2.2 = (m.write L er out).1.e := by
  induction L with
  | nil => intro m out k N h1 h2 h3 h4 h5 _ _ _ h6; exact ⟨h1, h2, h3, ⟨k, h4, by simpa [Pip.write] using h5⟩, rfl, rfl, by simp [Pip.write], h6, rfl⟩
  | cons v L ih =>
    intro m out k N h1 h2 h3 h4 h5 hj hB hl he
    have hv := hj v (List.mem_cons_self ..)
    have hL := fun y hy => hj y (List.mem_cons_of_mem _ hy)
    have hBL := fun y hy => hB y (List.mem_cons_of_mem _ hy)
    have hBv := hB v (List.mem_cons_self ..)
    obtain ⟨s1, s2, s3, s4, s5, s6⟩ := Stg.step_inv h1 hv
    have hc : cst (m.stg.step v).2.1 ≤ B := by
      rcases s6 with h9 | ⟨_, h9⟩
      · omega
      · have := cst_wt (m.stg.step v).2.1
        have h8 : wt (m.stg.step v).2.1 ≤ lim + 1 := by omega
        have h7 : 9 * wt (m.stg.step v).2.1 ≤ 9 * (lim + 1) := Nat.mul_le_mul_left 9 h8
        omega
    have hse : ErrOk (m.stg.step v).2.2 := by
      rcases s4 with h9 | h9 | h9
      · rw [h9]; exact .inl (by omega)
      · rw [h9]; exact .inl (by omega)
      · rw [h9]; exact h3
    have hse2 : ErrOk (m.stg.step v).1.e := by
      rcases step_e m.stg v with h9 | h9
      · rw [h9]; exact .inl (by omega)
      · rw [h9]; exact h3
    obtain ⟨p1, p2, p3, p4, p5, p6⟩ := put1_ok (m := { m with stg := (m.stg.step v).1, e := (m.stg.step v).2.2 }) (out := out) (k := k) h4 s2
    have hpe : ErrOk (Pip.put1 { m with stg := (m.stg.step v).1, e := (m.stg.step v).2.2 } (m.stg.step v).2.1 out).1.e := by
      rcases p6 with h9 | h9 | h9 | h9 | h9
      · rw [h9]; exact hse
      · rw [h9]; exact .inl (by omega)
      · rw [h9]; exact .inl (by omega)
      · rw [h9]; exact .inl (by omega)
      · exact .inr h9
    have hk2 : k + (m.stg.step v).2.1.length + (m.stg.step v).1.held.length ≤ N + 1 := by omega
    have hmul : B * (v :: L).length = B + B * L.length := by rw [List.length_cons, Nat.mul_succ]; omega
    unfold Pip.write
    split
    · refine ⟨by rw [p2]; exact s1, by rw [p2]; simp only; omega, by rw [p2]; exact hse2, ⟨_, p1, ?_⟩, p3, p4, ?_, hpe, rfl⟩
      · rw [p2]
        simp only [List.length_cons]
        omega
      · simp only
        omega
    · obtain ⟨i1, i2, i3, ⟨k', i4, i4'⟩, i5, i6, i7, i8, i9⟩ := ih (m := (Pip.put1 { m with stg := (m.stg.step v).1, e := (m.stg.step v).2.2 } (m.stg.step v).2.1 out).1) (out := (Pip.put1 { m with stg := (m.stg.step v).1, e := (m.stg.step v).2.2 } (m.stg.step v).2.1 out).2) (N := N + 1) (by rw [p2]; exact s1) (by rw [p2]; simp only; omega) (by rw [p2]; exact hse2) p1 (by rw [p2]; exact hk2) hL hBL hl he
      refine ⟨i1, i2, i3, ⟨k', i4, ?_⟩, i5.trans p3, i6.trans p4, ?_, i8, i9⟩
      · simp only [List.length_cons]
        omega
      · omega
end Go.Proofs.YtkccjfgkbkodiaaGreat
namespace Go.Proofs.YtkccjfgkbkodiaaGreat
open Go.RowKit
theorem ErrOk.of {e : Int} (h0 : 0 ≤ e) (h1 : e ≤ 10) : ErrOk e := .inl ⟨h0, h1⟩
theorem ErrOk.zero : ErrOk 0 := .inl (by omega)
theorem ended_err {x : Lex} (h : x.n.Ok) : ErrOk x.ended.1.e := by
  have hk := Num.fin_ok h
  unfold Lex.ended
  split
  · exact .of hk.2.1 hk.2.2
  · exact .zero
theorem between_err {x : Lex} (h : ErrOk x.e) (u : UInt8) : ErrOk (x.between u).1.e := by
  have hk := Num.step_ok Num.new_ok u.toNat
  unfold Lex.between
  repeat' split
  all_goals first
    | exact h
    | exact .of hk.2.1 hk.2.2
    | exact .of (by simp) (by simp)
theorem did_err {x x' : Lex} {u : UInt8} {ts : List Tok} (hn : x.n.Ok) (h : ErrOk x.e) (hd : x.did u x' ts) : ErrOk x'.e := by
  unfold Lex.did at hd
  split at hd
  · obtain ⟨rfl, _⟩ := hd; exact h
  split at hd
  · obtain ⟨t0, ht, _⟩ := hd
    rcases ht with ⟨k, h0, h1, rfl, _⟩ | ⟨l, _, rfl, _⟩
    · exact .of h0 h1
    · exact h
  split at hd
  · obtain ⟨rfl, _⟩ := hd
    unfold Lex.word
    split
    · exact .of (by simp) (by simp)
    · repeat' split
      · exact h
      · exact h
      · exact .of (by simp) (by simp)
  split at hd
  · obtain ⟨rfl, _⟩ := hd
    have hk := Num.step_ok hn u.toNat
    unfold Lex.number
    repeat' split
    · exact .of hk.2.1 hk.2.2
    · exact ended_err (x := { x with n := (x.n.step u.toNat).1, e := (x.n.step u.toNat).2.2 }) hk.1
    · exact between_err (ended_err (x := { x with n := (x.n.step u.toNat).1, e := (x.n.step u.toNat).2.2 }) hk.1) u
  · obtain ⟨rfl, _⟩ := hd; exact between_err h u
theorem token_err {p : Par} {d : Nat} {t : Tok} (h : ErrOk p.e) : ErrOk (p.token d t).1.e := by
  have hv : ErrOk (p.value d t).1.e := by
    unfold Par.value
    repeat' split
    all_goals first
      | exact h
      | exact .of (by simp) (by simp)
  unfold Par.token
  repeat' split
  all_goals first
    | exact h
    | exact hv
    | exact .of (by simp) (by simp)
theorem parts_err {d : Nat} {ts : List Tok} : ∀ {p : Par} {out : List Part} {e : Int}, ErrOk p.e → ErrOk e → ErrOk (Par.parts d p ts out e).2.2 ∧ ErrOk (Par.parts d p ts out e).1.e := by
  induction ts with
  | nil => intro p out e _ he; exact ⟨he, he⟩
  | cons t ts ih =>
    intro p out e hp he
    have ht := token_err (d := d) (t := t) hp
    unfold Par.parts
    split
    · exact ⟨ht, ht⟩
    · exact ih ht he
theorem par_did_err {p : Par} {d : Nat} {u : UInt8} {r : Par × List Part × Int} (hn : p.l.n.Ok) (hl : ErrOk p.l.e) (hp : ErrOk p.e) (hd : p.did d u r) : ErrOk r.2.2 ∧ ErrOk r.1.e ∧ ErrOk r.1.l.e := by
  unfold Par.did at hd
  split at hd
  · subst hd; exact ⟨hp, hp, hl⟩
  · obtain ⟨l', ts, h1, rfl⟩ := hd
    have h2 := did_err hn hl h1
    obtain ⟨a, b⟩ := parts_err (d := d) (ts := ts) (p := { p with l := l' }) (out := []) (e := l'.e) hp h2
    obtain ⟨_, _, _, i4⟩ := parts_js (d := d) (p := { p with l := l' }) (out := []) (e := l'.e) (did_tok hn h1) (by simp)
    exact ⟨a, b, by rw [i4]; exact h2⟩
theorem par_endd_err {p : Par} {d : Nat} (hn : p.l.n.Ok) (hl : ErrOk p.l.e) (hp : ErrOk p.e) : ErrOk (p.endd d).2.2 ∧ ErrOk (p.endd d).1.e ∧ ErrOk (p.endd d).1.l.e := by
  have h2 : ErrOk p.l.endd.1.e := by
    unfold Lex.endd
    split
    · exact hl
    split
    · exact ended_err hn
    · exact .of (by simp) (by simp)
  obtain ⟨a, b⟩ := parts_err (d := d) (ts := p.l.endd.2) (p := { p with l := p.l.endd.1 }) (out := []) (e := p.l.endd.1.e) hp h2
  obtain ⟨_, _, _, i4⟩ := parts_js (d := d) (p := { p with l := p.l.endd.1 }) (out := []) (e := p.l.endd.1.e) (endd_tok hn) (by simp)
  unfold Par.endd
  split
  · exact ⟨hp, hp, hl⟩
  split
  · exact ⟨.of (by simp) (by simp), .of (by simp) (by simp), by simp only; rw [i4]; exact h2⟩
  · exact ⟨b, b, by simp only; rw [i4]; exact h2⟩
/-- Two parts that come at once have no text. -/
theorem value_len {p : Par} {d : Nat} {t : Tok} (ht : t.text = []) : ∀ x ∈ (p.value d t).2.toList, x.len = 0 := by
  unfold Par.value
  repeat' split
  all_goals intro x hx
  all_goals simp at hx
  all_goals subst hx
  all_goals simp [Part.len]
  exact ht
theorem token_len {p : Par} {d : Nat} {t : Tok} (ht : t.text = []) : ∀ x ∈ (p.token d t).2.toList, x.len = 0 := by
  unfold Par.token
  repeat' split
  all_goals first
    | exact value_len ht
    | (intro x hx; simp at hx; done)
    | (intro x hx; simp at hx; subst hx; rfl)
    | (intro x hx; simp at hx; subst hx; simp [Part.len]; exact ht)
theorem parts_len {d : Nat} {ts : List Tok} : ∀ {p : Par} {out : List Part} {e : Int}, (∀ t ∈ ts, t.text = []) → (∀ x ∈ out, x.len = 0) → ∀ x ∈ (Par.parts d p ts out e).2.1, x.len = 0 := by
  induction ts with
  | nil => intro p out e _ ho; exact ho
  | cons t ts ih =>
    intro p out e ht ho
    have hj := token_len (p := p) (d := d) (ht t (List.mem_cons_self ..))
    unfold Par.parts
    split
    · exact ho
    · exact ih (fun x hx => ht x (List.mem_cons_of_mem _ hx)) (fun x hx => by
        rcases List.mem_append.1 hx with hx | hx
        · exact ho x hx
        · exact hj x hx)
theorem ended_text (x : Lex) : ∀ t ∈ x.ended.2, t.text = [] := by
  unfold Lex.ended
  split
  · simp
  · intro t ht
    rw [List.mem_singleton.1 ht]
theorem between_text (x : Lex) (u : UInt8) : ∀ t ∈ (x.between u).2, t.text = [] := by
  unfold Lex.between
  repeat' split
  all_goals intro t ht
  all_goals simp at ht
  subst ht
  rfl
theorem did_text {x x' : Lex} {u : UInt8} {ts : List Tok} (hd : x.did u x' ts) : ts.length ≤ 1 ∨ ∀ t ∈ ts, t.text = [] := by
  have key : ∀ (c : Prop) [Decidable c] (l : List Tok), (∀ t ∈ l, t.text = []) → ∀ t ∈ (if c then l else []), t.text = [] := fun c _ l hl t ht => by
    split at ht
    · exact hl t ht
    · cases ht
  unfold Lex.did at hd
  split at hd
  · obtain ⟨_, rfl⟩ := hd; exact .inl (by simp)
  split at hd
  · obtain ⟨t0, ht, rfl⟩ := hd
    refine .inl ?_
    rcases ht with ⟨k, _, _, _, rfl⟩ | ⟨l, hl, _, rfl⟩
    · split <;> simp
    · split <;> simp
  split at hd
  · obtain ⟨_, rfl⟩ := hd
    refine .inl ?_
    split
    · exact word_len x u
    · simp
  split at hd
  · obtain ⟨_, rfl⟩ := hd
    refine .inr (key _ _ ?_)
    unfold Lex.number
    repeat' split
    · simp
    · simp
    · intro t ht
      rcases List.mem_append.1 ht with ht | ht
      · exact ended_text _ t ht
      · exact between_text _ u t ht
  · obtain ⟨_, rfl⟩ := hd; exact .inr (key _ _ (between_text x u))
theorem par_did_len {p : Par} {d : Nat} {u : UInt8} {r : Par × List Part × Int} (hn : p.l.n.Ok) (hd : p.did d u r) : r.2.1.length ≤ 1 ∨ ∀ x ∈ r.2.1, x.len = 0 := by
  unfold Par.did at hd
  split at hd
  · subst hd; exact .inl (by simp)
  · obtain ⟨l', ts, h1, rfl⟩ := hd
    obtain ⟨_, i2, _, _⟩ := parts_js (d := d) (p := { p with l := l' }) (out := []) (e := l'.e) (did_tok hn h1) (by simp)
    rcases did_text h1 with h9 | h9
    · exact .inl (by simp at i2; omega)
    · exact .inr (parts_len h9 (by simp))
theorem par_endd_len {p : Par} {d : Nat} : ∀ x ∈ (p.endd d).2.1, x.len = 0 := by
  have ht : ∀ t ∈ p.l.endd.2, t.text = [] := by
    unfold Lex.endd
    split
    · simp
    split
    · exact ended_text _
    · simp
  have h9 := parts_len (d := d) (p := { p with l := p.l.endd.1 }) (out := []) (e := p.l.endd.1.e) ht (by simp)
  unfold Par.endd
  split
  · simp
  split
  · exact h9
  · exact h9
/-- All that a pipe always is. -/
structure Pip.Good (m : Pip) (d N lim : Nat) : Prop where
  ok : m.Ok d N
  lim : m.stg.limit ≤ lim
  e : ErrOk m.e
  se : ErrOk m.stg.e
  pe : ErrOk m.par.e
  le : ErrOk m.par.l.e
theorem pip_did_good {m : Pip} {d N lim : Nat} {u : UInt8} {r : Pip × List UInt8 × Int} (h : m.Good d N lim) (hn : m.par.l.n.Ok) (hd : m.did d u r) : r.1.Good d (N + 2) lim ∧ ErrOk r.2.2 ∧ r.2.1.length ≤ 209 + 18 * (lim + 1) ∧ (lim ≤ 9 → r.2.1.length ≤ 209) := by
  have hmay : ErrOk m.may := by
    unfold Pip.may
    split
    · exact h.e
    split
    · exact .inr rfl
    · exact .zero
  obtain ⟨k, hk1, hk2⟩ := h.ok.upto
  unfold Pip.did at hd
  split at hd
  · subst hd
    exact ⟨⟨⟨h.ok.par, h.ok.lex, h.ok.stg, k, hk1, (show k + m.stg.held.length ≤ N + 2 by omega)⟩, h.lim, h.e, h.se, h.pe, h.le⟩, hmay, by simp, by simp⟩
  · obtain ⟨p', hp, rfl⟩ := hd
    obtain ⟨e1, e2, e3⟩ := par_did_err hn h.le h.pe hp
    obtain ⟨d1, d2, d3, d4⟩ := par_did_ok h.ok.par h.ok.lex hn hp
    have hB : ∃ B, (∀ x ∈ p'.2.1, 9 + x.len ≤ B) ∧ 9 * (lim + 1) ≤ B ∧ B * p'.2.1.length ≤ 209 + 18 * (lim + 1) ∧ (lim ≤ 9 → B * p'.2.1.length ≤ 209) := by
      rcases par_did_len hn hp with h9 | h9
      · refine ⟨209 + 9 * (lim + 1) - 9 * (min lim 9 + 1) , fun x hx => ?_, by omega, ?_, fun hl => ?_⟩
        · have := Part.js_len (d1 x hx); omega
        · have h8 := Nat.mul_le_mul_left (209 + 9 * (lim + 1) - 9 * (min lim 9 + 1)) h9
          omega
        · have h8 := Nat.mul_le_mul_left (209 + 9 * (lim + 1) - 9 * (min lim 9 + 1)) h9
          omega
      · refine ⟨9 * (lim + 1), fun x hx => by rw [h9 x hx]; omega, Nat.le_refl _, ?_, fun hl => ?_⟩
        · have h8 := Nat.mul_le_mul_left (9 * (lim + 1)) d2
          omega
        · have h8 := Nat.mul_le_mul_left (9 * (lim + 1)) d2
          omega
    obtain ⟨B, b1, b2, b3, b4⟩ := hB
    obtain ⟨i1, i2, i3, ⟨k', i4, i4'⟩, i5, i6, i7, i8, i9⟩ := write_ok (lim := lim) (B := B) (er := p'.2.2) (L := p'.2.1) (m := { m with par := p'.1 }) (out := []) (k := k) (N := N) h.ok.stg h.lim h.se hk1 hk2 d1 b1 b2 e1
    refine ⟨⟨⟨by rw [i5]; exact d3, by rw [i5]; exact d4, i1, k', i4, by omega⟩, i2, by rw [← i9]; exact i8, i3, by rw [i5]; exact e2, by rw [i5]; exact e3⟩, i8, ?_, fun hl => ?_⟩
    · simp only [List.length_nil, Nat.zero_add] at i7
      omega
    · simp only [List.length_nil, Nat.zero_add] at i7
      have := b4 hl
      omega
theorem pip_endd_good {m : Pip} {d N lim : Nat} (h : m.Good d N lim) (hn : m.par.l.n.Ok) : (m.endd d).1.Good d (N + 2) lim ∧ ErrOk (m.endd d).2.2 ∧ (m.endd d).2.1.length ≤ 209 + 18 * (lim + 1) ∧ (lim ≤ 9 → (m.endd d).2.1.length ≤ 209) := by
  have hmay : ErrOk m.may := by
    unfold Pip.may
    split
    · exact h.e
    split
    · exact .inr rfl
    · exact .zero
  obtain ⟨k, hk1, hk2⟩ := h.ok.upto
  unfold Pip.endd
  split
  · exact ⟨⟨⟨h.ok.par, h.ok.lex, h.ok.stg, k, hk1, (show k + m.stg.held.length ≤ N + 2 by omega)⟩, h.lim, h.e, h.se, h.pe, h.le⟩, hmay, by simp, by simp⟩
  · obtain ⟨e1, e2, e3⟩ := par_endd_err (d := d) hn h.le h.pe
    obtain ⟨d1, d2, d3, d4⟩ := par_endd_ok h.ok.par h.ok.lex hn
    have h9 := par_endd_len (p := m.par) (d := d)
    obtain ⟨i1, i2, i3, ⟨k', i4, i4'⟩, i5, i6, i7, i8, i9⟩ := write_ok (lim := lim) (B := 9 * (lim + 1)) (er := (m.par.endd d).2.2) (L := (m.par.endd d).2.1) (m := { m with over := true, par := (m.par.endd d).1 }) (out := []) (k := k) (N := N) h.ok.stg h.lim h.se hk1 hk2 d1 (fun x hx => by rw [h9 x hx]; omega) (Nat.le_refl _) e1
    have h8 := Nat.mul_le_mul_left (9 * (lim + 1)) d2
    refine ⟨⟨⟨by rw [i5]; exact d3, by rw [i5]; exact d4, i1, k', i4, by omega⟩, i2, by rw [← i9]; exact i8, i3, by rw [i5]; exact e2, by rw [i5]; exact e3⟩, i8, ?_, fun hl => ?_⟩
    · simp only [List.length_nil, Nat.zero_add] at i7
      omega
    · simp only [List.length_nil, Nat.zero_add] at i7
      omega
end Go.Proofs.YtkccjfgkbkodiaaGreat
