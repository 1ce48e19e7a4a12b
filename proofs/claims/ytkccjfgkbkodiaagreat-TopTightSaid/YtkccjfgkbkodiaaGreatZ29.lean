/-
  SesH · SesI · SesJ: parts of the walk of TopTight, under no condition.
-/
import Derived.Test.YtkccjfgkbkodiaaGreatZ21
import Derived.Test.YtkccjfgkbkodiaaGreatZ28
namespace Go.Proofs.YtkccjfgkbkodiaaGreat
open Go.RowKit
def Ses.onceR (d sg : Nat) (x x' : Ses) : Prop :=
  (x.told = false ∧ x.inb = [] ∧ x' = x.fin 3 false) ∨
  (∃ m, x.told = true ∧ x.inb = [] ∧ x.p = some m ∧ x' = ({ x with p := some (m.endd d).1, outL := addL x.outL (m.endd d).2.1 } : Ses).fin (m.endd d).2.2 true) ∨
  (∃ u l m r, x.told = true ∧ x.inb = u :: l ∧ x.p = some m ∧ m.did d u r ∧ x' = if r.2.2 = 0 then { x with inb := l, p := some r.1, outL := addL x.outL r.2.1 } else ({ x with inb := l, p := some r.1, outL := addL x.outL r.2.1 } : Ses).fin r.2.2 true) ∨
  (∃ u l, x.told = false ∧ x.inb = u :: l ∧ x.header.length + 1 < 8 ∧ x' = { x with inb := l, header := x.header ++ [u] }) ∨
  (∃ u l, x.told = false ∧ x.inb = u :: l ∧ x.header.length + 1 = 8 ∧ x' = { x with inb := l, header := hp d sg, told := true, p := some (Pip.new sg), outL := x.outL ++ [[75]] })
/-- What a session always is: rest is what may still come to it. -/
structure Ses.Fit (x : Ses) (d sg N : Nat) (rest : List UInt8) : Prop where
  nop : x.told = false → x.p = none
  hdr : x.told = false → x.ended = false → x.header.length < 8 ∧ ∃ doc, x.header ++ (x.inb ++ rest) = hp d sg ++ doc
  pip : x.told = true → x.ended = false → ∃ m, x.p = some m ∧ m.Good d N sg
  over : x.ended = true → x.p = none ∧ x.inb = []
theorem Pip.Good.mono {m : Pip} {d N M lim : Nat} (h : m.Good d N lim) (hM : N ≤ M) : m.Good d M lim := by
  obtain ⟨⟨a1, a2, a3, k, a4, a5⟩, b, c, e, f, g⟩ := h
  exact ⟨⟨a1, a2, a3, k, a4, Nat.le_trans a5 hM⟩, b, c, e, f, g⟩
theorem Ses.Fit.ok {x : Ses} {d sg N : Nat} {rest : List UInt8} (h : x.Fit d sg N rest) : ∀ m, x.p = some m → m.Ok d N := by
  intro m hm
  cases ht : x.told with
  | false => rw [h.nop ht] at hm; cases hm
  | true =>
    cases he : x.ended with
    | true => rw [(h.over he).1] at hm; cases hm
    | false =>
      obtain ⟨m', h1, h2⟩ := h.pip ht he
      rw [h1] at hm
      cases hm
      exact h2.ok
theorem SesIs.nok {w : World} {b d sg : Nat} {F : List Nat} {x : Ses} (h : SesIs w b F d sg x) : ∀ m, x.p = some m → m.par.l.n.Ok := by
  intro m hm
  obtain ⟨rp, Fr, vq, pv, Fp, hM, hF⟩ := h
  have hP := hM.pip
  rw [hm] at hP
  obtain ⟨q, G, rfl, ⟨b1, o, s, Fj, Fs, vo, hM1, hF1⟩, rfl⟩ := hP
  exact hM1.par.nok
theorem Ses.fin_fit {x : Ses} {e : Int} {t : Bool} {d sg N : Nat} {rest : List UInt8} : (x.fin e t).Fit d sg N rest :=
  ⟨fun _ => rfl, fun _ h => (by cases h), fun _ h => (by cases h), fun _ => ⟨rfl, rfl⟩⟩
theorem Ses.fin_out {x : Ses} {e : Int} {t : Bool} : (x.fin e t).outL.flatten.length = x.outL.flatten.length + 2 := by
  unfold Ses.fin
  cases t <;> simp
/-- The hello's next byte. -/
theorem hdr_next {h l rest doc : List UInt8} {u : UInt8} {d sg : Nat} (h8 : h.length < 8) (he : h ++ (u :: l ++ rest) = hp d sg ++ doc) : h ++ [u] = (hp d sg).take (h.length + 1) ∧ (h ++ [u]) ++ (l ++ rest) = hp d sg ++ doc := by
  have h1 : (h ++ [u]) ++ (l ++ rest) = hp d sg ++ doc := by rw [← he]; simp
  refine ⟨?_, h1⟩
  have h2 := congrArg (List.take (h.length + 1)) h1
  have e1 := (List.take_append_of_le_length (l₁ := h ++ [u]) (l₂ := l ++ rest) (i := h.length + 1) (by simp)).trans (List.take_of_length_le (by simp))
  have e2 := List.take_append_of_le_length (l₁ := hp d sg) (l₂ := doc) (i := h.length + 1) (by simp [hp]; omega)
  exact e1.symm.trans (h2.trans e2)
theorem once_any {w : World} {b d sg N : Nat} {F : List Nat} {x : Ses} {rest : List UInt8} (h : SesIs w b F d sg x) (hf : x.Fit d sg N rest) (he : x.ended = false) (hd1 : 1 ≤ d) (hd2 : d ≤ 16) (hs : sg ≤ 2000) (hN : N ≤ 3900) (hsz : x.outL.flatten.length ≤ 700000) :
    Calls Tryz.prog 67 #[.pointer (some ⟨b, 0, none⟩)] w (OncePost w b F d sg (x.onceR d sg)) := by
  have out : ∀ {Q Q' : Ses → Prop} {e : Ending} {w' : World}, (∀ x', Q x' → Q' x') → OncePost w b F d sg Q e w' → OncePost w b F d sg Q' e w' :=
    fun hq ⟨h1, x', F', h2, h3⟩ => ⟨h1, x', F', hq x' h2, h3⟩
  cases ht : x.told with
  | false =>
    cases hi : x.inb with
    | nil => exact (once_more h ht hi (by omega)).mono fun _ _ => out fun x' hx => .inl ⟨ht, hi, hx⟩
    | cons u l =>
      obtain ⟨h8, doc, hh⟩ := hf.hdr ht he
      rw [hi] at hh
      obtain ⟨h1, h2⟩ := hdr_next h8 hh
      by_cases h9 : x.header.length + 1 < 8
      · exact (once_hello h ht hi h9 h1).mono fun _ _ => out fun x' hx => .inr (.inr (.inr (.inl ⟨u, l, ht, hi, h9, hx⟩)))
      · refine (once_told h ht hi (by rw [h1, List.take_of_length_le (by simp [hp]; omega)]) hd1 hd2 hs (by omega)).mono fun _ _ => out fun x' hx => .inr (.inr (.inr (.inr ⟨u, l, ht, hi, by omega, hx⟩)))
  | true =>
    obtain ⟨m, hp, hg⟩ := hf.pip ht he
    have hn := h.nok m hp
    cases hi : x.inb with
    | nil =>
      have hb := (pip_endd_good hg hn).2.2.1
      exact (once_end h ht hi hp hg.ok (by omega) hN (by omega) (by omega)).mono fun _ _ => out fun x' hx => .inr (.inl ⟨m, ht, hi, hp, hx⟩)
    | cons u l =>
      exact (once_step h ht hi hp hg.ok (by omega) hN (fun r hr => by have := (pip_did_good hg hn hr).2.2.1; omega) (by omega)).mono fun _ _ => out fun x' ⟨r, hr, hx⟩ => .inr (.inr (.inl ⟨u, l, m, r, ht, hi, hp, hr, hx⟩))
/-- What once keeps. -/
theorem Ses.onceR.fit {x x' : Ses} {d sg N : Nat} {rest : List UInt8} (h : x.onceR d sg x') (hf : x.Fit d sg N rest) (he : x.ended = false) (hs : sg ≤ 2000) (hn : ∀ m, x.p = some m → m.par.l.n.Ok) :
    x'.Fit d sg (N + 2) rest ∧ (x'.e = x.e ∨ ErrOk x'.e) ∧ x'.outL.flatten.length ≤ x.outL.flatten.length + 211 + 18 * (sg + 1) ∧ (sg ≤ 9 → x'.outL.flatten.length ≤ x.outL.flatten.length + 211) ∧ x'.inb.length ≤ x.inb.length ∧ x'.half = x.half := by
  rcases h with ⟨ht, hi, rfl⟩ | ⟨m, ht, hi, hp, rfl⟩ | ⟨u, l, m, r, ht, hi, hp, hr, rfl⟩ | ⟨u, l, ht, hi, h8, rfl⟩ | ⟨u, l, ht, hi, h8, rfl⟩
  · exact ⟨Ses.fin_fit, .inr (by simp [Ses.fin, ErrOk]), by rw [Ses.fin_out]; omega, fun _ => by rw [Ses.fin_out]; omega, Nat.zero_le _, rfl⟩
  · obtain ⟨m', hm', hg⟩ := hf.pip ht he
    rw [hp] at hm'
    cases hm'
    obtain ⟨g1, g2, g3, g4⟩ := pip_endd_good hg (hn m hp)
    refine ⟨Ses.fin_fit, .inr g2, ?_, fun h9 => ?_, Nat.zero_le _, rfl⟩
    · rw [Ses.fin_out]
      show (addL x.outL _).flatten.length + 2 ≤ _
      rw [addL_flat, List.length_append]; omega
    · rw [Ses.fin_out]
      have := g4 h9
      show (addL x.outL _).flatten.length + 2 ≤ _
      rw [addL_flat, List.length_append]; omega
  · obtain ⟨m', hm', hg⟩ := hf.pip ht he
    rw [hp] at hm'
    cases hm'
    obtain ⟨g1, g2, g3, g4⟩ := pip_did_good hg (hn m hp) hr
    by_cases h0 : r.2.2 = 0
    · rw [if_pos h0]
      refine ⟨⟨fun h => ?_, fun h => ?_, fun _ _ => ⟨r.1, rfl, g1⟩, fun h => ?_⟩, .inl rfl, ?_, fun h9 => ?_, by rw [hi]; simp, rfl⟩
      · rw [show x.told = false from h] at ht; cases ht
      · rw [show x.told = false from h] at ht; cases ht
      · rw [show x.ended = true from h] at he; cases he
      · show (addL x.outL _).flatten.length ≤ _
        rw [addL_flat, List.length_append]; omega
      · have := g4 h9
        show (addL x.outL _).flatten.length ≤ _
        rw [addL_flat, List.length_append]; omega
    · rw [if_neg h0]
      refine ⟨Ses.fin_fit, .inr g2, ?_, fun h9 => ?_, Nat.zero_le _, rfl⟩
      · rw [Ses.fin_out]
        show (addL x.outL _).flatten.length + 2 ≤ _
        rw [addL_flat, List.length_append]; omega
      · rw [Ses.fin_out]
        have := g4 h9
        show (addL x.outL _).flatten.length + 2 ≤ _
        rw [addL_flat, List.length_append]; omega
  · obtain ⟨h1, doc, hh⟩ := hf.hdr ht he
    rw [hi] at hh
    obtain ⟨h2, h3⟩ := hdr_next h1 hh
    refine ⟨⟨fun _ => hf.nop ht, fun _ _ => ⟨by show (x.header ++ [u]).length < 8; simpa using h8, doc, h3⟩, fun h => ?_, fun h => ?_⟩, .inl rfl, by show x.outL.flatten.length ≤ _; omega, fun _ => by show x.outL.flatten.length ≤ _; omega, by rw [hi]; simp, rfl⟩
    · rw [show x.told = true from h] at ht; cases ht
    · rw [show x.ended = true from h] at he; cases he
  · refine ⟨⟨fun h => (by cases h), fun h => (by cases h), fun _ _ => ⟨_, rfl, (Pip.new_good d sg hs).mono (by omega)⟩, fun h => ?_⟩, .inl rfl, by simp <;> omega, fun _ => by simp <;> omega, by rw [hi]; simp, rfl⟩
    rw [show x.ended = true from h] at he; cases he
end Go.Proofs.YtkccjfgkbkodiaaGreat
namespace Go.Proofs.YtkccjfgkbkodiaaGreat
open Go.RowKit
theorem ses_cut {w : World} {b d sg rp : Nat} {x : Ses} {Fr Fp : List Nat} {vq pv : Value} (h : SesM w b d sg x rp Fr vq pv Fp) (k : Nat) (hsz : x.outL.flatten.length ≤ 1000000) :
    ∃ r : Int, Calls Tryz.prog 68 #[.pointer (some ⟨b, 1, none⟩), .int .i64 (k : Int)] w fun e w' => e = .returned (.int .i64 r) ∧ ∃ vq', SesM w' b d sg { x with outL := cutQ k x.outL } rp Fr vq' pv Fp ∧ Only (b :: slB vq) w w' ∧ ∀ k ∈ slB vq', k ∈ slB vq ∨ w.heap.size ≤ k :=
  ⟨_, (qs_cut h.que (k : Int) k (by omega) hsz _ rfl).mono fun _ _ ⟨h1, v', h2, h3, h4⟩ => ⟨h1, v', h.queued h2 h3 h4, h3, h4⟩⟩
/-- What a session always is, by what it may still take: B stays the same. -/
def Ses.Fit2 (x : Ses) (d sg B : Nat) (rest : List UInt8) : Prop := ∃ N, x.Fit d sg N rest ∧ N + 2 * x.inb.length ≤ B
theorem Ses.fin_fit2 {x : Ses} {e : Int} {t : Bool} {d sg B : Nat} {rest : List UInt8} : (x.fin e t).Fit2 d sg B rest := ⟨0, Ses.fin_fit, Nat.zero_le _⟩
theorem Ses.onceR.fit2 {x x' : Ses} {d sg B : Nat} {rest : List UInt8} (h : x.onceR d sg x') (hf : x.Fit2 d sg B rest) (he : x.ended = false) (hs : sg ≤ 2000) (hn : ∀ m, x.p = some m → m.par.l.n.Ok) : x'.Fit2 d sg B rest := by
  obtain ⟨N, h1, h2⟩ := hf
  have h3 := (h.fit h1 he hs hn).1
  rcases h with ⟨ht, hi, rfl⟩ | ⟨m, ht, hi, hp, rfl⟩ | ⟨u, l, m, r, ht, hi, hp, hr, rfl⟩ | ⟨u, l, ht, hi, h8, rfl⟩ | ⟨u, l, ht, hi, h8, rfl⟩
  · exact Ses.fin_fit2
  · exact Ses.fin_fit2
  · by_cases h0 : r.2.2 = 0
    · rw [if_pos h0] at h3 ⊢
      exact ⟨N + 2, h3, by rw [hi, List.length_cons] at h2; show _ + 2 * l.length ≤ _; omega⟩
    · rw [if_neg h0]
      exact Ses.fin_fit2
  · exact ⟨N + 2, h3, by rw [hi, List.length_cons] at h2; show _ + 2 * l.length ≤ _; omega⟩
  · exact ⟨N + 2, h3, by rw [hi, List.length_cons] at h2; show _ + 2 * l.length ≤ _; omega⟩
/-- Behind a round: what it did stays, or is undone. -/
def Ses.after (x x1 : Ses) (ok : Bool) : Ses := if ok then x1 else ({ x1 with outL := cutQ x.outL.flatten.length x1.outL } : Ses).fin 11 x.told
/-- Its number is one. -/
def Ses.Nok (x : Ses) : Prop := ∀ m, x.p = some m → m.par.l.n.Ok
def RunR {σ : Type} (M : σ → Nat → Bool → σ → Prop) (d sg : Nat) : Nat → Ses → σ → Nat → Ses → σ → Nat → Prop
  | 0, x, s, n, x', s', n' => x' = x ∧ s' = s ∧ n' = n
  | k + 1, x, s, n, x', s', n' => if x.ready then ∃ x1 c ok s1, x.onceR d sg x1 ∧ x1.Nok ∧ x1.chargeBy c ∧ M s c ok s1 ∧ RunR M d sg k (x.after x1 ok) s1 (n + 1) x' s' n' else x' = x ∧ s' = s ∧ n' = n
theorem RunR.stop {σ : Type} {M : σ → Nat → Bool → σ → Prop} {d sg : Nat} {x : Ses} {s : σ} {n : Nat} (h : x.ready = false) : ∀ k, RunR M d sg k x s n x s n
  | 0 => ⟨rfl, rfl, rfl⟩
  | k + 1 => by unfold RunR; rw [h]; exact ⟨rfl, rfl, rfl⟩
def Ses.Few (x : Ses) : Prop := x.outL.flatten.length ≤ 40000
theorem Ses.ready_out {x : Ses} (h : x.ready = true) : x.ended = false ∧ x.outL.flatten.length < 64 := by
  unfold Ses.ready at h
  simp only [Bool.and_eq_true, Bool.not_eq_true', decide_eq_true_eq] at h
  exact ⟨h.1, h.2.1⟩
theorem Ses.charge_le {w : World} {b d sg N : Nat} {F : List Nat} {y : Ses} (h : SesIs w b F d sg y) (hok : ∀ m, y.p = some m → m.Ok d N) (hd : d ≤ 100) (hsz : y.outL.flatten.length ≤ 900000) {c : Nat} (hc : y.chargeBy c) : c ≤ 910000 := by
  obtain ⟨rp, Fr, vq, pv, Fp, hM, hF⟩ := h
  have h64 := ring_len hM.ring
  unfold Ses.chargeBy at hc
  split at hc
  · omega
  · obtain ⟨k, hk, rfl⟩ := hc
    have : k ≤ 2300 := by
      unfold Ses.heldBy at hk
      cases hp : y.p with
      | none => rw [hp] at hk; simp only at hk; omega
      | some m => rw [hp] at hk; exact pip_heldBy_le (hok m hp) hd hk
    omega
set_option maxRecDepth 100000 in
set_option maxHeartbeats 8000000 in
set_option linter.unusedSimpArgs false in
theorem ses_run {σ : Type} {M : σ → Nat → Bool → σ → Prop} {PI : World → σ → Prop} {w : World} {b d sg B : Nat} {F T : List Nat} {x : Ses} {s : σ} {rest : List UInt8} {c1 c2 : Value} (h : SesIs w b F d sg x) (hf : x.Fit2 d sg B rest) (hd1 : 1 ≤ d) (hd2 : d ≤ 16) (hs : sg ≤ 2000) (hB : B ≤ 3900) (hsz : x.Few) (hp : PI w s)
    (hkeep : ∀ W W' A s, PI W s → Only A W W' → (∀ k ∈ A, k = b ∨ k ∈ F ∨ w.heap.size ≤ k) → PI W' s)
    (hmay : ∀ W s (c : Nat), c ≤ 1000000 → PI W s → Calls Tryz.prog 40 #[.int .i64 c, c1, c2] W fun e W' => ∃ ok s', M s c ok s' ∧ e = .returned (.bool ok) ∧ PI W' s' ∧ Only T W W')
    (hT : ∀ k ∈ T, k < w.heap.size ∧ k ≠ b ∧ k ∉ F) :
    Calls Tryz.prog 39 #[.pointer (some ⟨b, 0, none⟩), .func (.func 40) #[] #[c1, c2]] w fun e w' => ∃ x' s' n', e = .returned (.int .i64 (n' : Nat)) ∧ RunR M d sg 16 x s 0 x' s' n' ∧ ∃ F', SesIs w' b F' d sg x' ∧ x'.Fit2 d sg B rest ∧ x'.Few ∧ PI w' s' ∧ Only (b :: F ++ T) w w' ∧ ∀ k ∈ F', k ∈ F ∨ w.heap.size ≤ k := by
  have HH := hide h
  have HF := hide hf
  have HD := hide (And.intro hd1 (And.intro hd2 (And.intro hs hB)))
  have HSZ := hide hsz
  have HP := hide hp
  have HKEEP := hide hkeep
  have HMAY := hide hmay
  have HT := hide hT
  clear h hf hd1 hd2 hs hB hsz hp hkeep hmay hT
  have hnf : ∀ W, Sem.run Tryz.prog (binOp BinOp.neq 42 (.func (.func 40) #[] #[c1, c2]) .nilFunc) W = .ok (.bool true) W := fun _ => rfl
  go_enter Tryz.func39, Tryz.ntmps39
  go_wp2_with fail
  go_loopg [5] 16 (fun gk s5 wr => ∃ (i : Nat) (xi : Ses) (si : σ) (Fi : List Nat), s5 = .int .i64 i ∧ i + gk = 16 ∧ Hid (∀ x' s' n', RunR M d sg gk xi si i x' s' n' → RunR M d sg 16 x s 0 x' s' n') ∧ Hid (SesIs wr b Fi d sg xi) ∧ Hid (xi.Fit2 d sg B rest) ∧ Hid xi.Few ∧ Hid (PI wr si) ∧ Hid (Only (b :: F ++ T) w wr) ∧ Hid (∀ k ∈ Fi, k ∈ F ∨ w.heap.size ≤ k))
  case atStart =>
    exact ⟨0, x, s, F, rfl, rfl, hide fun _ _ _ h => h, HH, HF, HSZ, HP, hide (Only.refl _ _), hide fun k hk => .inl hk⟩
  case round =>
    obtain ⟨i, xi, si, Fi, rfl, hi, hrun, hx, hfit, hout, hpi, ho, hfr⟩ := hrel
    by_cases hlt : i < 16
    · have HRD := hide (ses_ready hx.out)
      cases hrd : xi.ready with
      | false =>
        rw [hrd] at HRD
        have HRR := hide hrd
        clear hrd
        go_wp2_with fail
        (with_reducible refine (unhide HRD).mono ?_)
        rintro e wr ⟨rfl, hw1⟩
        subst hw1
        go_wp2_with fail
        go_ret
        exact ⟨xi, si, i, rfl, hrun.out _ _ _ (RunR.stop HRR.out gk), Fi, hx.out, hfit.out, hout.out, hpi.out, ho.out, hfr.out⟩
      | true =>
        rw [hrd] at HRD
        obtain ⟨he, h64⟩ := Ses.ready_out hrd
        have HRR := hide hrd
        obtain ⟨rp, Fr, vq, pv, Fp, hM, hFi⟩ := hx.out
        have hMd := hM.new ((Only.refl [] wr).drew)
        obtain ⟨c0, c3, c9, c10, c11, c12, c13⟩ := hMd.cells
        obtain ⟨was, hwas⟩ : ∃ was, was = xi.outL.flatten.length := ⟨_, rfl⟩
        have HL := hide (qs_len hMd.que (was : Int) (by rw [hwas]))
        obtain ⟨N, hN1, hN2⟩ := hfit.out
        have HON := hide (once_any ⟨rp, Fr, vq, pv, Fp, hMd, hFi⟩ hN1 he HD.out.1 HD.out.2.1 HD.out.2.2.1 (by have := HD.out.2.2.2; omega) (by omega))
        have HWAS := hide hwas
        have HE := hide (And.intro he h64)
        clear hrd he h64 hM hMd hFi hwas hN1 hN2 c0 c3 c10 c11 c12 c13
        go_wp2_with fail
        (with_reducible refine (unhide HRD).mono ?_)
        rintro e wr ⟨rfl, hw1⟩
        subst hw1
        go_upto_region 3 with (fail)
        refine wp_region_tree (fun W => W.cell? ⟨b, 9, none⟩ = some (.bool xi.told)) 10 (.take [0, 1, 2, 4, 5, 6, 7] (.step 3 (.step 8 (.step 9 (.fin))))) (by kernel_rfl) (by kernel_rfl) (by intro _ _ _ _ _ h; exact h) ?_
        refine wpTree_take (c9) ?_
        simp only [opsAt, List.getElem?_cons_zero, List.getElem?_cons_succ]
        iterate 7 (first | (refine wpPureH_step (v := ?_) rfl (fun W hS => ?_) ?_; rotate_left; · (obtain s1 := hS; (try simp only [Act.put, List.setIfInBounds_toArray, List.set_cons_zero, List.set_cons_succ]); go_simp; with_reducible rfl)) | (refine wpPureH_want (v := ?_) (by rfl) (fun W hS => ?_) ?_; rotate_left; · (obtain s1 := hS; (try simp only [Act.put, List.setIfInBounds_toArray, List.set_cons_zero, List.set_cons_succ]); go_simp; with_reducible rfl)))
        refine wpPureH_nil ?_
        simp only [Act.put, List.setIfInBounds_toArray, List.set_cons_zero, List.set_cons_succ]
        refine wpTree_step ?_
        simp only [opsAt, List.getElem?_cons_zero, List.getElem?_cons_succ]
        go_wp2_with fail
        (with_reducible refine (unhide HL).mono ?_)
        rintro e w2 ⟨rfl, hw2⟩
        subst hw2
        go_wp2_with fail
        refine ⟨.inr c9, ?_⟩
        refine wpTree_step ?_
        simp only [opsAt, List.getElem?_cons_zero, List.getElem?_cons_succ]
        go_wp2_with fail
        refine ⟨.inr c9, ?_⟩
        refine wpTree_step ?_
        simp only [opsAt, List.getElem?_cons_zero, List.getElem?_cons_succ]
        go_wp2_with fail
        refine ⟨.inr c9, wpTree_fin ?_⟩
        go_wp2_with fail
        (with_reducible refine (unhide HON).mono ?_)
        rintro e w2 ⟨rfl, x1, F1, hR, hx1, ho1, hf1⟩
        have hn1 := (show SesIs wr b Fi d sg xi from hx.out).nok
        have hfit1 := hR.fit2 hfit.out HE.out.1 HD.out.2.2.1 hn1
        obtain ⟨N0, hN1, hN2⟩ := hfit1
        have hb1 : x1.outL.flatten.length ≤ 40000 := by
          obtain ⟨N, hN3, _⟩ := hfit.out
          have h1 := (hR.fit hN3 HE.out.1 HD.out.2.2.1 hn1).2.2.1
          have h2 := HE.out.2
          have h3 := HD.out.2.2.1
          omega
        have HC := hide (ses_charge hx1 hN1.ok (by have := HD.out.2.1; omega) (by omega))
        have HFIT := hide (show x1.Fit2 d sg B rest from ⟨N0, hN1, hN2⟩)
        have HB1 := hide hb1
        have HX1 := hide hx1
        have HR := hide hR
        have ho1' := ((Only.refl (b :: Fi) wr).drew).trans ho1
        have HO1 := hide (ho.out.own ho1' fun k hk => by
          rcases List.mem_cons.1 hk with rfl | hk
          · exact .inl (by simp)
          · exact (hfr.out k hk).imp_left (fun h9 => by simp [h9]))
        have HPI := hide (HKEEP.out _ _ _ _ hpi.out ho1' fun k hk => by
          rcases List.mem_cons.1 hk with rfl | hk
          · exact .inl rfl
          · exact .inr (hfr.out k hk))
        have hsz1 := ho.out.size
        have HF1 := hide (show ∀ k ∈ F1, k ∈ F ∨ w.heap.size ≤ k from fun k hk => by
          rcases hf1 k hk with h9 | h9
          · exact hfr.out k h9
          · exact .inr (by simp at h9; omega))
        clear HRD HL HON c9 hn1 hN1 hN2 hb1 hx1 hR ho1 ho1' hf1 hsz1 ho hpi hfr hx hfit hout
        go_wp2_with fail
        (with_reducible refine (unhide HC).mono ?_)
        rintro e w3 ⟨⟨c, rfl, hc⟩, ho3⟩
        have hcle : c ≤ 1000000 := by
          obtain ⟨N, hN1, _⟩ := HFIT.out
          have := Ses.charge_le HX1.out hN1.ok (by have := HD.out.2.1; omega) (by have := HB1.out; omega) hc
          omega
        have HMM := hide (HMAY.out w3 si c hcle (HKEEP.out _ _ _ _ HPI.out ho3 (by simp)))
        clear hcle
        have HO3 := hide (HO1.out.trans (ho3.mono (by simp)))
        have HX3 := hide (HX1.out.keep ho3 (by simp) (by simp))
        have HCH := hide hc
        clear HC ho3 hc HO1 HX1 HPI
        go_wp2_with fail
        (with_reducible refine (unhide HMM).mono ?_)
        rintro e w4 ⟨ok, s1, hM, rfl, hpi4, ho4⟩
        have hx4 := HX3.out.keep ho4 (fun hm => (HT.out b hm).2.1 rfl) (fun k hk hm => by
          rcases HF1.out k hk with h9 | h9
          · exact (HT.out k hm).2.2 h9
          · have := (HT.out k hm).1; omega)
        have HO4 := hide (HO3.out.own ho4 fun k hk => .inl (by simp [hk]))
        have HP4 := hide hpi4
        have HMok := hide hM
        have HRUN : Hid (∀ x' s' n', RunR M d sg (gk - 1) (xi.after x1 ok) s1 (i + 1) x' s' n' → RunR M d sg 16 x s 0 x' s' n') := hide fun x' s' n' h9 => by
          obtain ⟨g, rfl⟩ : ∃ g, gk = g + 1 := ⟨gk - 1, by omega⟩
          refine hrun.out x' s' n' ?_
          unfold RunR
          rw [if_pos HRR.out]
          exact ⟨x1, c, ok, s1, HR.out, HX3.out.nok, HCH.out, HMok.out, h9⟩
        clear HMM ho4 hpi4 hM HX3 HO3
        cases ok with
        | true =>
          have HX4 := hide hx4
          clear hx4
          go_wp2_with fail
          go_roundg (gk - 1)
          case measure => omega
          case rel => exact ⟨i + 1, x1, s1, F1, by go_num, by omega, HRUN, HX4, HFIT, HB1, HP4, HO4, HF1⟩
        | false =>
          obtain ⟨rp, Fr, vq, pv, Fp, hM4, hFi⟩ := hx4
          obtain ⟨r, hcut⟩ := ses_cut hM4 was (by have := HB1.out; omega)
          have HCUT := hide hcut
          have HFI := hide hFi
          clear hcut hM4 hFi
          go_wp2_with fail
          (with_reducible refine (unhide HCUT).mono ?_)
          rintro e w5 ⟨rfl, vq5, hM5, ho5, hf5⟩
          have hb5 : (cutQ was x1.outL).flatten.length ≤ 64 := by
            rw [cutQ_flat, List.length_take]
            have := HE.out.2; have := HWAS.out; omega
          have HEN := hide (ses_end hM5 11 xi.told (by show (cutQ was x1.outL).flatten.length ≤ _; omega))
          have HB5 := hide hb5
          have HO5 := hide (HO4.out.own ho5 fun k hk => by
            rcases List.mem_cons.1 hk with rfl | hk
            · exact .inl (by simp)
            · exact (HF1.out k (HFI.out k (.inr (.inl hk)))).imp_left (fun h9 => by simp [h9]))
          have HS4 := hide HO4.out.size
          have HV5 := hide (show ∀ k ∈ slB vq5, k ∈ F ∨ w.heap.size ≤ k from fun k hk => by
            rcases hf5 k hk with h9 | h9
            · exact HF1.out k (HFI.out k (.inr (.inl h9)))
            · exact .inr (Nat.le_trans HS4.out h9))
          have HP5 := hide (HKEEP.out _ _ _ _ HP4.out ho5 fun k hk => by
            rcases List.mem_cons.1 hk with rfl | hk
            · exact .inl rfl
            · exact .inr (HF1.out k (HFI.out k (.inr (.inl hk)))))
          clear HCUT hM5 ho5 hf5 hb5 HP4 HO4
          go_wp2_with fail
          (with_reducible refine (unhide HEN).mono ?_)
          rintro e w6 ⟨rfl, vq6, hM6, ho6, hf6⟩
          have hS5 := HO5.out.size
          have hall6 : ∀ k ∈ b :: (Fr ++ slB vq5), k = b ∨ k ∈ F ∨ w.heap.size ≤ k := fun k hk => by
            rcases List.mem_cons.1 hk with rfl | hk
            · exact .inl rfl
            · rcases List.mem_append.1 hk with hk | hk
              · exact .inr (HF1.out k (HFI.out k (.inl hk)))
              · exact .inr (HV5.out k hk)
          have HO6 := hide (HO5.out.own ho6 fun k hk => by
            rcases hall6 k hk with h9 | h9 | h9
            · exact .inl (by simp [h9])
            · exact .inl (by simp [h9])
            · exact .inr h9)
          have HP6 := hide (HKEEP.out _ _ _ _ HP5.out ho6 hall6)
          have HX6 : Hid (SesIs w6 b (Fr ++ slB vq6) d sg (xi.after x1 false)) := hide ⟨rp, Fr, vq6, _, [], by unfold Ses.after; rw [← HWAS.out]; exact hM6, fun k hk => by
            rcases hk with h | h | h
            · exact List.mem_append_left _ h
            · exact List.mem_append_right _ h
            · cases h⟩
          have HF6 := hide (show ∀ k ∈ Fr ++ slB vq6, k ∈ F ∨ w.heap.size ≤ k from fun k hk => by
            rcases List.mem_append.1 hk with hk | hk
            · exact HF1.out k (HFI.out k (.inl hk))
            · rcases hf6 k hk with h9 | h9
              · exact HV5.out k h9
              · exact .inr (Nat.le_trans hS5 h9))
          have HB6 : Hid (xi.after x1 false).Few := hide (by
            unfold Ses.after Ses.Few
            rw [if_neg (by simp), Ses.fin_out, ← HWAS.out]
            have := HB5.out
            show (cutQ was x1.outL).flatten.length + 2 ≤ _
            omega)
          clear HEN hM6 ho6 hf6 hall6 hS5 HP5 HO5
          go_wp2_with fail
          go_roundg (gk - 1)
          case measure => omega
          case rel => exact ⟨i + 1, xi.after x1 false, s1, _, by go_num, by omega, HRUN, HX6, hide Ses.fin_fit2, HB6, HP6, HO6, HF6⟩
    · go_wp2_with fail
      go_ret
      exact ⟨xi, si, i, rfl, hrun.out _ _ _ (by have : gk = 0 := by omega
                                                subst this; exact ⟨rfl, rfl, rfl⟩), Fi, hx.out, hfit.out, hout.out, hpi.out, ho.out, hfr.out⟩
end Go.Proofs.YtkccjfgkbkodiaaGreat
namespace Go.Proofs.YtkccjfgkbkodiaaGreat
open Go.RowKit
set_option maxRecDepth 100000
/-- What it was negotiated to be. -/
def Ses.set (x : Ses) (d sg : Nat) : Value := setV (if x.told then 1 else 0) (if x.told then 3 else 0) (if x.told then (d : Int) else 0) (if x.told then (sg : Int) else 0) 0
set_option maxHeartbeats 4000000 in
theorem ses_setup {w : World} {b d sg : Nat} {F : List Nat} {x : Ses} (h : SesIs w b F d sg x) :
    Calls Tryz.prog 38 #[.pointer (some ⟨b, 0, none⟩)] w fun e w' => e = .returned (.tuple #[x.set d sg, .bool x.told]) ∧ Only [] w w' := by
  obtain ⟨rp, Fr, vq, pv, Fp, hM, hF⟩ := h
  unfold Ses.set setV
  generalize hv1 : (if x.told then (1 : Int) else 0) = v1
  generalize hv2 : (if x.told then (3 : Int) else 0) = v2
  generalize hv3 : (if x.told then (d : Int) else 0) = v3
  generalize hv4 : (if x.told then (sg : Int) else 0) = v4
  have c4 : w.cell? ⟨b, 4, none⟩ = some (.int .i64 v1) := by rw [← hv1]; exact hM.blk.cellv 4 _ rfl
  have c5 : w.cell? ⟨b, 5, none⟩ = some (.int .i64 v2) := by rw [← hv2]; exact hM.blk.cellv 5 _ rfl
  have c6 : w.cell? ⟨b, 6, none⟩ = some (.int .i64 v3) := by rw [← hv3]; exact hM.blk.cellv 6 _ rfl
  have c7 : w.cell? ⟨b, 7, none⟩ = some (.int .i64 v4) := by rw [← hv4]; exact hM.blk.cellv 7 _ rfl
  have c8 : w.cell? ⟨b, 8, none⟩ = some (.int .i64 0) := hM.blk.cellv 8 _ rfl
  have c9 : w.cell? ⟨b, 9, none⟩ = some (.bool x.told) := hM.blk.cellv 9 _ rfl
  have hlt := hM.blk.lt
  clear hM hF hv1 hv2 hv3 hv4
  go_enter Tryz.func38, Tryz.ntmps38
  go_upto_region 3 with (fail)
  have hoA := ((Only.refl [] w).alloc (.cells #[.int .i64 0, .int .i64 0, .int .i64 0, .int .i64 0, .int .i64 0] 29)).drew
  have hB : Blk (w.alloc (.cells #[.int .i64 0, .int .i64 0, .int .i64 0, .int .i64 0, .int .i64 0] 29)).drew w.heap.size 29 #[.int .i64 0, .int .i64 0, .int .i64 0, .int .i64 0, .int .i64 0] := Blk.drew (Blk.new w 29 #[.int .i64 0, .int .i64 0, .int .i64 0, .int .i64 0, .int .i64 0])
  refine wp_region_tree (fun W => W.cell? ⟨b, 4, none⟩ = some (.int .i64 v1) ∧ W.cell? ⟨b, 5, none⟩ = some (.int .i64 v2) ∧ W.cell? ⟨b, 6, none⟩ = some (.int .i64 v3) ∧ W.cell? ⟨b, 7, none⟩ = some (.int .i64 v4) ∧ W.cell? ⟨b, 8, none⟩ = some (.int .i64 0) ∧ W.cell? ⟨b, 9, none⟩ = some (.bool x.told)) 10 (.take [0, 1, 2, 3, 4, 5, 6, 7] (.step 8 (.step 9 (.fin)))) (by kernel_rfl) (by kernel_rfl) (by intro _ _ _ _ _ h; exact h) ?_
  obtain ⟨W0, hW0⟩ : ∃ W0, W0 = (w.alloc (.cells #[.int .i64 0, .int .i64 0, .int .i64 0, .int .i64 0, .int .i64 0] 29)).drew := ⟨_, rfl⟩
  obtain ⟨bz, hbz⟩ : ∃ bz, bz = w.heap.size := ⟨_, rfl⟩
  rw [← hW0] at hoA hB ⊢
  rw [← hbz] at hB ⊢
  have hbb : b ≠ bz := by omega
  have S6 : ∀ W, Only [bz] W0 W → W.cell? ⟨b, 4, none⟩ = some (.int .i64 v1) ∧ W.cell? ⟨b, 5, none⟩ = some (.int .i64 v2) ∧ W.cell? ⟨b, 6, none⟩ = some (.int .i64 v3) ∧ W.cell? ⟨b, 7, none⟩ = some (.int .i64 v4) ∧ W.cell? ⟨b, 8, none⟩ = some (.int .i64 0) ∧ W.cell? ⟨b, 9, none⟩ = some (.bool x.told) := fun W hW => by
    have hb9 : Below w.heap.size w W := (hoA.own hW fun k hk => .inr (by rw [List.mem_singleton.1 hk, hbz]; exact Nat.le_refl _)).nil_below
    exact ⟨(hb9.cell (p := ⟨b, 4, none⟩) hlt).trans c4, (hb9.cell (p := ⟨b, 5, none⟩) hlt).trans c5, (hb9.cell (p := ⟨b, 6, none⟩) hlt).trans c6, (hb9.cell (p := ⟨b, 7, none⟩) hlt).trans c7, (hb9.cell (p := ⟨b, 8, none⟩) hlt).trans c8, (hb9.cell (p := ⟨b, 9, none⟩) hlt).trans c9⟩
  have z0 : W0.cell? ⟨bz, 0, none⟩ = some (.int .i64 0) := hB.cellv 0 _ rfl
  have z1 : W0.cell? ⟨bz, 1, none⟩ = some (.int .i64 0) := hB.cellv 1 _ rfl
  have z2 : W0.cell? ⟨bz, 2, none⟩ = some (.int .i64 0) := hB.cellv 2 _ rfl
  have z3 : W0.cell? ⟨bz, 3, none⟩ = some (.int .i64 0) := hB.cellv 3 _ rfl
  have z4 : W0.cell? ⟨bz, 4, none⟩ = some (.int .i64 0) := hB.cellv 4 _ rfl
  have f0 := hB.frozen 0
  have f1 := hB.frozen 1
  have f2 := hB.frozen 2
  have f3 := hB.frozen 3
  have f4 := hB.frozen 4
  have hO5 : Only [bz] W0 (((((W0.setCell ⟨bz, 0, none⟩ (.int .i64 v1)).setCell ⟨bz, 1, none⟩ (.int .i64 v2)).setCell ⟨bz, 2, none⟩ (.int .i64 v3)).setCell ⟨bz, 3, none⟩ (.int .i64 v4)).setCell ⟨bz, 4, none⟩ (.int .i64 0)) := (((((Only.refl [bz] W0).setCell (p := ⟨bz, 0, none⟩) (List.mem_singleton.2 rfl) _).setCell (p := ⟨bz, 1, none⟩) (List.mem_singleton.2 rfl) _).setCell (p := ⟨bz, 2, none⟩) (List.mem_singleton.2 rfl) _).setCell (p := ⟨bz, 3, none⟩) (List.mem_singleton.2 rfl) _).setCell (p := ⟨bz, 4, none⟩) (List.mem_singleton.2 rfl) _
  have H5 := hide (S6 _ hO5)
  have H0 := hide (S6 _ (Only.refl _ _))
  have HB := hide (((((hB.set_ 0 (.int .i64 v1)).set_ 1 (.int .i64 v2)).set_ 2 (.int .i64 v3)).set_ 3 (.int .i64 v4)).set_ 4 (.int .i64 0))
  have HB5 := hide (show Only [] w _ from hoA.own hO5 fun k hk => .inr (by rw [List.mem_singleton.1 hk, hbz]; exact Nat.le_refl _))
  clear S6 hB hoA hO5 c4 c5 c6 c7 c8 c9 hW0 hbz
  refine wpTree_take (H0.out) ?_
  simp only [opsAt, List.getElem?_cons_zero, List.getElem?_cons_succ]
  iterate 8 (first | (refine wpPureH_step (v := ?_) rfl (fun W hS => ?_) ?_; rotate_left; · (obtain ⟨s1, s2, s3, s4, s5, s6⟩ := hS; (try simp only [Act.put, List.setIfInBounds_toArray, List.set_cons_zero, List.set_cons_succ]); go_simp; with_reducible rfl)) | (refine wpPureH_want (v := ?_) (by rfl) (fun W hS => ?_) ?_; rotate_left; · (obtain ⟨s1, s2, s3, s4, s5, s6⟩ := hS; (try simp only [Act.put, List.setIfInBounds_toArray, List.set_cons_zero, List.set_cons_succ]); go_simp; with_reducible rfl)))
  refine wpPureH_nil ?_
  simp only [Act.put, List.setIfInBounds_toArray, List.set_cons_zero, List.set_cons_succ]
  refine wpTree_step ?_
  simp only [opsAt, List.getElem?_cons_zero, List.getElem?_cons_succ]
  go_wp2_with fail
  obtain ⟨W5, hW5⟩ : ∃ W5, W5 = ((((W0.setCell ⟨bz, 0, none⟩ (.int .i64 v1)).setCell ⟨bz, 1, none⟩ (.int .i64 v2)).setCell ⟨bz, 2, none⟩ (.int .i64 v3)).setCell ⟨bz, 3, none⟩ (.int .i64 v4)).setCell ⟨bz, 4, none⟩ (.int .i64 0) := ⟨_, rfl⟩
  rw [← hW5] at HB HB5 H5 ⊢
  have r0 : W5.cell? ⟨bz, 0, none⟩ = some (.int .i64 v1) := HB.out.cellv 0 _ rfl
  have r1 : W5.cell? ⟨bz, 1, none⟩ = some (.int .i64 v2) := HB.out.cellv 1 _ rfl
  have r2 : W5.cell? ⟨bz, 2, none⟩ = some (.int .i64 v3) := HB.out.cellv 2 _ rfl
  have r3 : W5.cell? ⟨bz, 3, none⟩ = some (.int .i64 v4) := HB.out.cellv 3 _ rfl
  have r4 : W5.cell? ⟨bz, 4, none⟩ = some (.int .i64 0) := HB.out.cellv 4 _ rfl
  clear hW5 HB z0 z1 z2 z3 z4 f0 f1 f2 f3 f4 H0
  refine ⟨.inr H5.out, ?_⟩
  refine wpTree_step ?_
  simp only [opsAt, List.getElem?_cons_zero, List.getElem?_cons_succ]
  go_wp2_with fail
  refine ⟨.inr H5.out, wpTree_fin ?_⟩
  clear H5
  go_wp2_with fail
  refine bodyPost_ret (v := .tuple #[.agg #[.int .i64 v1, .int .i64 v2, .int .i64 v3, .int .i64 v4, .int .i64 0], .bool x.told]) (by simp_all [results, Tryz.results38, go_sem]; try rfl) rfl ⟨rfl, HB5.out⟩
end Go.Proofs.YtkccjfgkbkodiaaGreat
