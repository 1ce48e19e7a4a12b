/-
  ParD · ParE · ParF: parts of the walk of TopTight, under no condition.
-/
import Derived.Test.YtkccjfgkbkodiaaGreatZ14
namespace Go.Proofs.YtkccjfgkbkodiaaGreat
open Go.RowKit
theorem LexIs.small {w : World} {b : Nat} {F : List Nat} {post : List Value} {x : Lex} (h : LexIs w b F post x) : ∃ G, LexIs w b G post x ∧ (∀ k ∈ G, k ∈ F) ∧ ∀ k ∈ G, ∃ cs, Blk w k 5 cs := by
  obtain ⟨es, a, v, hm, ht⟩ := h
  by_cases hc : x.st = 1 ∧ x.e = 0
  · have ht := ht hc.1 hc.2
    refine ⟨slB v, ⟨es, a, v, hm, fun _ _ => ⟨ht.esc, ht.addr, ht.own, fun k hk => hk⟩⟩, ht.sub, fun k hk => ?_⟩
    obtain ⟨l, hl, _⟩ := ht.own
    rcases hl.2 with ⟨rfl, _⟩ | ⟨g, cap, cur, rfl, _, hh, _⟩
    · simp [slB] at hk
    · have : k = g := by simpa [slB] using hk
      subst this
      exact ⟨_, hh⟩
  · exact ⟨[], ⟨es, a, v, hm, fun h1 h2 => absurd ⟨h1, h2⟩ hc⟩, by simp, by simp⟩
theorem SlN.blkOf {w : World} {base s n : Nat} {t : TypeId} {v : Value} {xs : List Value} (h : SlN w base t s v n xs) : ∀ k ∈ slB v, ∃ cs, Blk w k t cs := by
  rcases h with ⟨rfl, _⟩ | ⟨g, off, cap, cs, rfl, hb, hg, _⟩
  · intro k hk; simp [slB] at hk
  · intro k hk
    have : k = g := by simpa [slB] using hk
    subst this
    exact ⟨_, hg⟩
/-- All blocks of F are bytes or Bools. -/
def SmallF (w : World) (F : List Nat) : Prop := ∀ k ∈ F, ∃ t cs, (t = 5 ∨ t = 4) ∧ Blk w k t cs
theorem SmallF.not {w : World} {F : List Nat} (h : SmallF w F) {base s n : Nat} {t : TypeId} {v : Value} {xs : List Value} (hs : SlN w base t s v n xs) (h1 : t ≠ 5) (h2 : t ≠ 4) : ∀ k ∈ F, k ∉ slB v := by
  intro k hk hm
  obtain ⟨t', cs, ht, hb⟩ := h k hk
  exact hs.notBlk hb (by rcases ht with rfl | rfl; exact h1; exact h2) hm
theorem ParM.small {w : World} {b d : Nat} {F : List Nat} {p : Par} {mv : Value} (h : ParM w b F d p mv) : ∃ G, ParM w b G d p mv ∧ (∀ k ∈ G, k ∈ F) ∧ SmallF w G := by
  obtain ⟨G, h1, h2, h3⟩ := h.lex.small
  refine ⟨G ++ slB mv, ⟨?_, h.row, fun k hk => List.mem_append_right _ hk⟩, fun k hk => (List.mem_append.1 hk).elim (h2 k) (h.sub k), fun k hk => ?_⟩
  · obtain ⟨es, a, v, hm, ht⟩ := h1
    exact ⟨es, a, v, hm, fun h4 h5 => ⟨(ht h4 h5).esc, (ht h4 h5).addr, (ht h4 h5).own, fun k hk => List.mem_append_left _ ((ht h4 h5).sub k hk)⟩⟩
  · rcases List.mem_append.1 hk with hk | hk
    · obtain ⟨cs, hb⟩ := h3 k hk
      exact ⟨_, cs, .inl rfl, hb⟩
    · obtain ⟨cs, hb⟩ := h.row.blkOf k hk
      exact ⟨_, cs, .inr rfl, hb⟩
theorem ParIs.small {w : World} {b d : Nat} {F : List Nat} {p : Par} (h : ParIs w b F d p) : ∃ G, ParIs w b G d p ∧ (∀ k ∈ G, k ∈ F) ∧ SmallF w G ∧ ∃ cs, Blk w b 201 cs := by
  obtain ⟨mv, h⟩ := h
  obtain ⟨G, h1, h2, h3⟩ := h.small
  obtain ⟨pre, hm⟩ := h.mid
  exact ⟨G, ⟨mv, h1⟩, h2, h3, _, hm.2⟩
theorem Par.Ok.behind {p : Par} {d : Nat} (h : p.maps.length ≤ d) : p.behind.Ok d := by
  unfold Par.behind
  refine ⟨fun h5 => ?_, h⟩
  by_cases hm : p.maps = []
  · simp [hm] at h5
  · exact hm
theorem Par.Ok.value {p : Par} {d : Nat} (h : p.Ok d) (t : Tok) : (p.value d t).1.Ok d := by
  have hb := Par.Ok.behind h.deep
  unfold Par.value
  repeat' split
  · exact ⟨h.five, h.deep⟩
  · exact ⟨fun _ => by simp, by have := h.deep; simp; omega⟩
  · exact ⟨fun _ => by simp, by have := h.deep; simp; omega⟩
  all_goals first | exact hb | exact ⟨h.five, h.deep⟩
theorem Par.Ok.token {p : Par} {d : Nat} (h : p.Ok d) (t : Tok) : (p.token d t).1.Ok d := by
  have hb : (Par.behind { p with maps := p.maps.tail }).Ok d := Par.Ok.behind (by have := h.deep; simp; omega)
  unfold Par.token
  repeat' split
  · exact ⟨by simp, h.deep⟩
  · exact ⟨by simp, h.deep⟩
  · exact ⟨by simp, h.deep⟩
  · exact hb
  · exact ⟨by simp, h.deep⟩
  · exact ⟨h.five, h.deep⟩
  · exact h.value t
theorem info_any : (Tryz.prog.info? 20).map (fun i => (i.zero, i.size, i.bytes)) = some (some .nilIface, 1, 16) := by kernel_rfl
theorem Part.form (p : Part) : p.val = .nilIface ∨ ∃ t v, p.val = .iface t v := by cases p <;> simp [Part.val]
theorem Part.one (p : Part) : p.val.oneCell' = true := by cases p <;> rfl
def partsV (l : List Part) : List Value := l.map Part.val
def PartsPost (w : World) (b : Nat) (F : List Nat) (d : Nat) (r : Par × List Part × Int) (e : Ending) (w' : World) : Prop :=
  ∃ ov F', e = .returned (.tuple #[ov, .int .i64 r.2.2]) ∧ SlN w' w.heap.size 20 1 ov r.2.1.length (partsV r.2.1) ∧ ParIs w' b F' d r.1 ∧ Only (b :: F) w w' ∧ ∀ k ∈ F', k ∈ F ∨ w.heap.size ≤ k
theorem toks_at {ts : List Tok} {i : Nat} (hi : i < ts.length) {j : Nat} (hj : j < 4) : (toksEnc ts)[i * 4 + j]? = (ts[i].enc)[j]? := by
  induction ts generalizing i with
  | nil => simp at hi
  | cons t ts ih =>
    have hc : toksEnc (t :: ts) = t.enc ++ toksEnc ts := rfl
    have hl : t.enc.length = 4 := rfl
    cases i with
    | zero => rw [hc, List.getElem?_append_left (by rw [hl]; omega)]; simp
    | succ i =>
      rw [hc, List.getElem?_append_right (by rw [hl]; omega), hl, show (i + 1) * 4 + j - 4 = i * 4 + j by omega, ih (by simpa using hi)]
      simp
set_option maxRecDepth 100000 in
set_option maxHeartbeats 4000000 in
theorem par_parts {w : World} {b d : Nat} {F : List Nat} {p : Par} (h : ParIs w b F d p) (hk : p.Ok d) (hd : d ≤ 100) {u : Value} {ts : List Tok} (hu : SlN w 0 237 4 u ts.length (toksEnc ts)) (hlen : ts.length ≤ 1000)
    (hF : ∀ k ∈ F, k < w.heap.size) (hdis : ∀ k ∈ slB u, k ≠ b ∧ k ∉ F) (er : Int) :
    Calls Tryz.prog 120 #[.pointer (some ⟨b, 0, none⟩), u, .int .i64 er] w (PartsPost w b F d (Par.parts d p ts [] er)) := by
  obtain ⟨R, hR⟩ : ∃ r, Par.parts d p ts [] er = r := ⟨_, rfl⟩
  rw [hR]
  obtain ⟨n, hn⟩ : ∃ n, n = ts.length := ⟨_, rfl⟩
  rw [← hn] at hu hlen
  obtain ⟨ua, uc, rfl⟩ := hu.form
  have hn1000 : (n : Int) ≤ 1000 := by omega
  have HP := hide h
  have HK := hide hk
  have HD := hide hd
  have HU := hide hu
  have HN := hide hn
  have HDIS := hide hdis
  have HFL := hide hF
  have HR := hide hR
  clear h hk hd hu hn hdis hF hR
  go_enter Tryz.func120, Tryz.ntmps120
  go_wp2_with fail
  go_loopg [8, 15] n (fun gk s8 s15 wr => ∃ (i : Nat) (q : Par) (out : List Part) (G : List Nat), s15 = .int .i64 i ∧ i + gk = n ∧ Hid (Par.parts d q (ts.drop i) out er = R) ∧ Hid (q.Ok d) ∧ Hid (ParIs wr b G d q) ∧ Hid (SlN wr w.heap.size 20 1 s8 out.length (partsV out)) ∧ Hid (out.length ≤ i) ∧ Hid (Only (b :: F) w wr) ∧ Hid (∀ k ∈ G, k ∈ F ∨ w.heap.size ≤ k))
  case atStart =>
    exact ⟨0, p, [], F, rfl, by omega, HR, HK, HP, hide (SlN.nil _ _ _ _), hide (Nat.le_refl _), hide (Only.refl _ _), hide (fun k hk => .inl hk)⟩
  case round =>
    obtain ⟨i, q, out, G, rfl, hi, hall, hq, hp, hs, hol, ho, hg⟩ := hrel
    obtain ⟨oa, oc, rfl⟩ := hs.out.form
    by_cases hlt : i < n
    · have hiT : i < ts.length := by rw [← HN.out]; exact hlt
      obtain ⟨x, hx⟩ : ∃ x, x = ts[i] := ⟨_, rfl⟩
      have hu2 := HU.out.keep ho.out (fun k hk hm => by
        rcases List.mem_cons.1 hm with rfl | hm
        · exact (HDIS.out _ hk).1 rfl
        · exact (HDIS.out _ hk).2 hm)
      have hlenT : (toksEnc ts).length = n * 4 := by rw [toksEnc_length, HN.out]
      have hcell : ∀ j (hj : j < 4) (v : Value), x.enc[j]? = some v → ∃ g off cap, (.slice ua n uc : Value) = .slice (some ⟨g, off, none⟩) n cap ∧ wr.cell? ⟨g, off + (i * 4 + j), none⟩ = some v := fun j hj v hv => by
        obtain ⟨g, off, cap, h1, h2, _⟩ := hu2.cell (i * 4 + j) (by omega)
        refine ⟨g, off, cap, h1, ?_⟩
        rw [h2]
        have h3 := toks_at hiT hj
        rw [← hx, hv, List.getElem?_eq_getElem (by omega)] at h3
        exact h3
      obtain ⟨g, off, cap, hv, _⟩ := hcell 0 (by omega) _ rfl
      injection hv with e1 e2 e3
      subst e1 e3
      have z : ∀ j (hj : j < 4) (v : Value), x.enc[j]? = some v → wr.cell? ⟨g, off + (i * 4 + j), none⟩ = some v := fun j hj v hv => by
        obtain ⟨g', off', cap', h1, h2⟩ := hcell j hj v hv
        injection h1 with h1
        injection h1 with h1
        injection h1 with h3 h4
        subst h3 h4
        exact h2
      have z0 : wr.cell? ⟨g, off + i * 4, none⟩ = some (.int .u8 x.kind) := z 0 (by omega) _ rfl
      have z1 : wr.cell? ⟨g, off + i * 4 + 1, none⟩ = some (.string (S x.text)) := z 1 (by omega) _ rfl
      have z2 : wr.cell? ⟨g, off + i * 4 + 2, none⟩ = some (.bool x.neg) := z 2 (by omega) _ rfl
      have z3 : wr.cell? ⟨g, off + i * 4 + 3, none⟩ = some (.int .u64 (x.mag : Int)) := z 3 (by omega) _ rfl
      have hgl : g < wr.heap.size := (hu2.lt g (by simp [slB])).2
      have hall2 := hall.out
      rw [List.drop_eq_getElem_cons hiT, ← hx] at hall2
      simp only [Par.parts] at hall2
      have hsz := ho.out.size
      obtain ⟨G0, ⟨mv, hM⟩, hsub, htyp, cb, hcb⟩ := hp.out.small
      have hq2 := hq.out.token x
      have HT := hide (show Calls Tryz.prog 136 #[.pointer (some ⟨b, 0, none⟩), .agg #[.int .u8 x.kind, .string (S x.text), .bool x.neg, .int .u64 (x.mag : Int)]] (wr.alloc (.cells #[.int .u8 x.kind, .string (S x.text), .bool x.neg, .int .u64 (x.mag : Int)] 237)) (ParPost (wr.alloc (.cells #[.int .u8 x.kind, .string (S x.text), .bool x.neg, .int .u64 (x.mag : Int)] 237)) b G0 d (q.token d x)) from par_token (hM.new ((Only.refl [] _).alloc _)) hq.out HD.out x)
      have HS := hide hs.out
      have HB : Hid (b ∉ slB (.slice oa out.length oc)) := hide (hs.out.notBlk hcb (by decide))
      have HNG := hide (htyp.not hs.out (by decide) (by decide))
      have HSUB : Hid (∀ k ∈ G0, k ∈ F ∨ w.heap.size ≤ k) := hide (fun k hk => hg.out k (hsub k hk))
      generalize q.token d x = r at hall2 hq2 HT
      obtain ⟨q2, o⟩ := r
      have HALL := hide hall2
      have HQ2 := hide hq2
      clear z hcell hall hall2 hx hu2 e2 hlenT hiT hM hsub htyp hcb hq hq2 hp hs hg
      go_wp2_with fail
      (with_reducible refine (unhide HT).mono ?_)
      rintro e w1 ⟨he, F', hp1, ho1, hf1⟩
      obtain ⟨pv, hpv⟩ : ∃ pv, pv = optVal o := ⟨_, rfl⟩
      simp only at he
      rw [← hpv] at he
      subst he
      have HPV := hide hpv
      clear hpv
      obtain ⟨G1, ⟨mv1, hM1⟩, hsub1, htyp1, cb1, hcb1⟩ := hp1.small
      obtain ⟨pre1, hm1⟩ := hM1.mid
      have d26 : w1.cell? ⟨b, 26, none⟩ = some (.int .i64 q2.e) := hm1.cell 3 _ rfl
      have hs1 : SlN w1 w.heap.size 20 1 (.slice oa out.length oc) out.length (partsV out) := (HS.out.alloc (.cells #[.int .u8 x.kind, .string (S x.text), .bool x.neg, .int .u64 (x.mag : Int)] 237)).keep ho1 (fun k hk hm => by
        rcases List.mem_cons.1 hm with rfl | hm
        · exact HB.out hk
        · exact HNG.out k hm hk)
      have hoW : Only (b :: F) w w1 := (ho.out.alloc (.cells #[.int .u8 x.kind, .string (S x.text), .bool x.neg, .int .u64 (x.mag : Int)] 237)).own ho1 (fun k hk => by
        rcases List.mem_cons.1 hk with rfl | hk
        · exact .inl (List.mem_cons_self ..)
        · exact (HSUB.out k hk).imp_left (List.mem_cons_of_mem _))
      have hg1 : ∀ k ∈ G1, k ∈ F ∨ w.heap.size ≤ k := fun k hk => (hf1 k (hsub1 k hk)).elim (HSUB.out k) (fun h9 => .inr (by simp at h9; omega))
      have HS1 := hide hs1
      have HOW := hide hoW
      have HG1 := hide hg1
      have HM1 := hide hM1
      have HT1 := hide htyp1
      have HB1 : Hid (b ∉ slB (.slice oa out.length oc)) := hide (hs1.notBlk hcb1 (by decide))
      clear HT HS HB HNG HSUB hp1 ho1 hf1 hM1 hsub1 htyp1 hm1 hs1 hoW hg1 hcb1 ho z0 z1 z2 z3
      by_cases he : q2.e = 0
      · have hall := HALL.out
        rw [if_neg (by simpa using he)] at hall
        have e0 : (q2.e != 0) = false := by simp [he]
        cases o with
        | none =>
          rw [show (none : Option Part).toList = [] from rfl, List.append_nil] at hall
          have HA := hide hall
          clear hall he HALL
          go_wp2_with fail
          go_roundg (gk - 1)
          case measure => omega
          case rel => exact ⟨i + 1, q2, out, G1, by go_num, by omega, HA, HQ2, hide ⟨_, HM1.out⟩, HS1, hide (Nat.le_succ_of_le hol.out), HOW, HG1⟩
        | some pt =>
          rw [show (some pt).toList = [pt] from rfl] at hall
          have HA := hide hall
          clear hall he HALL
          have hfm := pt.form
          rw [show pt.val = pv from HPV.out.symm] at hfm
          rcases hfm with rfl | ⟨t0, v0, rfl⟩
          · go_wp2_with (at_builtin; go_loud (refine wpList_append_slN rfl (.tmp 36) (.tmp 38) 152 rfl _ 16 Tryz.underlying152 info_any rfl (by decide) (HS1.out.alloc (.cells #[.nilIface] 20)) (SlN.one (base := 0) (Nat.zero_le _) (Blk.new w1 20 #[.nilIface])).src rfl rfl rfl (by intro y hy; simp at hy; subst hy; rfl) ?g4 ?g5 ?g6 ?_))
            case g4 => have := hol.out; unfold maxLen; omega
            case g5 => have := hol.out; omega
            case g6 => have := HOW.out.size; simp; omega
            intro v' w2 hv' ho' hf'
            obtain ⟨a', c', rfl⟩ := hv'.form
            have hM2 := (HM1.out.new ((Only.refl [] w1).alloc (.cells #[.nilIface] 20))).keep ho' HB1.out (fun k hk => HT1.out.not HS1.out (by decide) (by decide) k hk)
            have hoW2 : Only (b :: F) w w2 := (HOW.out.alloc (.cells #[.nilIface] 20)).own ho' (fun k hk => .inr (HS1.out.lt k hk).1)
            have HV := hide hv'
            have HM2 := hide hM2
            have HO2 := hide hoW2
            clear hv' ho' hf' hM2 hoW2 HS1 HM1 HOW HB1 HT1
            go_wp2_with fail
            go_roundg (gk - 1)
            case measure => omega
            case rel => exact ⟨i + 1, q2, out ++ [pt], G1, by go_num, by omega, HA, HQ2, hide ⟨_, HM2.out⟩, hide (by have h9 := HV.out; rw [List.length_append, show partsV (out ++ [pt]) = partsV out ++ [.nilIface] by have h8 := HPV.out; simp only [optVal] at h8; simp [partsV, ← h8]]; exact h9), hide (by have := hol.out; simp; omega), HO2, HG1⟩
          · go_wp2_with (at_builtin; go_loud (refine wpList_append_slN rfl (.tmp 36) (.tmp 38) 152 rfl _ 16 Tryz.underlying152 info_any rfl (by decide) (HS1.out.alloc (.cells #[.iface t0 v0] 20)) (SlN.one (base := 0) (Nat.zero_le _) (Blk.new w1 20 #[.iface t0 v0])).src rfl rfl rfl (by intro y hy; simp at hy; subst hy; rfl) ?g4 ?g5 ?g6 ?_))
            case g4 => have := hol.out; unfold maxLen; omega
            case g5 => have := hol.out; omega
            case g6 => have := HOW.out.size; simp; omega
            intro v' w2 hv' ho' hf'
            obtain ⟨a', c', rfl⟩ := hv'.form
            have hM2 := (HM1.out.new ((Only.refl [] w1).alloc (.cells #[.iface t0 v0] 20))).keep ho' HB1.out (fun k hk => HT1.out.not HS1.out (by decide) (by decide) k hk)
            have hoW2 : Only (b :: F) w w2 := (HOW.out.alloc (.cells #[.iface t0 v0] 20)).own ho' (fun k hk => .inr (HS1.out.lt k hk).1)
            have HV := hide hv'
            have HM2 := hide hM2
            have HO2 := hide hoW2
            clear hv' ho' hf' hM2 hoW2 HS1 HM1 HOW HB1 HT1
            go_wp2_with fail
            go_roundg (gk - 1)
            case measure => omega
            case rel => exact ⟨i + 1, q2, out ++ [pt], G1, by go_num, by omega, HA, HQ2, hide ⟨_, HM2.out⟩, hide (by have h9 := HV.out; rw [List.length_append, show partsV (out ++ [pt]) = partsV out ++ [.iface t0 v0] by have h8 := HPV.out; simp only [optVal] at h8; simp [partsV, ← h8]]; exact h9), hide (by have := hol.out; simp; omega), HO2, HG1⟩
      · have hall := HALL.out
        rw [if_pos (by simpa using he)] at hall
        have e0 : (q2.e != 0) = true := by simpa using he
        have HA := hide hall
        clear hall he HALL
        go_wp2_with fail
        go_quiet (fail)
        go_wp2_with fail
        go_ret2
        rw [← HA.out]
        exact ⟨_, G1, rfl, HS1.out.drewN _, ⟨_, HM1.out.new ((Only.refl [] _).drewN _)⟩, HOW.out.drewN _, HG1.out⟩
    · have hall := hall.out
      rw [List.drop_eq_nil_of_le (by rw [← HN.out]; omega)] at hall
      obtain ⟨mv, hM⟩ := hp.out
      obtain ⟨pre, hm⟩ := hM.mid
      have d26 : wr.cell? ⟨b, 26, none⟩ = some (.int .i64 q.e) := hm.cell 3 _ rfl
      have f26 := hm.frozen 26
      have hB : b ∉ slB (.slice oa out.length oc) := hs.out.notBlk hm.2 (by decide)
      have HA := hide hall
      have HMM := hide hM
      have HB := hide hB
      have e0 : decide ((i : Int) < (n : Int)) = false := by simp; omega
      clear hall hM hm hB
      go_wp2_with fail
      go_ret2
      rw [← HA.out]
      have ho9 : Only [b] wr (wr.setCell ⟨b, 26, none⟩ (.int .i64 er)) := (Only.refl _ wr).setCell (p := ⟨b, 26, none⟩) (by simp) _
      exact ⟨_, G, rfl, hs.out.keep ho9 (fun k hk hm => HB.out (List.mem_singleton.1 hm ▸ hk)), ⟨_, HMM.out.seterr er⟩, ho.out.setCell (p := ⟨b, 26, none⟩) (List.mem_cons_self ..) _, hg.out⟩
end Go.Proofs.YtkccjfgkbkodiaaGreat
namespace Go.Proofs.YtkccjfgkbkodiaaGreat
open Go.RowKit
theorem tail_ok {r : List UInt8} {c : UInt8} {x : Lex} (h : x.Wok) (hr : x.rest = c :: r) (s : Int) (hs : s = 0 ∨ s = x.st) (e : Int) : (⟨s, x.n, r, x.kind, e⟩ : Lex).Wok :=
  ⟨by rcases hs with rfl | rfl; exact .inl rfl; exact h.st, fun d hd => h.asc d (by rw [hr]; exact List.mem_cons_of_mem _ hd), by have := h.four; rw [hr] at this; simp at this ⊢; omega⟩
theorem Lex.Wok.word {x : Lex} (h : x.Wok) (u : UInt8) : (x.word u).1.Wok := by
  unfold Lex.word
  cases hr : x.rest with
  | nil => exact ⟨h.st, by simp, by simp⟩
  | cons c r =>
    simp only
    split
    · split
      · exact ⟨.inl rfl, by simp, by simp⟩
      · exact tail_ok h hr x.st (.inr rfl) x.e
    · exact ⟨h.st, fun d hd => h.asc d (by rw [hr]; exact hd), by have := h.four; rw [hr] at this; exact this⟩
theorem Lex.Wok.between {x : Lex} (h : x.Wok) (u : UInt8) : (x.between u).1.Wok := by
  unfold Lex.between
  repeat' split
  all_goals first
    | exact h
    | exact ⟨.inr (.inl rfl), h.asc, h.four⟩
    | exact ⟨.inr (.inr (.inl rfl)), h.asc, h.four⟩
    | exact ⟨.inr (.inr (.inr rfl)), by simp, by simp⟩
    | exact ⟨h.st, h.asc, h.four⟩
theorem Lex.Wok.ended {x : Lex} (h : x.Wok) : x.ended.1.Wok := by
  unfold Lex.ended
  split
  · exact ⟨h.st, h.asc, h.four⟩
  · exact ⟨.inl rfl, h.asc, h.four⟩
theorem Lex.Wok.number {x : Lex} (h : x.Wok) (u : UInt8) : (x.number u).1.Wok := by
  have h1 : Lex.Wok { x with n := (x.n.step u.toNat).1, e := (x.n.step u.toNat).2.2 } := ⟨h.st, h.asc, h.four⟩
  unfold Lex.number
  repeat' split
  · exact h1
  · exact h1.ended
  · exact h1.ended.between u
theorem Lex.Wok.did {x x' : Lex} {u : UInt8} {ts : List Tok} (h : x.Wok) (hd : x.did u x' ts) : x'.Wok := by
  unfold Lex.did at hd
  split at hd
  · obtain ⟨rfl, _⟩ := hd; exact h
  split at hd
  · obtain ⟨t0, ht, _⟩ := hd
    rcases ht with ⟨k, _, _, rfl, _⟩ | ⟨l, _, rfl, _⟩
    · exact ⟨h.st, h.asc, h.four⟩
    · exact ⟨.inl rfl, h.asc, h.four⟩
  split at hd
  · obtain ⟨rfl, _⟩ := hd; exact h.word u
  split at hd
  · obtain ⟨rfl, _⟩ := hd; exact h.number u
  · obtain ⟨rfl, _⟩ := hd; exact h.between u
theorem word_len (x : Lex) (u : UInt8) : (x.word u).2.length ≤ 1 := by
  unfold Lex.word
  split
  · simp
  · repeat' split
    all_goals simp
theorem number_len (x : Lex) (u : UInt8) : (x.number u).2.length ≤ 2 := by
  unfold Lex.number
  repeat' split
  · simp
  · simp
  · rw [List.length_append]
    have := ended_len { x with n := (x.n.step u.toNat).1, e := (x.n.step u.toNat).2.2 }
    have := between_len (Lex.ended { x with n := (x.n.step u.toNat).1, e := (x.n.step u.toNat).2.2 }).1 u
    omega
theorem Lex.did_len {x x' : Lex} {u : UInt8} {ts : List Tok} (hd : x.did u x' ts) : ts.length ≤ 2 := by
  have key : ∀ (c : Prop) [Decidable c] (l : List Tok), l.length ≤ 2 → (if c then l else []).length ≤ 2 := fun c _ l hl => by split <;> simp [hl]
  unfold Lex.did at hd
  split at hd
  · obtain ⟨_, rfl⟩ := hd; simp
  split at hd
  · obtain ⟨t0, ht, rfl⟩ := hd
    refine key _ _ ?_
    rcases ht with ⟨k, _, _, _, rfl⟩ | ⟨l, _, _, rfl⟩ <;> simp
  split at hd
  · obtain ⟨_, rfl⟩ := hd; exact key _ _ (Nat.le_succ_of_le (word_len x u))
  split at hd
  · obtain ⟨_, rfl⟩ := hd; exact key _ _ (number_len x u)
  · obtain ⟨_, rfl⟩ := hd; exact key _ _ (Nat.le_succ_of_le (between_len x u))
theorem endd_len (x : Lex) : x.endd.2.length ≤ 1 := by
  unfold Lex.endd
  split
  · simp
  split
  · exact ended_len x
  · simp
def Par.did (p : Par) (d : Nat) (u : UInt8) (r : Par × List Part × Int) : Prop :=
  if p.e ≠ 0 then r = (p, [], p.e) else ∃ l' ts, p.l.did u l' ts ∧ r = Par.parts d { p with l := l' } ts [] l'.e
def Par.endd (p : Par) (d : Nat) : Par × List Part × Int :=
  if p.e ≠ 0 then (p, [], p.e)
  else if (Par.parts d { p with l := p.l.endd.1 } p.l.endd.2 [] p.l.endd.1.e).2.2 = 0 ∧ (Par.parts d { p with l := p.l.endd.1 } p.l.endd.2 [] p.l.endd.1.e).1.next ≠ 6 then
    ({ (Par.parts d { p with l := p.l.endd.1 } p.l.endd.2 [] p.l.endd.1.e).1 with e := 3 }, (Par.parts d { p with l := p.l.endd.1 } p.l.endd.2 [] p.l.endd.1.e).2.1, 3)
  else ((Par.parts d { p with l := p.l.endd.1 } p.l.endd.2 [] p.l.endd.1.e).1, (Par.parts d { p with l := p.l.endd.1 } p.l.endd.2 [] p.l.endd.1.e).2.1, (Par.parts d { p with l := p.l.endd.1 } p.l.endd.2 [] p.l.endd.1.e).1.e)
def ParRes (w : World) (b : Nat) (F : List Nat) (d : Nat) (Q : Par × List Part × Int → Prop) (e : Ending) (w' : World) : Prop := ∃ r, Q r ∧ PartsPost w b F d r e w'
/-- What the lexer gave is handed on to parts. -/
theorem lex_to_parts {w w1 : World} {b d : Nat} {F G : List Nat} {p : Par} {mv : Value} (h : ParM w b F d p mv) (hG : ∀ k ∈ G, k ∈ F) (hGt : ∀ k ∈ G, ∃ cs, Blk w k 5 cs) {F' : List Nat} {l' : Lex} {q : Value} {ts : List Tok}
    (hsl : SlN w1 w.heap.size 237 4 q ts.length (toksEnc ts)) (hli : LexIs w1 b F' [.int .i64 d, mv, .int .i64 p.next, .int .i64 p.e] l') (ho : Only (b :: G) w w1) (hf : ∀ k ∈ F', k ∈ G ∨ w.heap.size ≤ k) :
    ∃ F1, ParIs w1 b F1 d { p with l := l' } ∧ SlN w1 0 237 4 q ts.length (toksEnc ts) ∧ (∀ k ∈ F1, k < w1.heap.size) ∧ (∀ k ∈ slB q, k ≠ b ∧ k ∉ F1) ∧ Only (b :: F) w w1 ∧ ∀ k ∈ F1, k ∈ F ∨ w.heap.size ≤ k := by
  obtain ⟨G3, h3, hs3, ht3⟩ := hli.small
  have hrow : SlN w1 0 4 1 mv p.maps.length (boolsL p.maps) := h.row.keep ho (fun k hk hm => by
    rcases List.mem_cons.1 hm with rfl | hm
    · exact h.out hk
    · obtain ⟨cs, hb⟩ := hGt k hm
      exact h.row.notBlk hb (by decide) hk)
  obtain ⟨pre, _, hmid, _⟩ := hli.post
  have hM : ParM w1 b (G3 ++ slB mv) d { p with l := l' } mv := ⟨by
    obtain ⟨es, a, v, hm, ht⟩ := h3
    exact ⟨es, a, v, hm, fun h4 h5 => ⟨(ht h4 h5).esc, (ht h4 h5).addr, (ht h4 h5).own, fun k hk => List.mem_append_left _ ((ht h4 h5).sub k hk)⟩⟩, hrow, fun k hk => List.mem_append_right _ hk⟩
  refine ⟨G3 ++ slB mv, ⟨mv, hM⟩, hsl.mono (Nat.zero_le _), fun k hk => ?_, fun k hk => ⟨fun e => hsl.notBlk hmid.2 (by decide) (e ▸ hk), fun hm => ?_⟩, ho.mono (fun k hk => ?_), fun k hk => ?_⟩
  · rcases List.mem_append.1 hk with hk | hk
    · obtain ⟨cs, hb⟩ := ht3 k hk
      exact hb.lt
    · exact (hrow.lt k hk).2
  · rcases List.mem_append.1 hm with hm | hm
    · obtain ⟨cs, hb⟩ := ht3 k hm
      exact hsl.notBlk hb (by decide) hk
    · obtain ⟨cs, hb⟩ := hrow.blkOf k hm
      exact hsl.notBlk hb (by decide) hk
  · rcases List.mem_cons.1 hk with rfl | hk
    · exact List.mem_cons_self ..
    · exact List.mem_cons_of_mem _ (hG k hk)
  · rcases List.mem_append.1 hk with hk | hk
    · exact (hf k (hs3 k hk)).imp_left (hG k)
    · exact .inl (h.sub k hk)
theorem PartsPost.back {w w1 w' : World} {b d : Nat} {F F1 : List Nat} {r : Par × List Part × Int} {e : Ending} (h : PartsPost w1 b F1 d r e w') (ho : Only (b :: F) w w1) (hf : ∀ k ∈ F1, k ∈ F ∨ w.heap.size ≤ k) : PartsPost w b F d r e w' := by
  obtain ⟨ov, F', h1, h2, h3, h4, h5⟩ := h
  have hs := ho.size
  refine ⟨ov, F', h1, h2.mono hs, h3, ho.own h4 (fun k hk => ?_), fun k hk => (h5 k hk).elim (hf k) (fun h9 => .inr (by omega))⟩
  rcases List.mem_cons.1 hk with rfl | hk
  · exact .inl (List.mem_cons_self ..)
  · exact (hf k hk).imp_left (List.mem_cons_of_mem _)
set_option maxRecDepth 100000 in
set_option maxHeartbeats 4000000 in
theorem par_step {w : World} {b d : Nat} {F : List Nat} {p : Par} (h : ParIs w b F d p) (hk : p.Ok d) (hw : p.l.Wok) (hd : d ≤ 100) (u : UInt8) :
    Calls Tryz.prog 186 #[.pointer (some ⟨b, 0, none⟩), .int .u8 (u.toNat : Int)] w (ParRes w b F d (p.did d u)) := by
  obtain ⟨mv, h⟩ := h
  obtain ⟨G, hG1, hG2, hG3⟩ := h.lex.small
  obtain ⟨pre, hm⟩ := h.mid
  have c26 : w.cell? ⟨b, 26, none⟩ = some (.int .i64 p.e) := hm.cell 3 _ rfl
  have HL := hide (lex_step hG1 hw rfl u)
  have H := hide h
  have HG2 := hide hG2
  have HG3 := hide hG3
  have HK := hide hk
  have HD := hide hd
  clear hG1 hG2 hG3 hm h hk hd hw
  by_cases he : p.e = 0
  · have e0 : (p.e != 0) = false := by simp [he]
    have HE := hide he
    clear he
    go_enter Tryz.func186, Tryz.ntmps186
    go_wp2_with fail
    (with_reducible refine (unhide HL).mono ?_)
    rintro e w1 ⟨q, l', ts, F', rfl, hdid, hsl, hli, ho, hf⟩
    obtain ⟨q1, q2, rfl⟩ := hsl.form
    obtain ⟨F1, hp1, hsl1, hlt1, hdis1, ho1, hf1⟩ := lex_to_parts H.out HG2.out HG3.out hsl hli ho hf
    have HP := hide (par_parts hp1 ⟨HK.out.five, HK.out.deep⟩ HD.out hsl1 (by have := Lex.did_len hdid; omega) hlt1 hdis1 l'.e)
    have HDID := hide hdid
    have HO := hide ho1
    have HF := hide hf1
    clear HL hdid hsl hli ho hf hp1 hsl1 hlt1 hdis1 ho1 hf1 c26
    go_wp2_with fail
    (with_reducible refine (unhide HP).mono ?_)
    rintro e w2 ⟨ov, F2, rfl, h2⟩
    obtain ⟨o1, o2, rfl⟩ := h2.1.form
    have H2 := hide h2
    clear HP h2
    go_wp2_with fail
    go_ret2
    refine ⟨_, ?_, PartsPost.back ⟨_, F2, rfl, H2.out⟩ HO.out HF.out⟩
    unfold Par.did
    rw [if_neg (by simp [HE.out])]
    exact ⟨l', ts, HDID.out, rfl⟩
  · have e0 : (p.e != 0) = true := by simpa using he
    have HE := hide he
    clear he HL
    go_enter Tryz.func186, Tryz.ntmps186
    go_wp2_with fail
    go_quiet (fail)
    go_wp2_with fail
    go_ret2
    refine ⟨(p, [], p.e), ?_, _, F, rfl, SlN.nil _ _ _ _, ⟨mv, H.out.new ((Only.refl [] _).drewN _)⟩, (Only.refl _ _).drewN _, fun k hk => .inl hk⟩
    unfold Par.did
    rw [if_pos HE.out]
end Go.Proofs.YtkccjfgkbkodiaaGreat
namespace Go.Proofs.YtkccjfgkbkodiaaGreat
open Go.RowKit
set_option maxRecDepth 100000 in
set_option maxHeartbeats 4000000 in
theorem par_end {w : World} {b d : Nat} {F : List Nat} {p : Par} (h : ParIs w b F d p) (hk : p.Ok d) (hd : d ≤ 100) :
    Calls Tryz.prog 100 #[.pointer (some ⟨b, 0, none⟩)] w (PartsPost w b F d (p.endd d)) := by
  obtain ⟨mv, h⟩ := h
  obtain ⟨G, hG1, hG2, hG3⟩ := h.lex.small
  obtain ⟨pre, hm⟩ := h.mid
  have c26 : w.cell? ⟨b, 26, none⟩ = some (.int .i64 p.e) := hm.cell 3 _ rfl
  have HL := hide (lex_end hG1)
  have H := hide h
  have HG2 := hide hG2
  have HG3 := hide hG3
  have HK := hide hk
  have HD := hide hd
  obtain ⟨R, hR⟩ : ∃ r, p.endd d = r := ⟨_, rfl⟩
  rw [hR]
  unfold Par.endd at hR
  clear hG1 hG2 hG3 hm h hk hd
  by_cases he : p.e = 0
  · have e0 : (p.e != 0) = false := by simp [he]
    rw [if_neg (by simp [he])] at hR
    have hle := endd_len p.l
    generalize hEE : p.l.endd = E at hR HL hle
    obtain ⟨l', ts⟩ := E
    simp only at hR hle
    generalize hPP : Par.parts d { p with l := l' } ts [] l'.e = r at hR
    obtain ⟨p2, out, er⟩ := r
    simp only at hR
    have HR := hide hR
    have HPP := hide hPP
    have HLE := hide hle
    clear he hEE hR hPP hle
    go_enter Tryz.func100, Tryz.ntmps100
    go_wp2_with fail
    (with_reducible refine (unhide HL).mono ?_)
    rintro e w1 ⟨q, l2, ts2, F', rfl, hdid, hsl, hli, ho, hf⟩
    injection hdid with h1 h2
    subst h1 h2
    obtain ⟨q1, q2, rfl⟩ := hsl.form
    obtain ⟨F1, hp1, hsl1, hlt1, hdis1, ho1, hf1⟩ := lex_to_parts H.out HG2.out HG3.out hsl hli ho hf
    have hP := par_parts hp1 ⟨HK.out.five, HK.out.deep⟩ HD.out hsl1 (by have := HLE.out; omega) hlt1 hdis1 l2.e
    rw [HPP.out] at hP
    have HP := hide hP
    have HO := hide ho1
    have HF := hide hf1
    clear HL hsl hli ho hf hp1 hsl1 hlt1 hdis1 ho1 hf1 c26 hP
    go_wp2_with fail
    (with_reducible refine (unhide HP).mono ?_)
    rintro e w2 ⟨ov, F2, he2, h2⟩
    simp only at he2
    subst he2
    obtain ⟨o1, o2, rfl⟩ := h2.1.form
    obtain ⟨mv2, hM2⟩ := h2.2.1
    obtain ⟨pre2, hm2⟩ := hM2.mid
    have d25 : w2.cell? ⟨b, 25, none⟩ = some (.int .i64 p2.next) := hm2.cell 2 _ rfl
    have d26 : w2.cell? ⟨b, 26, none⟩ = some (.int .i64 p2.e) := hm2.cell 3 _ rfl
    have g26 := hm2.frozen 26
    have HBO : Hid (b ∉ slB (.slice o1 out.length o2)) := hide (h2.1.notBlk hm2.2 (by decide))
    have H2 := hide h2
    have HM2 := hide hM2
    clear HP h2 hM2 hm2
    by_cases h0 : er = 0
    · have z0 : (er == 0) = true := by simp [h0]
      by_cases h6 : p2.next = 6
      · have z6 : (p2.next != 6) = false := by simp [h6]
        have hR := HR.out
        rw [if_neg (by simp [h6])] at hR
        have HRR := hide hR
        clear h0 h6 hR HR
        go_wp2_with fail
        go_quiet (fail)
        go_wp2_with fail
        go_ret2
        rw [← HRR.out]
        exact PartsPost.back ⟨_, F2, rfl, H2.out.1.drewN _, H2.out.2.1.keep (T := []) ((Only.refl _ _).drewN _) (by simp) (by simp), H2.out.2.2.1.drewN _, H2.out.2.2.2⟩ HO.out HF.out
      · have z6 : (p2.next != 6) = true := by simpa using h6
        have hR := HR.out
        rw [if_pos ⟨h0, h6⟩] at hR
        have HRR := hide hR
        clear h0 h6 hR HR
        go_wp2_with fail
        go_quiet (fail)
        go_wp2_with fail
        go_ret2
        rw [← HRR.out]
        have ho9 : Only [b] w2 (w2.setCell ⟨b, 26, none⟩ (.int .i64 3)) := (Only.refl _ w2).setCell (p := ⟨b, 26, none⟩) (by simp) _
        exact PartsPost.back ⟨_, F2, rfl, (H2.out.1.keep ho9 (fun k hk hm => HBO.out (List.mem_singleton.1 hm ▸ hk))).drewN _, ⟨mv2, (HM2.out.seterr 3).new ((Only.refl [] _).drewN _)⟩, (H2.out.2.2.1.setCell (p := ⟨b, 26, none⟩) (List.mem_cons_self ..) _).drewN _, H2.out.2.2.2⟩ HO.out HF.out
    · have z0 : (er == 0) = false := by simpa using h0
      have hR := HR.out
      rw [if_neg (by simp [h0])] at hR
      have HRR := hide hR
      clear h0 hR HR
      go_wp2_with fail
      go_quiet (fail)
      go_wp2_with fail
      go_ret2
      rw [← HRR.out]
      exact PartsPost.back ⟨_, F2, rfl, H2.out.1.drewN _, H2.out.2.1.keep (T := []) ((Only.refl _ _).drewN _) (by simp) (by simp), H2.out.2.2.1.drewN _, H2.out.2.2.2⟩ HO.out HF.out
  · have e0 : (p.e != 0) = true := by simpa using he
    rw [if_pos he] at hR
    have HR := hide hR
    clear he HL hR
    go_enter Tryz.func100, Tryz.ntmps100
    go_wp2_with fail
    go_quiet (fail)
    go_wp2_with fail
    go_ret2
    rw [← HR.out]
    exact ⟨_, F, rfl, SlN.nil _ _ _ _, ⟨mv, H.out.new ((Only.refl [] _).drewN _)⟩, (Only.refl _ _).drewN _, fun k hk => .inl hk⟩
/-- What a parser holds: no more than 200 bytes of a text, and its containers. -/
def Par.heldBy (p : Par) (r : Nat) : Prop := if p.e ≠ 0 then r = 0 else ∃ k, k ≤ 200 ∧ (p.l.st ≠ 1 → k = 0) ∧ r = k + p.maps.length
set_option maxRecDepth 100000 in
set_option maxHeartbeats 4000000 in
theorem par_held {w : World} {b d : Nat} {F : List Nat} {p : Par} (h : ParIs w b F d p) (hk : p.Ok d) (hd : d ≤ 100) :
    Calls Tryz.prog 185 #[.pointer (some ⟨b, 0, none⟩)] w fun e w' => (∃ r : Nat, e = .returned (.int .i64 r) ∧ p.heldBy r) ∧ Only [] w w' := by
  obtain ⟨mv, h⟩ := h
  obtain ⟨pre, hm⟩ := h.mid
  obtain ⟨ma, mc, rfl⟩ := h.row.form
  obtain ⟨n, hn⟩ : ∃ n, n = p.maps.length := ⟨_, rfl⟩
  have hnd : n ≤ d := hn ▸ hk.deep
  rw [← hn] at h hm
  have c24 : w.cell? ⟨b, 24, none⟩ = some (.slice ma n mc) := hm.cell 1 _ rfl
  have c26 : w.cell? ⟨b, 26, none⟩ = some (.int .i64 p.e) := hm.cell 3 _ rfl
  have HL := hide (lex_held (h.lex.keep ((Only.refl [] w).drew) (by simp) (by simp)) rfl)
  have HN := hide hn
  have h100 : (n : Int) ≤ 100 := by omega
  clear h hm hn hk hd hnd
  by_cases he : p.e = 0
  · have e0 : (p.e != 0) = false := by simp [he]
    have HE := hide he
    clear he
    go_enter Tryz.func185, Tryz.ntmps185
    go_upto_region 3 with (fail)
    refine wp_region_tree (fun W => W.cell? ⟨b, 24, none⟩ = some (.slice ma n mc)) 10 (.take [0, 1, 2, 4, 5, 6, 7, 8] (.step 3 (.step 9 (.step 10 (.fin))))) (by kernel_rfl) (by kernel_rfl) (by intro _ _ _ _ _ h; exact h) ?_
    refine wpTree_take (c24) ?_
    simp only [opsAt, List.getElem?_cons_zero, List.getElem?_cons_succ]
    iterate 8 (first | (refine wpPureH_step (v := ?_) rfl (fun W hS => ?_) ?_; rotate_left; · (obtain s1 := hS; (try simp only [Act.put, List.setIfInBounds_toArray, List.set_cons_zero, List.set_cons_succ]); go_simp; with_reducible rfl)) | (refine wpPureH_want (v := ?_) (by rfl) (fun W hS => ?_) ?_; rotate_left; · (obtain s1 := hS; (try simp only [Act.put, List.setIfInBounds_toArray, List.set_cons_zero, List.set_cons_succ]); go_simp; with_reducible rfl)))
    refine wpPureH_nil ?_
    simp only [Act.put, List.setIfInBounds_toArray, List.set_cons_zero, List.set_cons_succ]
    refine wpTree_step ?_
    simp only [opsAt, List.getElem?_cons_zero, List.getElem?_cons_succ]
    go_wp2_with fail
    (with_reducible refine (unhide HL).mono ?_)
    rintro e w1 ⟨⟨r, rfl, hr1, hr2⟩, hw1⟩
    subst hw1
    have hr200 : (r : Int) ≤ 200 := by omega
    have HR := hide (And.intro hr1 hr2)
    clear hr1 hr2 HL
    go_wp2_with fail
    refine ⟨.inr c24, ?_⟩
    refine wpTree_step ?_
    simp only [opsAt, List.getElem?_cons_zero, List.getElem?_cons_succ]
    go_wp2_with fail
    refine ⟨.inr c24, ?_⟩
    refine wpTree_step ?_
    simp only [opsAt, List.getElem?_cons_zero, List.getElem?_cons_succ]
    go_wp2_with fail
    refine ⟨.inr c24, ?_⟩
    refine wpTree_fin ?_
    go_wp2_with fail
    go_ret
    refine ⟨⟨r + n, by simp, ?_⟩, (Only.refl _ _).drew⟩
    unfold Par.heldBy
    rw [if_neg (by simp [HE.out]), ← HN.out]
    exact ⟨r, HR.out.1, HR.out.2, rfl⟩
  · have e0 : (p.e != 0) = true := by simpa using he
    have HE := hide he
    clear he HL
    go_enter Tryz.func185, Tryz.ntmps185
    go_wp2_with fail
    go_ret
    exact ⟨⟨0, rfl, by unfold Par.heldBy; rw [if_pos HE.out]⟩, Only.refl _ _⟩
def Par.new : Par := ⟨⟨0, Num.new, [], 0, 0⟩, [], 0, 0⟩
theorem Par.new_ok (d : Nat) : Par.new.Ok d ∧ Par.new.l.Wok := ⟨⟨by simp [Par.new], by simp [Par.new]⟩, .inl rfl, by simp [Par.new], by simp [Par.new]⟩
set_option maxRecDepth 100000 in
set_option maxHeartbeats 4000000 in
theorem par_new (w : World) (d : Nat) (h1 : 1 ≤ d) (h2 : d ≤ 16) :
    Calls Tryz.prog 105 #[.int .i64 d] w fun e w' => e = .returned (.pointer (some ⟨w.heap.size, 0, none⟩)) ∧ ParIs w' w.heap.size [] d Par.new ∧ Only [] w w' := by
  have e1 : decide ((d : Int) < 1) = false := by simp; omega
  have e2 : decide ((16 : Int) < (d : Int)) = false := by simp; omega
  clear h1 h2
  go_enter Tryz.func105, Tryz.ntmps105
  go_wp2_with fail
  go_ret
  refine ⟨rfl, ⟨.slice none 0 0, ?_, SlN.nil _ _ _ _, by simp [slB]⟩, (Only.refl _ _).alloc _⟩
  refine ⟨[.int .i64 0, .int .u8 0, .int .u8 0, .bool false, .int .i64 0, .int .i64 0, .int .i64 0, .int .i64 0, .int .i64 0], .pointer none, .slice none 0 0, ⟨⟨rfl, Blk.new _ _ _⟩, rfl, Num.new_ok, by simp [Par.new], by simp [Par.new]⟩, fun h9 => absurd h9 (by simp [Par.new])⟩
end Go.Proofs.YtkccjfgkbkodiaaGreat
