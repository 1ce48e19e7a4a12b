/-
  A part that is no container, as bytes; the end of a container.
-/
import Derived.Test.YtjegeoeebbfajaaCbB
import Derived.Test.YtjegeoeebbfajaaHeadA
import Derived.BigQuiet
import Derived.Deep.QuietTactic
namespace Go.Proofs.Ytjegeoeebbfajaa
open Go.RowKit

def plainB : Part → List UInt8
  | .bool b => if b then [0xf5] else [0xf4]
  | .whole g m => putL (if g then 1 else 0) m.toNat
  | .word l => putL 3 l.length ++ l
  | .blob l => putL 2 l.length ++ l
  | _ => [0xf6]
theorem putL_length (m : Int) (v : Nat) : (putL m v).length ≤ 9 := by
  unfold putL
  by_cases h1 : v < 24
  · rw [if_pos h1]; simp
  rw [if_neg h1]
  by_cases h2 : v < 256
  · rw [if_pos h2]; simp
  rw [if_neg h2]
  by_cases h3 : v < 65536
  · rw [if_pos h3]; simp
  rw [if_neg h3]
  by_cases h4 : v < 4294967296
  · rw [if_pos h4]; simp
  · rw [if_neg h4]; simp
theorem put_s (major : Int) (v : Nat) (vi : Int) (hvi : vi = v) (l : List UInt8) (hl : l = putL major v) (w : World) :
    Calls Try.prog 29 #[.int .i64 major, .int .u64 vi] w fun e w' => e = .returned (.string (S l)) ∧ Only [] w w' := by
  subst hvi hl
  exact put_any major v w

set_option maxRecDepth 100000 in
set_option maxHeartbeats 1000000 in
theorem cplain_any (p : Part) (hb : p.isBegin = false) (hc : p.isClose = false) (ho : p.may = true) (hm : ∀ g m, p = .whole g m → 0 ≤ m) (hl : ∀ l, p = .word l ∨ p = .blob l → l.length ≤ 1000000) (w : World) (r : List UInt8) (hr : r = plainB p) :
    Calls Try.prog 27 #[p.val] w fun e w' => e = .returned (.string (S r)) ∧ Below w.heap.size w w' := by
  cases p with
  | null =>
    subst hr
    unfold Part.val plainB
    have t1 := fun w => ta_bool Part.null w
    have t2 := fun w => ta_whole Part.null w
    have t3 := fun w => ta_word Part.null w
    have t4 := fun w => ta_blob Part.null w
    have t5 := fun w => ta_close Part.null w
    have t6 := fun w => ta_begin Part.null w
    simp only [Part.val, Part.asBool, Part.isBool, Part.asWhole, Part.isWhole, Part.asWord, Part.isWord, Part.asBlob, Part.isBlob, Part.isClose, Part.asBegin, Part.isBegin] at t1 t2 t3 t4 t5 t6
    go_enter Try.func27, Try.ntmps27
    go_wp2_with fail
    go_ret
    exact ⟨rfl, by repeat refine Below.more ?_ (Nat.le_refl _) _
                   exact Below.refl _ _⟩
  | bool b =>
    subst hr
    unfold Part.val plainB
    have t1 := fun w => ta_bool (Part.bool b) w
    have t2 := fun w => ta_whole (Part.bool b) w
    have t3 := fun w => ta_word (Part.bool b) w
    have t4 := fun w => ta_blob (Part.bool b) w
    have t5 := fun w => ta_close (Part.bool b) w
    have t6 := fun w => ta_begin (Part.bool b) w
    simp only [Part.val, Part.asBool, Part.isBool, Part.asWhole, Part.isWhole, Part.asWord, Part.isWord, Part.asBlob, Part.isBlob, Part.isClose, Part.asBegin, Part.isBegin] at t1 t2 t3 t4 t5 t6
    cases b with
    | true =>
      go_enter Try.func27, Try.ntmps27
      go_wp2_with fail
      go_ret
      exact ⟨rfl, Below.refl _ _⟩
    | false =>
      go_enter Try.func27, Try.ntmps27
      go_wp2_with fail
      go_ret
      exact ⟨rfl, Below.refl _ _⟩
  | whole g m =>
    obtain ⟨k, rfl⟩ := Int.eq_ofNat_of_zero_le (hm g m rfl)
    unfold Part.val
    have t1 := fun w => ta_bool (Part.whole g (k : Int)) w
    have t2 := fun w => ta_whole (Part.whole g (k : Int)) w
    have t3 := fun w => ta_word (Part.whole g (k : Int)) w
    have t4 := fun w => ta_blob (Part.whole g (k : Int)) w
    have t5 := fun w => ta_close (Part.whole g (k : Int)) w
    have t6 := fun w => ta_begin (Part.whole g (k : Int)) w
    simp only [Part.val, Part.asBool, Part.isBool, Part.asWhole, Part.isWhole, Part.asWord, Part.isWord, Part.asBlob, Part.isBlob, Part.isClose, Part.asBegin, Part.isBegin] at t1 t2 t3 t4 t5 t6
    cases g with
    | true =>
      have HP := fun W => hide (put_s 1 k k rfl r hr W)
      clear hr hm hl
      go_enter Try.func27, Try.ntmps27
      go_wp2_with fail
      (with_reducible refine (unhide (HP _)).mono ?_)
      rintro e w1 ⟨rfl, ho1⟩
      go_wp2_with fail
      go_ret
      exact ⟨rfl, (Below.more (Below.refl _ _) (Nat.le_refl _) _).trans (ho1.nil_below.mono (by simp))⟩
    | false =>
      have HP := fun W => hide (put_s 0 k k rfl r hr W)
      clear hr hm hl
      go_enter Try.func27, Try.ntmps27
      go_wp2_with fail
      (with_reducible refine (unhide (HP _)).mono ?_)
      rintro e w1 ⟨rfl, ho1⟩
      go_wp2_with fail
      go_ret
      exact ⟨rfl, (Below.more (Below.refl _ _) (Nat.le_refl _) _).trans (ho1.nil_below.mono (by simp))⟩
  | word l =>
    have hll := hl l (.inl rfl)
    have hll2 : (l.length : Int) ≤ 1000000 := by omega
    have hwr : IntKind.u64.wrap (l.length : Int) = l.length := by rw [IntKind.wrap_u64]; omega
    obtain ⟨h, hh⟩ : ∃ h, h = putL 3 l.length := ⟨_, rfl⟩
    have hhl : h.length ≤ 9 := by rw [hh]; exact putL_length _ _
    have hrr : r = h ++ l := by rw [hr, hh]; rfl
    have hadd := run_add_S (P := Try.prog) h l (by omega)
    rw [← hrr] at hadd
    have HP := fun W => hide (put_s 3 l.length l.length rfl h hh W)
    unfold Part.val
    have t1 := fun w => ta_bool (Part.word l) w
    have t2 := fun w => ta_whole (Part.word l) w
    have t3 := fun w => ta_word (Part.word l) w
    have t4 := fun w => ta_blob (Part.word l) w
    have t5 := fun w => ta_close (Part.word l) w
    have t6 := fun w => ta_begin (Part.word l) w
    simp only [Part.val, Part.asBool, Part.isBool, Part.asWhole, Part.isWhole, Part.asWord, Part.isWord, Part.asBlob, Part.isBlob, Part.isClose, Part.asBegin, Part.isBegin] at t1 t2 t3 t4 t5 t6
    clear hr hrr hh hm hl
    go_enter Try.func27, Try.ntmps27
    go_wp2_with fail
    (with_reducible refine (unhide (HP _)).mono ?_)
    rintro e w1 ⟨rfl, ho1⟩
    go_wp2_with fail
    go_ret
    exact ⟨rfl, (Below.more (Below.refl _ _) (Nat.le_refl _) _).trans (ho1.nil_below.mono (by simp))⟩
  | blob l =>
    have hll := hl l (.inr rfl)
    have hll2 : (l.length : Int) ≤ 1000000 := by omega
    have hwr : IntKind.u64.wrap (l.length : Int) = l.length := by rw [IntKind.wrap_u64]; omega
    obtain ⟨h, hh⟩ : ∃ h, h = putL 2 l.length := ⟨_, rfl⟩
    have hhl : h.length ≤ 9 := by rw [hh]; exact putL_length _ _
    have hrr : r = h ++ l := by rw [hr, hh]; rfl
    have hadd := run_add_S (P := Try.prog) h l (by omega)
    rw [← hrr] at hadd
    have HP := fun W => hide (put_s 2 l.length l.length rfl h hh W)
    unfold Part.val
    have t1 := fun w => ta_bool (Part.blob l) w
    have t2 := fun w => ta_whole (Part.blob l) w
    have t3 := fun w => ta_word (Part.blob l) w
    have t4 := fun w => ta_blob (Part.blob l) w
    have t5 := fun w => ta_close (Part.blob l) w
    have t6 := fun w => ta_begin (Part.blob l) w
    simp only [Part.val, Part.asBool, Part.isBool, Part.asWhole, Part.isWhole, Part.asWord, Part.isWord, Part.asBlob, Part.isBlob, Part.isClose, Part.asBegin, Part.isBegin] at t1 t2 t3 t4 t5 t6
    clear hr hrr hh hm hl
    go_enter Try.func27, Try.ntmps27
    go_wp2_with fail
    (with_reducible refine (unhide (HP _)).mono ?_)
    rintro e w1 ⟨rfl, ho1⟩
    go_wp2_with fail
    go_ret
    exact ⟨rfl, (Below.more (Below.refl _ _) (Nat.le_refl _) _).trans (ho1.nil_below.mono (by simp))⟩
  | begin_ m n => simp [Part.isBegin] at hb
  | close => simp [Part.isClose] at hc
  | odd => simp [Part.may] at ho

set_option maxRecDepth 100000 in
theorem close_empty {w : World} {B p : Nat} {v : Value} {d : Bool} (h : Wr w B p v [] d) :
    Calls Try.prog 24 #[.pointer (some ⟨p, 0, none⟩)] w fun e w' => e = .returned (.tuple #[.string (S []), .int .i64 14]) ∧ w' = w := by
  obtain ⟨a, c, rfl⟩ := h.2.2.form
  have c0 := h.2.1.cellv 0 _ rfl
  clear h
  go_enter Try.func24, Try.ntmps24
  go_wp2_with fail
  go_ret2
  exact ⟨rfl, rfl⟩
/-- May it end? -/
def Cont.ends (c : Cont) : Bool := !c.between && (decide (c.count < 0) || c.full)
set_option maxRecDepth 100000 in
set_option maxHeartbeats 1000000 in
theorem close_no {w : World} {B p : Nat} {v : Value} {M : List Cont} {c : Cont} {d : Bool} (h : Wr w B p v (M ++ [c]) d) (hp : c.parts ≤ 1000000) (hML : M.length ≤ 1000000) (he : c.ends = false) :
    Calls Try.prog 24 #[.pointer (some ⟨p, 0, none⟩)] w fun e w' => e = .returned (.tuple #[.string (S []), .int .i64 14]) ∧ Below w.heap.size w w' := by
  obtain ⟨n, hn⟩ : ∃ n, n = M.length := ⟨_, rfl⟩
  obtain ⟨g, off, cap, hv, hgl, d0, d1, d2, _, _, _⟩ := top_some h.2.2 n hn
  subst hv
  have c0 := h.2.1.cellv 0 _ rfl
  have hpl := h.2.1.lt
  have hn20 : (n : Int) ≤ 1000000 := by omega
  have HB := fun W r hr => hide (between_any c hp W r hr)
  have HF := fun W r hr => hide (full_any c hp W r hr)
  clear h hn hML
  unfold Cont.ends at he
  cases hb : c.between with
  | true =>
    have H := HB w true hb.symm
    clear HB HF he hb
    go_enter Try.func24, Try.ntmps24
    go_wp2_with fail
    refine (unhide H).mono ?_
    rintro e w1 ⟨rfl, hb1⟩
    go_wp2_with fail
    go_ret2
    exact ⟨rfl, hb1⟩
  | false =>
    have H := HB w false hb.symm
    rw [hb] at he
    simp at he
    have hcn : decide ((0 : Int) ≤ c.count) = true := by simpa using he.1
    have hf := he.2
    clear HB he hb
    go_enter Try.func24, Try.ntmps24
    go_wp2_with fail
    refine (unhide H).mono ?_
    rintro e w1 ⟨rfl, hb1⟩
    have k0 := (hb1.cell (p := ⟨g, off + n * 3, none⟩) hgl).trans d0
    have k1 := (hb1.cell (p := ⟨g, off + n * 3 + 1, none⟩) hgl).trans d1
    have k2 := (hb1.cell (p := ⟨g, off + n * 3 + 2, none⟩) hgl).trans d2
    have kc := (hb1.cell (p := ⟨p, 0, none⟩) hpl).trans c0
    have H2 := HF w1 false hf.symm
    clear d0 d1 d2 c0 HF H hf
    go_wp2_with fail
    refine (unhide H2).mono ?_
    rintro e w2 ⟨rfl, hb2⟩
    go_wp2_with fail
    go_ret2
    exact ⟨rfl, hb1.trans (hb2.mono hb1.size)⟩

/-- The bytes of a container's end. -/
def endB (c : Cont) : List UInt8 := if c.count < 0 then [0xff] else []
set_option maxRecDepth 100000 in
set_option maxHeartbeats 1000000 in
theorem close_yes {w : World} {B p : Nat} {v : Value} {M : List Cont} {c : Cont} {d : Bool} (h : Wr w B p v (M ++ [c]) d) (hp : c.parts ≤ 1000000) (hML : M.length ≤ 1000000) (he : c.ends = true) (r : List UInt8) (hr : r = endB c) (d' : Bool) (hd' : d' = decide (M = [])) :
    Calls Try.prog 24 #[.pointer (some ⟨p, 0, none⟩)] w fun e w' => e = .returned (.tuple #[.string (S r), .int .i64 0]) ∧ ∃ v', Wr w' B p v' M d' ∧ Only (p :: slB v) w w' ∧ ∀ k ∈ slB v', k ∈ slB v := by
  have hw0 := h
  obtain ⟨n, hn⟩ : ∃ n, n = M.length := ⟨_, rfl⟩
  obtain ⟨g, off, cap, hv, hgl, d0, d1, d2, _, _, hdrop⟩ := top_some h.2.2 n hn
  subst hv
  have hcap := h.2.2.cap_le
  rw [List.length_append, List.length_singleton, ← hn] at hcap
  have hsl := slice_top (P := Try.prog) (t := 25) (z := 3) Try.underlying25 (by intro w; kernel_rfl) g off (n + 1) n cap (by omega) n rfl
  have c0 := h.2.1.cellv 0 _ rfl
  have hpl := h.2.1.lt
  have hout := h.out
  have hn20 : (n : Int) ≤ 1000000 := by omega
  have hnd : ((n : Int) == 0) = d' := by rw [hd', Bool.eq_iff_iff]; simp; rw [hn]; exact List.length_eq_zero_iff
  have HB := fun W r hr => hide (between_any c hp W r hr)
  have HF := fun W r hr => hide (full_any c hp W r hr)
  have HD := hide hdrop
  have HW := hide hw0
  have HOUT := hide hout
  have HR := hide hr
  have HN := hide hn
  clear h hn hML hdrop hw0 hout hcap hr hd'
  unfold Cont.ends at he
  simp at he
  obtain ⟨hb, he⟩ := he
  have H := HB w false hb.symm
  clear HB hb
  by_cases hcn : c.count < 0
  · have hcn1 : decide ((0 : Int) ≤ c.count) = false := by simpa using hcn
    clear HF he
    go_enter Try.func24, Try.ntmps24
    go_wp2_with fail
    refine (unhide H).mono ?_
    rintro e w1 ⟨rfl, hb1⟩
    have k0 := (hb1.cell (p := ⟨g, off + n * 3, none⟩) hgl).trans d0
    have k1 := (hb1.cell (p := ⟨g, off + n * 3 + 1, none⟩) hgl).trans d1
    have k2 := (hb1.cell (p := ⟨g, off + n * 3 + 2, none⟩) hgl).trans d2
    have kc := (hb1.cell (p := ⟨p, 0, none⟩) hpl).trans c0
    have hbx := hb1
    clear d0 d1 d2
    have kw := HW.out.below hbx
    have kp := kw.2.1
    have kf0 := kp.frozen 0
    have kf1 := kp.frozen 1
    have kd := kp.cellv 1 _ rfl
    have kpl := kp.lt
    have hbr : ∀ o, Only [p] w1 (((w1.setCell ⟨p, 0, none⟩ (.slice (some ⟨g, off, none⟩) n cap)).setCell ⟨p, 1, none⟩ (.bool d')).alloc o) := fun o => (((Only.refl [p] w1).setCell (by simp) _).setCell (by simp) _).alloc o
    have hwn : ∀ o, Wr (((w1.setCell ⟨p, 0, none⟩ (.slice (some ⟨g, off, none⟩) n cap)).setCell ⟨p, 1, none⟩ (.bool d')).alloc o) B p (.slice (some ⟨g, off, none⟩) n cap) M d' := fun o => by
      have h1 := HD.out _ (((kw.2.2.far (p := ⟨p, 0, none⟩) HOUT.out (.slice (some ⟨g, off, none⟩) n cap)).far (p := ⟨p, 1, none⟩) HOUT.out (.bool d')).alloc o)
      refine ⟨kw.1, ((kp.set_ 0 _).set_ 1 _).alloc o, ?_⟩
      rw [← HN.out]
      exact h1
    have kn : (((w1.setCell ⟨p, 0, none⟩ (.slice (some ⟨g, off, none⟩) n cap)).setCell ⟨p, 1, none⟩ (.bool d')).alloc (.cells #[.bool c.pairs, .int .i64 c.count, .int .i64 c.parts] 69)).cell? ⟨w1.heap.size, 1, none⟩ = some (.int .i64 c.count) := by
      have := (Blk.new ((w1.setCell ⟨p, 0, none⟩ (.slice (some ⟨g, off, none⟩) n cap)).setCell ⟨p, 1, none⟩ (.bool d')) 69 #[.bool c.pairs, .int .i64 c.count, .int .i64 c.parts]).cellv 1 _ rfl
      simpa using this
    have HBR := hide hbr
    have HWN := hide hwn
    clear c0 H kw kp hbr hwn
    go_wp2_with fail
    go_ret2
    refine ⟨by rw [HR.out, endB]; rw [if_pos (by omega)]; rfl, .slice (some ⟨g, off, none⟩) n cap, HWN.out _, ?_, fun k hk => by simpa [slB] using hk⟩
    exact ((Only.of_below hbx []).mono (fun _ h => by cases h)).trans ((HBR.out _).mono (by simp))
  · have hcn1 : decide ((0 : Int) ≤ c.count) = true := by simp; omega
    have hcn2 : decide (c.count < 0) = false := by simpa using hcn
    have hf : c.full = true := by
      rcases he with h | h
      · exact absurd h hcn
      · exact h
    clear he
    go_enter Try.func24, Try.ntmps24
    go_wp2_with fail
    refine (unhide H).mono ?_
    rintro e w1 ⟨rfl, hb1⟩
    have k0 := (hb1.cell (p := ⟨g, off + n * 3, none⟩) hgl).trans d0
    have k1 := (hb1.cell (p := ⟨g, off + n * 3 + 1, none⟩) hgl).trans d1
    have k2 := (hb1.cell (p := ⟨g, off + n * 3 + 2, none⟩) hgl).trans d2
    have kc := (hb1.cell (p := ⟨p, 0, none⟩) hpl).trans c0
    have H2 := HF w1 true hf.symm
    clear d0 d1 d2 hf HF
    go_wp2_with fail
    refine (unhide H2).mono ?_
    rintro e w2 ⟨rfl, hb2⟩
    have hbx := hb1.trans (hb2.mono hb1.size)
    have hg1 : g < w1.heap.size := Nat.lt_of_lt_of_le hgl hb1.size
    have hp1 : p < w1.heap.size := Nat.lt_of_lt_of_le hpl hb1.size
    have j0 := (hb2.cell (p := ⟨g, off + n * 3, none⟩) hg1).trans k0
    have j1 := (hb2.cell (p := ⟨g, off + n * 3 + 1, none⟩) hg1).trans k1
    have j2 := (hb2.cell (p := ⟨g, off + n * 3 + 2, none⟩) hg1).trans k2
    have jc := (hb2.cell (p := ⟨p, 0, none⟩) hp1).trans kc
    clear k0 k1 k2 kc hb1 hb2 H2
    have kw := HW.out.below hbx
    have kp := kw.2.1
    have kf0 := kp.frozen 0
    have kf1 := kp.frozen 1
    have kd := kp.cellv 1 _ rfl
    have kpl := kp.lt
    have hbr : ∀ o, Only [p] w2 (((w2.setCell ⟨p, 0, none⟩ (.slice (some ⟨g, off, none⟩) n cap)).setCell ⟨p, 1, none⟩ (.bool d')).alloc o) := fun o => (((Only.refl [p] w2).setCell (by simp) _).setCell (by simp) _).alloc o
    have hwn : ∀ o, Wr (((w2.setCell ⟨p, 0, none⟩ (.slice (some ⟨g, off, none⟩) n cap)).setCell ⟨p, 1, none⟩ (.bool d')).alloc o) B p (.slice (some ⟨g, off, none⟩) n cap) M d' := fun o => by
      have h1 := HD.out _ (((kw.2.2.far (p := ⟨p, 0, none⟩) HOUT.out (.slice (some ⟨g, off, none⟩) n cap)).far (p := ⟨p, 1, none⟩) HOUT.out (.bool d')).alloc o)
      refine ⟨kw.1, ((kp.set_ 0 _).set_ 1 _).alloc o, ?_⟩
      rw [← HN.out]
      exact h1
    have kn : (((w2.setCell ⟨p, 0, none⟩ (.slice (some ⟨g, off, none⟩) n cap)).setCell ⟨p, 1, none⟩ (.bool d')).alloc (.cells #[.bool c.pairs, .int .i64 c.count, .int .i64 c.parts] 69)).cell? ⟨w2.heap.size, 1, none⟩ = some (.int .i64 c.count) := by
      have := (Blk.new ((w2.setCell ⟨p, 0, none⟩ (.slice (some ⟨g, off, none⟩) n cap)).setCell ⟨p, 1, none⟩ (.bool d')) 69 #[.bool c.pairs, .int .i64 c.count, .int .i64 c.parts]).cellv 1 _ rfl
      simpa using this
    have HBR := hide hbr
    have HWN := hide hwn
    clear c0 H kw kp hbr hwn
    go_wp2_with fail
    go_ret2
    refine ⟨by rw [HR.out, endB]; rw [if_neg (by omega)]; rfl, .slice (some ⟨g, off, none⟩) n cap, HWN.out _, ?_, fun k hk => by simpa [slB] using hk⟩
    exact ((Only.of_below hbx []).mono (fun _ h => by cases h)).trans ((HBR.out _).mono (by simp))
end Go.Proofs.Ytjegeoeebbfajaa
