/-
  The walk of WheelPlays.
-/
import Derived.Test.YtlkedcdhboahbaaWheelG
import Derived.Test.YtlkedcdhboahbaaBkH
import Derived.Test.YtlkedcdhboahbaaWheelOps
import Derived.Deep.CutBlock
namespace Go.Proofs.Ytlkedcdhboahbaa
open Go.RowKit

/-- The wheel, the law's list, the book lie apart. -/
structure Sep (FW FH FB : List Nat) : Prop where
  wb : ∀ k ∈ FW, k ∉ FB
  hw : ∀ k ∈ FH, k ∉ FW
  hb : ∀ k ∈ FH, k ∉ FB
/-- All three. -/
structure All3 (w0 w : World) (B pw ph pb : Nat) (n : Int) (L : List Int) (vh : Value) (FW FB : List Nat) : Prop where
  wh : WhF w B pw n L FW
  hv : HaveF w B ph vh L
  bk : Bk w B pb FB
  sep : Sep FW (ph :: slB vh) FB
  below : Below B w0 w
section
variable {w0 w w' : World} {B pw ph pb : Nat} {n : Int} {L L2 : List Int} {vh : Value} {FW FB : List Nat}
theorem All3.to (h : All3 w0 w B pw ph pb n L vh FW FB) (hb : Below w.heap.size w w') : All3 w0 w' B pw ph pb n L vh FW FB :=
  ⟨h.wh.below hb, h.hv.below hb, h.bk.below hb, h.sep, h.below.trans (hb.mono h.wh.wh.lt)⟩
theorem All3.len (h : All3 w0 w B pw ph pb n L vh FW FB) : L.length ≤ 100 := h.wh.wh.len
theorem All3.hlt (h : All3 w0 w B pw ph pb n L vh FW FB) : ∀ k ∈ ph :: slB vh, B ≤ k ∧ k < w.heap.size := fun k hk => by
  rcases List.mem_cons.1 hk with rfl | hk
  · exact ⟨h.hv.1, h.hv.2.1.lt⟩
  · exact SlN.lt h.hv.2.2 k hk
/-- What is there while the wheel has turned, and the law's list not yet. -/
structure Half3 (w0 w : World) (B pw ph pb : Nat) (n : Int) (L L2 : List Int) (vh : Value) (FW FB : List Nat) : Prop where
  wh : WhF w B pw n L2 FW
  hv : HaveF w B ph vh L
  bk : Bk w B pb FB
  sep : Sep FW (ph :: slB vh) FB
  below : Below B w0 w
theorem All3.turned {FW' : List Nat} (h : All3 w0 w B pw ph pb n L vh FW FB) (hw : WhF w' B pw n L2 FW') (ho : Only FW w w') (hf : Fresh w FW FW') : Half3 w0 w' B pw ph pb n L L2 vh FW' FB :=
  ⟨hw, h.hv.keep ho (h.sep.hw ph (List.mem_cons_self ..)) (fun k hk => h.sep.hw k (List.mem_cons_of_mem _ hk)), h.bk.keep ho (fun k hk hk2 => h.sep.wb k hk2 hk),
    ⟨fun k hk hk2 => by
      rcases hf k hk with h9 | h9
      · exact h.sep.wb k h9 hk2
      · have := (h.bk.lt k hk2).2; omega, fun k hk hk2 => by
      rcases hf k hk2 with h9 | h9
      · exact h.sep.hw k hk h9
      · have := (h.hlt k hk).2; omega, h.sep.hb⟩, h.below.trans (ho.below h.wh.wh.lt (fun k hk => (h.wh.lt k hk).1))⟩
theorem Half3.done (h : Half3 w0 w B pw ph pb n L L vh FW FB) : All3 w0 w B pw ph pb n L vh FW FB := ⟨h.wh, h.hv, h.bk, h.sep, h.below⟩
theorem Half3.to (h : Half3 w0 w B pw ph pb n L L2 vh FW FB) (hb : Below w.heap.size w w') : Half3 w0 w' B pw ph pb n L L2 vh FW FB :=
  ⟨h.wh.below hb, h.hv.below hb, h.bk.below hb, h.sep, h.below.trans (hb.mono h.wh.wh.lt)⟩
theorem Half3.put {v2 : Value} {B2 : Nat} (h : Half3 w0 w B pw ph pb n L L2 vh FW FB) (hb : Below w.heap.size w w') (hv : LIs w' B2 v2 L2) (hB2 : B ≤ B2) (hf : ∀ k ∈ slB v2, w.heap.size ≤ k) : All3 w0 (w'.setCell ⟨ph, 0, none⟩ v2) B pw ph pb n L2 v2 FW FB := by
  have ho : Only [ph] w (w'.setCell ⟨ph, 0, none⟩ v2) := (Only.of_below hb _).setCell (by simp) _
  have hpw : ph < w.heap.size := h.hv.2.1.lt
  refine ⟨h.wh.keep ho (fun k hk hk2 => ?_), ⟨h.hv.1, (h.hv.2.1.below hb hpw).set_ 0 v2, SlN.far (SlN.mono hv hB2) (p := ⟨ph, 0, none⟩) (fun hk => by have := hf _ hk; simp only at this; omega) _⟩, h.bk.keep ho (fun k hk hk2 => ?_), ⟨h.sep.wb, fun k hk hk2 => ?_, fun k hk hk2 => ?_⟩, ?_⟩
  · rw [List.mem_singleton.1 hk2] at hk
    exact h.sep.hw ph (List.mem_cons_self ..) hk
  · rw [List.mem_singleton.1 hk2] at hk
    exact h.sep.hb ph (List.mem_cons_self ..) hk
  · rcases List.mem_cons.1 hk with rfl | hk
    · exact h.sep.hw k (List.mem_cons_self ..) hk2
    · have := hf k hk; have := (h.wh.lt k hk2).2; omega
  · rcases List.mem_cons.1 hk with rfl | hk
    · exact h.sep.hb k (List.mem_cons_self ..) hk2
    · have := hf k hk; have := (h.bk.lt k hk2).2; omega
  · exact h.below.trans (ho.below h.wh.wh.lt (fun k hk => by rw [List.mem_singleton.1 hk]; exact h.hv.1))
end
theorem news_append {w5 W W' : World} {v : Value} (hb : Below w5.heap.size w5 W) (ho : Only (slB v) W W') (hv : ∀ k ∈ slB v, w5.heap.size ≤ k) : Below w5.heap.size w5 W' := hb.trans (ho.below hb.size hv)
set_option maxRecDepth 100000 in
theorem plays_no {w : World} {n : Int} {a : Option Addr} {len cap : Nat} (hl : len ≤ 9223372036854775807) (h : 150 < len) :
    Calls Try.prog 3 #[.int .i64 n, .slice a len cap] w fun e w' => e = .returned (.bool true) ∧ Below w.heap.size w w' := by
  have HA := fun W => hide (alive_any W)
  have h2 : (150 : Int) < len := by omega
  have hl2 := Lib.hid hl
  clear hl h
  go_enter Try.func3, Try.ntmps3
  go_wp2_with fail
  (with_reducible refine (unhide (HA _)).mono ?_)
  rintro e w1 ⟨rfl, hb⟩
  go_wp2_with fail
  go_ret
  exact ⟨rfl, hb⟩
set_option maxRecDepth 100000 in
set_option maxHeartbeats 4000000 in
theorem plays_yes {w : World} {n : Int} {a : Option Addr} {len cap : Nat} {z : List Row36} (hr : IsRows36 w a len cap z) (hl : len ≤ 150) :
    Calls Try.prog 3 #[.int .i64 n, .slice a len cap] w fun e w' => e = .returned (.bool true) ∧ Below w.heap.size w w' := by
  have HA := fun W => hide (alive_any W)
  have h2 : ¬ (150 : Int) < len := by omega
  have hl2 : (len : Int) ≤ 150 := by omega
  obtain ⟨nn, hnn⟩ : ∃ nn : Int, nn = min (max n 0) 100 := ⟨_, rfl⟩
  obtain ⟨mx, hmx0⟩ : ∃ mx : Int, mx = max n 0 := ⟨_, rfl⟩
  have hmx := max_i64 (P := Try.prog) #[3, 3] 3 n 0 mx hmx0
  have hmn := min_i64 (P := Try.prog) #[3, 3] 3 mx 100 nn (by rw [hnn, hmx0])
  have HNEW := fun W (hW : w.heap.size ≤ W.heap.size) => hide (new_F (w := W) (B := w.heap.size) n nn hnn hW)
  have hmf : ∀ (fn : Fn) (first cap : Array Value) (w : World), (Instr.makeFunc fn first cap).run Try.prog w = .ok (.func fn first cap) w := fun _ _ _ _ => rfl
  obtain ⟨hzl, _, hz⟩ := hr
  have HZ := hide hz
  have HZL := hide hzl
  clear hz hzl hnn hmx0 hl
  go_enter Try.func3, Try.ntmps3
  go_wp2_with fail
  (with_reducible refine (unhide (HA _)).mono ?_)
  rintro e1 w1 ⟨rfl, hb1⟩
  have HN := HNEW w1 hb1.size
  have HB1 := hide hb1
  clear HA HNEW hb1
  go_wp2_with fail
  (with_reducible refine (unhide HN).mono ?_)
  rintro e2 w2 ⟨pw, rfl, hwh, hb2⟩
  have hb12 := HB1.out.trans (hb2.mono HB1.out.size)
  have hB2 := hb12.size
  have hpw := hwh.wh.plt
  have hwx := (hwh.below ((Below.refl _ _).alloc (Nat.le_refl _) (.cells #[.slice none 0 0] 26))).below ((Below.refl _ _).alloc (Nat.le_refl _) (.cells #[.slice none 0 0, .slice none 0 0, .slice none 0 0, .slice none 0 0, .slice none 0 0, .slice none 0 0] 33))
  have hhx : HaveF ((w2.alloc (.cells #[.slice none 0 0] 26)).alloc (.cells #[.slice none 0 0, .slice none 0 0, .slice none 0 0, .slice none 0 0, .slice none 0 0, .slice none 0 0] 33)) w.heap.size w2.heap.size (.slice none 0 0) [] := ⟨hB2, (Blk.new w2 26 _).alloc _, SlN.nil _ _ _ _⟩
  have hbx : Bk ((w2.alloc (.cells #[.slice none 0 0] 26)).alloc (.cells #[.slice none 0 0, .slice none 0 0, .slice none 0 0, .slice none 0 0, .slice none 0 0, .slice none 0 0] 33)) w.heap.size (w2.heap.size + 1) [w2.heap.size + 1] := Bk.new (by simpa using Blk.new (w2.alloc (.cells #[.slice none 0 0] 26)) 33 #[.slice none 0 0, .slice none 0 0, .slice none 0 0, .slice none 0 0, .slice none 0 0, .slice none 0 0]) (by omega)
  have hall : All3 w ((w2.alloc (.cells #[.slice none 0 0] 26)).alloc (.cells #[.slice none 0 0, .slice none 0 0, .slice none 0 0, .slice none 0 0, .slice none 0 0, .slice none 0 0] 33)) w.heap.size pw w2.heap.size (w2.heap.size + 1) nn [] (.slice none 0 0) [pw] [w2.heap.size + 1] :=
    ⟨hwx, hhx, hbx, ⟨fun k hk hk2 => by simp at hk hk2; omega, fun k hk hk2 => by simp [slB] at hk hk2; omega, fun k hk hk2 => by simp [slB] at hk hk2; omega⟩, (hb12.alloc hB2 _).alloc (by simp; omega) _⟩
  have HALL := hide hall
  obtain ⟨ph, hph⟩ : ∃ ph, ph = w2.heap.size := ⟨_, rfl⟩
  obtain ⟨pb, hpb⟩ : ∃ pb, pb = w2.heap.size + 1 := ⟨_, rfl⟩
  have HPH := hide hph
  have HPB := hide hpb
  clear hwh hb2 hb12 hwx hhx hbx hall HN HB1
  go_wp2_with fail
  rw [← HPB.out, ← HPH.out] at HALL ⊢
  clear hph hpb
  go_loopg [42] len (fun g s42 wr => ∃ (i : Nat) (L : List Int) (vh : Value) (FW FB : List Nat), s42 = .int .i64 i ∧ i + g = len ∧ Hid (All3 w wr w.heap.size pw ph pb nn L vh FW FB))
  case atStart => exact ⟨0, [], _, _, _, rfl, by omega, HALL⟩
  case round =>
    clear HALL
    obtain ⟨i, L, vh, FW, FB, rfl, hi, h3⟩ := hrel
    by_cases hlt : i < len
    · have hiz : i < z.length := by rw [HZL.out]; exact hlt
      obtain ⟨g, off, ha, hg, hc⟩ := HZ.out (by omega)
      subst ha
      obtain ⟨x, hx⟩ : ∃ x, x = z[i] := ⟨_, rfl⟩
      have hci := hc i hiz
      rw [← hx] at hci
      have hbw := h3.out.below
      have z0 := (hbw.cell (p := ⟨g, off + i * 3, none⟩) hg).trans hci.1
      have z1 := (hbw.cell (p := ⟨g, off + i * 3 + 1, none⟩) hg).trans hci.2.1
      have z2 := (hbw.cell (p := ⟨g, off + i * 3 + 2, none⟩) hg).trans hci.2.2.1
      have hry := hci.2.2.2
      obtain ⟨xk, xi, xa, xl, xc, xz⟩ := x
      simp only at z0 z1 z2
      have hxl : (xl : Int) ≤ 9223372036854775807 := by have := hry.2.1; simp only at this; omega
      have HRY : Hid (xz.length = xl ∧ ∀ W, Below w.heap.size w W → IsRdy W xa xz) := hide ⟨hry.1, fun W hW => hry.2.2.below hW⟩
      clear hc hci hry hx hbw
      by_cases h120 : 120 < xl
      · have h121 : (120 : Int) < xl := by omega
        go_wp2_with fail
        go_ret
        exact ⟨rfl, (h3.out.to ((Below.refl _ _).alloc (Nat.le_refl _) _)).below⟩
      · have h121 : ¬ (120 : Int) < xl := by omega
        have h4 := h3.out.to ((Below.refl _ _).alloc (Nat.le_refl _) (.cells #[.int .i64 xk, .int .i64 xi, .slice xa xl xc] 36))
        obtain ⟨ki, hki⟩ : ∃ ki, ki = idxI L xi := ⟨_, rfl⟩
        have HAT := hide (at_any h4.hv h4.len xi ki hki)
        have H4 := hide h4
        have HKI := hide hki
        have hnb : wr.heap.size ∉ FW := fun hk => by have := (h3.out.wh.lt _ hk).2; omega
        have HNB := hide hnb
        have box := Blk.new wr 36 #[.int .i64 xk, .int .i64 xi, .slice xa xl xc]
        have HBOX := hide box
        clear h4 hki h3 box hnb
        go_wp2_with fail
        (with_reducible refine (unhide HAT).mono ?_)
        rintro e3 w3 ⟨rfl, hw3⟩
        subst hw3
        clear HAT
        obtain ⟨W0, hW0⟩ : ∃ W0, W0 = wr.alloc (.cells #[.int .i64 xk, .int .i64 xi, .slice xa xl xc] 36) := ⟨_, rfl⟩
        obtain ⟨bb, hbb⟩ : ∃ bb, bb = wr.heap.size := ⟨_, rfl⟩
        rw [← hW0] at H4 HBOX ⊢
        rw [← hbb] at HBOX HNB ⊢
        have hbb0 : bb < W0.heap.size := HBOX.out.lt
        have y0 : W0.cell? ⟨bb, 0, none⟩ = some (.int .i64 xk) := HBOX.out.cellv 0 _ rfl
        clear hW0 hbb z0 z1 z2
        obtain ⟨q, hq⟩ : ∃ q, q = L.length := ⟨_, rfl⟩
        have hq100 : q ≤ 100 := by rw [hq]; exact H4.out.len
        have hqi : (q : Int) ≤ 100 := by omega
        obtain ⟨av, cv, hvf⟩ := SlN.form H4.out.hv.2.2
        rw [← hq] at hvf
        subst hvf
        have HQ := hide hq
        clear hq
        go_upto_block 2 with fail
        go_cut [] (fun wx => ∃ L2 vh2 FW2, Hid (All3 w wx w.heap.size pw ph pb nn L2 vh2 FW2 FB))
        case first =>
          by_cases hk1 : xk = 1
          · subst hk1
            have y1 : W0.cell? ⟨bb, 1, none⟩ = some (.int .i64 xi) := HBOX.out.cellv 1 _ rfl
            by_cases h0 : 0 ≤ xi
            · have d0 : decide (0 ≤ xi) = true := decide_eq_true h0
              by_cases h1 : xi < nn
              · have d1 : decide (xi < nn) = true := decide_eq_true h1
                by_cases hm : xi ∈ L
                · have d2 : decide (ki < 0) = false := decide_eq_false (by have := (idxI_nonneg L xi).2 hm; rw [HKI.out]; omega)
                  clear HKI
                  have hrr : false = decide (0 ≤ xi ∧ xi < nn ∧ xi ∉ L) := (by rw [eq_comm, decide_eq_false_iff_not]; exact fun h => h.2.2 hm)
                  have HADD := hide (add_F H4.out.wh xi false hrr _ rfl)
                  clear hrr
                  go_wp2_with fail
                  (with_reducible refine (unhide HADD).mono ?_)
                  rintro e4 w4 ⟨rfl, FW4, hw4, ho4, hf4⟩
                  first | rw [if_pos rfl] at hw4 | rw [if_pos trivial] at hw4 | rw [if_neg Bool.false_ne_true] at hw4
                  have hhalf := H4.out.turned hw4 ho4 hf4
                  have HHALF := hide hhalf
                  clear HADD hw4 hf4 hhalf
                  clear ho4
                  go_wp2_with fail
                  go_meet
                  exact ⟨_, _, _, hide HHALF.out.done⟩
                · have d2 : decide (ki < 0) = true := decide_eq_true (by rw [HKI.out, idxI, if_neg hm]; omega)
                  clear HKI
                  have hrr : true = decide (0 ≤ xi ∧ xi < nn ∧ xi ∉ L) := (by rw [eq_comm, decide_eq_true_eq]; exact ⟨h0, h1, hm⟩)
                  have HADD := hide (add_F H4.out.wh xi true hrr _ rfl)
                  clear hrr
                  go_wp2_with fail
                  (with_reducible refine (unhide HADD).mono ?_)
                  rintro e4 w4 ⟨rfl, FW4, hw4, ho4, hf4⟩
                  first | rw [if_pos rfl] at hw4 | rw [if_pos trivial] at hw4 | rw [if_neg Bool.false_ne_true] at hw4
                  have hhalf := H4.out.turned hw4 ho4 hf4
                  have HHALF := hide hhalf
                  clear HADD hw4 hf4 hhalf
                  have hbx4 := ho4.blk HBOX.out HNB.out
                  have hbb4 := hbx4.lt
                  have y17 : w4.cell? ⟨bb, 1, none⟩ = some (.int .i64 xi) := hbx4.cellv 1 _ rfl
                  have y7 : w4.cell? ⟨ph, 0, none⟩ = some (.slice av q cv) := HHALF.out.hv.2.1.cellv 0 _ rfl
                  have hph4 : ph < w4.heap.size := HHALF.out.hv.2.1.lt
                  have hsv : SlN w4 w.heap.size 3 1 (.slice av q cv) q (intsL L) := by have h9 := HHALF.out.hv.2.2; unfold LIs at h9; rw [← HQ.out] at h9; exact h9
                  have HV := hide hsv
                  have hl2 : ∀ (W : World) (v2 : Value), SlN W w4.heap.size 3 1 v2 (q + 1) (intsL L ++ [.int .i64 xi]) → LIs W w4.heap.size v2 (L ++ [xi]) := fun W v2 h => by
                    unfold LIs
                    rw [List.length_append, ← HQ.out, intsL_append]
                    exact h
                  have HL2 := hide hl2
                  clear ho4 hbx4 hsv hl2
                  go_wp2_with fail
                  refine wp_region_tree (fun W => W.cell? ⟨ph, 0, none⟩ = some (.slice av q cv) ∧ W.cell? ⟨bb, 1, none⟩ = some (.int .i64 xi)) 6 (.take [0, 2, 3] (.two 1 (.step 4 (.step 5 (.step 6 (.fin)))) 4 (.step 1 (.step 5 (.step 6 (.fin)))))) (by kernel_rfl) (by kernel_rfl) (by intro _ _ _ _ _ h; exact h) ?_
                  refine wpTree_take (⟨y7, y17⟩) ?_
                  simp only [opsAt, List.getElem?_cons_zero, List.getElem?_cons_succ]
                  first | (refine wpPureH_step (v := ?_) rfl (fun W hS => ?_) ?_; rotate_left; · (obtain ⟨s1, s2⟩ := hS; (try simp only [Act.put, List.setIfInBounds_toArray, List.set_cons_zero, List.set_cons_succ]); go_simp; with_reducible rfl)) | (refine wpPureH_want (v := ?_) (by rfl) (fun W hS => ?_) ?_; rotate_left; · (obtain ⟨s1, s2⟩ := hS; (try simp only [Act.put, List.setIfInBounds_toArray, List.set_cons_zero, List.set_cons_succ]); go_simp; with_reducible rfl))
                  first | (refine wpPureH_step (v := ?_) rfl (fun W hS => ?_) ?_; rotate_left; · (obtain ⟨s1, s2⟩ := hS; (try simp only [Act.put, List.setIfInBounds_toArray, List.set_cons_zero, List.set_cons_succ]); go_simp; with_reducible rfl)) | (refine wpPureH_want (v := ?_) (by rfl) (fun W hS => ?_) ?_; rotate_left; · (obtain ⟨s1, s2⟩ := hS; (try simp only [Act.put, List.setIfInBounds_toArray, List.set_cons_zero, List.set_cons_succ]); go_simp; with_reducible rfl))
                  first | (refine wpPureH_step (v := ?_) rfl (fun W hS => ?_) ?_; rotate_left; · (obtain ⟨s1, s2⟩ := hS; (try simp only [Act.put, List.setIfInBounds_toArray, List.set_cons_zero, List.set_cons_succ]); go_simp; with_reducible rfl)) | (refine wpPureH_want (v := ?_) (by rfl) (fun W hS => ?_) ?_; rotate_left; · (obtain ⟨s1, s2⟩ := hS; (try simp only [Act.put, List.setIfInBounds_toArray, List.set_cons_zero, List.set_cons_succ]); go_simp; with_reducible rfl))
                  refine wpPureH_nil ?_
                  simp only [Act.put, List.setIfInBounds_toArray, List.set_cons_zero, List.set_cons_succ]
                  refine wpTree_two ?_ ?_
                  · refine wpTree_step ?_
                    simp only [opsAt, List.getElem?_cons_zero, List.getElem?_cons_succ]
                    refine wpList_append_slN rfl (.const (.slice none 0 0)) (.tmp 78) 26 rfl _ 8 Try.underlying26 info_int_ rfl (by decide) (SlN.nil w4 w4.heap.size 3 1) HV.out.drew.src rfl rfl HV.out.len (intsL_one L) (by unfold maxLen; omega) (by omega) (Nat.le_refl _) ?_
                    intro v1 W1 hv1 ho1 hf1
                    rw [Nat.zero_add, List.nil_append] at hv1
                    have hb1 : Below w4.heap.size w4 W1 := news_append (Below.refl w4.heap.size w4).drew ho1 (fun k hk => by simp [slB] at hk)
                    have k7 := (hb1.cell (p := ⟨ph, 0, none⟩) hph4).trans y7
                    have k17 := (hb1.cell (p := ⟨bb, 1, none⟩) hbb4).trans y17
                    obtain ⟨a1, c1, hvv⟩ := hv1.form
                    subst hvv
                    clear ho1 hf1
                    go_wp2_with fail
                    refine ⟨.inr ⟨k7, k17⟩, ?_⟩
                    clear k7 k17
                    refine wpTree_step ?_
                    simp only [opsAt, List.getElem?_cons_zero, List.getElem?_cons_succ]
                    go_wp2_with fail
                    have hv1 := hv1.alloc (.cells #[.int .i64 xi] 3)
                    have hs1 := hb1.size
                    have hb1 := hb1.alloc hs1 (.cells #[.int .i64 xi] 3)
                    have hone := SlN.one (base := w4.heap.size) hs1 (Blk.new W1 3 #[.int .i64 xi])
                    have hnew : ∀ k ∈ slB (.slice a1 q c1), w4.heap.size ≤ k := fun k hk => (hv1.lt k hk).1
                    have k7 := (hb1.cell (p := ⟨ph, 0, none⟩) hph4).trans y7
                    have k17 := (hb1.cell (p := ⟨bb, 1, none⟩) hbb4).trans y17
                    refine ⟨.inr ⟨k7, k17⟩, ?_⟩
                    clear k7 k17
                    refine wpTree_step ?_
                    simp only [opsAt, List.getElem?_cons_zero, List.getElem?_cons_succ]
                    refine wpList_append_slN rfl (.tmp 79) (.tmp 82) 26 rfl _ 8 Try.underlying26 info_int_ rfl (by decide) hv1 hone.src rfl rfl rfl (by intro y hy; rw [List.mem_singleton.1 hy]; rfl) (by unfold maxLen; omega) (by omega) hb1.size ?_
                    intro v3 W3 hv3 ho3 hf3
                    have hb3 := news_append hb1 ho3 hnew
                    have hv4 := HL2.out W3 v3 (by have h9 := hv3; simpa using h9)
                    obtain ⟨a3, c3, hv5⟩ := hv3.form
                    subst hv5
                    have HBZ := hide hb3
                    have HLZ := hide hv4
                    have k7 := (hb3.cell (p := ⟨ph, 0, none⟩) hph4).trans y7
                    have k17 := (hb3.cell (p := ⟨bb, 1, none⟩) hbb4).trans y17
                    have kf : W3.frozen? ⟨ph, 0, none⟩ = false := (HHALF.out.hv.2.1.below hb3 hph4).frozen 0
                    clear hv3 ho3 hf3 hb3 hv4
                    go_wp2_with fail
                    refine ⟨.inr ⟨k7, k17⟩, ?_⟩
                    have hB5 := HHALF.out.wh.wh.lt
                    refine wpTree_step ?_
                    simp only [opsAt, List.getElem?_cons_zero, List.getElem?_cons_succ]
                    go_wp2_with fail
                    refine ⟨.inl trivial, wpTree_fin ?_⟩
                    go_wp2_with fail
                    go_meet
                    exact ⟨_, _, _, hide (HHALF.out.put HBZ.out HLZ.out hB5 (fun k hk => (SlN.lt HLZ.out k hk).1))⟩
                  · refine wpTree_step ?_
                    simp only [opsAt, List.getElem?_cons_zero, List.getElem?_cons_succ]
                    go_wp2_with fail
                    have hb1 := (Below.refl w4.heap.size w4).alloc (Nat.le_refl _) (.cells #[.int .i64 xi] 3)
                    have hone := SlN.one (base := w4.heap.size) (Nat.le_refl _) (Blk.new w4 3 #[.int .i64 xi])
                    have hsv1 := HV.out.alloc (.cells #[.int .i64 xi] 3)
                    have k7 := (hb1.cell (p := ⟨ph, 0, none⟩) hph4).trans y7
                    have k17 := (hb1.cell (p := ⟨bb, 1, none⟩) hbb4).trans y17
                    refine ⟨.inr ⟨k7, k17⟩, ?_⟩
                    clear k7 k17
                    refine wpTree_step ?_
                    simp only [opsAt, List.getElem?_cons_zero, List.getElem?_cons_succ]
                    refine wpList_append_slN rfl (.const (.slice none 0 0)) (.tmp 78) 26 rfl _ 8 Try.underlying26 info_int_ rfl (by decide) (SlN.nil _ w4.heap.size 3 1) hsv1.src rfl rfl hsv1.len (intsL_one L) (by unfold maxLen; omega) (by omega) hb1.size ?_
                    intro v1 W1 hv1 ho1 hf1
                    rw [Nat.zero_add, List.nil_append] at hv1
                    have hb2 : Below w4.heap.size w4 W1 := news_append hb1.drew ho1 (fun k hk => by simp [slB] at hk)
                    have hone2 := hone.drew.keep ho1 (by simp [slB])
                    have k7 := (hb2.cell (p := ⟨ph, 0, none⟩) hph4).trans y7
                    have k17 := (hb2.cell (p := ⟨bb, 1, none⟩) hbb4).trans y17
                    have hnew : ∀ k ∈ slB v1, w4.heap.size ≤ k := fun k hk => (hv1.lt k hk).1
                    obtain ⟨a1, c1, hvv⟩ := hv1.form
                    subst hvv
                    clear ho1 hf1 hone
                    go_wp2_with fail
                    refine ⟨.inr ⟨k7, k17⟩, ?_⟩
                    clear k7 k17
                    refine wpTree_step ?_
                    simp only [opsAt, List.getElem?_cons_zero, List.getElem?_cons_succ]
                    refine wpList_append_slN rfl (.tmp 79) (.tmp 82) 26 rfl _ 8 Try.underlying26 info_int_ rfl (by decide) hv1 hone2.src rfl rfl rfl (by intro y hy; rw [List.mem_singleton.1 hy]; rfl) (by unfold maxLen; omega) (by omega) hb2.size ?_
                    intro v3 W3 hv3 ho3 hf3
                    have hb3 := news_append hb2 ho3 hnew
                    have hv4 := HL2.out W3 v3 (by have h9 := hv3; simpa using h9)
                    obtain ⟨a3, c3, hv5⟩ := hv3.form
                    subst hv5
                    have HBZ := hide hb3
                    have HLZ := hide hv4
                    have k7 := (hb3.cell (p := ⟨ph, 0, none⟩) hph4).trans y7
                    have k17 := (hb3.cell (p := ⟨bb, 1, none⟩) hbb4).trans y17
                    have kf : W3.frozen? ⟨ph, 0, none⟩ = false := (HHALF.out.hv.2.1.below hb3 hph4).frozen 0
                    clear hv3 ho3 hf3 hb3 hv4
                    go_wp2_with fail
                    refine ⟨.inr ⟨k7, k17⟩, ?_⟩
                    have hB5 := HHALF.out.wh.wh.lt
                    refine wpTree_step ?_
                    simp only [opsAt, List.getElem?_cons_zero, List.getElem?_cons_succ]
                    go_wp2_with fail
                    refine ⟨.inl trivial, wpTree_fin ?_⟩
                    go_wp2_with fail
                    go_meet
                    exact ⟨_, _, _, hide (HHALF.out.put HBZ.out HLZ.out hB5 (fun k hk => (SlN.lt HLZ.out k hk).1))⟩
              · have d1 : decide (xi < nn) = false := decide_eq_false h1
                clear HKI
                have hrr : false = decide (0 ≤ xi ∧ xi < nn ∧ xi ∉ L) := (by rw [eq_comm, decide_eq_false_iff_not]; exact fun h => h1 h.2.1)
                have HADD := hide (add_F H4.out.wh xi false hrr _ rfl)
                clear hrr
                go_wp2_with fail
                (with_reducible refine (unhide HADD).mono ?_)
                rintro e4 w4 ⟨rfl, FW4, hw4, ho4, hf4⟩
                first | rw [if_pos rfl] at hw4 | rw [if_pos trivial] at hw4 | rw [if_neg Bool.false_ne_true] at hw4
                have hhalf := H4.out.turned hw4 ho4 hf4
                have HHALF := hide hhalf
                clear HADD hw4 hf4 hhalf
                clear ho4
                go_wp2_with fail
                go_meet
                exact ⟨_, _, _, hide HHALF.out.done⟩
            · have d0 : decide (0 ≤ xi) = false := decide_eq_false h0
              clear HKI
              have hrr : false = decide (0 ≤ xi ∧ xi < nn ∧ xi ∉ L) := (by rw [eq_comm, decide_eq_false_iff_not]; exact fun h => h0 h.1)
              have HADD := hide (add_F H4.out.wh xi false hrr _ rfl)
              clear hrr
              go_wp2_with fail
              (with_reducible refine (unhide HADD).mono ?_)
              rintro e4 w4 ⟨rfl, FW4, hw4, ho4, hf4⟩
              first | rw [if_pos rfl] at hw4 | rw [if_pos trivial] at hw4 | rw [if_neg Bool.false_ne_true] at hw4
              have hhalf := H4.out.turned hw4 ho4 hf4
              have HHALF := hide hhalf
              clear HADD hw4 hf4 hhalf
              clear ho4
              go_wp2_with fail
              go_meet
              exact ⟨_, _, _, hide HHALF.out.done⟩
          · by_cases hk2 : xk = 2
            · subst hk2
              have y1 : W0.cell? ⟨bb, 1, none⟩ = some (.int .i64 xi) := HBOX.out.cellv 1 _ rfl
              by_cases hm : xi ∈ L
              · have hki0 : 0 ≤ ki := by rw [HKI.out]; exact (idxI_nonneg L xi).2 hm
                have d2 : decide (0 ≤ ki) = true := decide_eq_true hki0
                obtain ⟨k, hk⟩ : ∃ k, k = L.idxOf xi := ⟨_, rfl⟩
                have hkL : k < L.length := by rw [hk]; exact List.idxOf_lt_length_iff.2 hm
                have hkq : k < q := by rw [HQ.out]; exact hkL
                have hkk : ki = k := by rw [HKI.out, idxI, if_pos hm, hk]
                have hLk : L[k] = xi := by simp only [hk]; exact List.getElem_idxOf (by rw [← hk]; exact hkL)
                have her : L.erase xi = L.take k ++ L.drop (k + 1) := by
                  have h9 := erase_at H4.out.wh.wh.nodup k hkL
                  rw [hLk] at h9
                  exact h9
                have HER := hide her
                have hki1 : ki < 1000 := by omega
                have hw1 : wrap64 (ki + 1) = ki + 1 := by unfold wrap64; omega
                have hw2 : IntKind.i64.wrap (ki + 1) = ki + 1 := by rw [IntKind.wrap_i64]; omega
                clear HKI hk hLk her
                have hrr : true = decide (xi ∈ L) := (decide_eq_true hm).symm
                have HREM := hide (rem_F H4.out.wh xi true hrr _ rfl)
                clear hrr
                go_wp2_with fail
                (with_reducible refine (unhide HREM).mono ?_)
                rintro e4 w4 ⟨rfl, FW4, hw4, ho4, hf4⟩
                have hhalf := H4.out.turned hw4 ho4 hf4
                have HHALF := hide hhalf
                clear HREM hw4 hf4 hhalf ho4
                have y7 : w4.cell? ⟨ph, 0, none⟩ = some (.slice av q cv) := HHALF.out.hv.2.1.cellv 0 _ rfl
                have hph4 : ph < w4.heap.size := HHALF.out.hv.2.1.lt
                have HV := hide HHALF.out.hv.2.2
                obtain ⟨u1, hu1, hs1⟩ := cut_to HV.out k (by omega) ki hkk
                obtain ⟨u2, hu2, hs2⟩ := cut_from HV.out (k + 1) (by omega) (ki + 1) (by omega)
                have HS1 := hide hs1
                have HS2 := hide hs2
                obtain ⟨m, hm0⟩ : ∃ m, m = L.length - (k + 1) := ⟨_, rfl⟩
                rw [← hm0] at HS2
                have hmq : k + m ≤ 100 := by have := HQ.out; omega
                have hml : (intsL (L.drop (k + 1))).length = m * 1 := by rw [intsL_length, List.length_drop]; omega
                have hkl : (intsL (L.take k)).length = k * 1 := by rw [intsL_length, List.length_take]; omega
                have HML := hide hml
                have HKL := hide hkl
                clear hs1 hs2 hm0 hml hkl hkk
                have hl2 : ∀ (W : World) (v2 : Value), SlN W w4.heap.size 3 1 v2 (k + m) (intsL (L.take k) ++ intsL (L.drop (k + 1))) → LIs W w4.heap.size v2 (L.erase xi) := fun W v2 h => by
                  unfold LIs
                  rw [HER.out, intsL_append]
                  have h9 : (L.take k ++ L.drop (k + 1)).length = k + m := by
                    have h1 := HML.out; have h2 := HKL.out
                    rw [intsL_length] at h1 h2
                    rw [List.length_append]
                    omega
                  rw [h9]
                  exact h
                have HL2 := hide hl2
                clear hl2 hkL hm
                go_wp2_with fail
                refine wp_region_tree (fun W => W.cell? ⟨ph, 0, none⟩ = some (.slice av q cv)) 9 (.take [0, 1, 2, 4, 5, 6, 7] (.step 3 (.step 8 (.step 9 (.fin))))) (by kernel_rfl) (by kernel_rfl) (by intro _ _ _ _ _ h; exact h) ?_
                refine wpTree_take (y7) ?_
                simp only [opsAt, List.getElem?_cons_zero, List.getElem?_cons_succ]
                first | (refine wpPureH_step (v := ?_) rfl (fun W hS => ?_) ?_; rotate_left; · (obtain s1 := hS; (try simp only [Act.put, List.setIfInBounds_toArray, List.set_cons_zero, List.set_cons_succ]); go_simp; with_reducible rfl)) | (refine wpPureH_want (v := ?_) (by rfl) (fun W hS => ?_) ?_; rotate_left; · (obtain s1 := hS; (try simp only [Act.put, List.setIfInBounds_toArray, List.set_cons_zero, List.set_cons_succ]); go_simp; with_reducible rfl))
                first | (refine wpPureH_step (v := ?_) rfl (fun W hS => ?_) ?_; rotate_left; · (obtain s1 := hS; (try simp only [Act.put, List.setIfInBounds_toArray, List.set_cons_zero, List.set_cons_succ]); go_simp; with_reducible rfl)) | (refine wpPureH_want (v := ?_) (by rfl) (fun W hS => ?_) ?_; rotate_left; · (obtain s1 := hS; (try simp only [Act.put, List.setIfInBounds_toArray, List.set_cons_zero, List.set_cons_succ]); go_simp; with_reducible rfl))
                first | (refine wpPureH_step (v := ?_) rfl (fun W hS => ?_) ?_; rotate_left; · (obtain s1 := hS; (try simp only [Act.put, List.setIfInBounds_toArray, List.set_cons_zero, List.set_cons_succ]); go_simp; with_reducible rfl)) | (refine wpPureH_want (v := ?_) (by rfl) (fun W hS => ?_) ?_; rotate_left; · (obtain s1 := hS; (try simp only [Act.put, List.setIfInBounds_toArray, List.set_cons_zero, List.set_cons_succ]); go_simp; with_reducible rfl))
                first | (refine wpPureH_step (v := ?_) rfl (fun W hS => ?_) ?_; rotate_left; · (obtain s1 := hS; (try simp only [Act.put, List.setIfInBounds_toArray, List.set_cons_zero, List.set_cons_succ]); go_simp; with_reducible rfl)) | (refine wpPureH_want (v := ?_) (by rfl) (fun W hS => ?_) ?_; rotate_left; · (obtain s1 := hS; (try simp only [Act.put, List.setIfInBounds_toArray, List.set_cons_zero, List.set_cons_succ]); go_simp; with_reducible rfl))
                first | (refine wpPureH_step (v := ?_) rfl (fun W hS => ?_) ?_; rotate_left; · (obtain s1 := hS; (try simp only [Act.put, List.setIfInBounds_toArray, List.set_cons_zero, List.set_cons_succ]); go_simp; with_reducible rfl)) | (refine wpPureH_want (v := ?_) (by rfl) (fun W hS => ?_) ?_; rotate_left; · (obtain s1 := hS; (try simp only [Act.put, List.setIfInBounds_toArray, List.set_cons_zero, List.set_cons_succ]); go_simp; with_reducible rfl))
                first | (refine wpPureH_step (v := ?_) rfl (fun W hS => ?_) ?_; rotate_left; · (obtain s1 := hS; (try simp only [Act.put, List.setIfInBounds_toArray, List.set_cons_zero, List.set_cons_succ]); go_simp; with_reducible rfl)) | (refine wpPureH_want (v := ?_) (by rfl) (fun W hS => ?_) ?_; rotate_left; · (obtain s1 := hS; (try simp only [Act.put, List.setIfInBounds_toArray, List.set_cons_zero, List.set_cons_succ]); go_simp; with_reducible rfl))
                first | (refine wpPureH_step (v := ?_) rfl (fun W hS => ?_) ?_; rotate_left; · (obtain s1 := hS; (try simp only [Act.put, List.setIfInBounds_toArray, List.set_cons_zero, List.set_cons_succ]); go_simp; with_reducible rfl)) | (refine wpPureH_want (v := ?_) (by rfl) (fun W hS => ?_) ?_; rotate_left; · (obtain s1 := hS; (try simp only [Act.put, List.setIfInBounds_toArray, List.set_cons_zero, List.set_cons_succ]); go_simp; with_reducible rfl))
                refine wpPureH_nil ?_
                simp only [Act.put, List.setIfInBounds_toArray, List.set_cons_zero, List.set_cons_succ]
                refine wpTree_step ?_
                simp only [opsAt, List.getElem?_cons_zero, List.getElem?_cons_succ]
                refine wpList_append_slN rfl (.const (.slice none 0 0)) (.tmp 97) 26 rfl _ 8 Try.underlying26 info_int_ rfl (by decide) (SlN.nil w4 w4.heap.size 3 1) (HS1.out _ _ (SlN.drew HV.out)) rfl rfl HKL.out (intsL_one _) (by unfold maxLen; omega) (by omega) (Nat.le_refl _) ?_
                intro v1 W1 hv1 ho1 hf1
                rw [Nat.zero_add, List.nil_append] at hv1
                have hb1 : Below w4.heap.size w4 W1 := news_append (Below.refl w4.heap.size w4).drew ho1 (fun k hk => by simp [slB] at hk)
                have k7 := (hb1.cell (p := ⟨ph, 0, none⟩) hph4).trans y7
                have hnew : ∀ k ∈ slB v1, w4.heap.size ≤ k := fun k hk => (hv1.lt k hk).1
                obtain ⟨a1, c1, hvv⟩ := hv1.form
                subst hvv
                have hsrc2 := HS2.out W1 w.heap.size (SlN.below HV.out hb1 (fun k hk => (SlN.lt HV.out k hk).2))
                clear ho1 hf1
                go_wp2_with fail
                refine ⟨.inr k7, ?_⟩
                clear k7
                refine wpTree_step ?_
                simp only [opsAt, List.getElem?_cons_zero, List.getElem?_cons_succ]
                refine wpList_append_slN rfl (.tmp 98) (.tmp 102) 26 rfl _ 8 Try.underlying26 info_int_ rfl (by decide) hv1 hsrc2 rfl rfl HML.out (intsL_one _) (by unfold maxLen; omega) (by omega) hb1.size ?_
                intro v3 W3 hv3 ho3 hf3
                have hb3 := news_append hb1 ho3 hnew
                have hv4 := HL2.out W3 v3 hv3
                obtain ⟨a3, c3, hv5⟩ := hv3.form
                subst hv5
                have HBZ := hide hb3
                have HLZ := hide hv4
                have k7 := (hb3.cell (p := ⟨ph, 0, none⟩) hph4).trans y7
                have kf : W3.frozen? ⟨ph, 0, none⟩ = false := (HHALF.out.hv.2.1.below hb3 hph4).frozen 0
                clear hv3 ho3 hf3 hb3 hv4 hsrc2
                go_wp2_with fail
                refine ⟨.inr k7, ?_⟩
                have hB5 := HHALF.out.wh.wh.lt
                refine wpTree_step ?_
                simp only [opsAt, List.getElem?_cons_zero, List.getElem?_cons_succ]
                go_wp2_with fail
                refine ⟨.inl trivial, wpTree_fin ?_⟩
                go_wp2_with fail
                go_meet
                exact ⟨_, _, _, hide (HHALF.out.put HBZ.out HLZ.out hB5 (fun k hk => (SlN.lt HLZ.out k hk).1))⟩
              · have hki0 : ¬ 0 ≤ ki := by rw [HKI.out, idxI, if_neg hm]; omega
                have d2 : decide (0 ≤ ki) = false := decide_eq_false hki0
                have HER : Hid (L.erase xi = L) := hide (List.erase_of_not_mem hm)
                clear HKI
                have hrr : false = decide (xi ∈ L) := (decide_eq_false hm).symm
                have HREM := hide (rem_F H4.out.wh xi false hrr _ rfl)
                clear hrr
                go_wp2_with fail
                (with_reducible refine (unhide HREM).mono ?_)
                rintro e4 w4 ⟨rfl, FW4, hw4, ho4, hf4⟩
                have hhalf := H4.out.turned hw4 ho4 hf4
                have HHALF := hide hhalf
                clear HREM hw4 hf4 hhalf ho4
                rw [HER.out] at HHALF
                go_wp2_with fail
                go_meet
                exact ⟨_, _, _, hide HHALF.out.done⟩
            · by_cases hk3 : xk = 3
              · subst hk3
                have y2 : W0.cell? ⟨bb, 2, none⟩ = some (.slice xa xl xc) := HBOX.out.cellv 2 _ rfl
                have y7 : W0.cell? ⟨ph, 0, none⟩ = some (.slice av q cv) := H4.out.hv.2.1.cellv 0 _ rfl
                have hsv : SlN W0 w.heap.size 3 1 (.slice av q cv) q (intsL L) := by have h9 := H4.out.hv.2.2; unfold LIs at h9; rw [← HQ.out] at h9; exact h9
                have HSV := hide hsv
                clear hsv
                go_wp2_with fail
                go_loopg [14, 108] q (fun g s14 s108 wx => ∃ (i2 : Nat) (f : Int), s14 = .int .i64 f ∧ s108 = .int .i64 i2 ∧ i2 + g = q ∧ Hid (f = fI xz (L.take i2)) ∧ ∃ m, wx = W0.drewN m)
                case atStart => exact ⟨0, -1, rfl, rfl, by omega, hide (by simp [fI]), 0, rfl⟩
                case round =>
                  obtain ⟨i2, f, rfl, rfl, hi2, hf, m, rfl⟩ := hrel
                  by_cases hlt2 : i2 < q
                  · have hiL : i2 < L.length := by rw [← HQ.out]; exact hlt2
                    obtain ⟨x, hx⟩ : ∃ x, x = L[i2] := ⟨_, rfl⟩
                    have hin := H4.out.wh.wh.inside x (by rw [hx]; exact List.getElem_mem hiL)
                    obtain ⟨xn, hxn⟩ : ∃ xn : Nat, x = xn := ⟨x.toNat, by omega⟩
                    obtain ⟨g1, o1, k1, hv1, hc1⟩ := HSV.out.row1 (by omega)
                    injection hv1 with e1 e2 e3
                    subst e1 e3
                    have z1 := (hc1 _ _ _ HSV.out i2 (by rw [intsL_length]; exact hiL)).1
                    simp only [intsL, List.getElem_map, ← hx, hxn] at z1
                    have hstep := fI_step xz L i2 hiL
                    rw [← hf.out, ← hx, hxn] at hstep
                    have HSTEP := hide hstep
                    clear hc1 e2 hstep hx hin hf hxn
                    by_cases hf0 : f < 0
                    · have d1 : decide (f < 0) = true := decide_eq_true hf0
                      by_cases hxl2 : xn < xl
                      · obtain ⟨g2, o2, hg2, hc2⟩ := HRY.out.2 W0 H4.out.below xn (by rw [HRY.out.1]; exact hxl2)
                        subst hg2
                        obtain ⟨b, hb⟩ : ∃ b, b = xz[xn]'(by rw [HRY.out.1]; exact hxl2) := ⟨_, rfl⟩
                        rw [← hb] at hc2
                        have hrb : rdy xz (xn : Int) = b := by rw [hb]; unfold rdy; simp [List.getD_eq_getElem?_getD, HRY.out.1, hxl2]
                        have d2 : decide ((xn : Int) < xl) = true := decide_eq_true (by omega)
                        clear hb
                        cases b with
                        | true =>
                          have hn : Hid ((i2 : Int) = fI xz (L.take (i2 + 1))) := hide (by rw [HSTEP.out, if_pos ⟨hf0, hrb⟩])
                          clear HSTEP hrb
                          go_wp2_with fail
                          go_quiet (fail)
                          go_wp2_with fail
                          go_roundg (gk - 1)
                          case measure => omega
                          case rel => exact ⟨i2 + 1, i2, by go_num, by go_num, by omega, hn, _, rfl⟩
                        | false =>
                          have hn : Hid (f = fI xz (L.take (i2 + 1))) := hide (by rw [HSTEP.out, if_neg (by rw [hrb]; simp)])
                          clear HSTEP hrb
                          go_wp2_with fail
                          go_quiet (fail)
                          go_wp2_with fail
                          go_roundg (gk - 1)
                          case measure => omega
                          case rel => exact ⟨i2 + 1, f, by go_num, by go_num, by omega, hn, _, rfl⟩
                      · have hrb : rdy xz (xn : Int) = false := by unfold rdy; simp [List.getD_eq_getElem?_getD, List.getElem?_eq_none (show xz.length ≤ xn by rw [HRY.out.1]; omega)]
                        have d2 : decide ((xn : Int) < xl) = false := decide_eq_false (by omega)
                        have hn : Hid (f = fI xz (L.take (i2 + 1))) := hide (by rw [HSTEP.out, if_neg (by rw [hrb]; simp)])
                        clear HSTEP hrb
                        go_wp2_with fail
                        go_quiet (fail)
                        go_wp2_with fail
                        go_roundg (gk - 1)
                        case measure => omega
                        case rel => exact ⟨i2 + 1, f, by go_num, by go_num, by omega, hn, _, rfl⟩
                    · have d1 : decide (f < 0) = false := decide_eq_false hf0
                      have hn : Hid (f = fI xz (L.take (i2 + 1))) := hide (by rw [HSTEP.out, if_neg (fun h => hf0 h.1)])
                      clear HSTEP
                      go_wp2_with fail
                      go_quiet (fail)
                      go_wp2_with fail
                      go_roundg (gk - 1)
                      case measure => omega
                      case rel => exact ⟨i2 + 1, f, by go_num, by go_num, by omega, hn, _, rfl⟩
                  · obtain rfl : q = i2 := by omega
                    rw [HQ.out, List.take_length] at hf
                    obtain ⟨W5, hW5⟩ : ∃ W5, W5 = W0.drewN m := ⟨_, rfl⟩
                    have h5 := H4.out.to (below_drewN (Below.refl _ _) m)
                    have hz5 := HRY.out.2 _ h5.below
                    rw [← hW5] at h5 hz5 ⊢
                    have x2 : W5.cell? ⟨bb, 2, none⟩ = some (.slice xa xl xc) := by rw [hW5]; exact y2
                    have x7 : W5.cell? ⟨ph, 0, none⟩ = some (.slice av q cv) := by rw [hW5]; exact y7
                    have H5 := hide h5
                    have HZ5 := hide hz5
                    clear hW5 h5 hz5 H4 HBOX y0 HSV y2 y7
                    by_cases hf0 : f < 0
                    · rw [hf.out] at hf0
                      obtain ⟨hf1, ht⟩ := fI_neg hf0
                      have hf2 : f = -1 := by rw [hf.out]; exact hf1
                      subst hf2
                      have HNEXT := hide (next_F H5.out.wh xa xc xz HZ5.out 0 false (.inl ⟨ht, rfl, rfl⟩) L (by rw [after, ht]) xl HRY.out.1.symm)
                      clear hf hf0 hf1 ht
                      go_wp2_with fail
                      (with_reducible refine (unhide HNEXT).mono ?_)
                      rintro e4 w4 ⟨rfl, FW4, hw4, ho4, hf4⟩
                      have HHALF := hide (H5.out.turned hw4 ho4 hf4)
                      clear HNEXT hw4 hf4 ho4 x2 x7
                      go_wp2_with fail
                      go_meet
                      exact ⟨_, _, _, hide HHALF.out.done⟩
                    · have d1 : decide (0 ≤ f) = true := decide_eq_true (by omega)
                      rw [hf.out] at hf0
                      obtain ⟨k, hfk, hkL, ht⟩ := fI_pos hf0
                      have hkk : f = k := by rw [hf.out]; exact hfk
                      obtain ⟨x, hx⟩ : ∃ x, x = L[k] := ⟨_, rfl⟩
                      rw [← hx] at ht
                      have hkq : k < q := by rw [HQ.out]; exact hkL
                      have HNEXT := hide (next_F H5.out.wh xa xc xz HZ5.out x true (.inr ⟨ht, rfl⟩) (L.erase x ++ [x]) (by rw [after, ht]) xl HRY.out.1.symm)
                      have her : L.erase x = L.take k ++ L.drop (k + 1) := by
                        have h9 := erase_at H5.out.wh.wh.nodup k hkL
                        rw [← hx] at h9
                        exact h9
                      have HER := hide her
                      have HX := hide hx
                      clear hf hf0 hfk ht her hx
                      go_wp2_with fail
                      (with_reducible refine (unhide HNEXT).mono ?_)
                      rintro e4 w4 ⟨rfl, FW4, hw4, ho4, hf4⟩
                      have HHALF := hide (H5.out.turned hw4 ho4 hf4)
                      clear HNEXT hw4 hf4 ho4 x2 x7
                      have hki1 : f < 1000 := by omega
                      have hw1 : wrap64 (f + 1) = f + 1 := by unfold wrap64; omega
                      have hw2 : IntKind.i64.wrap (f + 1) = f + 1 := by rw [IntKind.wrap_i64]; omega
                      have y7 : w4.cell? ⟨ph, 0, none⟩ = some (.slice av q cv) := HHALF.out.hv.2.1.cellv 0 _ rfl
                      have hsv : SlN w4 w.heap.size 3 1 (.slice av q cv) q (intsL L) := by have h9 := HHALF.out.hv.2.2; unfold LIs at h9; rw [← HQ.out] at h9; exact h9
                      obtain ⟨g1, o1, k1, hv1, hc1⟩ := hsv.row1 (by omega)
                      have z1 := (hc1 _ _ _ hsv k (by rw [intsL_length]; exact hkL)).1
                      simp only [intsL, List.getElem_map, ← HX.out] at z1
                      injection hv1 with e1 e2 e3
                      subst e1
                      clear hsv hc1 e2 e3
                      have hft : f.toNat = k := by omega
                      have hf0q : 0 ≤ f := by omega
                      have hfq : f < q := by omega
                      rw [← hft] at z1
                      clear hft
                      have y7 : w4.cell? ⟨ph, 0, none⟩ = some (.slice (some ⟨g1, o1, none⟩) q cv) := HHALF.out.hv.2.1.cellv 0 _ rfl
                      have hph4 : ph < w4.heap.size := HHALF.out.hv.2.1.lt
                      have HV := hide HHALF.out.hv.2.2
                      obtain ⟨u1, hu1, hs1⟩ := cut_to HV.out k (by omega) f hkk
                      obtain ⟨u2, hu2, hs2⟩ := cut_from HV.out (k + 1) (by omega) (f + 1) (by omega)
                      have HS1 := hide hs1
                      have HS2 := hide hs2
                      obtain ⟨m, hm0⟩ : ∃ m, m = L.length - (k + 1) := ⟨_, rfl⟩
                      rw [← hm0] at HS2
                      have hmq : k + m ≤ 100 := by have := HQ.out; omega
                      have hml : (intsL (L.drop (k + 1))).length = m * 1 := by rw [intsL_length, List.length_drop]; omega
                      have hkl : (intsL (L.take k)).length = k * 1 := by rw [intsL_length, List.length_take]; omega
                      have HML := hide hml
                      have HKL := hide hkl
                      clear hs1 hs2 hm0 hml hkl hkk
                      have hl2 : ∀ (W : World) (v2 : Value), SlN W w4.heap.size 3 1 v2 (k + m + 1) (intsL (L.take k) ++ intsL (L.drop (k + 1)) ++ [.int .i64 x]) → LIs W w4.heap.size v2 (L.erase x ++ [x]) := fun W v2 h => by
                        unfold LIs
                        rw [HER.out, intsL_append, intsL_append]
                        have h9 : (L.take k ++ L.drop (k + 1) ++ [x]).length = k + m + 1 := by
                          have h1 := HML.out; have h2 := HKL.out
                          rw [intsL_length] at h1 h2
                          rw [List.length_append, List.length_append]
                          simp only [List.length_cons, List.length_nil]
                          omega
                        rw [h9]
                        exact h
                      have HL2 := hide hl2
                      clear hl2 HX hkL
                      go_wp2_with fail
                      refine wp_region_tree (fun W => W.cell? ⟨ph, 0, none⟩ = some (.slice (some ⟨g1, o1, none⟩) q cv)) 12 (.take [0, 1, 2, 4, 5, 6, 7, 9] (.two 3 (.two 8 (.step 10 (.step 11 (.step 12 .fin))) 10 (.step 8 (.step 11 (.step 12 .fin)))) 10 (.step 3 (.step 8 (.step 11 (.step 12 .fin)))))) (by kernel_rfl) (by kernel_rfl) (by intro _ _ _ _ _ h; exact h) ?_
                      refine wpTree_take (y7) ?_
                      simp only [opsAt, List.getElem?_cons_zero, List.getElem?_cons_succ]
                      first | (refine wpPureH_step (v := ?_) rfl (fun W hS => ?_) ?_; rotate_left; · (obtain s1 := hS; (try simp only [Act.put, List.setIfInBounds_toArray, List.set_cons_zero, List.set_cons_succ]); go_simp; with_reducible rfl)) | (refine wpPureH_want (v := ?_) (by rfl) (fun W hS => ?_) ?_; rotate_left; · (obtain s1 := hS; (try simp only [Act.put, List.setIfInBounds_toArray, List.set_cons_zero, List.set_cons_succ]); go_simp; with_reducible rfl))
                      first | (refine wpPureH_step (v := ?_) rfl (fun W hS => ?_) ?_; rotate_left; · (obtain s1 := hS; (try simp only [Act.put, List.setIfInBounds_toArray, List.set_cons_zero, List.set_cons_succ]); go_simp; with_reducible rfl)) | (refine wpPureH_want (v := ?_) (by rfl) (fun W hS => ?_) ?_; rotate_left; · (obtain s1 := hS; (try simp only [Act.put, List.setIfInBounds_toArray, List.set_cons_zero, List.set_cons_succ]); go_simp; with_reducible rfl))
                      first | (refine wpPureH_step (v := ?_) rfl (fun W hS => ?_) ?_; rotate_left; · (obtain s1 := hS; (try simp only [Act.put, List.setIfInBounds_toArray, List.set_cons_zero, List.set_cons_succ]); go_simp; with_reducible rfl)) | (refine wpPureH_want (v := ?_) (by rfl) (fun W hS => ?_) ?_; rotate_left; · (obtain s1 := hS; (try simp only [Act.put, List.setIfInBounds_toArray, List.set_cons_zero, List.set_cons_succ]); go_simp; with_reducible rfl))
                      first | (refine wpPureH_step (v := ?_) rfl (fun W hS => ?_) ?_; rotate_left; · (obtain s1 := hS; (try simp only [Act.put, List.setIfInBounds_toArray, List.set_cons_zero, List.set_cons_succ]); go_simp; with_reducible rfl)) | (refine wpPureH_want (v := ?_) (by rfl) (fun W hS => ?_) ?_; rotate_left; · (obtain s1 := hS; (try simp only [Act.put, List.setIfInBounds_toArray, List.set_cons_zero, List.set_cons_succ]); go_simp; with_reducible rfl))
                      first | (refine wpPureH_step (v := ?_) rfl (fun W hS => ?_) ?_; rotate_left; · (obtain s1 := hS; (try simp only [Act.put, List.setIfInBounds_toArray, List.set_cons_zero, List.set_cons_succ]); go_simp; with_reducible rfl)) | (refine wpPureH_want (v := ?_) (by rfl) (fun W hS => ?_) ?_; rotate_left; · (obtain s1 := hS; (try simp only [Act.put, List.setIfInBounds_toArray, List.set_cons_zero, List.set_cons_succ]); go_simp; with_reducible rfl))
                      first | (refine wpPureH_step (v := ?_) rfl (fun W hS => ?_) ?_; rotate_left; · (obtain s1 := hS; (try simp only [Act.put, List.setIfInBounds_toArray, List.set_cons_zero, List.set_cons_succ]); go_simp; with_reducible rfl)) | (refine wpPureH_want (v := ?_) (by rfl) (fun W hS => ?_) ?_; rotate_left; · (obtain s1 := hS; (try simp only [Act.put, List.setIfInBounds_toArray, List.set_cons_zero, List.set_cons_succ]); go_simp; with_reducible rfl))
                      first | (refine wpPureH_step (v := ?_) rfl (fun W hS => ?_) ?_; rotate_left; · (obtain s1 := hS; (try simp only [Act.put, List.setIfInBounds_toArray, List.set_cons_zero, List.set_cons_succ]); go_simp; with_reducible rfl)) | (refine wpPureH_want (v := ?_) (by rfl) (fun W hS => ?_) ?_; rotate_left; · (obtain s1 := hS; (try simp only [Act.put, List.setIfInBounds_toArray, List.set_cons_zero, List.set_cons_succ]); go_simp; with_reducible rfl))
                      first | (refine wpPureH_step (v := ?_) rfl (fun W hS => ?_) ?_; rotate_left; · (obtain s1 := hS; (try simp only [Act.put, List.setIfInBounds_toArray, List.set_cons_zero, List.set_cons_succ]); go_simp; with_reducible rfl)) | (refine wpPureH_want (v := ?_) (by rfl) (fun W hS => ?_) ?_; rotate_left; · (obtain s1 := hS; (try simp only [Act.put, List.setIfInBounds_toArray, List.set_cons_zero, List.set_cons_succ]); go_simp; with_reducible rfl))
                      refine wpPureH_nil ?_
                      simp only [Act.put, List.setIfInBounds_toArray, List.set_cons_zero, List.set_cons_succ]
                      clear z1
                      refine wpTree_two ?_ ?_
                      · skip
                        refine wpTree_step ?_
                        simp only [opsAt, List.getElem?_cons_zero, List.getElem?_cons_succ]
                        refine wpList_append_slN rfl (.const (.slice none 0 0)) (.tmp 168) 26 rfl _ 8 Try.underlying26 info_int_ rfl (by decide) (SlN.nil _ w4.heap.size 3 1) (HS1.out _ _ (SlN.drew HV.out)) rfl rfl HKL.out (intsL_one _) (by unfold maxLen; omega) (by omega) (Nat.le_refl _) ?_
                        intro v1 W1 hv1 ho1 hf1
                        rw [Nat.zero_add, List.nil_append] at hv1
                        have hb1 : Below w4.heap.size w4 W1 := news_append (Below.refl w4.heap.size w4).drew ho1 (fun k hk => by simp [slB] at hk)
                        have hnew1 : ∀ j ∈ slB v1, w4.heap.size ≤ j := fun j hj => (hv1.lt j hj).1
                        skip
                        obtain ⟨a1, c1, hvv⟩ := hv1.form
                        subst hvv
                        have k7 := (hb1.cell (p := ⟨ph, 0, none⟩) hph4).trans y7
                        clear ho1 hf1
                        go_wp2_with fail
                        refine ⟨.inr k7, ?_⟩
                        clear k7
                        refine wpTree_two ?_ ?_
                        · skip
                          refine wpTree_step ?_
                          simp only [opsAt, List.getElem?_cons_zero, List.getElem?_cons_succ]
                          refine wpList_append_slN rfl (.tmp 169) (.tmp 173) 26 rfl _ 8 Try.underlying26 info_int_ rfl (by decide) hv1 (HS2.out _ w.heap.size (SlN.below HV.out hb1 (fun k hk => (SlN.lt HV.out k hk).2))) rfl rfl HML.out (intsL_one _) (by unfold maxLen; omega) (by omega) hb1.size ?_
                          intro v2 W2 hv2 ho2 hf2
                          have hb2 := news_append hb1 ho2 hnew1
                          have hnew2 : ∀ j ∈ slB v2, w4.heap.size ≤ j := fun j hj => (hv2.lt j hj).1
                          skip
                          obtain ⟨a2, c2, hvv⟩ := hv2.form
                          subst hvv
                          have k7 := (hb2.cell (p := ⟨ph, 0, none⟩) hph4).trans y7
                          clear ho2 hf2
                          go_wp2_with fail
                          refine ⟨.inr k7, ?_⟩
                          clear k7
                          refine wpTree_step ?_
                          simp only [opsAt, List.getElem?_cons_zero, List.getElem?_cons_succ]
                          go_wp2_with fail
                          have hs2 := hb2.size
                          have hone := SlN.one (base := w4.heap.size) hs2 (Blk.new W2 3 #[.int .i64 x])
                          have hb2 := hb2.alloc hs2 (.cells #[.int .i64 x] 3)
                          have hv2 := hv2.alloc (.cells #[.int .i64 x] 3)
                          have k7 := (hb2.cell (p := ⟨ph, 0, none⟩) hph4).trans y7
                          refine ⟨.inr k7, ?_⟩
                          clear k7
                          refine wpTree_step ?_
                          simp only [opsAt, List.getElem?_cons_zero, List.getElem?_cons_succ]
                          refine wpList_append_slN rfl (.tmp 174) (.tmp 176) 26 rfl _ 8 Try.underlying26 info_int_ rfl (by decide) hv2 hone.src rfl rfl rfl (by intro y hy; rw [List.mem_singleton.1 hy]; rfl) (by unfold maxLen; omega) (by omega) hb2.size ?_
                          intro v3 W3 hv3 ho3 hf3
                          have hb3 := news_append hb2 ho3 hnew2
                          have hv4 := HL2.out W3 v3 hv3
                          obtain ⟨a3, c3, hv5⟩ := hv3.form
                          subst hv5
                          have HBZ := hide hb3
                          have HLZ := hide hv4
                          have k7 := (hb3.cell (p := ⟨ph, 0, none⟩) hph4).trans y7
                          have kf : W3.frozen? ⟨ph, 0, none⟩ = false := (HHALF.out.hv.2.1.below hb3 hph4).frozen 0
                          clear hv3 ho3 hf3 hb3 hv4
                          go_wp2_with fail
                          refine ⟨.inr k7, ?_⟩
                          have hB5 := HHALF.out.wh.wh.lt
                          refine wpTree_step ?_
                          simp only [opsAt, List.getElem?_cons_zero, List.getElem?_cons_succ]
                          go_wp2_with fail
                          refine ⟨.inl trivial, wpTree_fin ?_⟩
                          go_wp2_with fail
                          go_meet
                          exact ⟨_, _, _, hide (HHALF.out.put HBZ.out HLZ.out hB5 (fun k hk => (SlN.lt HLZ.out k hk).1))⟩
                        · refine wpTree_step ?_
                          simp only [opsAt, List.getElem?_cons_zero, List.getElem?_cons_succ]
                          go_wp2_with fail
                          have hs1 := hb1.size
                          have hout : W1.heap.size ∉ slB (.slice a1 k c1) := fun hj => by have := (hv1.lt _ hj).2; omega
                          have hone := SlN.one (base := w4.heap.size) hs1 (Blk.new W1 3 #[.int .i64 x])
                          have hb1 := hb1.alloc hs1 (.cells #[.int .i64 x] 3)
                          have hv1 := hv1.alloc (.cells #[.int .i64 x] 3)
                          have k7 := (hb1.cell (p := ⟨ph, 0, none⟩) hph4).trans y7
                          refine ⟨.inr k7, ?_⟩
                          clear k7
                          refine wpTree_step ?_
                          simp only [opsAt, List.getElem?_cons_zero, List.getElem?_cons_succ]
                          refine wpList_append_slN rfl (.tmp 169) (.tmp 173) 26 rfl _ 8 Try.underlying26 info_int_ rfl (by decide) hv1 (HS2.out _ w.heap.size (SlN.below HV.out hb1 (fun k hk => (SlN.lt HV.out k hk).2))) rfl rfl HML.out (intsL_one _) (by unfold maxLen; omega) (by omega) hb1.size ?_
                          intro v2 W2 hv2 ho2 hf2
                          have hb2 := news_append hb1 ho2 hnew1
                          have hnew2 : ∀ j ∈ slB v2, w4.heap.size ≤ j := fun j hj => (hv2.lt j hj).1
                          have hone := hone.keep ho2 (by intro j hj; rw [show j = W1.heap.size by simpa [slB] using hj]; exact hout)
                          obtain ⟨a2, c2, hvv⟩ := hv2.form
                          subst hvv
                          have k7 := (hb2.cell (p := ⟨ph, 0, none⟩) hph4).trans y7
                          clear ho2 hf2
                          go_wp2_with fail
                          refine ⟨.inr k7, ?_⟩
                          clear k7
                          refine wpTree_step ?_
                          simp only [opsAt, List.getElem?_cons_zero, List.getElem?_cons_succ]
                          refine wpList_append_slN rfl (.tmp 174) (.tmp 176) 26 rfl _ 8 Try.underlying26 info_int_ rfl (by decide) hv2 hone.src rfl rfl rfl (by intro y hy; rw [List.mem_singleton.1 hy]; rfl) (by unfold maxLen; omega) (by omega) hb2.size ?_
                          intro v3 W3 hv3 ho3 hf3
                          have hb3 := news_append hb2 ho3 hnew2
                          have hv4 := HL2.out W3 v3 hv3
                          obtain ⟨a3, c3, hv5⟩ := hv3.form
                          subst hv5
                          have HBZ := hide hb3
                          have HLZ := hide hv4
                          have k7 := (hb3.cell (p := ⟨ph, 0, none⟩) hph4).trans y7
                          have kf : W3.frozen? ⟨ph, 0, none⟩ = false := (HHALF.out.hv.2.1.below hb3 hph4).frozen 0
                          clear hv3 ho3 hf3 hb3 hv4
                          go_wp2_with fail
                          refine ⟨.inr k7, ?_⟩
                          have hB5 := HHALF.out.wh.wh.lt
                          refine wpTree_step ?_
                          simp only [opsAt, List.getElem?_cons_zero, List.getElem?_cons_succ]
                          go_wp2_with fail
                          refine ⟨.inl trivial, wpTree_fin ?_⟩
                          go_wp2_with fail
                          go_meet
                          exact ⟨_, _, _, hide (HHALF.out.put HBZ.out HLZ.out hB5 (fun k hk => (SlN.lt HLZ.out k hk).1))⟩
                      · refine wpTree_step ?_
                        simp only [opsAt, List.getElem?_cons_zero, List.getElem?_cons_succ]
                        go_wp2_with fail
                        have hone := SlN.one (base := w4.heap.size) (Nat.le_refl _) (Blk.new w4 3 #[.int .i64 x])
                        have hb0 := (Below.refl w4.heap.size w4).alloc (Nat.le_refl _) (.cells #[.int .i64 x] 3)
                        have k7 := (hb0.cell (p := ⟨ph, 0, none⟩) hph4).trans y7
                        refine ⟨.inr k7, ?_⟩
                        clear k7
                        refine wpTree_step ?_
                        simp only [opsAt, List.getElem?_cons_zero, List.getElem?_cons_succ]
                        refine wpList_append_slN rfl (.const (.slice none 0 0)) (.tmp 168) 26 rfl _ 8 Try.underlying26 info_int_ rfl (by decide) (SlN.nil _ w4.heap.size 3 1) (HS1.out _ _ (SlN.drew (SlN.alloc HV.out _))) rfl rfl HKL.out (intsL_one _) (by unfold maxLen; omega) (by omega) hb0.size ?_
                        intro v1 W1 hv1 ho1 hf1
                        rw [Nat.zero_add, List.nil_append] at hv1
                        have hb1 : Below w4.heap.size w4 W1 := news_append hb0.drew ho1 (fun k hk => by simp [slB] at hk)
                        have hnew1 : ∀ j ∈ slB v1, w4.heap.size ≤ j := fun j hj => (hv1.lt j hj).1
                        have hone := hone.drew.keep ho1 (by simp [slB]); have hout : w4.heap.size ∉ slB v1 := fun hj => by (have h9 := (hf1 _ hj).resolve_left (by simp [slB])); simp at h9; omega
                        obtain ⟨a1, c1, hvv⟩ := hv1.form
                        subst hvv
                        have k7 := (hb1.cell (p := ⟨ph, 0, none⟩) hph4).trans y7
                        clear ho1 hf1
                        go_wp2_with fail
                        refine ⟨.inr k7, ?_⟩
                        clear k7
                        refine wpTree_step ?_
                        simp only [opsAt, List.getElem?_cons_zero, List.getElem?_cons_succ]
                        refine wpList_append_slN rfl (.tmp 169) (.tmp 173) 26 rfl _ 8 Try.underlying26 info_int_ rfl (by decide) hv1 (HS2.out _ w.heap.size (SlN.below HV.out hb1 (fun k hk => (SlN.lt HV.out k hk).2))) rfl rfl HML.out (intsL_one _) (by unfold maxLen; omega) (by omega) hb1.size ?_
                        intro v2 W2 hv2 ho2 hf2
                        have hb2 := news_append hb1 ho2 hnew1
                        have hnew2 : ∀ j ∈ slB v2, w4.heap.size ≤ j := fun j hj => (hv2.lt j hj).1
                        have hone := hone.keep ho2 (by intro j hj; rw [show j = w4.heap.size by simpa [slB] using hj]; exact hout)
                        obtain ⟨a2, c2, hvv⟩ := hv2.form
                        subst hvv
                        have k7 := (hb2.cell (p := ⟨ph, 0, none⟩) hph4).trans y7
                        clear ho2 hf2
                        go_wp2_with fail
                        refine ⟨.inr k7, ?_⟩
                        clear k7
                        refine wpTree_step ?_
                        simp only [opsAt, List.getElem?_cons_zero, List.getElem?_cons_succ]
                        refine wpList_append_slN rfl (.tmp 174) (.tmp 176) 26 rfl _ 8 Try.underlying26 info_int_ rfl (by decide) hv2 hone.src rfl rfl rfl (by intro y hy; rw [List.mem_singleton.1 hy]; rfl) (by unfold maxLen; omega) (by omega) hb2.size ?_
                        intro v3 W3 hv3 ho3 hf3
                        have hb3 := news_append hb2 ho3 hnew2
                        have hv4 := HL2.out W3 v3 hv3
                        obtain ⟨a3, c3, hv5⟩ := hv3.form
                        subst hv5
                        have HBZ := hide hb3
                        have HLZ := hide hv4
                        have k7 := (hb3.cell (p := ⟨ph, 0, none⟩) hph4).trans y7
                        have kf : W3.frozen? ⟨ph, 0, none⟩ = false := (HHALF.out.hv.2.1.below hb3 hph4).frozen 0
                        clear hv3 ho3 hf3 hb3 hv4
                        go_wp2_with fail
                        refine ⟨.inr k7, ?_⟩
                        have hB5 := HHALF.out.wh.wh.lt
                        refine wpTree_step ?_
                        simp only [opsAt, List.getElem?_cons_zero, List.getElem?_cons_succ]
                        go_wp2_with fail
                        refine ⟨.inl trivial, wpTree_fin ?_⟩
                        go_wp2_with fail
                        go_meet
                        exact ⟨_, _, _, hide (HHALF.out.put HBZ.out HLZ.out hB5 (fun k hk => (SlN.lt HLZ.out k hk).1))⟩
              · have b1 : (xk == 1) = false := by simpa using hk1
                have b2 : (xk == 2) = false := by simpa using hk2
                have b3 : (xk == 3) = false := by simpa using hk3
                go_wp2_with fail
                go_meet
                exact ⟨_, _, _, H4⟩
        case rest =>
          obtain ⟨L2, vh2, FW2, h5⟩ := hcut
          have HALLC := hide (all_F h5.out.wh)
          have hwcB := h5.out.wh.wh.lt
          have hl100 := h5.out.len
          clear H4 HBOX HNB HKI HRY y0
          go_wp2_with fail
          (with_reducible refine (unhide HALLC).mono ?_)
          rintro e4 w4 ⟨a4, c4, rfl, hl4, hb4⟩
          have h6 := h5.out.to hb4
          have hwc4 := hb4.size
          have hld : ∀ k ∈ slB (.slice a4 L2.length c4), wc.heap.size ≤ k ∧ k < w4.heap.size := fun k hk => SlN.lt hl4 k hk
          have HINTS := hide (ints_Bk h6.bk (SlN.mono hl4 hwcB) (by omega) (fun k hk hk2 => by have := (hld k hk).1; have := (h5.out.bk.lt k hk2).2; omega))
          have HL4 := hide hl4
          have H6 := hide h6
          have HLD := hide hld
          clear HALLC hl4 h6 hld hb4
          go_wp2_with fail
          (with_reducible refine (unhide HINTS).mono ?_)
          rintro e5 w5 ⟨rfl, FB5, hk5, ho5, hf5⟩
          have hnew : ∀ k ∈ FB5, k ∈ FB ∨ wc.heap.size ≤ k := fun k hk => by
            rcases hf5 k hk with h9 | h9 | h9
            · exact .inl h9
            · exact .inr (HLD.out k h9).1
            · exact .inr (by omega)
          have h7 : All3 w w5 w.heap.size pw ph pb nn L2 vh2 FW2 FB5 :=
            ⟨H6.out.wh.keep ho5 (fun k hk => H6.out.sep.wb k hk), H6.out.hv.keep ho5 (H6.out.sep.hb ph (List.mem_cons_self ..)) (fun k hk => H6.out.sep.hb k (List.mem_cons_of_mem _ hk)), hk5,
              ⟨fun k hk hk2 => by
                rcases hnew k hk2 with h9 | h9
                · exact H6.out.sep.wb k hk h9
                · have := (h5.out.wh.lt k hk).2; omega, H6.out.sep.hw, fun k hk hk2 => by
                rcases hnew k hk2 with h9 | h9
                · exact H6.out.sep.hb k hk h9
                · have := (h5.out.hlt k hk).2; omega⟩, H6.out.below.trans (ho5.below (by omega) (fun k hk => (H6.out.bk.lt k hk).1))⟩
          have hla : LIs w5 wc.heap.size (.slice a4 L2.length c4) L2 := SlN.keep HL4.out ho5 (fun k hk hk2 => by have := (HLD.out k hk).1; have := (h5.out.bk.lt k hk2).2; omega)
          have HS := hide (same_bk (LIs.at hla) (LIs.at h7.hv.2.2) (by omega) (by omega) true (by simp))
          have y7 : w5.cell? ⟨ph, 0, none⟩ = some vh2 := h7.hv.2.1.cellv 0 _ rfl
          have H7 := hide h7
          clear HINTS hk5 ho5 hf5 hnew h7 hla HL4 H6 HLD h5
          go_wp2_with fail
          (with_reducible refine (unhide HS).mono ?_)
          rintro e6 w6 ⟨rfl, nd, rfl⟩
          clear HS y7
          go_wp2_with fail
          go_roundg (gk - 1)
          case measure => omega
          case rel => exact ⟨i + 1, L2, vh2, FW2, FB5, by go_num, by omega, hide (H7.out.to (below_drewN (Below.refl _ _) nd))⟩
    · obtain rfl : i = len := by omega
      have HNX := fun v W => hide (next_nil v W)
      have HAD := fun W => hide (add_nil 0 W)
      have HRM := fun W => hide (remove_nil 0 W)
      have HAL := fun W => hide (all_nil W)
      have hal0 := (Below.refl wr.heap.size wr).alloc (Nat.le_refl _) (.cells #[.bool true] 4)
      have HAP := hide (apart_Bk (h3.out.bk.below hal0))
      have hal := (h3.out.to hal0).below
      clear HZ HZL hal0
      go_wp2_with fail
      (with_reducible refine (unhide (HNX _ _)).mono ?_)
      rintro e4 w4 ⟨rfl, rfl⟩
      go_wp2_with fail
      (with_reducible refine (unhide (HAD _)).mono ?_)
      rintro e5 w5 ⟨rfl, rfl⟩
      go_wp2_with fail
      (with_reducible refine (unhide (HRM _)).mono ?_)
      rintro e6 w6 ⟨rfl, rfl⟩
      go_wp2_with fail
      (with_reducible refine (unhide (HAL _)).mono ?_)
      rintro e7 w7 ⟨rfl, rfl⟩
      go_wp2_with fail
      (with_reducible refine (unhide HAP).mono ?_)
      rintro e8 w8 ⟨rfl, hb8⟩
      have hend := hal.trans hb8
      clear HNX HAD HRM HAL HAP hb8 hal h3
      go_wp2_with fail
      go_ret
      exact ⟨rfl, hend⟩
end Go.Proofs.Ytlkedcdhboahbaa
