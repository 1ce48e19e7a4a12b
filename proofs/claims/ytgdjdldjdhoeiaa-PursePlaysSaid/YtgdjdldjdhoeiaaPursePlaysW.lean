/-
  The walk of PursePlays.
-/
import Derived.Test.YtgdjdldjdhoeiaaPurseR
import Derived.Test.YtgdjdldjdhoeiaaPurseOps
import Derived.Deep.RegionHeld3
import Derived.Deep.CutBlock
import Derived.Deep.DeepCutAuto
namespace Go.Proofs.Ytgdjdldjdhoeiaa
open Go.RowKit

set_option maxRecDepth 100000 in
theorem pursePlays_no (b n : Int) (a1 : Option Addr) (len1 cap1 : Nat) (w : World) (hl : len1 ≤ 9223372036854775807) (h : 150 < len1) :
    Calls Try.prog 6 #[.int .i64 b, .int .i64 n, .slice a1 len1 cap1] w fun e w' => e = .returned (.bool true) ∧ Below w.heap.size w w' := by
  go_enter Try.func6, Try.ntmps6
  go_wp2_with (go_at_call 9; refine (alive_any _).mono ?_; rintro e w' ⟨rfl, hb⟩)
  go_ret
  exact ⟨rfl, by assumption⟩

set_option maxRecDepth 100000 in
theorem pursePlays_nil (b n : Int) (a1 : Option Addr) (len1 cap1 : Nat) (w : World) (h : len1 ≤ 150) (hno : n < 1 ∨ 8 < n ∨ b < n * 700 ∨ 40000 < b) :
    Calls Try.prog 6 #[.int .i64 b, .int .i64 n, .slice a1 len1 cap1] w fun e w' => e = .returned (.bool true) ∧ Below w.heap.size w w' := by
  have HA := hide (alive_any w)
  have HN := fun W => hide (new_no b n W hno)
  have HP := fun W => hide (purses_no b n W hno)
  clear hno
  go_enter Try.func6, Try.ntmps6
  go_wp2_with fail
  (with_reducible refine (unhide HA).mono ?_)
  rintro e w1 ⟨rfl, hb⟩
  go_wp2_with fail
  (with_reducible refine (unhide (HN _)).mono ?_)
  rintro e w2 ⟨rfl, rfl⟩
  go_wp2_with fail
  (with_reducible refine (unhide (HP _)).mono ?_)
  rintro e w3 ⟨rfl, rfl⟩
  go_wp2_with fail
  go_ret
  exact ⟨rfl, hb⟩

set_option maxRecDepth 100000 in
set_option maxHeartbeats 1600000 in
theorem pursePlays_yes (b : Int) (n : Nat) (a1 : Option Addr) (len1 cap1 : Nat) (z : List Row37) (w : World) (h : len1 ≤ 150) (hrow : IsRows37 w a1 len1 cap1 z)
    (h1 : 1 ≤ n) (h2 : n ≤ 8) (h3 : (n : Int) * 700 ≤ b) (h4 : b ≤ 40000) :
    Calls Try.prog 6 #[.int .i64 b, .int .i64 (n : Int), .slice a1 len1 cap1] w fun e w' => e = .returned (.bool true) ∧ Below w.heap.size w w' := by
  have HA := hide (alive_any w)
  obtain ⟨rest, hrest⟩ : ∃ rest, rest = b - (n : Int) * 700 := ⟨_, rfl⟩
  have hr0 : 0 ≤ rest := by omega
  have hr1 : rest ≤ 40000 := by omega
  have Hrest := hide (show b = rest + (n : Int) * 700 by omega)
  have HR := hide hrow
  clear hrest hrow
  go_enter Try.func6, Try.ntmps6
  go_wp2_with fail
  (with_reducible refine (unhide HA).mono ?_)
  rintro e w1 ⟨rfl, hb⟩
  have HN := hide (new_at b n n w1 rfl h1 h2 h3 h4 rest (by have := Hrest.out; omega))
  have hs1 := hb.size
  clear HA
  go_wp2_with fail
  (with_reducible refine (unhide HN).mono ?_)
  rintro e w2 ⟨p, qh, qo, rfl, hp, hs2, hs3, hs4, hb2⟩
  have hb := hb.trans (hb2.mono hb.size)
  have HP := hide (purses_yes b n w2 h1 h2 h3 h4 rest Hrest.out)
  have hs5 := hb2.size
  clear HN hb2
  go_wp2_with fail
  (with_reducible refine (unhide HP).mono ?_)
  rintro e w3 ⟨r, ro, rh, rfl, hr, e1, e2, e3, hb2⟩
  have d1 := hp.bp.lt
  have d2 := hp.bh.lt
  have d3 := hp.bo.lt
  have hp := hp.keep (Only.of_below hb2 []) (by simp) (by simp) (by simp)
  have hb := hb.trans (hb2.mono hb.size)
  have hHl : (List.replicate n (0 : Int)).length = n := by simp
  have D1 : w.heap.size ≤ p ∧ w.heap.size ≤ qh ∧ w.heap.size ≤ qo := by omega
  have D2 : p < r ∧ p < ro ∧ p < rh ∧ qh < r ∧ qh < ro ∧ qh < rh ∧ qo < r ∧ qo < ro ∧ qo < rh := by omega
  obtain ⟨H0, hH0⟩ : ∃ H0, H0 = List.replicate n (0 : Int) := ⟨_, rfl⟩
  obtain ⟨O0, hO0⟩ : ∃ O0, O0 = List.replicate n false := ⟨_, rfl⟩
  rw [← hH0, ← hO0] at hp hr
  rw [← hH0] at hHl
  have D1 := hide D1
  have D2 := hide D2
  clear HP hs1 hs2 hs3 hs4 hs5 e1 e2 e3 d1 d2 d3 hb2 hH0 hO0
  go_wp2_with fail
  go_loopg [38] len1 (fun g i wr => ∃ (j : Nat) (H : List Int) (O : List Bool), i = .int .i64 j ∧ j + g = len1 ∧ H.length = n ∧ Purse wr p qh qo rest H O ∧ RPurse wr r ro rh b rest H O ∧ Below w.heap.size w wr)
  case atStart => exact ⟨0, H0, O0, rfl, by omega, hHl, hp, hr, hb⟩
  case round =>
    clear hp hr hb hHl
    obtain ⟨j, H, O, rfl, hj, hHl, hp, hr, hb⟩ := hrel
    by_cases hlt : j < len1
    · obtain ⟨b1, off1, rfl, hb1, hz⟩ := HR.out.2.2 (by omega)
      have hzl := HR.out.1
      obtain ⟨c0, c1, c2, wk, wi, wn⟩ := hz j (by omega)
      obtain ⟨⟨K, id, m⟩, hrow⟩ : ∃ r, r = z[j]'(by omega) := ⟨_, rfl⟩
      rw [← hrow] at c0 c1 c2 wk wi wn
      simp only at c0 c1 c2 wk wi wn
      have wk := wf_bounds wk
      have wi := wf_bounds wi
      have wn := wf_bounds wn
      clear hrow hz hzl
      have k0 := (hb.cell (p := ⟨b1, off1 + j * 3, none⟩) hb1).trans c0
      have k1 := (hb.cell (p := ⟨b1, off1 + j * 3 + 1, none⟩) hb1).trans c1
      have k2 := (hb.cell (p := ⟨b1, off1 + j * 3 + 2, none⟩) hb1).trans c2
      clear c0 c1 c2 hb1
      have hlw := hb.size
      have f1 := hr.bp.lt
      have f2 := hr.bo.lt
      have f3 := hr.bh.lt
      have hsta : Only [] wr (wr.alloc (.cells #[.int .i64 K, .int .i64 id, .int .i64 m] 37)) := (Only.refl _ _).alloc _
      have hpa := hp.keep hsta (by simp) (by simp) (by simp)
      have hra := hr.keep hsta (by simp) (by simp) (by simp)
      have hoa : Blk (wr.alloc (.cells #[.int .i64 K, .int .i64 id, .int .i64 m] 37)) wr.heap.size 37 #[.int .i64 K, .int .i64 id, .int .i64 m] := Blk.new _ _ _
      have hba : Below w.heap.size w (wr.alloc (.cells #[.int .i64 K, .int .i64 id, .int .i64 m] 37)) := hb.alloc hb.size _
      have F := hide (And.intro f1 (And.intro f2 f3))
      obtain ⟨is, his⟩ : ∃ is, opn O id = is := ⟨_, rfl⟩
      have HI := hide (is_r hra id is his)
      have hwi1 := wi.1
      have hwi2 := wi.2
      have hwn1 := wn.1
      have hwn2 := wn.2
      clear hp hr hb hsta wi wn f1 f2 f3
      have F1 := F.out
      have DD := D2.out
      have DB := D1.out
      clear F D1 D2
      go_wp2_with fail
      (with_reducible refine (unhide HI).mono ?_)
      rintro e w4 ⟨rfl, rfl⟩
      have oc0 := hoa.cellv 0 _ rfl
      have oc1 := hoa.cellv 1 _ rfl
      have oc2 := hoa.cellv 2 _ rfl
      clear HI
      have hn8 : (n : Int) ≤ 8 := by omega
      have hw0 : wr.heap.size < (wr.alloc (.cells #[.int .i64 K, .int .i64 id, .int .i64 m] 37)).heap.size := by simp
      obtain ⟨w5, hw5⟩ : ∃ w5, w5 = wr.alloc (.cells #[.int .i64 K, .int .i64 id, .int .i64 m] 37) := ⟨_, rfl⟩
      rw [← hw5] at hpa hra hoa hba oc0 oc1 oc2 hw0 ⊢
      clear k0 k1 k2 hw5
      go_upto_block 2 with fail
      go_cut [12, 13] (fun s12 s13 wx => ∃ (H5 : List Int) (O5 : List Bool), H5.length = n ∧ Purse wx p qh qo rest H5 O5 ∧ RPurse wx r ro rh b rest H5 O5 ∧ Blk wx wr.heap.size 37 #[.int .i64 K, .int .i64 id, .int .i64 m] ∧ Below w.heap.size w wx)
      case first =>
        by_cases hK1 : K = 1
        · subst hK1
          by_cases h0 : id < 0
          · have HO := hide (open_no hpa id (by first | omega | exact .inr (.inr his)))
            have HH := hide (And.intro hHl (And.intro hpa (And.intro hra (And.intro hoa hba))))
            clear hpa hra hoa hba
            go_wp2_with fail
            (with_reducible refine (unhide HO).mono ?_)
            rintro e w6 ⟨rfl, rfl⟩
            go_wp2_with fail
            go_meet
            exact ⟨_, _, HH.out⟩
          by_cases h1' : (n : Int) ≤ id
          · have HO := hide (open_no hpa id (by first | omega | exact .inr (.inr his)))
            have HH := hide (And.intro hHl (And.intro hpa (And.intro hra (And.intro hoa hba))))
            clear hpa hra hoa hba
            go_wp2_with fail
            (with_reducible refine (unhide HO).mono ?_)
            rintro e w6 ⟨rfl, rfl⟩
            go_wp2_with fail
            go_meet
            exact ⟨_, _, HH.out⟩
          cases is with
          | true =>
            have HO := hide (open_no hpa id (by first | omega | exact .inr (.inr his)))
            have HH := hide (And.intro hHl (And.intro hpa (And.intro hra (And.intro hoa hba))))
            clear hpa hra hoa hba
            go_wp2_with fail
            (with_reducible refine (unhide HO).mono ?_)
            rintro e w6 ⟨rfl, rfl⟩
            go_wp2_with fail
            go_meet
            exact ⟨_, _, HH.out⟩
          | false =>
            obtain ⟨k, hk⟩ : ∃ k : Nat, id = k := ⟨id.toNat, by omega⟩
            subst hk
            have hkn : k < n := by omega
            have hkO : k < O.length := by have := hpa.len; omega
            have hkH : k < H.length := by omega
            have hOk : O[k]? = some false := by
              have := his
              simp only [opn, Int.toNat_natCast, List.getElem?_eq_getElem hkO] at this
              rw [List.getElem?_eq_getElem hkO]
              simpa using this
            have hHk : H[k]? = some 0 := hpa.shut k hOk
            have HO := hide (open_yes hpa k hOk)
            have HH := hide (And.intro hHl (And.intro hHk (And.intro hkH (And.intro hra (And.intro hoa hba)))))
            clear hpa hra hoa hba hOk hHk his
            go_wp2_with fail
            (with_reducible refine (unhide HO).mono ?_)
            rintro e w6 ⟨rfl, hp6, ho6⟩
            obtain ⟨hHl, hHk, hkH, hra, hoa, hba⟩ := HH.out
            have hr6 := hra.keep ho6 (by simp; omega) (by simp; omega) (by simp; omega)
            have ho6' := ho6.blk hoa (by simp; omega)
            have hb6 := hba.trans (ho6.below hba.size (by simp; omega))
            have r2 := hr6.bp.cellv 2 (.slice (some ⟨ro, 0, none⟩) H.length H.length) rfl
            have r3 := hr6.bp.cellv 3 (.slice (some ⟨rh, 0, none⟩) H.length H.length) rfl
            have oc1 := ho6'.cellv 1 (.int .i64 k) rfl
            have fo := hr6.bo.frozen k
            have fh := hr6.bh.frozen k
            have co := hr6.bo.cellv k (.bool O[k]) (by rw [boolsV_get, List.getElem?_eq_getElem hkO]; rfl)
            have ch := hr6.bh.cellv k (.int .i64 0) (by rw [intsV_get, hHk]; rfl)
            obtain ⟨ob, hob⟩ : ∃ ob, ob = O[k] := ⟨_, rfl⟩
            rw [← hob] at co
            have hn8' := hr6.few
            have n1 := hr6.apart.1
            have n2 := hr6.apart.2.1
            have n3 := hr6.apart.2.2
            have hkl : (k : Int) < H.length := by omega
            have hset : H.set k 0 = H := by
              apply List.ext_getElem?
              intro j
              by_cases hjk : k = j
              · subst hjk; rw [List.getElem?_set_self hkH, hHk]
              · rw [List.getElem?_set_ne hjk]
            have fin : RPurse ((w6.setCell ⟨ro, k, none⟩ (.bool true)).setCell ⟨rh, k, none⟩ (.int .i64 0)) r ro rh b rest H (O.set k true) := by
              have h1 := rpurse_open hr6 k true
              have h2 := rpurse_set h1 k 0 hkH (by omega) (by have := hr6.fits; omega)
              rw [hset] at h2
              exact h2
            have fst : Only [ro, rh] w6 ((w6.setCell ⟨ro, k, none⟩ (.bool true)).setCell ⟨rh, k, none⟩ (.int .i64 0)) := ((Only.refl _ _).setCell (by simp) _).setCell (by simp) _
            have fp := hp6.keep fst (by simp; omega) (by simp; omega) (by simp; omega)
            have fo2 := fst.blk ho6' (by simp; omega)
            have fb := hb6.trans (fst.below hb6.size (by simp; omega))
            have KS0 := hide (And.intro oc1 (And.intro r2 r3))
            have KS1 := hide (And.intro ((ho6'.far (p := ⟨ro, k, none⟩) (show wr.heap.size ≠ ro by omega) (.bool true)).cellv 1 (.int .i64 k) rfl) (And.intro ((rpurse_open hr6 k true).bp.cellv 2 (.slice (some ⟨ro, 0, none⟩) H.length H.length) rfl) ((rpurse_open hr6 k true).bp.cellv 3 (.slice (some ⟨rh, 0, none⟩) H.length H.length) rfl)))
            have KS2 := hide (And.intro (fo2.cellv 1 (.int .i64 k) rfl) (And.intro (fin.bp.cellv 2 (.slice (some ⟨ro, 0, none⟩) H.length H.length) rfl) (fin.bp.cellv 3 (.slice (some ⟨rh, 0, none⟩) H.length H.length) rfl)))
            have FF := hide (And.intro hHl (And.intro fp (And.intro fin (And.intro fo2 fb))))
            clear HO HH hra hoa hba hr6 ho6' hb6 hp6 ho6 hHl hHk fin fst fp fo2 fb hob hset
            go_wp2_with fail
            go_region_held3 (fun W => W.cell? ⟨wr.heap.size, 1, none⟩ = some (.int .i64 k) ∧ W.cell? ⟨r, 2, none⟩ = some (.slice (some ⟨ro, 0, none⟩) H.length H.length) ∧ W.cell? ⟨r, 3, none⟩ = some (.slice (some ⟨rh, 0, none⟩) H.length H.length)) (first | exact KS0.out | exact KS1.out | exact KS2.out) (fail)
            go_wp2_with fail
            go_meet
            exact ⟨_, _, FF.out.1, (FF.out.2.1.drewN 1), FF.out.2.2.1.drewN 1, FF.out.2.2.2.1.drewN 1, below_drewN FF.out.2.2.2.2 1⟩
        have g1 : (K == 1) = false := by simpa using hK1
        by_cases hK2 : K = 2
        · subst hK2
          have SetF := 12
          cases hc : canSet rest H O id m with
          | false =>
            have HS := hide (set_no_o (w := w5.drew) (hpa.at_ rfl) id m (by omega) hc)
            have HH := hide (And.intro hra (And.intro hoa hba))
            have Hc := hide hc
            have HHl := hide hHl
            clear hpa hra hoa hba his hc
            go_wp2_with fail
            go_region_held3 (fun W => W.cell? ⟨wr.heap.size, 1, none⟩ = some (.int .i64 id) ∧ W.cell? ⟨wr.heap.size, 2, none⟩ = some (.int .i64 m)) (exact ⟨by assumption, by assumption⟩)
              (first
                | (go_at_call 12
                   refine (unhide HS).mono ?_
                   rintro e w6 ⟨rfl, hp6, ho6⟩
                   have hr6 := (HH.out.1.at_ (W := w5.drew) rfl).keep ho6 (by simp) (by simp) (by simp)
                   have HH6 := hide (And.intro (ho6.blk HH.out.2.1.drew (by simp)) (HH.out.2.2.drew.trans (ho6.below HH.out.2.2.size (fun _ h => by cases h))))
                   have oc1 := HH6.out.1.cellv 1 _ rfl
                   have oc2 := HH6.out.1.cellv 2 _ rfl
                   have HP6 := hide hp6
                   have HR6 := hide (set_r_no hr6 id m (by omega) Hc.out)
                   clear hp6 hr6 ho6)
                | (go_at_call 20
                   refine (unhide HR6).mono ?_
                   rintro e w7 ⟨rfl, hr7, ho7⟩
                   have HR7 := hide (And.intro HHl.out (And.intro (HP6.out.keep ho7 (by simp) (by simp) (by simp)) (And.intro hr7 (And.intro (ho7.blk HH6.out.1 (by simp)) (HH6.out.2.trans (ho7.below HH6.out.2.size (fun _ h => by cases h)))))))
                   have oc1 := HR7.out.2.2.2.1.cellv 1 _ rfl
                   have oc2 := HR7.out.2.2.2.1.cellv 2 _ rfl
                   clear hr7 ho7))
            go_wp2_with fail
            go_meet
            exact ⟨_, _, HR7.out⟩
          | true =>
            have HS := hide (set_yes (w := w5.drew) (hpa.at_ rfl) id m (by omega) hc)
            have HH := hide (And.intro hra (And.intro hoa hba))
            have Hc := hide hc
            have HHl := hide hHl
            clear hpa hra hoa hba his hc
            go_wp2_with fail
            go_region_held3 (fun W => W.cell? ⟨wr.heap.size, 1, none⟩ = some (.int .i64 id) ∧ W.cell? ⟨wr.heap.size, 2, none⟩ = some (.int .i64 m)) (exact ⟨by assumption, by assumption⟩)
              (first
                | (go_at_call 12
                   refine (unhide HS).mono ?_
                   rintro e w6 ⟨rfl, hp6, ho6⟩
                   have hr6 := (HH.out.1.at_ (W := w5.drew) rfl).keep ho6 (by simp; omega) (by simp; omega) (by simp; omega)
                   have HH6 := hide (And.intro (ho6.blk HH.out.2.1.drew (by simp; omega)) (HH.out.2.2.drew.trans (ho6.below HH.out.2.2.size (by simp; omega))))
                   have oc1 := HH6.out.1.cellv 1 _ rfl
                   have oc2 := HH6.out.1.cellv 2 _ rfl
                   have HP6 := hide hp6
                   have HR6 := hide (set_r_yes hr6 id m (by omega) Hc.out)
                   clear hp6 hr6 ho6)
                | (go_at_call 20
                   refine (unhide HR6).mono ?_
                   rintro e w7 ⟨rfl, hr7, ho7⟩
                   have HR7 := hide (And.intro (show (H.set id.toNat m).length = n by rw [List.length_set]; exact HHl.out) (And.intro (HP6.out.keep ho7 (by simp; omega) (by simp; omega) (by simp; omega)) (And.intro hr7 (And.intro (ho7.blk HH6.out.1 (by simp; omega)) (HH6.out.2.trans (ho7.below HH6.out.2.size (by simp; omega)))))))
                   have oc1 := HR7.out.2.2.2.1.cellv 1 _ rfl
                   have oc2 := HR7.out.2.2.2.1.cellv 2 _ rfl
                   clear hr7 ho7))
            go_wp2_with fail
            go_meet
            exact ⟨_, _, HR7.out⟩
        have g2 : (K == 2) = false := by simpa using hK2
        by_cases hK3 : K = 3
        · subst hK3
          cases is with
          | false =>
            have HO := hide (close_no hpa id his)
            have HH := hide (And.intro hHl (And.intro hpa (And.intro hra (And.intro hoa hba))))
            clear hpa hra hoa hba his
            go_wp2_with fail
            (with_reducible refine (unhide HO).mono ?_)
            rintro e w6 ⟨rfl, rfl⟩
            go_wp2_with fail
            go_meet
            exact ⟨_, _, HH.out⟩
          | true =>
            obtain ⟨hi0, hi1⟩ := opn_lt his
            obtain ⟨k, hk⟩ : ∃ k : Nat, id = k := ⟨id.toNat, by omega⟩
            subst hk
            have hkO : k < O.length := by omega
            have hkH : k < H.length := by have := hpa.len; omega
            have hr6 := hra
            obtain ⟨x, hx⟩ : ∃ x, x = H[k] := ⟨_, rfl⟩
            have r2 := hr6.bp.cellv 2 (.slice (some ⟨ro, 0, none⟩) H.length H.length) rfl
            have r3 := hr6.bp.cellv 3 (.slice (some ⟨rh, 0, none⟩) H.length H.length) rfl
            have oc1 := hoa.cellv 1 (.int .i64 k) rfl
            have fo := hr6.bo.frozen k
            have fh := hr6.bh.frozen k
            have co := hr6.bo.cellv k (.bool O[k]) (by rw [boolsV_get, List.getElem?_eq_getElem hkO]; rfl)
            have ch := hr6.bh.cellv k (.int .i64 x) (by rw [intsV_get, List.getElem?_eq_getElem hkH, hx]; rfl)
            obtain ⟨ob, hob⟩ : ∃ ob, ob = O[k] := ⟨_, rfl⟩
            rw [← hob] at co
            have hn8' := hr6.few
            have n1 := hr6.apart.1
            have n2 := hr6.apart.2.1
            have n3 := hr6.apart.2.2
            have hkl : (k : Int) < H.length := by omega
            have hk0 : (0 : Int) ≤ (k : Int) := by omega
            have hle : 0 ≤ H[k] := hr6.nonneg _ (List.getElem_mem hkH)
            have fin : RPurse ((w5.setCell ⟨ro, k, none⟩ (.bool false)).setCell ⟨rh, k, none⟩ (.int .i64 0)) r ro rh b rest (H.set k 0) (O.set k false) := by
              have h1 := rpurse_open hr6 k false
              exact rpurse_set h1 k 0 hkH (by omega) (by have := hr6.fits; omega)
            have fst : Only [ro, rh] w5 ((w5.setCell ⟨ro, k, none⟩ (.bool false)).setCell ⟨rh, k, none⟩ (.int .i64 0)) := ((Only.refl _ _).setCell (by simp) _).setCell (by simp) _
            have fp := hpa.keep fst (by simp; omega) (by simp; omega) (by simp; omega)
            have fo2 := fst.blk hoa (by simp; omega)
            have fb := hba.trans (fst.below hba.size (by simp; omega))
            have KS0 := hide (And.intro oc1 (And.intro r2 r3))
            have KS1 := hide (And.intro ((hoa.far (p := ⟨ro, k, none⟩) (show wr.heap.size ≠ ro by omega) (.bool false)).cellv 1 (.int .i64 k) rfl) (And.intro ((rpurse_open hr6 k false).bp.cellv 2 (.slice (some ⟨ro, 0, none⟩) H.length H.length) rfl) ((rpurse_open hr6 k false).bp.cellv 3 (.slice (some ⟨rh, 0, none⟩) H.length H.length) rfl)))
            have KS2 := hide (And.intro (fo2.cellv 1 (.int .i64 k) rfl) (And.intro (by have := fin.bp.cellv 2 (.slice (some ⟨ro, 0, none⟩) (H.set k 0).length (H.set k 0).length) rfl; rw [List.length_set] at this; exact this) (by have := fin.bp.cellv 3 (.slice (some ⟨rh, 0, none⟩) (H.set k 0).length (H.set k 0).length) rfl; rw [List.length_set] at this; exact this)))
            obtain ⟨W2, hW2⟩ : ∃ W2, W2 = (w5.setCell ⟨ro, k, none⟩ (.bool false)).setCell ⟨rh, k, none⟩ (.int .i64 0) := ⟨_, rfl⟩
            rw [← hW2] at fin fp fo2 fb
            have HC := hide (fun W (hW : W.heap = W2.heap) => close_yes (w := W) (fp.at_ hW) k his x (by rw [Int.toNat_natCast, hx]; simp [List.getD, List.getElem?_eq_getElem hkH]))
            have FF := hide (And.intro hHl (And.intro fin (And.intro fo2 fb)))
            have HW2 := hide hW2
            clear hpa hra hoa hba hr6 fin fst fp fo2 fb hob his hx hi0 hi1 hle hW2 hHl
            go_wp2_with fail
            go_quiet (fail)
            go_wp2_with fail
            go_region_held3 (fun W => W.cell? ⟨wr.heap.size, 1, none⟩ = some (.int .i64 k) ∧ W.cell? ⟨r, 2, none⟩ = some (.slice (some ⟨ro, 0, none⟩) H.length H.length) ∧ W.cell? ⟨r, 3, none⟩ = some (.slice (some ⟨rh, 0, none⟩) H.length H.length)) (first | exact KS0.out | exact KS1.out | exact KS2.out) (fail)
            go_wp2_with (go_at_call 17; refine (unhide HC _ (by rw [HW2.out]; rfl)).mono ?_; rintro e w7 ⟨rfl, hp7, ho7⟩)
            have hr7 := (FF.out.2.1.at_ (by rw [HW2.out]; rfl)).keep ho7 (by simp; omega) (by simp; omega) (by simp; omega)
            have hb5 := FF.out.2.2.2
            have ho5 := FF.out.2.2.1
            have hhl := FF.out.1
            rw [HW2.out] at hb5 ho5
            go_meet
            exact ⟨_, _, by rw [List.length_set]; exact hhl, hp7, hr7, ho7.blk ho5 (by simp; omega), Below.trans (by exact ⟨hb5.os, hb5.tape, hb5.output, hb5.size, hb5.block⟩) (ho7.below hb5.size (by simp; omega))⟩
        have g3 : (K == 3) = false := by simpa using hK3
        have HH := hide (And.intro hHl (And.intro hpa (And.intro hra (And.intro hoa hba))))
        clear hpa hra hoa hba
        go_wp2_with fail
        go_meet
        exact ⟨_, _, HH.out⟩
      case rest =>
        obtain ⟨H5, O5, hHl5, hp5, hr5, ho5, hb5⟩ := hcut
        clear hpa hra hoa hba oc0 oc1 oc2 his hHl
        have oc1 := ho5.cellv 1 _ rfl
        obtain ⟨x, hx⟩ : ∃ x, x = hasOf H5 O5 id := ⟨_, rfl⟩
        obtain ⟨y, hy⟩ : ∃ y, y = leftOf rest H5 O5 id := ⟨_, rfl⟩
        obtain ⟨t, ht⟩ : ∃ t, t = total H5 := ⟨_, rfl⟩
        obtain ⟨s, hs⟩ : ∃ s, s = rest - overs H5 := ⟨_, rfl⟩
        have Hx := hide hx
        have Hy := hide hy
        have Ht := hide ht
        have Hs := hide hs
        have ht1 : ¬ (b < t) := by
          have h1 := total_le H5; have h2 := hp5.fits; have h3 := hr5.bud
          omega
        have hs1 : ¬ (s < 0) := by
          have h2 := hp5.fits
          omega
        obtain ⟨is5, his5⟩ : ∃ is5, opn O5 id = is5 := ⟨_, rfl⟩
        have HI5 := hide (is_r hr5 id is5 his5)
        have His5 := hide his5
        have HP5 := hide hp5
        have HR5 := hide hr5
        have HB5 := hide hb5
        have HO5 := hide ho5
        clear hp5 hr5 hb5 ho5 hx hy ht hs his5
        go_wp2_with fail
        (with_reducible refine (unhide HI5).mono ?_)
        rintro e w6 ⟨rfl, rfl⟩
        go_upto_if 133 with fail
        go_cut [14] (fun s14 wx => s14 = .int .i64 x ∧ Purse wx p qh qo rest H5 O5 ∧ RPurse wx r ro rh b rest H5 O5 ∧ Blk wx wr.heap.size 37 #[.int .i64 K, .int .i64 id, .int .i64 m] ∧ Below w.heap.size w wx)
        case first =>
          cases is5 with
          | false =>
            go_wp2_with fail
            go_meet
            exact ⟨by rw [Hx.out, hasOf, His5.out]; rfl, HP5.out, HR5.out, HO5.out, HB5.out⟩
          | true =>
            have his5 := His5.out
            have hp5 := HP5.out
            have hr5 := HR5.out
            have hx := Hx.out
            obtain ⟨hi0, hi1⟩ := opn_lt his5
            obtain ⟨k, hk⟩ : ∃ k : Nat, id = k := ⟨id.toNat, by omega⟩
            have hk2 : k < H5.length := by have := hp5.len; omega
            have hx0 : H5[k] = x := by rw [hx, hasOf, his5, hk]; simp [List.getD, List.getElem?_eq_getElem hk2]
            have r3 := hr5.bp.cellv 3 _ rfl
            have rc := hr5.bh.cellv k (.int .i64 x) (by rw [intsV_get, List.getElem?_eq_getElem hk2, ← hx0]; rfl)
            have hkl : (k : Int) < H5.length := by omega
            have hf5 := hp5.few
            clear hp5 hr5 hx hx0 hi0 hi1 his5
            subst hk
            go_wp2_with fail
            go_quiet (fail)
            go_wp2_with fail
            go_meet
            exact ⟨rfl, HP5.out.drewN _, HR5.out.drewN _, HO5.out.drewN _, below_drewN HB5.out _⟩
        case rest =>
          obtain ⟨rfl, hp5, hr5, ho5, hb5⟩ := hcut
          have oc1 := ho5.cellv 1 _ rfl
          have HH := hide (fun W (hW : W.heap = wc.heap) => has_any (w := W) (hp5.at_ hW) id x Hx.out)
          have HL := hide (fun W (hW : W.heap = wc.heap) => left_any (w := W) (hp5.at_ hW) id y Hy.out)
          have HT := hide (fun W (hW : W.heap = wc.heap) => total_any (w := W) (hp5.at_ hW) t Ht.out)
          have HS := hide (fun W (hW : W.heap = wc.heap) => shared_any (w := W) (hp5.at_ hW) s Hs.out)
          have HLr := hide (fun W (hW : W.heap = wc.heap) => left_r (w := W) (hr5.at_ hW) id y Hy.out)
          have HTr := hide (fun W (hW : W.heap = wc.heap) => total_r (w := W) (hr5.at_ hW) t Ht.out)
          have HSr := hide (fun W (hW : W.heap = wc.heap) => shared_r (w := W) (hr5.at_ hW) s Hs.out)
          have HP5 := hide hp5
          have HR5 := hide hr5
          have HB5 := hide hb5
          clear hp5 hr5 hb5 ho5
          go_wp2_with fail
          go_quiet ((first
            | (go_at_call 15; exact Calls.quiet_of_same (unhide HH _ rfl))
            | (go_at_call 16; exact Calls.quiet_of (unhide HL _ rfl))
            | (go_at_call 13; exact Calls.quiet_of_same (unhide HT _ rfl))
            | (go_at_call 14; exact Calls.quiet_of_same (unhide HS _ rfl))
            | (go_at_call 21; exact Calls.quiet_of (unhide HLr _ rfl))
            | (go_at_call 22; exact Calls.quiet_of_same (unhide HTr _ rfl))
            | (go_at_call 23; exact Calls.quiet_of (unhide HSr _ rfl))))
          go_wp2_with fail
          go_roundg (gk - 1)
          case measure => omega
          case rel => exact ⟨j + 1, H5, O5, by go_num, by omega, hHl5, (HP5.out.drewN _), (HR5.out.drewN _), below_drewN HB5.out _⟩
    · clear hp hr
      go_wp2_with (first | (go_at_call 11; refine (open_nil _ _).mono ?_; rintro e w' ⟨rfl, rfl⟩) | (go_at_call 12; refine (set_nil _ _ _).mono ?_; rintro e w' ⟨rfl, k9, rfl⟩) | (go_at_call 17; refine (close_nil _ _).mono ?_; rintro e w' ⟨rfl, rfl⟩) | (go_at_call 15; refine (has_nil _ _).mono ?_; rintro e w' ⟨rfl, rfl⟩) | (go_at_call 16; refine (left_nil _ _).mono ?_; rintro e w' ⟨rfl, rfl⟩) | (go_at_call 13; refine (total_nil _).mono ?_; rintro e w' ⟨rfl, rfl⟩) | (go_at_call 14; refine (shared_nil _).mono ?_; rintro e w' ⟨rfl, rfl⟩))
      go_ret
      exact ⟨rfl, below_drewN hb _⟩
end Go.Proofs.Ytgdjdldjdhoeiaa
