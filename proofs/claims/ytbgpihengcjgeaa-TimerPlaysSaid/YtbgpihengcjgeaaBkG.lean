/-
  truchmanbook's Book: the kinds of which there is no list; Apart; the book as a law sees it.
-/
import Derived.Test.YtbgpihengcjgeaaBkF
namespace Go.Proofs.Ytbgpihengcjgeaa
open Go.RowKit

set_option maxRecDepth 100000 in
theorem still_texts {w : World} {p : Nat} (c : w.cell? ⟨p, 0, none⟩ = some (.slice none 0 0)) : Calls Try.prog 21 #[.pointer (some ⟨p, 0, none⟩)] w fun e w' => e = .returned (.bool true) ∧ w' = w := by
  go_enter Try.func21, Try.ntmps21
  go_wp2_with fail
  go_loopg [3] 0 (fun g s3 wr => s3 = .int .i64 0 ∧  wr = w)
  case atStart => exact ⟨rfl,  rfl⟩
  case round =>
    obtain ⟨rfl,  rfl⟩ := hrel
    go_wp2_with fail
    (go_ret; exact ⟨rfl, rfl⟩)
set_option maxRecDepth 100000 in
theorem still_evs {w : World} {p : Nat} (c : w.cell? ⟨p, 4, none⟩ = some (.slice none 0 0)) : Calls Try.prog 23 #[.pointer (some ⟨p, 0, none⟩)] w fun e w' => e = .returned (.bool true) ∧ w' = w := by
  go_enter Try.func23, Try.ntmps23
  go_wp2_with fail
  go_loopg [3] 0 (fun g s3 wr => s3 = .int .i64 0 ∧  wr = w)
  case atStart => exact ⟨rfl,  rfl⟩
  case round =>
    obtain ⟨rfl,  rfl⟩ := hrel
    go_wp2_with fail
    (go_ret; exact ⟨rfl, rfl⟩)
set_option maxRecDepth 100000 in
theorem put_texts {w : World} {p : Nat} (c : w.cell? ⟨p, 0, none⟩ = some (.slice none 0 0)) : Calls Try.prog 24 #[.pointer (some ⟨p, 0, none⟩)] w fun e w' => e = .returned (.tuple #[]) ∧ w' = w := by
  go_enter Try.func24, Try.ntmps24
  go_wp2_with fail
  go_loopg [2, 3, 4] 0 (fun g s2 s3 s4 wr => s2 = .int .i64 0 ∧  wr = w)
  case atStart => exact ⟨rfl,  rfl⟩
  case round =>
    obtain ⟨rfl,  rfl⟩ := hrel
    go_wp2_with fail
    exact bodyPost_end (results_none rfl _ _ _) rfl ⟨rfl, rfl⟩
set_option maxRecDepth 100000 in
theorem put_evs {w : World} {p : Nat} (c : w.cell? ⟨p, 4, none⟩ = some (.slice none 0 0)) : Calls Try.prog 26 #[.pointer (some ⟨p, 0, none⟩)] w fun e w' => e = .returned (.tuple #[]) ∧ w' = w := by
  go_enter Try.func26, Try.ntmps26
  go_wp2_with fail
  go_loopg [2, 3, 4] 0 (fun g s2 s3 s4 wr => s2 = .int .i64 0 ∧  wr = w)
  case atStart => exact ⟨rfl,  rfl⟩
  case round =>
    obtain ⟨rfl,  rfl⟩ := hrel
    go_wp2_with fail
    exact bodyPost_end (results_none rfl _ _ _) rfl ⟨rfl, rfl⟩
set_option maxRecDepth 100000 in
theorem grow_texts {w : World} {p : Nat} (c : w.cell? ⟨p, 0, none⟩ = some (.slice none 0 0)) : Calls Try.prog 27 #[.pointer (some ⟨p, 0, none⟩)] w fun e w' => e = .returned (.slice none 0 0) ∧ w' = w := by
  go_enter Try.func27, Try.ntmps27
  go_wp2_with fail
  go_loopg [3, 4, 5, 6] 0 (fun g s3 s4 s5 s6 wr => s4 = .int .i64 0 ∧ s3 = .slice none 0 0 ∧ wr = w)
  case atStart => exact ⟨rfl, rfl, rfl⟩
  case round =>
    obtain ⟨rfl, rfl, rfl⟩ := hrel
    go_wp2_with fail
    (go_ret; exact ⟨rfl, rfl⟩)
set_option maxRecDepth 100000 in
theorem grow_evs {w : World} {p : Nat} (c : w.cell? ⟨p, 4, none⟩ = some (.slice none 0 0)) : Calls Try.prog 29 #[.pointer (some ⟨p, 0, none⟩)] w fun e w' => e = .returned (.slice none 0 0) ∧ w' = w := by
  go_enter Try.func29, Try.ntmps29
  go_wp2_with fail
  go_loopg [3, 4, 5, 6] 0 (fun g s3 s4 s5 s6 wr => s4 = .int .i64 0 ∧ s3 = .slice none 0 0 ∧ wr = w)
  case atStart => exact ⟨rfl, rfl, rfl⟩
  case round =>
    obtain ⟨rfl, rfl, rfl⟩ := hrel
    go_wp2_with fail
    (go_ret; exact ⟨rfl, rfl⟩)
set_option maxRecDepth 100000 in
theorem marked_texts (w : World) : Calls Try.prog 30 #[.slice none 0 0] w fun e w' => e = .returned (.bool true) ∧ w' = w := by
  go_enter Try.func30, Try.ntmps30
  go_wp2_with fail
  go_loopg [3] 0 (fun g s3 wr => s3 = .int .i64 0 ∧ wr = w)
  case atStart => exact ⟨rfl, rfl⟩
  case round =>
    obtain ⟨rfl, rfl⟩ := hrel
    go_wp2_with fail
    go_ret
    exact ⟨rfl, rfl⟩
set_option maxRecDepth 100000 in
theorem marked_evs (w : World) : Calls Try.prog 32 #[.slice none 0 0] w fun e w' => e = .returned (.bool true) ∧ w' = w := by
  go_enter Try.func32, Try.ntmps32
  go_wp2_with fail
  go_loopg [3] 0 (fun g s3 wr => s3 = .int .i64 0 ∧ wr = w)
  case atStart => exact ⟨rfl, rfl⟩
  case round =>
    obtain ⟨rfl, rfl⟩ := hrel
    go_wp2_with fail
    go_ret
    exact ⟨rfl, rfl⟩

theorem ListsI.shows {w : World} {B p : Nat} {vi vw : Value} {L : List (Value × List Int)} (h : ListsI w B p vi vw L) : GrownI w B B vi L :=
  ⟨h.si, fun x hx => ⟨(h.own x hx).1, by have := (h.own x hx).2; omega⟩⟩
set_option maxRecDepth 100000 in
set_option maxHeartbeats 1000000 in
theorem apart_book {w : World} {B p : Nat} {vi vw : Value} {L : List (Value × Value × List Int)} (h : BookI w B p vi vw L) :
    Calls Try.prog 17 #[.pointer (some ⟨p, 0, none⟩)] w fun e w' => e = .returned (.bool true) ∧ Below B w w' := by
  have H := hide h
  have HST := hide (still_texts (h.blk.cellv 0 _ rfl))
  have HSI := hide (still_ints h)
  clear h
  go_enter Try.func17, Try.ntmps17
  go_wp2_with fail
  (with_reducible refine (unhide HST).mono ?_)
  rintro e1 w1 ⟨rfl, hw1⟩
  subst hw1
  clear HST
  go_wp2_with fail
  (with_reducible refine (unhide HSI).mono ?_)
  rintro e2 w2 ⟨rfl, nd, rfl⟩
  have h2 : BookI (w1.drewN nd) B p vi vw L := H.out.below (below_drewN (Below.refl _ _) nd)
  have HB2 : Hid (Below B w1 (w1.drewN nd)) := hide (below_drewN (Below.refl _ _) nd)
  obtain ⟨w2, hw2⟩ : ∃ w2, w2 = w1.drewN nd := ⟨_, rfl⟩
  rw [← hw2] at h2 HB2 ⊢
  have HSE := hide (still_evs (h2.blk.cellv 4 _ rfl))
  have HPT := hide (put_texts (h2.blk.cellv 0 _ rfl))
  have HPI := hide (put_ints h2.lists)
  clear HSI H hw2 h2
  go_wp2_with fail
  (with_reducible refine (unhide HSE).mono ?_)
  rintro e3 w3 ⟨rfl, hw3⟩
  subst hw3
  go_wp2_with fail
  (with_reducible refine (unhide HPT).mono ?_)
  rintro e4 w4 ⟨rfl, hw4⟩
  subst hw4
  go_wp2_with fail
  (with_reducible refine (unhide HPI).mono ?_)
  rintro e5 w5 ⟨rfl, L5, hl5, hn5, hm5, hb5⟩
  rw [← hn5] at hm5
  have HPE := hide (put_evs (hl5.blk.cellv 4 _ rfl))
  have HGT := hide (grow_texts (hl5.blk.cellv 0 _ rfl))
  have HGI := hide (grow_ints hl5 hm5)
  have HB5 := hide (HB2.out.trans hb5)
  have HM5 := hide hm5
  have HL5 := hide hl5.len
  clear HSE HPT HPI hl5 hn5 hm5 hb5 HB2
  go_wp2_with fail
  (with_reducible refine (unhide HPE).mono ?_)
  rintro e6 w6 ⟨rfl, hw6⟩
  subst hw6
  go_wp2_with fail
  (with_reducible refine (unhide HGT).mono ?_)
  rintro e7 w7 ⟨rfl, hw7⟩
  subst hw7
  go_wp2_with fail
  (with_reducible refine (unhide HGI).mono ?_)
  rintro e8 w8 ⟨vg, G, rfl, hl8, hg8, hn8, hm8, hb8⟩
  have HGE := hide (grow_evs (hl8.blk.cellv 4 _ rfl))
  have HMT := fun W => hide (marked_texts W)
  have HME := fun W => hide (marked_evs W)
  have HMG := hide (marked_ints hg8 hm8 (by rw [hn8]; exact HL5.out))
  have HMI := fun W (hW : Below w8.heap.size w8 W) => hide (marked_ints (hl8.below hW).shows HM5.out HL5.out)
  have HB8 := hide (HB5.out.trans hb8)
  have HL8 := hide hl8
  have hpl := hl8.blk.lt
  have hBl : B ≤ w8.heap.size := by have := hl8.pB; omega
  have c0 := hl8.blk.cellv 0 _ rfl
  obtain ⟨ag, cg, hfg⟩ := hg8.s.form
  obtain ⟨gl, hgl⟩ : ∃ gl, gl = G.length := ⟨_, rfl⟩
  rw [← hgl] at hfg
  subst hfg
  clear HPE HGT HGI hl8 hg8 hn8 hm8 hb8 hgl
  go_wp2_with fail
  (with_reducible refine (unhide HGE).mono ?_)
  rintro e9 w9 ⟨rfl, hw9⟩
  subst hw9
  clear HGE
  go_wp2_with fail
  (with_reducible refine (unhide (HMT _)).mono ?_)
  rintro e10 w10 ⟨rfl, hw10⟩
  subst hw10
  go_wp2_with fail
  (with_reducible refine (unhide (HMT _)).mono ?_)
  rintro e11 w11 ⟨rfl, hw11⟩
  subst hw11
  clear HMT
  go_wp2_with fail
  (with_reducible refine (unhide HMG).mono ?_)
  rintro e12 w12 ⟨rfl, hb12⟩
  have l12 := HL8.out.below hb12
  have c12 := l12.blk.cellv 2 _ rfl
  have H12 := HMI _ hb12
  have HB12 := hide hb12
  clear HMG hb12 c0 HMI
  go_wp2_with fail
  (with_reducible refine (unhide H12).mono ?_)
  rintro e13 w13 ⟨rfl, hb13⟩
  have HB13 := hide (HB12.out.trans (hb13.mono HB12.out.size))
  have l13 := HL8.out.below HB13.out
  have c13 := l13.blk.cellv 4 _ rfl
  clear H12 hb13 c12 HB12 l12 l13
  go_wp2_with fail
  (with_reducible refine (unhide (HME _)).mono ?_)
  rintro e14 w14 ⟨rfl, hw14⟩
  subst hw14
  go_wp2_with fail
  (with_reducible refine (unhide (HME _)).mono ?_)
  rintro e15 w15 ⟨rfl, hw15⟩
  subst hw15
  go_wp2_with fail
  go_ret
  exact ⟨rfl, HB8.out.trans (HB13.out.mono hBl)⟩

/-- A book at p, of blocks F, from B on. -/
def Bk (w : World) (B p : Nat) (F : List Nat) : Prop := ∃ vi vw L, BookI w B p vi vw L ∧ F = foot p vi vw L
theorem Bk.lt {w : World} {B p : Nat} {F : List Nat} (h : Bk w B p F) : ∀ k ∈ F, B ≤ k ∧ k < w.heap.size := by
  obtain ⟨vi, vw, L, h, rfl⟩ := h
  exact h.lt
theorem Bk.keep {w w' : World} {B p : Nat} {F S : List Nat} (h : Bk w B p F) (ho : Only S w w') (hS : ∀ k ∈ F, k ∉ S) : Bk w' B p F := by
  obtain ⟨vi, vw, L, h, rfl⟩ := h
  exact ⟨vi, vw, L, h.keep ho hS, rfl⟩
theorem Bk.below {w w' : World} {B p : Nat} {F : List Nat} (h : Bk w B p F) (hb : Below w.heap.size w w') : Bk w' B p F := h.keep (Only.of_below hb []) (fun k _ => by simp)
theorem Bk.new {w : World} {B p : Nat} (h : Blk w p 41 #[.slice none 0 0, .slice none 0 0, .slice none 0 0, .slice none 0 0, .slice none 0 0, .slice none 0 0]) (hB : B ≤ p) : Bk w B p [p] :=
  ⟨.slice none 0 0, .slice none 0 0, [], ⟨hB, h, SlN.nil _ _ _ _, SlN.nil _ _ _ _, fun x hx => (by cases hx), List.Pairwise.nil, fun k hk => (by simp [slB] at hk), (by simp)⟩, (by simp [foot, slB])⟩
theorem ints_Bk {w : World} {B p : Nat} {F : List Nat} (h : Bk w B p F) {v : Value} {xs : List Int} (hx : LIs w B v xs) (hxl : xs.length ≤ 1000) (hd : ∀ k ∈ slB v, k ∉ F) :
    Calls Try.prog 14 #[.pointer (some ⟨p, 0, none⟩), v] w fun e w' => e = .returned (.tuple #[]) ∧ ∃ F', Bk w' B p F' ∧ Only F w w' ∧ ∀ k ∈ F', k ∈ F ∨ k ∈ slB v ∨ w.heap.size ≤ k := by
  obtain ⟨vi, vw, L, h, rfl⟩ := h
  by_cases hl : L.length < 250
  · refine (ints_more h hx hxl hd hl).mono fun e w' ⟨he, vi', vw', L', h1, h2, h3⟩ => ⟨he, _, ⟨vi', vw', L', h1, rfl⟩, h2, h3⟩
  · refine (ints_full h v hl).mono fun e w' ⟨he, hw⟩ => ?_
    subst hw
    exact ⟨he, _, ⟨vi, vw, L, h, rfl⟩, Only.refl _ _, fun k hk => .inl hk⟩
theorem apart_Bk {w : World} {B p : Nat} {F : List Nat} (h : Bk w B p F) :
    Calls Try.prog 17 #[.pointer (some ⟨p, 0, none⟩)] w fun e w' => e = .returned (.bool true) ∧ Below B w w' := by
  obtain ⟨vi, vw, L, h, rfl⟩ := h
  exact apart_book h
end Go.Proofs.Ytbgpihengcjgeaa
