/- The chapter's example holds. -/
import Derived.Test.YtgiegiobigdplaaVnAd
namespace Go.Proofs.Ytgiegiobigdplaa
open Go Go.RowKit
attribute [local go_sem ↓] Go.wp_at_zero Go.wp_at_succ
set_option maxRecDepth 100000
set_option linter.unusedSimpArgs false
set_option linter.unusedVariables false

/-- the example's state: one frame, in a block of its own -/
def KAt (w0 w : World) (gC gP g : Nat) (f : List UInt8) (d : Nat) (Wi : List (List UInt8)) : Prop :=
  ∃ gm F, Pl w w0.heap.size gm 6232 2 gC gP d F Wi [] ∧ Blk w g 5 (f.map u8v) ∧ ¬ F g ∧ Below w0.heap.size w0 w
theorem k_step {w0 w w' : World} {gC gP gm d d' g : Nat} {f : List UInt8} {F : Nat → Prop} {Wi Wi' : List (List UInt8)} (h : Pl w w0.heap.size gm 6232 2 gC gP d F Wi []) (hb : Blk w g 5 (f.map u8v)) (hg : ¬ F g) (hw : Below w0.heap.size w0 w)
    {F' : Nat → Prop} (h' : Pl w' w0.heap.size gm 6232 2 gC gP d' F' Wi' []) (hf : Frame F w w') (hF : ∀ k, F' k → F k ∨ w.heap.size ≤ k) : KAt w0 w' gC gP g f d' Wi' :=
  ⟨gm, F', h', hf.blk hb hg, fun e => (hF g e).elim hg (fun e2 => by have := hb.lt; omega), hw.trans (hf.below h.lo hw.size)⟩
theorem k_drew {w0 w : World} {gC gP g d : Nat} {f : List UInt8} {Wi : List (List UInt8)} (h : KAt w0 w gC gP g f d Wi) : KAt w0 w.drew gC gP g f d Wi := by
  obtain ⟨gm, F, hp, hb, hg, hbw⟩ := h
  exact ⟨gm, F, hp.keep (below_drew w), hb.drew, hg, hbw.drew⟩
theorem k_below {w0 w : World} {gC gP g d : Nat} {f : List UInt8} {Wi : List (List UInt8)} (h : KAt w0 w gC gP g f d Wi) : Below w0.heap.size w0 w := by
  obtain ⟨gm, F, hp, hb, hg, hbw⟩ := h
  exact hbw
theorem k_deliver {w0 w : World} {gC gP g d : Nat} {f : List UInt8} {Wi : List (List UInt8)} (h : KAt w0 w gC gP g f d Wi) (hl : f.length = 60) (hw : Wi.length < 2) :
    Calls Try.prog 19 #[.pointer (some ⟨gP, 0, none⟩), .slice (some ⟨g, 0, none⟩) 60 60] w fun e w' => e = .returned (.int .i64 0) ∧ KAt w0 w' gC gP g f d (Wi ++ [f]) := by
  obtain ⟨gm, F, hp, hb, hg, hbw⟩ := h
  have hbs := fun w' hf => blk_bs (w' := w') hb hg (by omega) hf
  rw [hl] at hbs
  refine (pl_deliver hp hbs (by omega) (by omega) hw).mono ?_
  rintro e w' ⟨rfl, F', h', hf, hF⟩
  exact ⟨rfl, k_step hp hb hg hbw h' hf hF⟩
theorem k_full {w0 w : World} {gC gP g d : Nat} {f : List UInt8} {Wi : List (List UInt8)} (h : KAt w0 w gC gP g f d Wi) (hl : f.length = 60) (hw : Wi.length = 2) :
    Calls Try.prog 19 #[.pointer (some ⟨gP, 0, none⟩), .slice (some ⟨g, 0, none⟩) 60 60] w fun e w' => e = .returned (.int .i64 7) ∧ KAt w0 w' gC gP g f d Wi := by
  obtain ⟨gm, F, hp, hb, hg, hbw⟩ := h
  have hbs := fun w' hf => blk_bs (w' := w') hb hg (by omega) hf
  rw [hl] at hbs
  refine (pl_dfull hp hbs (by omega) (by omega) hw).mono ?_
  rintro e w' ⟨rfl, F', h', hf, hF⟩
  exact ⟨rfl, k_step hp hb hg hbw h' hf hF⟩
theorem k_bs {w0 w : World} {gC gP g d : Nat} {f : List UInt8} {Wi : List (List UInt8)} (h : KAt w0 w gC gP g f d Wi) (hl : f.length = 60) : Bs w (.slice (some ⟨g, 0, none⟩) 60 60) f := by
  obtain ⟨gm, F, hp, hb, hg, hbw⟩ := h
  have hbs := blk_bs (w' := w) hb hg (by omega) (Frame.refl F w)
  rw [hl] at hbs
  exact hbs
/-- the two that came in: they stay -/
def KR (w0 w : World) (gC gP g : Nat) (f : List UInt8) (d : Nat) (p : Addr) (x : Value) : Prop :=
  ∃ gm F, Pl w w0.heap.size gm 6232 2 gC gP d F [] [] ∧ Blk w g 5 (f.map u8v) ∧ ¬ F g ∧ Below w0.heap.size w0 w ∧ ∀ w', Frame F w w' → w'.cell? p = some x ∧ Bs w' x f
theorem KR.at_ {w0 w : World} {gC gP g d : Nat} {f : List UInt8} {p : Addr} {x : Value} (h : KR w0 w gC gP g f d p x) : KAt w0 w gC gP g f d [] := by
  obtain ⟨gm, F, hp, hb, hg, hbw, _⟩ := h
  exact ⟨gm, F, hp, hb, hg, hbw⟩
theorem KR.cell {w0 w : World} {gC gP g d : Nat} {f : List UInt8} {p : Addr} {x : Value} (h : KR w0 w gC gP g f d p x) : w.cell? p = some x ∧ Bs w x f := by
  obtain ⟨gm, F, hp, hb, hg, hbw, hs⟩ := h
  exact hs w (Frame.refl _ _)
theorem k_receive {w0 w : World} {gC gP g d : Nat} {f : List UInt8} (h : KAt w0 w gC gP g f d [f, f]) (hl : f.length = 60) (hd : d < 900000000) :
    Calls Try.prog 17 #[.pointer (some ⟨gC, 0, none⟩)] w fun e w' => ∃ gr off cap x cx, e = .returned (.slice (some ⟨gr, off, none⟩) 2 cap) ∧ KR w0 w' gC gP g f (d + 65536) ⟨gr, off, none⟩ (.slice x 60 cx) := by
  obtain ⟨gm, F, hp, hb, hg, hbw⟩ := h
  refine (pl_receive hp hd).mono ?_
  rintro e w' ⟨v, F', rfl, h', hf, hF, vs, ho, hn, hi⟩
  have hvs : vs.length = 2 := by have := ho.1; simpa using this
  obtain ⟨_, A, cap, rfl, _, _, h0⟩ := RowN.of_own ho
  rcases h0 with h0 | ⟨b, off, rfl, hc⟩
  · simp at h0
  obtain ⟨x, hx⟩ : ∃ x, vs[0]? = some x := ⟨_, List.getElem?_eq_getElem (by omega)⟩
  obtain ⟨hx1, hx2⟩ := hi 0 x f hx rfl
  obtain ⟨X, cx, rfl⟩ := slice_len hx1.bs rfl
  rw [hl] at hx1 hx2 hx
  have hcx := hc 0 _ hx
  refine ⟨b, off, cap, X, cx, rfl, gm, F', h', hf.blk hb hg, fun e => (hF g e).elim hg (fun e2 => by have := hb.lt; omega), hbw.trans (hf.below hp.lo hbw.size), fun w'' hf'' => ⟨?_, OwnBs.bs (hf''.own hx1 (fun g hg' => (hx2 g hg').1))⟩⟩
  rw [World.cell?_of_block (hf''.block b (World.ownsRow.lt ho b rfl).2 (hn b rfl))]
  exact hcx
theorem kr_deliver {w0 w : World} {gC gP g d : Nat} {f : List UInt8} {p : Addr} {x : Value} (h : KR w0 w gC gP g f d p x) (hl : f.length = 60) :
    Calls Try.prog 19 #[.pointer (some ⟨gP, 0, none⟩), .slice (some ⟨g, 0, none⟩) 60 60] w.drew fun e w' => e = .returned (.int .i64 0) ∧ KAt w0 w' gC gP g f d [f] ∧ w'.cell? p = some x ∧ Bs w' x f := by
  obtain ⟨gm, F, hp, hb, hg, hbw, hs⟩ := h
  have hbs := fun w' hf => blk_bs (w' := w') (w := w.drew) hb.drew hg (by omega) hf
  rw [hl] at hbs
  refine (pl_deliver (hp.keep (below_drew w)) hbs (by omega) (by omega) (Nat.zero_lt_succ 1)).mono ?_
  rintro e w' ⟨rfl, F', h', hf, hF⟩
  exact ⟨rfl, k_step (hp.keep (below_drew w)) hb.drew hg hbw.drew h' hf hF, hs w' (Frame.trans (Go.Proofs.Ytgiegiobigdplaa.Below.frameF (below_drew w) F) hf (fun _ _ e => e))⟩
set_option maxHeartbeats 4000000 in
theorem known_any (w : World) : Calls Try.prog 7 #[] w fun e w' => e = .returned (.bool true) ∧ Below w.heap.size w w' := by
  have hA := fun wy => varea_any 2 wy
  rw [show vAreaI 2 = 6232 from rfl] at hA
  have HA := hid hA
  have hmk := run_make8 u8ok .i64 .i64 6232 6232 rfl (by decide)
  have HM1 := hid (mem_zero8 w 6232)
  have HB1 := hid (below_alloc w (.cells (zero8 6232) 5))
  have hok : okN ((2 : Nat) : Int) = true := by decide
  have hfit : vFits 6232 ((0 : Nat) : Int) ((2 : Nat) : Int) = true := fits_of hok (by decide)
  have HC := hid (show Calls Try.prog 10 #[.slice (some ⟨w.heap.size, 0, none⟩) 6232 6232, .int .i64 0, .int .i64 2] _ _ from
    vnewcard_yes w.heap.size w.heap.size 6232 0 2 (zeros 6232) _ hfit (by decide) (zeros_len _) HM1.out HB1.out.size)
  have Hfit := hid hfit
  clear hA hok hfit
  go_enter Try.func7, Try.ntmps7
  go_upto_region 3 with (first
    | (go_at_call 8; refine (HA.out _).mono ?_; rintro e w' ⟨rfl, hw⟩; have hw := hw.symm; subst hw)
    | (go_at_call 10; (with_reducible refine HC.out.mono ?_); rintro e w2 ⟨gC, I, rfl, hc, hf, hn⟩; have C2 := hid hc; have F2 := hid hf; clear hc hf hn))
  have K2 := hid (show Below w.heap.size w w2 from HB1.out.trans (F2.out.below (fun k e => by omega) HB1.out.size))
  have HP := hid (show Calls Try.prog 12 #[.slice (some ⟨w.heap.size, 0, none⟩) 6232 6232, .int .i64 0, .int .i64 2] _ _ from
    vnewport_yes w.heap.size w.heap.size 6232 0 2 _ w2 Hfit.out (by decide) C2.out.len C2.out.mem K2.out.size)
  clear HM1 HB1 F2 hmk HC
  go_upto_region 4 with (go_at_call 12; (with_reducible refine HP.out.mono ?_); rintro e w3 ⟨gP, gdi, gdo, rfl, hp, hb, hn⟩; have P3 := hid (pl_start C2.out hp hb hn Hfit.out (zeros_len _) (by decide) (Nat.le_refl _)); have K3 := hid (K2.out.trans (hb.mono K2.out.size)); clear hp hb hn)
  have hmk := run_make8 u8ok .i64 .i64 60 60 rfl (by decide)
  have B4 := hid (mem_zero8 w3 60)
  have L4 := hid (below_alloc w3 (.cells (zero8 60) 5))
  have K4 := hid (show KAt w (w3.alloc (.cells (zero8 60) 5)) gC gP w3.heap.size (zeros 60) 2 [] from ⟨_, _, P3.out.keep L4.out, B4.out, fun e => by have := P3.out.bd _ e; omega, K3.out.trans (L4.out.mono K3.out.size)⟩)
  have Hl := hid (zeros_len 60)
  clear B4 L4 P3 K3 K2 HP C2
  go_upto_region 7 with fail
  generalize zeros 60 = f at *
  generalize w3.alloc (.cells (zero8 60) 5) = w4 at *
  generalize w3.heap.size = g at *
  clear hmk
  go_upto_region 8 with (first
    | (go_at_call 19; (with_reducible refine (k_deliver K4.out Hl.out (by decide)).mono ?_); rintro e w5 ⟨rfl, hk⟩; have K5 := hid (show KAt w w5 gC gP g f 2 [f] from hk); clear hk K4)
    | (go_at_call 19; (refine (k_deliver K5.out Hl.out (Nat.lt_add_one 1)).mono ?_); rintro e w6 ⟨rfl, hk⟩; have K6 := hid (show KAt w w6 gC gP g f 2 [f, f] from hk); clear hk K5)
    | (go_at_call 19; (refine (k_full K6.out Hl.out rfl).mono ?_); rintro e w7 ⟨rfl, hk⟩; have K7 := hid hk; clear hk K6))
  go_upto_region 9 with (go_at_call 17; (with_reducible refine (k_receive K7.out Hl.out (by decide)).mono ?_); rintro e w8 ⟨gr, off, cap, x, cx, rfl, hk⟩; have K8 := hid hk; clear hk K7)
  go_region_held3 (fun wy => wy.cell? ⟨gr, off, none⟩ = some (.slice x 60 cx) ∧ Sem.run Try.prog (convert 25 9 (.slice x 60 cx)) wy = .ok (.string (mkStr f)) wy ∧ Sem.run Try.prog (convert 25 9 (.slice (some ⟨g, 0, none⟩) 60 60)) wy = .ok (.string (mkStr f)) wy) (first | exact ⟨K8.out.cell.1, run_str Try.underlying25 Try.underlying5 Try.underlying9 K8.out.cell.2.drew, run_str Try.underlying25 Try.underlying5 Try.underlying9 (k_bs K8.out.at_ Hl.out).drew⟩ | exact ⟨Hc9.out.1, run_str Try.underlying25 Try.underlying5 Try.underlying9 Hc9.out.2, run_str Try.underlying25 Try.underlying5 Try.underlying9 (k_bs K9.out Hl.out)⟩) (
    (go_at_call 19; (refine (kr_deliver K8.out Hl.out).mono ?_); rintro e w9 ⟨rfl, hk, hc⟩; have K9 := hid hk; have Hc9 := hid hc; clear hk hc))
  go_wp2_with fail
  go_ret
  exact ⟨rfl, k_below K9.out⟩
end Go.Proofs.Ytgiegiobigdplaa
