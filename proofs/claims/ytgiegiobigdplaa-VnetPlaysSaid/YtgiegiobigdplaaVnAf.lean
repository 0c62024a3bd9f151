/- A card and a port over noughts that were just made; a row of one frame. -/
import Derived.Test.YtgiegiobigdplaaVnAd
namespace Go.Proofs.Ytgiegiobigdplaa
section
open Go Go.RowKit
attribute [local go_sem ↓] Go.wp_at_zero Go.wp_at_succ
set_option maxRecDepth 100000
set_option linter.unusedSimpArgs false
set_option linter.unusedVariables false

/-- the example's state: one frame, in a block of its own -/
def KAt (w0 w : World) (gC gP g : Nat) (f : List UInt8) (d : Nat) (Wi : List (List UInt8)) : Prop :=
  ∃ gm F, Pl w w0.heap.size gm 6232 2 gC gP d F Wi [] ∧ Blk w g 5 (f.map u8v) ∧ ¬ F g ∧ Below w0.heap.size w0 w
theorem k_step {w0 w w' : World} {gC gP gm d d' g : Nat} {f : List UInt8} {F : Nat → Prop} {Wi Wi' : List (List UInt8)} (h : Pl w w0.heap.size gm 6232 2 gC gP d F Wi []) (hb : Blk w g 5 (f.map u8v)) (hg : ¬ F g) (hw : Below w0.heap.size w0 w)
    {F' : Nat → Prop} (h' : Pl w' w0.heap.size gm 6232 2 gC gP d' F' Wi' []) (hf : Frame F w w') (hF : ∀ k, F' k → F k ∨ w.heap.size ≤ k) : KAt w0 w' gC gP g f d' Wi' :=
  ⟨gm, F', h', hf.blk hb hg, fun e => (hF g e).elim hg (fun e2 => by have := hb.lt; omega), hw.trans (hf.below h.lo hw.size)⟩
theorem k_drew {w0 w : World} {gC gP g d : Nat} {f : List UInt8} {Wi : List (List UInt8)} (h : KAt w0 w gC gP g f d Wi) : KAt w0 w.drew gC gP g f d Wi := by
  obtain ⟨gm, F, hp, hb, hg, hbw⟩ := h
  exact ⟨gm, F, hp.keep (below_drew w), hb.drew, hg, hbw.drew⟩
theorem k_below {w0 w : World} {gC gP g d : Nat} {f : List UInt8} {Wi : List (List UInt8)} (h : KAt w0 w gC gP g f d Wi) : Below w0.heap.size w0 w := by
  obtain ⟨gm, F, hp, hb, hg, hbw⟩ := h
  exact hbw
theorem k_deliver {w0 w : World} {gC gP g d : Nat} {f : List UInt8} {Wi : List (List UInt8)} (h : KAt w0 w gC gP g f d Wi) (hl : f.length = 60) (hw : Wi.length < 2) :
    Calls Try.prog 19 #[.pointer (some ⟨gP, 0, none⟩), .slice (some ⟨g, 0, none⟩) 60 60] w fun e w' => e = .returned (.int .i64 0) ∧ KAt w0 w' gC gP g f d (Wi ++ [f]) := by
  obtain ⟨gm, F, hp, hb, hg, hbw⟩ := h
  have hbs := fun w' hf => blk_bs (w' := w') hb hg (by omega) hf
  rw [hl] at hbs
  refine (pl_deliver hp hbs (by omega) (by omega) hw).mono ?_
  rintro e w' ⟨rfl, F', h', hf, hF⟩
  exact ⟨rfl, k_step hp hb hg hbw h' hf hF⟩
theorem k_full {w0 w : World} {gC gP g d : Nat} {f : List UInt8} {Wi : List (List UInt8)} (h : KAt w0 w gC gP g f d Wi) (hl : f.length = 60) (hw : Wi.length = 2) :
    Calls Try.prog 19 #[.pointer (some ⟨gP, 0, none⟩), .slice (some ⟨g, 0, none⟩) 60 60] w fun e w' => e = .returned (.int .i64 7) ∧ KAt w0 w' gC gP g f d Wi := by
  obtain ⟨gm, F, hp, hb, hg, hbw⟩ := h
  have hbs := fun w' hf => blk_bs (w' := w') hb hg (by omega) hf
  rw [hl] at hbs
  refine (pl_dfull hp hbs (by omega) (by omega) hw).mono ?_
  rintro e w' ⟨rfl, F', h', hf, hF⟩
  exact ⟨rfl, k_step hp hb hg hbw h' hf hF⟩
theorem k_bs {w0 w : World} {gC gP g d : Nat} {f : List UInt8} {Wi : List (List UInt8)} (h : KAt w0 w gC gP g f d Wi) (hl : f.length = 60) : Bs w (.slice (some ⟨g, 0, none⟩) 60 60) f := by
  obtain ⟨gm, F, hp, hb, hg, hbw⟩ := h
  have hbs := blk_bs (w' := w) hb hg (by omega) (Frame.refl F w)
  rw [hl] at hbs
  exact hbs
/-- the two that came in: they stay -/
def KR (w0 w : World) (gC gP g : Nat) (f : List UInt8) (d : Nat) (p : Addr) (x : Value) : Prop :=
  ∃ gm F, Pl w w0.heap.size gm 6232 2 gC gP d F [] [] ∧ Blk w g 5 (f.map u8v) ∧ ¬ F g ∧ Below w0.heap.size w0 w ∧ ∀ w', Frame F w w' → w'.cell? p = some x ∧ Bs w' x f
theorem KR.at_ {w0 w : World} {gC gP g d : Nat} {f : List UInt8} {p : Addr} {x : Value} (h : KR w0 w gC gP g f d p x) : KAt w0 w gC gP g f d [] := by
  obtain ⟨gm, F, hp, hb, hg, hbw, _⟩ := h
  exact ⟨gm, F, hp, hb, hg, hbw⟩
theorem KR.cell {w0 w : World} {gC gP g d : Nat} {f : List UInt8} {p : Addr} {x : Value} (h : KR w0 w gC gP g f d p x) : w.cell? p = some x ∧ Bs w x f := by
  obtain ⟨gm, F, hp, hb, hg, hbw, hs⟩ := h
  exact hs w (Frame.refl _ _)
theorem k_receive {w0 w : World} {gC gP g d : Nat} {f : List UInt8} (h : KAt w0 w gC gP g f d [f, f]) (hl : f.length = 60) (hd : d < 900000000) :
    Calls Try.prog 17 #[.pointer (some ⟨gC, 0, none⟩)] w fun e w' => ∃ gr off cap x cx, e = .returned (.slice (some ⟨gr, off, none⟩) 2 cap) ∧ KR w0 w' gC gP g f (d + 65536) ⟨gr, off, none⟩ (.slice x 60 cx) := by
  obtain ⟨gm, F, hp, hb, hg, hbw⟩ := h
  refine (pl_receive hp hd).mono ?_
  rintro e w' ⟨v, F', rfl, h', hf, hF, vs, ho, hn, hi⟩
  have hvs : vs.length = 2 := by have := ho.1; simpa using this
  obtain ⟨_, A, cap, rfl, _, _, h0⟩ := RowN.of_own ho
  rcases h0 with h0 | ⟨b, off, rfl, hc⟩
  · simp at h0
  obtain ⟨x, hx⟩ : ∃ x, vs[0]? = some x := ⟨_, List.getElem?_eq_getElem (by omega)⟩
  obtain ⟨hx1, hx2⟩ := hi 0 x f hx rfl
  obtain ⟨X, cx, rfl⟩ := slice_len hx1.bs rfl
  rw [hl] at hx1 hx2 hx
  have hcx := hc 0 _ hx
  refine ⟨b, off, cap, X, cx, rfl, gm, F', h', hf.blk hb hg, fun e => (hF g e).elim hg (fun e2 => by have := hb.lt; omega), hbw.trans (hf.below hp.lo hbw.size), fun w'' hf'' => ⟨?_, OwnBs.bs (hf''.own hx1 (fun g hg' => (hx2 g hg').1))⟩⟩
  rw [World.cell?_of_block (hf''.block b (World.ownsRow.lt ho b rfl).2 (hn b rfl))]
  exact hcx
theorem kr_deliver {w0 w : World} {gC gP g d : Nat} {f : List UInt8} {p : Addr} {x : Value} (h : KR w0 w gC gP g f d p x) (hl : f.length = 60) :
    Calls Try.prog 19 #[.pointer (some ⟨gP, 0, none⟩), .slice (some ⟨g, 0, none⟩) 60 60] w.drew fun e w' => e = .returned (.int .i64 0) ∧ KAt w0 w' gC gP g f d [f] ∧ w'.cell? p = some x ∧ Bs w' x f := by
  obtain ⟨gm, F, hp, hb, hg, hbw, hs⟩ := h
  have hbs := fun w' hf => blk_bs (w' := w') (w := w.drew) hb.drew hg (by omega) hf
  rw [hl] at hbs
  refine (pl_deliver (hp.keep (below_drew w)) hbs (by omega) (by omega) (Nat.zero_lt_succ 1)).mono ?_
  rintro e w' ⟨rfl, F', h', hf, hF⟩
  exact ⟨rfl, k_step (hp.keep (below_drew w)) hb.drew hg hbw.drew h' hf hF, hs w' (Frame.trans (Go.Proofs.Ytgiegiobigdplaa.Below.frameF (below_drew w) F) hf (fun _ _ e => e))⟩
set_option maxHeartbeats 4000000 in
theorem known_any (w : World) : Calls Try.prog 7 #[] w fun e w' => e = .returned (.bool true) ∧ Below w.heap.size w w' := by
  have hA := fun wy => varea_any 2 wy
  rw [show vAreaI 2 = 6232 from rfl] at hA
  have HA := hid hA
  have hmk := run_make8 u8ok .i64 .i64 6232 6232 rfl (by decide)
  have HM1 := hid (mem_zero8 w 6232)
  have HB1 := hid (below_alloc w (.cells (zero8 6232) 5))
  have hok : okN ((2 : Nat) : Int) = true := by decide
  have hfit : vFits 6232 ((0 : Nat) : Int) ((2 : Nat) : Int) = true := fits_of hok (by decide)
  have HC := hid (show Calls Try.prog 10 #[.slice (some ⟨w.heap.size, 0, none⟩) 6232 6232, .int .i64 0, .int .i64 2] _ _ from
    vnewcard_yes w.heap.size w.heap.size 6232 0 2 (zeros 6232) _ hfit (by decide) (zeros_len _) HM1.out HB1.out.size)
  have Hfit := hid hfit
  clear hA hok hfit
  go_enter Try.func7, Try.ntmps7
  go_upto_region 3 with (first
    | (go_at_call 8; refine (HA.out _).mono ?_; rintro e w' ⟨rfl, hw⟩; have hw := hw.symm; subst hw)
    | (go_at_call 10; (with_reducible refine HC.out.mono ?_); rintro e w2 ⟨gC, I, rfl, hc, hf, hn⟩; have C2 := hid hc; have F2 := hid hf; clear hc hf hn))
  have K2 := hid (show Below w.heap.size w w2 from HB1.out.trans (F2.out.below (fun k e => by omega) HB1.out.size))
  have HP := hid (show Calls Try.prog 12 #[.slice (some ⟨w.heap.size, 0, none⟩) 6232 6232, .int .i64 0, .int .i64 2] _ _ from
    vnewport_yes w.heap.size w.heap.size 6232 0 2 _ w2 Hfit.out (by decide) C2.out.len C2.out.mem K2.out.size)
  clear HM1 HB1 F2 hmk HC
  go_upto_region 4 with (go_at_call 12; (with_reducible refine HP.out.mono ?_); rintro e w3 ⟨gP, gdi, gdo, rfl, hp, hb, hn⟩; have P3 := hid (pl_start C2.out hp hb hn Hfit.out (zeros_len _) (by decide) (Nat.le_refl _)); have K3 := hid (K2.out.trans (hb.mono K2.out.size)); clear hp hb hn)
  have hmk := run_make8 u8ok .i64 .i64 60 60 rfl (by decide)
  have B4 := hid (mem_zero8 w3 60)
  have L4 := hid (below_alloc w3 (.cells (zero8 60) 5))
  have K4 := hid (show KAt w (w3.alloc (.cells (zero8 60) 5)) gC gP w3.heap.size (zeros 60) 2 [] from ⟨_, _, P3.out.keep L4.out, B4.out, fun e => by have := P3.out.bd _ e; omega, K3.out.trans (L4.out.mono K3.out.size)⟩)
  have Hl := hid (zeros_len 60)
  clear B4 L4 P3 K3 K2 HP C2
  go_upto_region 7 with fail
  generalize zeros 60 = f at *
  generalize w3.alloc (.cells (zero8 60) 5) = w4 at *
  generalize w3.heap.size = g at *
  clear hmk
  go_upto_region 8 with (first
    | (go_at_call 19; (with_reducible refine (k_deliver K4.out Hl.out (by decide)).mono ?_); rintro e w5 ⟨rfl, hk⟩; have K5 := hid (show KAt w w5 gC gP g f 2 [f] from hk); clear hk K4)
    | (go_at_call 19; (refine (k_deliver K5.out Hl.out (Nat.lt_add_one 1)).mono ?_); rintro e w6 ⟨rfl, hk⟩; have K6 := hid (show KAt w w6 gC gP g f 2 [f, f] from hk); clear hk K5)
    | (go_at_call 19; (refine (k_full K6.out Hl.out rfl).mono ?_); rintro e w7 ⟨rfl, hk⟩; have K7 := hid hk; clear hk K6))
  go_upto_region 9 with (go_at_call 17; (with_reducible refine (k_receive K7.out Hl.out (by decide)).mono ?_); rintro e w8 ⟨gr, off, cap, x, cx, rfl, hk⟩; have K8 := hid hk; clear hk K7)
  go_region_held3 (fun wy => wy.cell? ⟨gr, off, none⟩ = some (.slice x 60 cx) ∧ Sem.run Try.prog (convert 25 9 (.slice x 60 cx)) wy = .ok (.string (mkStr f)) wy ∧ Sem.run Try.prog (convert 25 9 (.slice (some ⟨g, 0, none⟩) 60 60)) wy = .ok (.string (mkStr f)) wy) (first | exact ⟨K8.out.cell.1, run_str Try.underlying25 Try.underlying5 Try.underlying9 K8.out.cell.2.drew, run_str Try.underlying25 Try.underlying5 Try.underlying9 (k_bs K8.out.at_ Hl.out).drew⟩ | exact ⟨Hc9.out.1, run_str Try.underlying25 Try.underlying5 Try.underlying9 Hc9.out.2, run_str Try.underlying25 Try.underlying5 Try.underlying9 (k_bs K9.out Hl.out)⟩) (
    (go_at_call 19; (refine (kr_deliver K8.out Hl.out).mono ?_); rintro e w9 ⟨rfl, hk, hc⟩; have K9 := hid hk; have Hc9 := hid hc; clear hk hc))
  go_wp2_with fail
  go_ret
  exact ⟨rfl, k_below K9.out⟩
end
section
open Go Go.RowKit
set_option linter.unusedVariables false

/-- the card is made, the port not yet -/
def CStart (w w2 : World) (A n gC : Nat) (I : CardIds) : Prop :=
  CardAt w2 w.heap.size w.heap.size A 0 n gC (vOffers 0 n (vNewM (zeros A) 0 n, vq0 n) n).1 (vOffers 0 n (vNewM (zeros A) 0 n, vq0 n) n).2 (vq0 n) n I ∧ Below w.heap.size w w2
theorem begin_card (w : World) (n A : Nat) (hok : okN (n : Int) = true) (hA : vArea n = A) :
    Calls Try.prog 10 #[.slice (some ⟨w.heap.size, 0, none⟩) A A, .int .i64 0, .int .i64 n] (w.alloc (.cells (zero8 A) 5))
      fun e w2 => ∃ gC I, e = .returned (.tuple #[.pointer (some ⟨gC, 0, none⟩), .int .i64 0]) ∧ CStart w w2 A n gC I := by
  have hn := okN_le hok
  have hb := below_alloc w (.cells (zero8 A) 5)
  have hL : A ≤ 1000000 := by rw [← hA]; unfold vArea vSize; omega
  refine Calls.mono (show Calls Try.prog 10 #[.slice (some ⟨w.heap.size, 0, none⟩) A A, .int .i64 ((0 : Nat) : Int), .int .i64 n] _ _ from
    vnewcard_yes w.heap.size w.heap.size A 0 n (zeros A) _ (fits_of hok (Nat.le_of_eq hA)) hL (zeros_len _) (mem_zero8 w A) hb.size) ?_
  rintro e w2 ⟨gC, I, rfl, hc, hf, hn⟩
  exact ⟨gC, I, rfl, hc, hb.trans (hf.below (fun k e => Nat.le_of_eq e.symm) hb.size)⟩
theorem begin_port {w w2 : World} {n A gC : Nat} {I : CardIds} (h : CStart w w2 A n gC I) (hok : okN (n : Int) = true) (hA : vArea n = A) :
    Calls Try.prog 12 #[.slice (some ⟨w.heap.size, 0, none⟩) A A, .int .i64 0, .int .i64 n] w2
      fun e w3 => ∃ gP F, e = .returned (.tuple #[.pointer (some ⟨gP, 0, none⟩), .int .i64 0]) ∧ Pl w3 w.heap.size w.heap.size A n gC gP n F [] [] ∧ Below w.heap.size w w3 := by
  have hn := okN_le hok
  have hL : A ≤ 1000000 := by rw [← hA]; unfold vArea vSize; omega
  have hfit := fits_of hok (Nat.le_of_eq hA)
  refine Calls.mono (show Calls Try.prog 12 #[.slice (some ⟨w.heap.size, 0, none⟩) A A, .int .i64 ((0 : Nat) : Int), .int .i64 n] _ _ from
    vnewport_yes w.heap.size w.heap.size A 0 n _ w2 hfit hL h.1.len h.1.mem h.2.size) ?_
  rintro e w3 ⟨gP, gdi, gdo, rfl, hp, hb, hn⟩
  exact ⟨gP, _, rfl, pl_start h.1 hp hb hn hfit (zeros_len _) hL (Nat.le_refl _), h.2.trans (hb.mono h.2.size)⟩
/-- a row of rows with one element -/
theorem rows8_one {w : World} {v : Value} {e : TypeId} {mk : Nat × Nat} {f : List UInt8} {H : Nat} (h : Bs w v f) (hH : H = w.heap.size) : Rows8 (w.alloc (.cells #[v] e mk)) (.slice (some ⟨H, 0, none⟩) 1 1) [f] :=
  ⟨[v], row_litm #[v] _ 1 H rfl rfl (by decide) hH, fun i x r hx hr => by
    have hi : i = 0 := by have := (List.getElem?_eq_some_iff.1 hx).1; simpa using this
    subst hi
    simp at hx hr
    subst hx
    subst hr
    exact h.alloc _⟩
theorem Rows8.keep8 {w w' : World} {v : Value} {L : List (List UInt8)} (h : Rows8 w v L) (hb : Below w.heap.size w w') : Rows8 w' v L := by
  obtain ⟨vs, h1, h2⟩ := h
  exact ⟨vs, h1.below hb, fun i x r hx hr => (h2 i x r hx hr).below hb⟩
/-- both sides in good order, and a frame in a block of its own -/
structure PF (w0 w : World) (gm A n gC gP d : Nat) (F : Nat → Prop) (g : Nat) (f : List UInt8) (Wi Wo : List (List UInt8)) : Prop where
  pl : Pl w w0.heap.size gm A n gC gP d F Wi Wo
  blk : Blk w g 5 (f.map u8v)
  nf : ¬ F g
  bl : Below w0.heap.size w0 w
  len : f.length ≤ 100000
section
variable {w0 w w' : World} {gm A n gC gP d d' g : Nat} {F F' : Nat → Prop} {f : List UInt8} {Wi Wo Wi' Wo' : List (List UInt8)}
theorem PF.step (h : PF w0 w gm A n gC gP d F g f Wi Wo) (h' : Pl w' w0.heap.size gm A n gC gP d' F' Wi' Wo') (hf : Frame F w w') (hF : ∀ k, F' k → F k ∨ w.heap.size ≤ k) : PF w0 w' gm A n gC gP d' F' g f Wi' Wo' :=
  ⟨h', hf.blk h.blk h.nf, fun e => (hF g e).elim h.nf (fun e2 => by have := h.blk.lt; omega), h.bl.trans (hf.below h.pl.lo h.bl.size), h.len⟩
theorem PF.bs (h : PF w0 w gm A n gC gP d F g f Wi Wo) : Bs w (.slice (some ⟨g, 0, none⟩) f.length f.length) f := blk_bs h.blk h.nf h.len (Frame.refl F w)
theorem PF.keep (h : PF w0 w gm A n gC gP d F g f Wi Wo) (hb : Below w.heap.size w w') : PF w0 w' gm A n gC gP d F g f Wi Wo :=
  ⟨h.pl.keep hb, h.blk.keep hb, h.nf, h.bl.trans (hb.mono h.bl.size), h.len⟩
/-- what a call leaves -/
def PFPost (w0 : World) (gm A n gC gP d : Nat) (F : Nat → Prop) (g : Nat) (f : List UInt8) (Wi Wo : List (List UInt8)) (w w' : World) : Prop :=
  ∃ F', PF w0 w' gm A n gC gP d F' g f Wi Wo ∧ Frame F w w' ∧ ∀ k, F' k → F k ∨ w.heap.size ≤ k
theorem PF.post (h : PF w0 w gm A n gC gP d F g f Wi Wo) (h' : PlPost w0.heap.size gm A n gC gP d' F w w' Wi' Wo') : PFPost w0 gm A n gC gP d' F g f Wi' Wo' w w' := by
  obtain ⟨F', hp, hf, hF⟩ := h'
  exact ⟨F', h.step hp hf hF, hf, hF⟩
theorem pf_deliver (h : PF w0 w gm A n gC gP d F g f Wi Wo) (h14 : 14 ≤ f.length) (h1514 : f.length ≤ 1514) (hw : Wi.length < n) :
    Calls Try.prog 19 #[.pointer (some ⟨gP, 0, none⟩), .slice (some ⟨g, 0, none⟩) f.length f.length] w fun e w' => e = .returned (.int .i64 0) ∧ PFPost w0 gm A n gC gP d F g f (Wi ++ [f]) Wo w w' :=
  (pl_deliver h.pl (fun w' hf => blk_bs h.blk h.nf h.len hf) h14 h1514 hw).mono (fun e w' he => ⟨he.1, h.post he.2⟩)
theorem pf_dfull (h : PF w0 w gm A n gC gP d F g f Wi Wo) (h14 : 14 ≤ f.length) (h1514 : f.length ≤ 1514) (hw : Wi.length = n) :
    Calls Try.prog 19 #[.pointer (some ⟨gP, 0, none⟩), .slice (some ⟨g, 0, none⟩) f.length f.length] w fun e w' => e = .returned (.int .i64 7) ∧ PFPost w0 gm A n gC gP d F g f Wi Wo w w' :=
  (pl_dfull h.pl (fun w' hf => blk_bs h.blk h.nf h.len hf) h14 h1514 hw).mono (fun e w' he => ⟨he.1, h.post he.2⟩)
theorem pf_dbad (h : PF w0 w gm A n gC gP d F g f Wi Wo) (hb : f.length < 14 ∨ f.length > 1514) :
    Calls Try.prog 19 #[.pointer (some ⟨gP, 0, none⟩), .slice (some ⟨g, 0, none⟩) f.length f.length] w fun e w' => e = .returned (.int .i64 14) ∧ PFPost w0 gm A n gC gP d F g f Wi Wo w w' :=
  (pl_dbad h.pl (fun w' hf => blk_bs h.blk h.nf h.len hf) h.len hb).mono (fun e w' he => ⟨he.1, h.post he.2⟩)
theorem pf_send (h : PF w0 w gm A n gC gP d F g f Wi Wo) (hd : d < 900000000) (h14 : 14 ≤ f.length) (h1514 : f.length ≤ 1514) (hw : Wo.length < n) :
    Calls Try.prog 14 #[.pointer (some ⟨gC, 0, none⟩), .slice (some ⟨g, 0, none⟩) f.length f.length] w fun e w' => e = .returned (.int .i64 0) ∧ PFPost w0 gm A n gC gP (d + 1) F g f Wi (Wo ++ [f]) w w' :=
  (pl_send h.pl hd (fun w' hf => blk_bs h.blk h.nf h.len hf) h14 h1514 hw).mono (fun e w' he => ⟨he.1, h.post he.2⟩)
theorem pf_sfull (h : PF w0 w gm A n gC gP d F g f Wi Wo) (hd : d < 900000000) (h14 : 14 ≤ f.length) (h1514 : f.length ≤ 1514) (hw : Wo.length = n) :
    Calls Try.prog 14 #[.pointer (some ⟨gC, 0, none⟩), .slice (some ⟨g, 0, none⟩) f.length f.length] w fun e w' => e = .returned (.int .i64 7) ∧ PFPost w0 gm A n gC gP (d + 1) F g f Wi Wo w w' :=
  (pl_sfull h.pl hd (fun w' hf => blk_bs h.blk h.nf h.len hf) h14 h1514 hw).mono (fun e w' he => ⟨he.1, h.post he.2⟩)
theorem pf_sbad (h : PF w0 w gm A n gC gP d F g f Wi Wo) (hd : d < 900000000) (hb : f.length < 14 ∨ f.length > 1514) :
    Calls Try.prog 14 #[.pointer (some ⟨gC, 0, none⟩), .slice (some ⟨g, 0, none⟩) f.length f.length] w fun e w' => e = .returned (.int .i64 14) ∧ PFPost w0 gm A n gC gP (d + 1) F g f Wi Wo w w' :=
  (pl_sbad h.pl hd (fun w' hf => blk_bs h.blk h.nf h.len hf) h.len hb).mono (fun e w' he => ⟨he.1, h.post he.2⟩)
theorem pf_receive (h : PF w0 w gm A n gC gP d F g f Wi Wo) (hd : d < 900000000) :
    Calls Try.prog 17 #[.pointer (some ⟨gC, 0, none⟩)] w fun e w' => ∃ v F', e = .returned v ∧ PF w0 w' gm A n gC gP (d + 65536) F' g f [] Wo ∧ Frame F w w' ∧ (∀ k, F' k → F k ∨ w.heap.size ≤ k) ∧ RowsN w' w.heap.size F' v Wi := by
  refine (pl_receive h.pl hd).mono ?_
  rintro e w' ⟨v, F', rfl, hp, hf, hF, hr⟩
  exact ⟨v, F', rfl, h.step hp hf hF, hf, hF, hr⟩
theorem pf_sent (h : PF w0 w gm A n gC gP d F g f Wi Wo) :
    Calls Try.prog 21 #[.pointer (some ⟨gP, 0, none⟩)] w fun e w' => ∃ v, e = .returned v ∧ PF w0 w' gm A n gC gP d F g f Wi [] ∧ Frame F w w' ∧ RowsN w' w.heap.size F v Wo := by
  refine (pl_sent h.pl).mono ?_
  rintro e w' ⟨v, rfl, hp, hf, hr⟩
  exact ⟨v, rfl, h.step hp hf (fun k hk => .inl hk), hf, hr⟩
end
/-- rows that were told stay while the card and the port go on -/
theorem RowsN.on {w w' : World} {b : Nat} {F : Nat → Prop} {v : Value} {L : List (List UInt8)} (h : RowsN w b F v L) (hf : Frame F w w') : RowsN w' b (fun _ => False) v L := h.step hf (fun k _ _ h3 => ⟨h3, id⟩)
end
end Go.Proofs.Ytgiegiobigdplaa
