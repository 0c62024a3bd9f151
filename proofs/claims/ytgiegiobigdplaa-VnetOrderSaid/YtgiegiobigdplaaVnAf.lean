/- A card and a port over noughts that were just made; a row of one frame. -/
import Derived.Test.YtgiegiobigdplaaVnAe
namespace Go.Proofs.Ytgiegiobigdplaa
open Go Go.RowKit
set_option linter.unusedVariables false

/-- the card is made, the port not yet -/
def CStart (w w2 : World) (A n gC : Nat) (I : CardIds) : Prop :=
  CardAt w2 w.heap.size w.heap.size A 0 n gC (vOffers 0 n (vNewM (zeros A) 0 n, vq0 n) n).1 (vOffers 0 n (vNewM (zeros A) 0 n, vq0 n) n).2 (vq0 n) n I ∧ Below w.heap.size w w2
theorem begin_card (w : World) (n A : Nat) (hok : okN (n : Int) = true) (hA : vArea n = A) :
    Calls Try.prog 10 #[.slice (some ⟨w.heap.size, 0, none⟩) A A, .int .i64 0, .int .i64 n] (w.alloc (.cells (zero8 A) 5))
      fun e w2 => ∃ gC I, e = .returned (.tuple #[.pointer (some ⟨gC, 0, none⟩), .int .i64 0]) ∧ CStart w w2 A n gC I := by
  have hn := okN_le hok
  have hb := below_alloc w (.cells (zero8 A) 5)
  have hL : A ≤ 1000000 := by rw [← hA]; unfold vArea vSize; omega
  refine Calls.mono (show Calls Try.prog 10 #[.slice (some ⟨w.heap.size, 0, none⟩) A A, .int .i64 ((0 : Nat) : Int), .int .i64 n] _ _ from
    vnewcard_yes w.heap.size w.heap.size A 0 n (zeros A) _ (fits_of hok (Nat.le_of_eq hA)) hL (zeros_len _) (mem_zero8 w A) hb.size) ?_
  rintro e w2 ⟨gC, I, rfl, hc, hf, hn⟩
  exact ⟨gC, I, rfl, hc, hb.trans (hf.below (fun k e => Nat.le_of_eq e.symm) hb.size)⟩
theorem begin_port {w w2 : World} {n A gC : Nat} {I : CardIds} (h : CStart w w2 A n gC I) (hok : okN (n : Int) = true) (hA : vArea n = A) :
    Calls Try.prog 12 #[.slice (some ⟨w.heap.size, 0, none⟩) A A, .int .i64 0, .int .i64 n] w2
      fun e w3 => ∃ gP F, e = .returned (.tuple #[.pointer (some ⟨gP, 0, none⟩), .int .i64 0]) ∧ Pl w3 w.heap.size w.heap.size A n gC gP n F [] [] ∧ Below w.heap.size w w3 := by
  have hn := okN_le hok
  have hL : A ≤ 1000000 := by rw [← hA]; unfold vArea vSize; omega
  have hfit := fits_of hok (Nat.le_of_eq hA)
  refine Calls.mono (show Calls Try.prog 12 #[.slice (some ⟨w.heap.size, 0, none⟩) A A, .int .i64 ((0 : Nat) : Int), .int .i64 n] _ _ from
    vnewport_yes w.heap.size w.heap.size A 0 n _ w2 hfit hL h.1.len h.1.mem h.2.size) ?_
  rintro e w3 ⟨gP, gdi, gdo, rfl, hp, hb, hn⟩
  exact ⟨gP, _, rfl, pl_start h.1 hp hb hn hfit (zeros_len _) hL (Nat.le_refl _), h.2.trans (hb.mono h.2.size)⟩
/-- a row of rows with one element -/
theorem rows8_one {w : World} {v : Value} {e : TypeId} {mk : Nat × Nat} {f : List UInt8} {H : Nat} (h : Bs w v f) (hH : H = w.heap.size) : Rows8 (w.alloc (.cells #[v] e mk)) (.slice (some ⟨H, 0, none⟩) 1 1) [f] :=
  ⟨[v], row_litm #[v] _ 1 H rfl rfl (by decide) hH, fun i x r hx hr => by
    have hi : i = 0 := by have := (List.getElem?_eq_some_iff.1 hx).1; simpa using this
    subst hi
    simp at hx hr
    subst hx
    subst hr
    exact h.alloc _⟩
theorem Rows8.keep8 {w w' : World} {v : Value} {L : List (List UInt8)} (h : Rows8 w v L) (hb : Below w.heap.size w w') : Rows8 w' v L := by
  obtain ⟨vs, h1, h2⟩ := h
  exact ⟨vs, h1.below hb, fun i x r hx hr => (h2 i x r hx hr).below hb⟩
/-- both sides in good order, and a frame in a block of its own -/
structure PF (w0 w : World) (gm A n gC gP d : Nat) (F : Nat → Prop) (g : Nat) (f : List UInt8) (Wi Wo : List (List UInt8)) : Prop where
  pl : Pl w w0.heap.size gm A n gC gP d F Wi Wo
  blk : Blk w g 5 (f.map u8v)
  nf : ¬ F g
  bl : Below w0.heap.size w0 w
  len : f.length ≤ 100000
section
variable {w0 w w' : World} {gm A n gC gP d d' g : Nat} {F F' : Nat → Prop} {f : List UInt8} {Wi Wo Wi' Wo' : List (List UInt8)}
theorem PF.step (h : PF w0 w gm A n gC gP d F g f Wi Wo) (h' : Pl w' w0.heap.size gm A n gC gP d' F' Wi' Wo') (hf : Frame F w w') (hF : ∀ k, F' k → F k ∨ w.heap.size ≤ k) : PF w0 w' gm A n gC gP d' F' g f Wi' Wo' :=
  ⟨h', hf.blk h.blk h.nf, fun e => (hF g e).elim h.nf (fun e2 => by have := h.blk.lt; omega), h.bl.trans (hf.below h.pl.lo h.bl.size), h.len⟩
theorem PF.bs (h : PF w0 w gm A n gC gP d F g f Wi Wo) : Bs w (.slice (some ⟨g, 0, none⟩) f.length f.length) f := blk_bs h.blk h.nf h.len (Frame.refl F w)
theorem PF.keep (h : PF w0 w gm A n gC gP d F g f Wi Wo) (hb : Below w.heap.size w w') : PF w0 w' gm A n gC gP d F g f Wi Wo :=
  ⟨h.pl.keep hb, h.blk.keep hb, h.nf, h.bl.trans (hb.mono h.bl.size), h.len⟩
/-- what a call leaves -/
def PFPost (w0 : World) (gm A n gC gP d : Nat) (F : Nat → Prop) (g : Nat) (f : List UInt8) (Wi Wo : List (List UInt8)) (w w' : World) : Prop :=
  ∃ F', PF w0 w' gm A n gC gP d F' g f Wi Wo ∧ Frame F w w' ∧ ∀ k, F' k → F k ∨ w.heap.size ≤ k
theorem PF.post (h : PF w0 w gm A n gC gP d F g f Wi Wo) (h' : PlPost w0.heap.size gm A n gC gP d' F w w' Wi' Wo') : PFPost w0 gm A n gC gP d' F g f Wi' Wo' w w' := by
  obtain ⟨F', hp, hf, hF⟩ := h'
  exact ⟨F', h.step hp hf hF, hf, hF⟩
theorem pf_deliver (h : PF w0 w gm A n gC gP d F g f Wi Wo) (h14 : 14 ≤ f.length) (h1514 : f.length ≤ 1514) (hw : Wi.length < n) :
    Calls Try.prog 19 #[.pointer (some ⟨gP, 0, none⟩), .slice (some ⟨g, 0, none⟩) f.length f.length] w fun e w' => e = .returned (.int .i64 0) ∧ PFPost w0 gm A n gC gP d F g f (Wi ++ [f]) Wo w w' :=
  (pl_deliver h.pl (fun w' hf => blk_bs h.blk h.nf h.len hf) h14 h1514 hw).mono (fun e w' he => ⟨he.1, h.post he.2⟩)
theorem pf_dfull (h : PF w0 w gm A n gC gP d F g f Wi Wo) (h14 : 14 ≤ f.length) (h1514 : f.length ≤ 1514) (hw : Wi.length = n) :
    Calls Try.prog 19 #[.pointer (some ⟨gP, 0, none⟩), .slice (some ⟨g, 0, none⟩) f.length f.length] w fun e w' => e = .returned (.int .i64 7) ∧ PFPost w0 gm A n gC gP d F g f Wi Wo w w' :=
  (pl_dfull h.pl (fun w' hf => blk_bs h.blk h.nf h.len hf) h14 h1514 hw).mono (fun e w' he => ⟨he.1, h.post he.2⟩)
theorem pf_dbad (h : PF w0 w gm A n gC gP d F g f Wi Wo) (hb : f.length < 14 ∨ f.length > 1514) :
    Calls Try.prog 19 #[.pointer (some ⟨gP, 0, none⟩), .slice (some ⟨g, 0, none⟩) f.length f.length] w fun e w' => e = .returned (.int .i64 14) ∧ PFPost w0 gm A n gC gP d F g f Wi Wo w w' :=
  (pl_dbad h.pl (fun w' hf => blk_bs h.blk h.nf h.len hf) h.len hb).mono (fun e w' he => ⟨he.1, h.post he.2⟩)
theorem pf_send (h : PF w0 w gm A n gC gP d F g f Wi Wo) (hd : d < 900000000) (h14 : 14 ≤ f.length) (h1514 : f.length ≤ 1514) (hw : Wo.length < n) :
    Calls Try.prog 14 #[.pointer (some ⟨gC, 0, none⟩), .slice (some ⟨g, 0, none⟩) f.length f.length] w fun e w' => e = .returned (.int .i64 0) ∧ PFPost w0 gm A n gC gP (d + 1) F g f Wi (Wo ++ [f]) w w' :=
  (pl_send h.pl hd (fun w' hf => blk_bs h.blk h.nf h.len hf) h14 h1514 hw).mono (fun e w' he => ⟨he.1, h.post he.2⟩)
theorem pf_sfull (h : PF w0 w gm A n gC gP d F g f Wi Wo) (hd : d < 900000000) (h14 : 14 ≤ f.length) (h1514 : f.length ≤ 1514) (hw : Wo.length = n) :
    Calls Try.prog 14 #[.pointer (some ⟨gC, 0, none⟩), .slice (some ⟨g, 0, none⟩) f.length f.length] w fun e w' => e = .returned (.int .i64 7) ∧ PFPost w0 gm A n gC gP (d + 1) F g f Wi Wo w w' :=
  (pl_sfull h.pl hd (fun w' hf => blk_bs h.blk h.nf h.len hf) h14 h1514 hw).mono (fun e w' he => ⟨he.1, h.post he.2⟩)
theorem pf_sbad (h : PF w0 w gm A n gC gP d F g f Wi Wo) (hd : d < 900000000) (hb : f.length < 14 ∨ f.length > 1514) :
    Calls Try.prog 14 #[.pointer (some ⟨gC, 0, none⟩), .slice (some ⟨g, 0, none⟩) f.length f.length] w fun e w' => e = .returned (.int .i64 14) ∧ PFPost w0 gm A n gC gP (d + 1) F g f Wi Wo w w' :=
  (pl_sbad h.pl hd (fun w' hf => blk_bs h.blk h.nf h.len hf) h.len hb).mono (fun e w' he => ⟨he.1, h.post he.2⟩)
theorem pf_receive (h : PF w0 w gm A n gC gP d F g f Wi Wo) (hd : d < 900000000) :
    Calls Try.prog 17 #[.pointer (some ⟨gC, 0, none⟩)] w fun e w' => ∃ v F', e = .returned v ∧ PF w0 w' gm A n gC gP (d + 65536) F' g f [] Wo ∧ Frame F w w' ∧ (∀ k, F' k → F k ∨ w.heap.size ≤ k) ∧ RowsN w' w.heap.size F' v Wi := by
  refine (pl_receive h.pl hd).mono ?_
  rintro e w' ⟨v, F', rfl, hp, hf, hF, hr⟩
  exact ⟨v, F', rfl, h.step hp hf hF, hf, hF, hr⟩
theorem pf_sent (h : PF w0 w gm A n gC gP d F g f Wi Wo) :
    Calls Try.prog 21 #[.pointer (some ⟨gP, 0, none⟩)] w fun e w' => ∃ v, e = .returned v ∧ PF w0 w' gm A n gC gP d F g f Wi [] ∧ Frame F w w' ∧ RowsN w' w.heap.size F v Wo := by
  refine (pl_sent h.pl).mono ?_
  rintro e w' ⟨v, rfl, hp, hf, hr⟩
  exact ⟨v, rfl, h.step hp hf (fun k hk => .inl hk), hf, hr⟩
end
/-- rows that were told stay while the card and the port go on -/
theorem RowsN.on {w w' : World} {b : Nat} {F : Nat → Prop} {v : Value} {L : List (List UInt8)} (h : RowsN w b F v L) (hf : Frame F w w') : RowsN w' b (fun _ => False) v L := h.step hf (fun k _ _ h3 => ⟨h3, id⟩)
end Go.Proofs.Ytgiegiobigdplaa
