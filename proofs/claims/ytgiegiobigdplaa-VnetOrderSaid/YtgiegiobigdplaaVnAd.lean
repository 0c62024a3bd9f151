/- A card and a port that take turns in good order. -/
import Derived.Test.YtgiegiobigdplaaVnAc
namespace Go.Proofs.Ytgiegiobigdplaa
open Go Go.RowKit
set_option linter.unusedVariables false

/-- both sides at a state in good order: Wi waits to be received, Wo waits to be told as sent -/
structure Pl (w : World) (base gm L n gC gP d : Nat) (F : Nat → Prop) (Wi Wo : List (List UInt8)) : Prop where
  ex : ∃ (gdi gdo m : Nat) (I : CardIds) (s : VnSt), VPlay w base gm L 0 n gC gP gdi gdo m I s ∧ Flow s 0 n Wi Wo ∧ m ≤ d ∧ F = VPlay.foot gm gC gP gdi gdo I
  lo : ∀ k, F k → base ≤ k
  fit : vFits L ((0 : Nat) : Int) (n : Int) = true
  big : L ≤ 1000000
def PlPost (base gm L n gC gP d : Nat) (F : Nat → Prop) (w w' : World) (Wi Wo : List (List UInt8)) : Prop :=
  ∃ F', Pl w' base gm L n gC gP d F' Wi Wo ∧ Frame F w w' ∧ ∀ k, F' k → F k ∨ w.heap.size ≤ k
section
variable {w w' : World} {base gm L n gC gP d : Nat} {F : Nat → Prop} {Wi Wo : List (List UInt8)}
theorem Pl.bd (h : Pl w base gm L n gC gP d F Wi Wo) (k : Nat) (hk : F k) : k < w.heap.size := by
  obtain ⟨gdi, gdo, m, I, s, hp, _, _, rfl⟩ := h.ex
  exact hp.bd k hk
theorem Pl.len (h : Pl w base gm L n gC gP d F Wi Wo) : Wi.length ≤ n ∧ Wo.length ≤ n := by
  obtain ⟨gdi, gdo, m, I, s, _, hf, _, _⟩ := h.ex
  exact hf.len
theorem Pl.keep (h : Pl w base gm L n gC gP d F Wi Wo) (hb : Below w.heap.size w w') : Pl w' base gm L n gC gP d F Wi Wo := by
  obtain ⟨gdi, gdo, m, I, s, hp, hf, hm, e⟩ := h.ex
  exact ⟨⟨gdi, gdo, m, I, s, hp.keep hb, hf, hm, e⟩, h.lo, h.fit, h.big⟩
theorem Pl.frame {G : Nat → Prop} (h : Pl w base gm L n gC gP d F Wi Wo) (hf : Frame G w w') (hd : ∀ k, F k → ¬ G k) : Pl w' base gm L n gC gP d F Wi Wo := by
  obtain ⟨gdi, gdo, m, I, s, hp, hfl, hm, rfl⟩ := h.ex
  exact ⟨⟨gdi, gdo, m, I, s, hp.frame hf hd, hfl, hm, rfl⟩, h.lo, h.fit, h.big⟩
theorem Pl.more {d' : Nat} (h : Pl w base gm L n gC gP d F Wi Wo) (hd : d ≤ d') : Pl w base gm L n gC gP d' F Wi Wo := by
  obtain ⟨gdi, gdo, m, I, s, hp, hfl, hm, rfl⟩ := h.ex
  exact ⟨⟨gdi, gdo, m, I, s, hp, hfl, Nat.le_trans hm hd, rfl⟩, h.lo, h.fit, h.big⟩
theorem pl_lo' {F' : Nat → Prop} (h : Pl w base gm L n gC gP d F Wi Wo) (hF : ∀ k, F' k → F k ∨ w.heap.size ≤ k) (k : Nat) (hk : F' k) : base ≤ k := by
  obtain ⟨gdi, gdo, m, I, s, hp, hfl, hm, rfl⟩ := h.ex
  rcases hF k hk with e | e
  · exact h.lo k e
  · have h1 := h.lo gm (.inr (.inr rfl))
    have h2 := hp.bd gm (.inr (.inr rfl))
    omega
/-- the port delivers -/
theorem pl_deliver_any {v : Value} {f : List UInt8} (h : Pl w base gm L n gC gP d F Wi Wo) (hf : ∀ w', Frame F w w' → Bs w' v f) (hlen : f.length ≤ 100000)
    (r : Int) (Wi' : List (List UInt8)) (hfl : ∀ s, Flow s 0 n Wi Wo → (if f.length < 14 ∨ f.length > 1514 then (14 : Int) else (vDeliver 0 n f 65536 s.M s.pi).1) = r ∧ Flow { s with M := if f.length < 14 ∨ f.length > 1514 then s.M else (vDeliver 0 n f 65536 s.M s.pi).2.1, pi := if f.length < 14 ∨ f.length > 1514 then s.pi else (vDeliver 0 n f 65536 s.M s.pi).2.2 } 0 n Wi' Wo) :
    Calls Try.prog 19 #[.pointer (some ⟨gP, 0, none⟩), v] w fun e w' => e = .returned (.int .i64 r) ∧ PlPost base gm L n gC gP d F w w' Wi' Wo := by
  obtain ⟨gdi, gdo, m, I, s, hp, hfs, hm, rfl⟩ := h.ex
  obtain ⟨h1, h2⟩ := hfl s hfs
  refine (vdeliver_at base gm L 0 n gP s.M s.pi s.po gdi gdo v f w hp.port h.fit h.big (fun w' hf' => hf w' (hf'.weaken (fun k _ e => .inr e))) hlen).mono ?_
  rintro e w' ⟨rfl, hp', hfr⟩
  refine ⟨by rw [h1], _, ⟨⟨gdi, gdo, m, I, _, hp.port_ hp' hfr, h2, hm, rfl⟩, h.lo, h.fit, h.big⟩, hfr.weaken (fun k _ e => .inr e), fun k hk => .inl hk⟩
theorem pl_deliver {v : Value} {f : List UInt8} (h : Pl w base gm L n gC gP d F Wi Wo) (hf : ∀ w', Frame F w w' → Bs w' v f) (h14 : 14 ≤ f.length) (h1514 : f.length ≤ 1514) (hw : Wi.length < n) :
    Calls Try.prog 19 #[.pointer (some ⟨gP, 0, none⟩), v] w fun e w' => e = .returned (.int .i64 0) ∧ PlPost base gm L n gC gP d F w w' (Wi ++ [f]) Wo := by
  refine pl_deliver_any h hf (by omega) _ _ (fun s hs => ?_)
  rw [if_neg (by omega), if_neg (by omega), if_neg (by omega)]
  exact flow_deliver hs h14 h1514 hw
theorem pl_dfull {v : Value} {f : List UInt8} (h : Pl w base gm L n gC gP d F Wi Wo) (hf : ∀ w', Frame F w w' → Bs w' v f) (h14 : 14 ≤ f.length) (h1514 : f.length ≤ 1514) (hw : Wi.length = n) :
    Calls Try.prog 19 #[.pointer (some ⟨gP, 0, none⟩), v] w fun e w' => e = .returned (.int .i64 7) ∧ PlPost base gm L n gC gP d F w w' Wi Wo := by
  refine pl_deliver_any h hf (by omega) _ _ (fun s hs => ?_)
  rw [if_neg (by omega), if_neg (by omega), if_neg (by omega)]
  exact flow_full hs hw
theorem pl_dbad {v : Value} {f : List UInt8} (h : Pl w base gm L n gC gP d F Wi Wo) (hf : ∀ w', Frame F w w' → Bs w' v f) (hlen : f.length ≤ 100000) (hb : f.length < 14 ∨ f.length > 1514) :
    Calls Try.prog 19 #[.pointer (some ⟨gP, 0, none⟩), v] w fun e w' => e = .returned (.int .i64 14) ∧ PlPost base gm L n gC gP d F w w' Wi Wo := by
  refine pl_deliver_any h hf hlen _ _ (fun s hs => ?_)
  rw [if_pos hb, if_pos hb, if_pos hb]
  exact ⟨rfl, hs⟩
/-- the card sends -/
theorem pl_send_any {v : Value} {f : List UInt8} (h : Pl w base gm L n gC gP d F Wi Wo) (hd : d < 900000000) (hf : ∀ w', Frame F w w' → Bs w' v f) (hlen : f.length ≤ 100000)
    (r : Int) (Wo' : List (List UInt8)) (hfl : ∀ s, Flow s 0 n Wi Wo → (vSend 0 n s f).1 = r ∧ Flow (vSend 0 n s f).2 0 n Wi Wo') :
    Calls Try.prog 14 #[.pointer (some ⟨gC, 0, none⟩), v] w fun e w' => e = .returned (.int .i64 r) ∧ PlPost base gm L n gC gP (d + 1) F w w' Wi Wo' := by
  obtain ⟨gdi, gdo, m, I, s, hp, hfs, hm, rfl⟩ := h.ex
  obtain ⟨h1, h2⟩ := hfl s hfs
  have h34 : (vSend 0 n s f).2.pi = s.pi ∧ (vSend 0 n s f).2.po = s.po := by unfold vSend; simp only; split; exact ⟨rfl, rfl⟩; split <;> exact ⟨rfl, rfl⟩
  obtain ⟨h3, h4⟩ := h34
  refine (vsend_at base gm L 0 n gC s m I v f w hp.card h.fit h.big (by omega) (fun w' hf' => hf w' (hf'.weaken (fun k _ e => e.imp_right .inr))) hlen).mono ?_
  rintro e w' ⟨m', I', rfl, hc', hm', hfr, hI⟩
  have hpl := hp.card_ hc' hfr hI
  have hst : ({ s with M := (vSend 0 n s f).2.M, ci := (vSend 0 n s f).2.ci, co := (vSend 0 n s f).2.co } : VnSt) = (vSend 0 n s f).2 := by rw [← h3, ← h4]
  rw [hst] at hpl
  have hF : ∀ k, VPlay.foot gm gC gP gdi gdo I' k → VPlay.foot gm gC gP gdi gdo I k ∨ w.heap.size ≤ k := fun k hk => by
    rcases hk with e | e | e
    · exact (hI k e).imp_left .inl
    · exact .inl (.inr (.inl e))
    · exact .inl (.inr (.inr e))
  refine ⟨by rw [h1], _, ⟨⟨gdi, gdo, m', I', _, hpl, h2, by omega, rfl⟩, fun k hk => pl_lo' h hF k hk, h.fit, h.big⟩, hfr.weaken (fun k _ e => e.imp_right .inr), hF⟩
theorem pl_send {v : Value} {f : List UInt8} (h : Pl w base gm L n gC gP d F Wi Wo) (hd : d < 900000000) (hf : ∀ w', Frame F w w' → Bs w' v f) (h14 : 14 ≤ f.length) (h1514 : f.length ≤ 1514) (hw : Wo.length < n) :
    Calls Try.prog 14 #[.pointer (some ⟨gC, 0, none⟩), v] w fun e w' => e = .returned (.int .i64 0) ∧ PlPost base gm L n gC gP (d + 1) F w w' Wi (Wo ++ [f]) :=
  pl_send_any h hd hf (by omega) _ _ (fun s hs => flow_send hs h14 h1514 hw)
theorem pl_sfull {v : Value} {f : List UInt8} (h : Pl w base gm L n gC gP d F Wi Wo) (hd : d < 900000000) (hf : ∀ w', Frame F w w' → Bs w' v f) (h14 : 14 ≤ f.length) (h1514 : f.length ≤ 1514) (hw : Wo.length = n) :
    Calls Try.prog 14 #[.pointer (some ⟨gC, 0, none⟩), v] w fun e w' => e = .returned (.int .i64 7) ∧ PlPost base gm L n gC gP (d + 1) F w w' Wi Wo :=
  pl_send_any h hd hf (by omega) _ _ (fun s hs => flow_sfull hs h14 h1514 hw)
theorem pl_sbad {v : Value} {f : List UInt8} (h : Pl w base gm L n gC gP d F Wi Wo) (hd : d < 900000000) (hf : ∀ w', Frame F w w' → Bs w' v f) (hlen : f.length ≤ 100000) (hb : f.length < 14 ∨ f.length > 1514) :
    Calls Try.prog 14 #[.pointer (some ⟨gC, 0, none⟩), v] w fun e w' => e = .returned (.int .i64 14) ∧ PlPost base gm L n gC gP (d + 1) F w w' Wi Wo := by
  refine pl_send_any h hd hf hlen _ _ (fun s hs => ?_)
  unfold vSend
  rw [if_pos hb]
  exact ⟨rfl, hs⟩
/-- the card receives -/
theorem pl_receive (h : Pl w base gm L n gC gP d F Wi Wo) (hd : d < 900000000) :
    Calls Try.prog 17 #[.pointer (some ⟨gC, 0, none⟩)] w fun e w' => ∃ v F', e = .returned v ∧ Pl w' base gm L n gC gP (d + 65536) F' [] Wo ∧ Frame F w w' ∧ (∀ k, F' k → F k ∨ w.heap.size ≤ k) ∧ RowsN w' w.heap.size F' v Wi := by
  obtain ⟨gdi, gdo, m, I, s, hp, hfs, hm, rfl⟩ := h.ex
  obtain ⟨h1, h2⟩ := flow_receive hfs
  have hbz : ∀ j, j < n → s.ci.busy[j]? = some true := by obtain ⟨_, _, _, hi, _⟩ := hfs; exact hi.busy
  refine (vreceive_at base gm L 0 n gC s m I w hp.card h.fit h.big (by omega) hbz).mono ?_
  rintro e w' ⟨v, m', I', rfl, hc', hm', hfr, hI, hr, _⟩
  have hpl := hp.card_ hc' hfr hI
  have hF : ∀ k, VPlay.foot gm gC gP gdi gdo I' k → VPlay.foot gm gC gP gdi gdo I k ∨ w.heap.size ≤ k := fun k hk => by
    rcases hk with e | e | e
    · exact (hI k e).imp_left .inl
    · exact .inl (.inr (.inl e))
    · exact .inl (.inr (.inr e))
  rw [h1] at hr
  refine ⟨v, _, rfl, ⟨⟨gdi, gdo, m', I', _, hpl, h2, by omega, rfl⟩, fun k hk => pl_lo' h hF k hk, h.fit, h.big⟩, hfr.weaken (fun k _ e => e.imp_right .inr), hF, hr.step (Frame.refl (fun _ => False) _) (fun k k1 k2 k3 => ⟨id, fun e => ?_⟩)⟩
  rcases e with e | e | e
  · exact k3 e
  · have := hp.bd k (.inr (.inl e))
    omega
  · have := hp.bd k (.inr (.inr e))
    omega
/-- the port tells what was sent -/
theorem pl_sent (h : Pl w base gm L n gC gP d F Wi Wo) :
    Calls Try.prog 21 #[.pointer (some ⟨gP, 0, none⟩)] w fun e w' => ∃ v, e = .returned v ∧ Pl w' base gm L n gC gP d F Wi [] ∧ Frame F w w' ∧ RowsN w' w.heap.size F v Wo := by
  obtain ⟨gdi, gdo, m, I, s, hp, hfs, hm, rfl⟩ := h.ex
  obtain ⟨h1, h2⟩ := flow_sent hfs
  refine (vsent_at base gm L 0 n gP s.M s.pi s.po gdi gdo w hp.port h.fit h.big).mono ?_
  rintro e w' ⟨v, rfl, hp', hfr, hr⟩
  rw [h1] at hr
  refine ⟨v, rfl, ⟨⟨gdi, gdo, m, I, _, hp.port_ hp' hfr, h2, hm, rfl⟩, h.lo, h.fit, h.big⟩, hfr.weaken (fun k _ e => .inr e), hr.step (Frame.refl (fun _ => False) _) (fun k k1 k2 k3 => ⟨id, fun e => ?_⟩)⟩
  have := hp.bd k e
  omega
/-- a card and a port that were just made -/
theorem pl_start {w2 w3 : World} {gdi gdo : Nat} {I : CardIds} {M : List UInt8} (hc : CardAt w2 base gm L 0 n gC (vOffers 0 n (vNewM M 0 n, vq0 n) n).1 (vOffers 0 n (vNewM M 0 n, vq0 n) n).2 (vq0 n) n I)
    (hp : PortAt w3 base gm L 0 n gP (vOffers 0 n (vNewM M 0 n, vq0 n) n).1 ⟨0, 0⟩ ⟨0, 0⟩ gdi gdo) (hb : Below w2.heap.size w2 w3) (hn : ∀ k, portFoot gP gdi gdo k → w2.heap.size ≤ k) (hfit : vFits L ((0 : Nat) : Int) (n : Int) = true) (hM : M.length = L) (hL : L ≤ 1000000) (hgm : base ≤ gm) :
    Pl w3 base gm L n gC gP n (VPlay.foot gm gC gP gdi gdo I) [] [] := by
  obtain ⟨hok, hfb⟩ := fits_parts hfit
  have hpl := start_play hc hp hb hn
  refine ⟨⟨gdi, gdo, n, I, _, hpl, flow_start hok (by omega) (by omega), Nat.le_refl _, rfl⟩, fun k hk => ?_, hfit, hL⟩
  rcases hk with e | e | e
  · exact (hc.bd k e).1
  · exact (hp.bd k e).1
  · rw [e]; exact hgm
end
/-- a frame that lies in a block of its own -/
theorem blk_bs {w w' : World} {g : Nat} {F : Nat → Prop} {f : List UInt8} (h : Blk w g 5 (f.map u8v)) (hn : ¬ F g) (hl : f.length ≤ 100000) (hf : Frame F w w') : Bs w' (.slice (some ⟨g, 0, none⟩) f.length f.length) f :=
  (hf.blk h hn).bs (by rw [List.drop_zero, List.take_of_length_le (by rw [List.length_map]; exact Nat.le_refl _)]) rfl (Nat.le_refl _) (by unfold maxLen; omega)
end Go.Proofs.Ytgiegiobigdplaa
