/- A card and a port that take turns in good order. -/
import Derived.Test.YtgiegiobigdplaaVnZ
namespace Go.Proofs.Ytgiegiobigdplaa
section
section
open Go Go.RowKit
attribute [local go_sem ↓] Go.wp_at_zero Go.wp_at_succ
set_option maxRecDepth 100000
set_option linter.unusedSimpArgs false
set_option linter.unusedVariables false

theorem u8w (z : Int) : ∃ x : UInt8, IntKind.u8.wrap z = (x.toNat : Int) := ⟨UInt8.ofNat (z % 256).toNat, by rw [IntKind.wrap_u8]; simp; omega⟩
theorem Blk.set8 {w : World} {g : Nat} {t : TypeId} {b : List UInt8} (h : Blk w g t (b.map u8v)) (i : Nat) (z : Int) : ∃ c : List UInt8, c.length = b.length ∧ Blk (w.setCell ⟨g, i, none⟩ (.int .u8 (z % 256))) g t (c.map u8v) := by
  obtain ⟨x, hx⟩ := u8w z
  rw [IntKind.wrap_u8] at hx
  refine ⟨b.set i x, List.length_set .., ?_⟩
  rw [hx, List.map_set]
  exact h.set_ i _
def FramePost (w : World) (e : Ending) (w' : World) : Prop := ∃ (g : Nat) (b : List UInt8), 14 ≤ b.length ∧ b.length ≤ 1514 ∧ e = .returned (.slice (some ⟨g, 0, none⟩) b.length b.length) ∧ w.heap.size ≤ g ∧ Blk w' g 5 (b.map u8v) ∧ Below w.heap.size w w'
theorem vframe_at (x z : Int) (w : World) : Calls Try.prog 24 #[.int .i64 x, .int .i64 z] w (FramePost w) := by
  have HW := hid (fun wy => within_at z 1501 1501 wy rfl (by decide) (by decide))
  go_enter Try.func24, Try.ntmps24
  go_upto_region 2 with (go_at_call 23; refine (HW.out _).mono ?_; rintro e w' ⟨k, hk, rfl, hw⟩; subst hw; obtain ⟨n, hn⟩ : ∃ n, 14 + k = n := ⟨_, rfl⟩; have hnI : (14 : Int) + (k : Int) = (n : Int) := (by omega); have hnb : 14 ≤ n ∧ n ≤ 1514 := (by omega); have hmk := run_make8 u8ok .i64 .i64 (n : Int) n rfl (by omega); clear hk hn)
  have hz : (zero8 n).toList = (zeros n).map u8v := by rw [zeros, List.map_replicate]; rfl
  have B1 := hid (show Blk (w.alloc (.cells (zero8 n) 5)) w.heap.size 5 ((zeros n).map u8v) from by rw [← hz]; exact Blk.new w 5 (zero8 n))
  have K1 := hid (below_alloc w (.cells (zero8 n) 5))
  have Hg := hid (show w.heap.size ≤ w.heap.size from Nat.le_refl _)
  have Hn := hid hnb
  clear hz hmk hnI
  generalize w.alloc (.cells (zero8 n) 5) = w1 at *
  obtain ⟨g, hg⟩ : ∃ g, w.heap.size = g := ⟨_, rfl⟩
  rw [hg] at B1
  have HG := hid hg
  simp only [hg]
  have hc0 : w1.cell? ⟨g, 0, none⟩ = some (.int .u8 0) := (B1.out.cell 0).trans (by rw [List.getElem?_eq_getElem (by rw [List.length_map, zeros_len]; omega)]; simp [zeros])
  have hc1 : w1.cell? ⟨g, 1, none⟩ = some (.int .u8 0) := (B1.out.cell 1).trans (by rw [List.getElem?_eq_getElem (by rw [List.length_map, zeros_len]; omega)]; simp [zeros])
  have z0 := B1.out.frozen 0
  have z1 := B1.out.frozen 1
  go_upto_region 3 with fail
  obtain ⟨c1, hl1, hb1⟩ := B1.out.set8 0 x
  obtain ⟨c2, hl2, hb2⟩ := hb1.set8 1 (x / 256)
  rw [zeros_len] at hl1
  rw [hl1] at hl2
  have K3 := hid (show Below w.heap.size w _ from (K1.out.setCell (p := ⟨g, 0, none⟩) (Nat.le_of_eq hg) (.int .u8 (x % 256))).setCell (p := ⟨g, 1, none⟩) (Nat.le_of_eq hg) (.int .u8 (x / 256 % 256)))
  have B3 := hid hb2
  have Hl2 := hid hl2
  clear hb1 hb2 hl1 hl2 hc0 hc1 z0 z1 B1 K1
  generalize (w1.setCell ⟨g, 0, none⟩ (.int .u8 (x % 256))).setCell ⟨g, 1, none⟩ (.int .u8 (x / 256 % 256)) = w3 at *
  obtain ⟨p, hp⟩ : ∃ p, p + 1 = n := ⟨n - 1, by omega⟩
  have hpI : (n : Int) - 1 = (p : Int) := by omega
  have hpn : (p : Int) < (n : Int) := by omega
  obtain ⟨old, hco⟩ : ∃ old, w3.cell? ⟨g, p, none⟩ = some old := ⟨_, (B3.out.cell p).trans (List.getElem?_eq_getElem (by rw [List.length_map, Hl2.out]; omega))⟩
  have zp := B3.out.frozen p
  go_wp2_with fail
  go_ret
  obtain ⟨c4, hl4, hb4⟩ := B3.out.set8 p z
  rw [Hl2.out] at hl4
  exact ⟨g, c4, by rw [hl4]; exact Hn.out.1, by rw [hl4]; exact Hn.out.2, by rw [hl4]; rfl, Nat.le_of_eq hg, hb4, K3.out.setCell (p := ⟨g, p, none⟩) (Nat.le_of_eq hg) _⟩
end
section
section
open Go Go.RowKit
set_option linter.unusedVariables false

theorem CardAt.memG {w w' : World} {base gm L b n gC : Nat} {M M' : List UInt8} {ci co : VQ} {m : Nat} {I : CardIds} {G : Nat → Prop} (h : CardAt w base gm L b n gC M ci co m I) (hf : Frame G w w') (hd : ∀ k, I.foot gC k → ¬ G k) (hm : MemAt w' gm M') (hl : M'.length = L) : CardAt w' base gm L b n gC M' ci co m I :=
  ⟨hf.blk h.tab (hd _ (.inl rfl)), h.qi.frame hf (fun k hk => hd k (.inr (.inl hk))), h.qo.frame hf (fun k hk => hd k (.inr (.inr hk))), hm, hl, h.apart, h.ni, h.no, h.nm, h.lo⟩
theorem PortAt.memG {w w' : World} {base gm L b n gP : Nat} {M M' : List UInt8} {pi po : VD} {gdi gdo : Nat} {G : Nat → Prop} (h : PortAt w base gm L b n gP M pi po gdi gdo) (hf : Frame G w w') (hd : ∀ k, portFoot gP gdi gdo k → ¬ G k) (hm : MemAt w' gm M') (hl : M'.length = L) : PortAt w' base gm L b n gP M' pi po gdi gdo :=
  ⟨hf.blk h.tab (hd _ (.inl rfl)), h.di.frame hf (hd _ (.inr (.inl rfl))), h.do_.frame hf (hd _ (.inr (.inr rfl))), hm, hl, h.ne, h.lo⟩
/-- both, at one state -/
structure VPlay (w : World) (base gm L b n gC gP gdi gdo m : Nat) (I : CardIds) (s : VnSt) : Prop where
  card : CardAt w base gm L b n gC s.M s.ci s.co m I
  port : PortAt w base gm L b n gP s.M s.pi s.po gdi gdo
  far : ∀ k, I.foot gC k → ¬ portFoot gP gdi gdo k
def VPlay.foot (gm gC gP gdi gdo : Nat) (I : CardIds) : Nat → Prop := fun k => I.foot gC k ∨ portFoot gP gdi gdo k ∨ k = gm
section
variable {w w' : World} {base gm L b n gC gP gdi gdo m : Nat} {I : CardIds} {s : VnSt}
theorem VPlay.keep (h : VPlay w base gm L b n gC gP gdi gdo m I s) (hb : Below w.heap.size w w') : VPlay w' base gm L b n gC gP gdi gdo m I s := ⟨h.card.keep hb, h.port.keep hb, h.far⟩
theorem VPlay.frame {G : Nat → Prop} (h : VPlay w base gm L b n gC gP gdi gdo m I s) (hf : Frame G w w') (hd : ∀ k, VPlay.foot gm gC gP gdi gdo I k → ¬ G k) : VPlay w' base gm L b n gC gP gdi gdo m I s :=
  ⟨h.card.frame hf (fun k hk => hd k (hk.imp_right .inr)), h.port.frame hf (fun k hk => hd k (.inr hk)), h.far⟩
theorem VPlay.bd (h : VPlay w base gm L b n gC gP gdi gdo m I s) (k : Nat) (hk : VPlay.foot gm gC gP gdi gdo I k) : k < w.heap.size := by
  rcases hk with hk | hk | rfl
  · exact (h.card.bd k hk).2
  · exact (h.port.bd k hk).2
  · exact Blk.lt h.card.mem
/-- the port has gone on -/
theorem VPlay.port_ {M' : List UInt8} {pi' po' : VD} (h : VPlay w base gm L b n gC gP gdi gdo m I s) (hp : PortAt w' base gm L b n gP M' pi' po' gdi gdo) (hf : Frame (fun k => portFoot gP gdi gdo k ∨ k = gm) w w') : VPlay w' base gm L b n gC gP gdi gdo m I { s with M := M', pi := pi', po := po' } :=
  ⟨h.card.memG hf (fun k hk e => e.elim (h.far k hk) (fun e => h.card.nm (e ▸ hk))) hp.mem hp.len, hp, h.far⟩
/-- the card has gone on -/
theorem VPlay.card_ {M' : List UInt8} {ci' co' : VQ} {m' : Nat} {I' : CardIds} (h : VPlay w base gm L b n gC gP gdi gdo m I s) (hc : CardAt w' base gm L b n gC M' ci' co' m' I') (hf : Frame (fun k => I.foot gC k ∨ k = gm) w w') (hI : ∀ k, I'.foot gC k → I.foot gC k ∨ w.heap.size ≤ k) : VPlay w' base gm L b n gC gP gdi gdo m' I' { s with M := M', ci := ci', co := co' } :=
  ⟨hc, h.port.memG hf (fun k hk e => e.elim (fun e => h.far k e hk) (fun e => h.port.nm (e ▸ hk))) hc.mem hc.len, fun k hk e => (hI k hk).elim (fun e2 => h.far k e2 e) (fun e2 => by have := (h.port.bd k e).2; omega)⟩
end
/-- a card and a port that were just made -/
theorem vplay_start {w2 w3 : World} {base gm L b n gC gP gdi gdo m : Nat} {I : CardIds} {M : List UInt8} {ci co : VQ} {pi po : VD} (hc : CardAt w2 base gm L b n gC M ci co m I) (hp : PortAt w3 base gm L b n gP M pi po gdi gdo) (hb : Below w2.heap.size w2 w3) (hn : ∀ k, portFoot gP gdi gdo k → w2.heap.size ≤ k) : VPlay w3 base gm L b n gC gP gdi gdo m I ⟨M, ci, co, pi, po⟩ :=
  ⟨hc.keep hb, hp, fun k hk e => by have := (hc.bd k hk).2; have := hn k e; omega⟩
end
section
open Go Go.RowKit
attribute [local go_sem ↓] Go.wp_at_zero Go.wp_at_succ
set_option maxRecDepth 100000
set_option linter.unusedSimpArgs false
set_option linter.unusedVariables false

theorem zero8_list (n : Nat) : (zero8 n).toList = (zeros n).map u8v := by rw [zeros, List.map_replicate]; rfl
theorem mem_zero8 (w : World) (n : Nat) : MemAt (w.alloc (.cells (zero8 n) 5)) w.heap.size (zeros n) := by
  show Blk _ _ _ _
  rw [← zero8_list]
  exact Blk.new w 5 (zero8 n)
/-- what NewCard and NewPort leave, one behind the other -/
theorem start_play {w2 w3 : World} {base gm L b n gC gP gdi gdo : Nat} {I : CardIds} {M : List UInt8} (hc : CardAt w2 base gm L b n gC (vOffers b n (vNewM M b n, vq0 n) n).1 (vOffers b n (vNewM M b n, vq0 n) n).2 (vq0 n) n I)
    (hp : PortAt w3 base gm L b n gP (vOffers b n (vNewM M b n, vq0 n) n).1 ⟨0, 0⟩ ⟨0, 0⟩ gdi gdo) (hb : Below w2.heap.size w2 w3) (hn : ∀ k, portFoot gP gdi gdo k → w2.heap.size ≤ k) : VPlay w3 base gm L b n gC gP gdi gdo n I (vStart M b n) := vplay_start hc hp hb hn
theorem fits_of {L n : Nat} (hok : okN (n : Int) = true) (hL : vArea n ≤ L) : vFits L ((0 : Nat) : Int) (n : Int) = true := by
  have hn := okN_le hok
  unfold vFits
  rw [hok, vAreaI_of hok]
  simp only [Bool.and_eq_true, decide_eq_true_eq, Bool.true_and]
  constructor <;> omega
end
end
end
section
open Go Go.RowKit
set_option linter.unusedVariables false

/-- both sides at a state in good order: Wi waits to be received, Wo waits to be told as sent -/
structure Pl (w : World) (base gm L n gC gP d : Nat) (F : Nat → Prop) (Wi Wo : List (List UInt8)) : Prop where
  ex : ∃ (gdi gdo m : Nat) (I : CardIds) (s : VnSt), VPlay w base gm L 0 n gC gP gdi gdo m I s ∧ Flow s 0 n Wi Wo ∧ m ≤ d ∧ F = VPlay.foot gm gC gP gdi gdo I
  lo : ∀ k, F k → base ≤ k
  fit : vFits L ((0 : Nat) : Int) (n : Int) = true
  big : L ≤ 1000000
def PlPost (base gm L n gC gP d : Nat) (F : Nat → Prop) (w w' : World) (Wi Wo : List (List UInt8)) : Prop :=
  ∃ F', Pl w' base gm L n gC gP d F' Wi Wo ∧ Frame F w w' ∧ ∀ k, F' k → F k ∨ w.heap.size ≤ k
section
variable {w w' : World} {base gm L n gC gP d : Nat} {F : Nat → Prop} {Wi Wo : List (List UInt8)}
theorem Pl.bd (h : Pl w base gm L n gC gP d F Wi Wo) (k : Nat) (hk : F k) : k < w.heap.size := by
  obtain ⟨gdi, gdo, m, I, s, hp, _, _, rfl⟩ := h.ex
  exact hp.bd k hk
theorem Pl.len (h : Pl w base gm L n gC gP d F Wi Wo) : Wi.length ≤ n ∧ Wo.length ≤ n := by
  obtain ⟨gdi, gdo, m, I, s, _, hf, _, _⟩ := h.ex
  exact hf.len
theorem Pl.keep (h : Pl w base gm L n gC gP d F Wi Wo) (hb : Below w.heap.size w w') : Pl w' base gm L n gC gP d F Wi Wo := by
  obtain ⟨gdi, gdo, m, I, s, hp, hf, hm, e⟩ := h.ex
  exact ⟨⟨gdi, gdo, m, I, s, hp.keep hb, hf, hm, e⟩, h.lo, h.fit, h.big⟩
theorem Pl.frame {G : Nat → Prop} (h : Pl w base gm L n gC gP d F Wi Wo) (hf : Frame G w w') (hd : ∀ k, F k → ¬ G k) : Pl w' base gm L n gC gP d F Wi Wo := by
  obtain ⟨gdi, gdo, m, I, s, hp, hfl, hm, rfl⟩ := h.ex
  exact ⟨⟨gdi, gdo, m, I, s, hp.frame hf hd, hfl, hm, rfl⟩, h.lo, h.fit, h.big⟩
theorem Pl.more {d' : Nat} (h : Pl w base gm L n gC gP d F Wi Wo) (hd : d ≤ d') : Pl w base gm L n gC gP d' F Wi Wo := by
  obtain ⟨gdi, gdo, m, I, s, hp, hfl, hm, rfl⟩ := h.ex
  exact ⟨⟨gdi, gdo, m, I, s, hp, hfl, Nat.le_trans hm hd, rfl⟩, h.lo, h.fit, h.big⟩
theorem pl_lo' {F' : Nat → Prop} (h : Pl w base gm L n gC gP d F Wi Wo) (hF : ∀ k, F' k → F k ∨ w.heap.size ≤ k) (k : Nat) (hk : F' k) : base ≤ k := by
  obtain ⟨gdi, gdo, m, I, s, hp, hfl, hm, rfl⟩ := h.ex
  rcases hF k hk with e | e
  · exact h.lo k e
  · have h1 := h.lo gm (.inr (.inr rfl))
    have h2 := hp.bd gm (.inr (.inr rfl))
    omega
/-- the port delivers -/
theorem pl_deliver_any {v : Value} {f : List UInt8} (h : Pl w base gm L n gC gP d F Wi Wo) (hf : ∀ w', Frame F w w' → Bs w' v f) (hlen : f.length ≤ 100000)
    (r : Int) (Wi' : List (List UInt8)) (hfl : ∀ s, Flow s 0 n Wi Wo → (if f.length < 14 ∨ f.length > 1514 then (14 : Int) else (vDeliver 0 n f 65536 s.M s.pi).1) = r ∧ Flow { s with M := if f.length < 14 ∨ f.length > 1514 then s.M else (vDeliver 0 n f 65536 s.M s.pi).2.1, pi := if f.length < 14 ∨ f.length > 1514 then s.pi else (vDeliver 0 n f 65536 s.M s.pi).2.2 } 0 n Wi' Wo) :
    Calls Try.prog 19 #[.pointer (some ⟨gP, 0, none⟩), v] w fun e w' => e = .returned (.int .i64 r) ∧ PlPost base gm L n gC gP d F w w' Wi' Wo := by
  obtain ⟨gdi, gdo, m, I, s, hp, hfs, hm, rfl⟩ := h.ex
  obtain ⟨h1, h2⟩ := hfl s hfs
  refine (vdeliver_at base gm L 0 n gP s.M s.pi s.po gdi gdo v f w hp.port h.fit h.big (fun w' hf' => hf w' (hf'.weaken (fun k _ e => .inr e))) hlen).mono ?_
  rintro e w' ⟨rfl, hp', hfr⟩
  refine ⟨by rw [h1], _, ⟨⟨gdi, gdo, m, I, _, hp.port_ hp' hfr, h2, hm, rfl⟩, h.lo, h.fit, h.big⟩, hfr.weaken (fun k _ e => .inr e), fun k hk => .inl hk⟩
theorem pl_deliver {v : Value} {f : List UInt8} (h : Pl w base gm L n gC gP d F Wi Wo) (hf : ∀ w', Frame F w w' → Bs w' v f) (h14 : 14 ≤ f.length) (h1514 : f.length ≤ 1514) (hw : Wi.length < n) :
    Calls Try.prog 19 #[.pointer (some ⟨gP, 0, none⟩), v] w fun e w' => e = .returned (.int .i64 0) ∧ PlPost base gm L n gC gP d F w w' (Wi ++ [f]) Wo := by
  refine pl_deliver_any h hf (by omega) _ _ (fun s hs => ?_)
  rw [if_neg (by omega), if_neg (by omega), if_neg (by omega)]
  exact flow_deliver hs h14 h1514 hw
theorem pl_dfull {v : Value} {f : List UInt8} (h : Pl w base gm L n gC gP d F Wi Wo) (hf : ∀ w', Frame F w w' → Bs w' v f) (h14 : 14 ≤ f.length) (h1514 : f.length ≤ 1514) (hw : Wi.length = n) :
    Calls Try.prog 19 #[.pointer (some ⟨gP, 0, none⟩), v] w fun e w' => e = .returned (.int .i64 7) ∧ PlPost base gm L n gC gP d F w w' Wi Wo := by
  refine pl_deliver_any h hf (by omega) _ _ (fun s hs => ?_)
  rw [if_neg (by omega), if_neg (by omega), if_neg (by omega)]
  exact flow_full hs hw
theorem pl_dbad {v : Value} {f : List UInt8} (h : Pl w base gm L n gC gP d F Wi Wo) (hf : ∀ w', Frame F w w' → Bs w' v f) (hlen : f.length ≤ 100000) (hb : f.length < 14 ∨ f.length > 1514) :
    Calls Try.prog 19 #[.pointer (some ⟨gP, 0, none⟩), v] w fun e w' => e = .returned (.int .i64 14) ∧ PlPost base gm L n gC gP d F w w' Wi Wo := by
  refine pl_deliver_any h hf hlen _ _ (fun s hs => ?_)
  rw [if_pos hb, if_pos hb, if_pos hb]
  exact ⟨rfl, hs⟩
/-- the card sends -/
theorem pl_send_any {v : Value} {f : List UInt8} (h : Pl w base gm L n gC gP d F Wi Wo) (hd : d < 900000000) (hf : ∀ w', Frame F w w' → Bs w' v f) (hlen : f.length ≤ 100000)
    (r : Int) (Wo' : List (List UInt8)) (hfl : ∀ s, Flow s 0 n Wi Wo → (vSend 0 n s f).1 = r ∧ Flow (vSend 0 n s f).2 0 n Wi Wo') :
    Calls Try.prog 14 #[.pointer (some ⟨gC, 0, none⟩), v] w fun e w' => e = .returned (.int .i64 r) ∧ PlPost base gm L n gC gP (d + 1) F w w' Wi Wo' := by
  obtain ⟨gdi, gdo, m, I, s, hp, hfs, hm, rfl⟩ := h.ex
  obtain ⟨h1, h2⟩ := hfl s hfs
  have h34 : (vSend 0 n s f).2.pi = s.pi ∧ (vSend 0 n s f).2.po = s.po := by unfold vSend; simp only; split; exact ⟨rfl, rfl⟩; split <;> exact ⟨rfl, rfl⟩
  obtain ⟨h3, h4⟩ := h34
  refine (vsend_at base gm L 0 n gC s m I v f w hp.card h.fit h.big (by omega) (fun w' hf' => hf w' (hf'.weaken (fun k _ e => e.imp_right .inr))) hlen).mono ?_
  rintro e w' ⟨m', I', rfl, hc', hm', hfr, hI⟩
  have hpl := hp.card_ hc' hfr hI
  have hst : ({ s with M := (vSend 0 n s f).2.M, ci := (vSend 0 n s f).2.ci, co := (vSend 0 n s f).2.co } : VnSt) = (vSend 0 n s f).2 := by rw [← h3, ← h4]
  rw [hst] at hpl
  have hF : ∀ k, VPlay.foot gm gC gP gdi gdo I' k → VPlay.foot gm gC gP gdi gdo I k ∨ w.heap.size ≤ k := fun k hk => by
    rcases hk with e | e | e
    · exact (hI k e).imp_left .inl
    · exact .inl (.inr (.inl e))
    · exact .inl (.inr (.inr e))
  refine ⟨by rw [h1], _, ⟨⟨gdi, gdo, m', I', _, hpl, h2, by omega, rfl⟩, fun k hk => pl_lo' h hF k hk, h.fit, h.big⟩, hfr.weaken (fun k _ e => e.imp_right .inr), hF⟩
theorem pl_send {v : Value} {f : List UInt8} (h : Pl w base gm L n gC gP d F Wi Wo) (hd : d < 900000000) (hf : ∀ w', Frame F w w' → Bs w' v f) (h14 : 14 ≤ f.length) (h1514 : f.length ≤ 1514) (hw : Wo.length < n) :
    Calls Try.prog 14 #[.pointer (some ⟨gC, 0, none⟩), v] w fun e w' => e = .returned (.int .i64 0) ∧ PlPost base gm L n gC gP (d + 1) F w w' Wi (Wo ++ [f]) :=
  pl_send_any h hd hf (by omega) _ _ (fun s hs => flow_send hs h14 h1514 hw)
theorem pl_sfull {v : Value} {f : List UInt8} (h : Pl w base gm L n gC gP d F Wi Wo) (hd : d < 900000000) (hf : ∀ w', Frame F w w' → Bs w' v f) (h14 : 14 ≤ f.length) (h1514 : f.length ≤ 1514) (hw : Wo.length = n) :
    Calls Try.prog 14 #[.pointer (some ⟨gC, 0, none⟩), v] w fun e w' => e = .returned (.int .i64 7) ∧ PlPost base gm L n gC gP (d + 1) F w w' Wi Wo :=
  pl_send_any h hd hf (by omega) _ _ (fun s hs => flow_sfull hs h14 h1514 hw)
theorem pl_sbad {v : Value} {f : List UInt8} (h : Pl w base gm L n gC gP d F Wi Wo) (hd : d < 900000000) (hf : ∀ w', Frame F w w' → Bs w' v f) (hlen : f.length ≤ 100000) (hb : f.length < 14 ∨ f.length > 1514) :
    Calls Try.prog 14 #[.pointer (some ⟨gC, 0, none⟩), v] w fun e w' => e = .returned (.int .i64 14) ∧ PlPost base gm L n gC gP (d + 1) F w w' Wi Wo := by
  refine pl_send_any h hd hf hlen _ _ (fun s hs => ?_)
  unfold vSend
  rw [if_pos hb]
  exact ⟨rfl, hs⟩
/-- the card receives -/
theorem pl_receive (h : Pl w base gm L n gC gP d F Wi Wo) (hd : d < 900000000) :
    Calls Try.prog 17 #[.pointer (some ⟨gC, 0, none⟩)] w fun e w' => ∃ v F', e = .returned v ∧ Pl w' base gm L n gC gP (d + 65536) F' [] Wo ∧ Frame F w w' ∧ (∀ k, F' k → F k ∨ w.heap.size ≤ k) ∧ RowsN w' w.heap.size F' v Wi := by
  obtain ⟨gdi, gdo, m, I, s, hp, hfs, hm, rfl⟩ := h.ex
  obtain ⟨h1, h2⟩ := flow_receive hfs
  have hbz : ∀ j, j < n → s.ci.busy[j]? = some true := by obtain ⟨_, _, _, hi, _⟩ := hfs; exact hi.busy
  refine (vreceive_at base gm L 0 n gC s m I w hp.card h.fit h.big (by omega) hbz).mono ?_
  rintro e w' ⟨v, m', I', rfl, hc', hm', hfr, hI, hr, _⟩
  have hpl := hp.card_ hc' hfr hI
  have hF : ∀ k, VPlay.foot gm gC gP gdi gdo I' k → VPlay.foot gm gC gP gdi gdo I k ∨ w.heap.size ≤ k := fun k hk => by
    rcases hk with e | e | e
    · exact (hI k e).imp_left .inl
    · exact .inl (.inr (.inl e))
    · exact .inl (.inr (.inr e))
  rw [h1] at hr
  refine ⟨v, _, rfl, ⟨⟨gdi, gdo, m', I', _, hpl, h2, by omega, rfl⟩, fun k hk => pl_lo' h hF k hk, h.fit, h.big⟩, hfr.weaken (fun k _ e => e.imp_right .inr), hF, hr.step (Frame.refl (fun _ => False) _) (fun k k1 k2 k3 => ⟨id, fun e => ?_⟩)⟩
  rcases e with e | e | e
  · exact k3 e
  · have := hp.bd k (.inr (.inl e))
    omega
  · have := hp.bd k (.inr (.inr e))
    omega
/-- the port tells what was sent -/
theorem pl_sent (h : Pl w base gm L n gC gP d F Wi Wo) :
    Calls Try.prog 21 #[.pointer (some ⟨gP, 0, none⟩)] w fun e w' => ∃ v, e = .returned v ∧ Pl w' base gm L n gC gP d F Wi [] ∧ Frame F w w' ∧ RowsN w' w.heap.size F v Wo := by
  obtain ⟨gdi, gdo, m, I, s, hp, hfs, hm, rfl⟩ := h.ex
  obtain ⟨h1, h2⟩ := flow_sent hfs
  refine (vsent_at base gm L 0 n gP s.M s.pi s.po gdi gdo w hp.port h.fit h.big).mono ?_
  rintro e w' ⟨v, rfl, hp', hfr, hr⟩
  rw [h1] at hr
  refine ⟨v, rfl, ⟨⟨gdi, gdo, m, I, _, hp.port_ hp' hfr, h2, hm, rfl⟩, h.lo, h.fit, h.big⟩, hfr.weaken (fun k _ e => .inr e), hr.step (Frame.refl (fun _ => False) _) (fun k k1 k2 k3 => ⟨id, fun e => ?_⟩)⟩
  have := hp.bd k e
  omega
/-- a card and a port that were just made -/
theorem pl_start {w2 w3 : World} {gdi gdo : Nat} {I : CardIds} {M : List UInt8} (hc : CardAt w2 base gm L 0 n gC (vOffers 0 n (vNewM M 0 n, vq0 n) n).1 (vOffers 0 n (vNewM M 0 n, vq0 n) n).2 (vq0 n) n I)
    (hp : PortAt w3 base gm L 0 n gP (vOffers 0 n (vNewM M 0 n, vq0 n) n).1 ⟨0, 0⟩ ⟨0, 0⟩ gdi gdo) (hb : Below w2.heap.size w2 w3) (hn : ∀ k, portFoot gP gdi gdo k → w2.heap.size ≤ k) (hfit : vFits L ((0 : Nat) : Int) (n : Int) = true) (hM : M.length = L) (hL : L ≤ 1000000) (hgm : base ≤ gm) :
    Pl w3 base gm L n gC gP n (VPlay.foot gm gC gP gdi gdo I) [] [] := by
  obtain ⟨hok, hfb⟩ := fits_parts hfit
  have hpl := start_play hc hp hb hn
  refine ⟨⟨gdi, gdo, n, I, _, hpl, flow_start hok (by omega) (by omega), Nat.le_refl _, rfl⟩, fun k hk => ?_, hfit, hL⟩
  rcases hk with e | e | e
  · exact (hc.bd k e).1
  · exact (hp.bd k e).1
  · rw [e]; exact hgm
end
/-- a frame that lies in a block of its own -/
theorem blk_bs {w w' : World} {g : Nat} {F : Nat → Prop} {f : List UInt8} (h : Blk w g 5 (f.map u8v)) (hn : ¬ F g) (hl : f.length ≤ 100000) (hf : Frame F w w') : Bs w' (.slice (some ⟨g, 0, none⟩) f.length f.length) f :=
  (hf.blk h hn).bs (by rw [List.drop_zero, List.take_of_length_le (by rw [List.length_map]; exact Nat.le_refl _)]) rfl (Nat.le_refl _) (by unfold maxLen; omega)
end
end Go.Proofs.Ytgiegiobigdplaa
