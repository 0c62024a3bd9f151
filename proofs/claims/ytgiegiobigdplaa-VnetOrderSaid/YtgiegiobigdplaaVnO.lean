/- The program's port is made; a card and a port that do not fit. -/
import Derived.Test.YtgiegiobigdplaaVnN
namespace Go.Proofs.Ytgiegiobigdplaa
open Go Go.RowKit
attribute [local go_sem ↓] Go.wp_at_zero Go.wp_at_succ
set_option maxRecDepth 100000
set_option linter.unusedSimpArgs false
set_option linter.unusedVariables false

theorem vnewcard_no (gm L : Nat) (A : Option Addr) (base n : Int) (w : World) (hfit : vFits L base n = false) (hL : L ≤ 1000000) :
    Calls Try.prog 10 #[.slice A L L, .int .i64 base, .int .i64 n] w fun e w' => e = .returned (.tuple #[.pointer none, .int .i64 1]) ∧ w' = w := by
  have HFi := hid (fun wy => vfits_any A L L base n wy hL)
  rw [hfit] at HFi
  clear hfit
  go_enter Try.func10, Try.ntmps10
  go_wp2_with (go_at_call 27; refine (HFi.out _).mono ?_; rintro e w' ⟨rfl, hw⟩; have hw := hw.symm; subst hw)
  go_ret2
  exact ⟨rfl, rfl⟩
theorem vnewport_no (gm L : Nat) (A : Option Addr) (base n : Int) (w : World) (hfit : vFits L base n = false) (hL : L ≤ 1000000) :
    Calls Try.prog 12 #[.slice A L L, .int .i64 base, .int .i64 n] w fun e w' => e = .returned (.tuple #[.pointer none, .int .i64 1]) ∧ w' = w := by
  have HFi := hid (fun wy => vfits_any A L L base n wy hL)
  rw [hfit] at HFi
  clear hfit
  go_enter Try.func12, Try.ntmps12
  go_wp2_with (go_at_call 27; refine (HFi.out _).mono ?_; rintro e w' ⟨rfl, hw⟩; have hw := hw.symm; subst hw)
  go_ret2
  exact ⟨rfl, rfl⟩
def portFoot (gP gdi gdo : Nat) : Nat → Prop := fun k => k = gP ∨ k = gdi ∨ k = gdo
/-- the program's port in block gP -/
structure PortAt (w : World) (base gm L b n gP : Nat) (M : List UInt8) (pi po : VD) (gdi gdo : Nat) : Prop where
  tab : Blk w gP 75 [.slice (some ⟨gm, 0, none⟩) L L, .pointer (some ⟨gdi, 0, none⟩), .pointer (some ⟨gdo, 0, none⟩)]
  di : DevAt w base gm b n gdi pi
  do_ : DevAt w base gm (b + vSize n) n gdo po
  mem : MemAt w gm M
  len : M.length = L
  ne : gdi ≠ gdo
  lo : base ≤ gP
section
variable {w w' : World} {base gm L b n gP : Nat} {M M' : List UInt8} {pi po : VD} {gdi gdo : Nat}
theorem PortAt.frame {G : Nat → Prop} (h : PortAt w base gm L b n gP M pi po gdi gdo) (hf : Frame G w w') (hd : ∀ k, portFoot gP gdi gdo k ∨ k = gm → ¬ G k) : PortAt w' base gm L b n gP M pi po gdi gdo :=
  ⟨hf.blk h.tab (hd _ (.inl (.inl rfl))), h.di.frame hf (hd _ (.inl (.inr (.inl rfl)))), h.do_.frame hf (hd _ (.inl (.inr (.inr rfl)))), h.mem.frame hf (hd _ (.inr rfl)), h.len, h.ne, h.lo⟩
theorem PortAt.keep (h : PortAt w base gm L b n gP M pi po gdi gdo) (hb : Below w.heap.size w w') : PortAt w' base gm L b n gP M pi po gdi gdo := h.frame (G := fun _ => False) (Below.frameF hb _) (fun _ _ => id)
theorem PortAt.bd (h : PortAt w base gm L b n gP M pi po gdi gdo) (k : Nat) (hk : portFoot gP gdi gdo k) : base ≤ k ∧ k < w.heap.size := by
  rcases hk with rfl | rfl | rfl
  · exact ⟨h.lo, h.tab.lt⟩
  · exact ⟨h.di.lo, h.di.tab.lt⟩
  · exact ⟨h.do_.lo, h.do_.tab.lt⟩
theorem PortAt.nm (h : PortAt w base gm L b n gP M pi po gdi gdo) : ¬ portFoot gP gdi gdo gm := by
  rintro (e | e | e)
  · exact blk_ne h.tab h.mem (by decide) e.symm
  · exact blk_ne h.di.tab h.mem (by decide) e.symm
  · exact blk_ne h.do_.tab h.mem (by decide) e.symm
theorem PortAt.mem_ (h : PortAt w base gm L b n gP M pi po gdi gdo) (hf : Frame (fun k => k = gm) w w') (hm : MemAt w' gm M') (hl : M'.length = L) : PortAt w' base gm L b n gP M' pi po gdi gdo :=
  ⟨hf.blk h.tab (fun e => h.nm (.inl e.symm)), h.di.frame hf (fun e => h.nm (.inr (.inl e.symm))), h.do_.frame hf (fun e => h.nm (.inr (.inr e.symm))), hm, hl, h.ne, h.lo⟩
theorem PortAt.in_ {pi' : VD} (h : PortAt w base gm L b n gP M pi po gdi gdo) (hf : Frame (fun k => k = gdi ∨ k = gm) w w') (hd : DevAt w' base gm b n gdi pi') (hm : MemAt w' gm M') (hl : M'.length = L) : PortAt w' base gm L b n gP M' pi' po gdi gdo :=
  ⟨hf.blk h.tab (fun e => e.elim (fun e => blk_ne h.tab h.di.tab (by decide) e) (fun e => h.nm (.inl e.symm))), hd, h.do_.frame hf (fun e => e.elim (fun e => h.ne e.symm) (fun e => h.nm (.inr (.inr e.symm)))), hm, hl, h.ne, h.lo⟩
theorem PortAt.out_ {po' : VD} (h : PortAt w base gm L b n gP M pi po gdi gdo) (hf : Frame (fun k => k = gdo ∨ k = gm) w w') (hd : DevAt w' base gm (b + vSize n) n gdo po') (hm : MemAt w' gm M') (hl : M'.length = L) : PortAt w' base gm L b n gP M' pi po' gdi gdo :=
  ⟨hf.blk h.tab (fun e => e.elim (fun e => blk_ne h.tab h.do_.tab (by decide) e) (fun e => h.nm (.inl e.symm))), h.di.frame hf (fun e => e.elim (fun e => h.ne e) (fun e => h.nm (.inr (.inl e.symm)))), hd, hm, hl, h.ne, h.lo⟩
end
theorem DevAt.base_ {w : World} {base base' gm b n g : Nat} {d : VD} (h : DevAt w base gm b n g d) (hb : base' ≤ base) : DevAt w base' gm b n g d := ⟨h.tab, h.got, h.put, Nat.le_trans hb h.lo⟩
theorem fits_parts {L b n : Nat} (hfit : vFits L (b : Int) (n : Int) = true) : okN (n : Int) = true ∧ b + 2 * vSize n + 2 * n * 1528 ≤ L := by
  unfold vFits at hfit
  simp only [Bool.and_eq_true, decide_eq_true_eq] at hfit
  have h2 := hfit.2
  rw [vAreaI_of hfit.1.1] at h2
  unfold vArea at h2
  exact ⟨hfit.1.1, by omega⟩
def NewPortPost (base gm L b n : Nat) (M : List UInt8) (w : World) (e : Ending) (w' : World) : Prop :=
  ∃ gP gdi gdo, e = .returned (.tuple #[.pointer (some ⟨gP, 0, none⟩), .int .i64 0]) ∧ PortAt w' base gm L b n gP M ⟨0, 0⟩ ⟨0, 0⟩ gdi gdo ∧ Below w.heap.size w w' ∧ ∀ k, portFoot gP gdi gdo k → w.heap.size ≤ k
theorem vnewport_yes (base gm L b n : Nat) (M : List UInt8) (w : World) (hfit : vFits L (b : Int) (n : Int) = true) (hL : L ≤ 1000000) (hM : M.length = L) (hm : MemAt w gm M) (hbase : base ≤ w.heap.size) :
    Calls Try.prog 12 #[.slice (some ⟨gm, 0, none⟩) L L, .int .i64 (b : Int), .int .i64 (n : Int)] w (NewPortPost base gm L b n M w) := by
  obtain ⟨hok, hfb⟩ := fits_parts hfit
  have h0 := fun wy => vsize_any (n : Int) wy
  rw [vSizeI_of hok] at h0
  obtain ⟨S, hS⟩ : ∃ S, vSize n = S := ⟨_, rfl⟩
  rw [hS] at h0 hfb
  have HSz := hid h0
  have HFi := hid (fun wy => vfits_any (some ⟨gm, 0, none⟩) L L (b : Int) (n : Int) wy hL)
  rw [hfit] at HFi
  have HM := hid hm
  obtain ⟨b2, hb2⟩ : ∃ x : Nat, b + S = x := ⟨_, rfl⟩
  have hb2I : (b : Int) + (S : Int) = (b2 : Int) := by omega
  have HN1 := hid (vnewdev_yes gm L b n w hok (by rw [hS]; omega) hL)
  have HN2 := hid (fun wy => vnewdev_yes gm L b2 n wy hok (by rw [hS]; omega) hL)
  have hbb : b ≤ 1000000 ∧ S ≤ 1000000 := by omega
  have Hb2 := hid (And.intro hS hb2)
  clear hm hfit hok hfb h0 hS hb2
  go_enter Try.func12, Try.ntmps12
  go_wp2_with (first
    | (go_at_call 27; refine (HFi.out _).mono ?_; rintro e w' ⟨rfl, hw⟩; have hw := hw.symm; subst hw)
    | (go_at_call 25; refine (HSz.out _).mono ?_; rintro e w' ⟨rfl, hw⟩; have hw := hw.symm; subst hw)
    | (go_at_call 33; (with_reducible refine HN1.out.mono ?_); rintro e w2 ⟨gdi, rfl, hd, hb⟩; have D2 := hid hd; have B2 := hid hb; clear hd hb)
    | (go_at_call 33; (with_reducible refine (HN2.out w2).mono ?_); rintro e w3 ⟨gdo, rfl, hd, hb⟩; have D3 := hid hd; have B3 := hid hb; clear hd hb))
  go_ret2
  have b3 := B2.out.trans (B3.out.mono B2.out.size)
  have b4 := below_alloc' b3 (.cells #[.slice (some ⟨gm, 0, none⟩) L L, .pointer (some ⟨gdi, 0, none⟩), .pointer (some ⟨gdo, 0, none⟩)] 75)
  have d2 := (D2.out.keep B3.out).keep (below_alloc w3 (.cells #[.slice (some ⟨gm, 0, none⟩) L L, .pointer (some ⟨gdi, 0, none⟩), .pointer (some ⟨gdo, 0, none⟩)] 75))
  have d3 := D3.out.keep (below_alloc w3 (.cells #[.slice (some ⟨gm, 0, none⟩) L L, .pointer (some ⟨gdi, 0, none⟩), .pointer (some ⟨gdo, 0, none⟩)] 75))
  have hlt2 : gdi < w2.heap.size := D2.out.tab.lt
  have hlo3 : w2.heap.size ≤ gdo := D3.out.lo
  refine ⟨w3.heap.size, gdi, gdo, rfl, ⟨Blk.new w3 75 #[.slice (some ⟨gm, 0, none⟩) L L, .pointer (some ⟨gdi, 0, none⟩), .pointer (some ⟨gdo, 0, none⟩)], d2.base_ hbase, ?_, HM.out.keep b4, hM, by omega, ?_⟩, b4, ?_⟩
  · rw [Hb2.out.1, Hb2.out.2]
    exact d3.base_ (Nat.le_trans hbase B2.out.size)
  · have := b3.size; omega
  · rintro k (rfl | rfl | rfl)
    · exact b3.size
    · exact D2.out.lo
    · exact Nat.le_trans B2.out.size hlo3
end Go.Proofs.Ytgiegiobigdplaa
