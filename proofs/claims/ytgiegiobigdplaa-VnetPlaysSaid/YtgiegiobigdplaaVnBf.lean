/- The document's port: made; may a chain be written or read? -/
import Derived.Test.YtgiegiobigdplaaVnBb
import Derived.Test.YtgiegiobigdplaaVnU
namespace Go.Proofs.Ytgiegiobigdplaa
open Go Go.RowKit
attribute [local go_sem ↓] Go.wp_at_zero Go.wp_at_succ
set_option maxRecDepth 100000
set_option linter.unusedSimpArgs false
set_option linter.unusedVariables false

theorem rnewcard_no (gm L : Nat) (A : Option Addr) (base n : Int) (w : World) (hfit : vFits L base n = false) (hL : L ≤ 1000000) :
    Calls Try.prog 11 #[.slice A L L, .int .i64 base, .int .i64 n] w fun e w' => e = .returned (.tuple #[.pointer none, .int .i64 1]) ∧ w' = w := by
  have HFi := hid (fun wy => rvfits5_any A L L base n wy hL)
  rw [hfit] at HFi
  clear hfit
  go_enter Try.func11, Try.ntmps11
  go_wp2_with (go_at_call 30; refine (HFi.out _).mono ?_; rintro e w' ⟨rfl, hw⟩; have hw := hw.symm; subst hw)
  go_ret2
  exact ⟨rfl, rfl⟩
theorem rnewport_no (gm L : Nat) (A : Option Addr) (base n : Int) (w : World) (hfit : vFits L base n = false) (hL : L ≤ 1000000) :
    Calls Try.prog 13 #[.slice A L L, .int .i64 base, .int .i64 n] w fun e w' => e = .returned (.tuple #[.pointer none, .int .i64 1]) ∧ w' = w := by
  have HFi := hid (fun wy => rvfits5_any A L L base n wy hL)
  rw [hfit] at HFi
  clear hfit
  go_enter Try.func13, Try.ntmps13
  go_wp2_with (go_at_call 30; refine (HFi.out _).mono ?_; rintro e w' ⟨rfl, hw⟩; have hw := hw.symm; subst hw)
  go_ret2
  exact ⟨rfl, rfl⟩
/-- the document's port in block gP -/
structure RPortAt (w : World) (base gm L b n gP : Nat) (M : List UInt8) (pi po : VD) (gdi gdo : Nat) : Prop where
  tab : Blk w gP 78 [.pointer (some ⟨gdi, 0, none⟩), .pointer (some ⟨gdo, 0, none⟩), .slice (some ⟨gm, 0, none⟩) L L]
  di : RDevAt w base gm L b n gdi pi
  do_ : RDevAt w base gm L (b + vSize n) n gdo po
  mem : MemAt w gm M
  len : M.length = L
  ne : gdi ≠ gdo
  lo : base ≤ gP
section
variable {w w' : World} {base gm L b n gP : Nat} {M M' : List UInt8} {pi po : VD} {gdi gdo : Nat}
theorem RPortAt.frame {G : Nat → Prop} (h : RPortAt w base gm L b n gP M pi po gdi gdo) (hf : Frame G w w') (hd : ∀ k, portFoot gP gdi gdo k ∨ k = gm → ¬ G k) : RPortAt w' base gm L b n gP M pi po gdi gdo :=
  ⟨hf.blk h.tab (hd _ (.inl (.inl rfl))), h.di.frame hf (hd _ (.inl (.inr (.inl rfl)))), h.do_.frame hf (hd _ (.inl (.inr (.inr rfl)))), h.mem.frame hf (hd _ (.inr rfl)), h.len, h.ne, h.lo⟩
theorem RPortAt.keep (h : RPortAt w base gm L b n gP M pi po gdi gdo) (hb : Below w.heap.size w w') : RPortAt w' base gm L b n gP M pi po gdi gdo := h.frame (G := fun _ => False) (Below.frameF hb _) (fun _ _ => id)
theorem RPortAt.bd (h : RPortAt w base gm L b n gP M pi po gdi gdo) (k : Nat) (hk : portFoot gP gdi gdo k) : base ≤ k ∧ k < w.heap.size := by
  rcases hk with rfl | rfl | rfl
  · exact ⟨h.lo, h.tab.lt⟩
  · exact ⟨h.di.lo, h.di.tab.lt⟩
  · exact ⟨h.do_.lo, h.do_.tab.lt⟩
theorem RPortAt.nm (h : RPortAt w base gm L b n gP M pi po gdi gdo) : ¬ portFoot gP gdi gdo gm := by
  rintro (e | e | e)
  · exact blk_ne h.tab h.mem (by decide) e.symm
  · exact blk_ne h.di.tab h.mem (by decide) e.symm
  · exact blk_ne h.do_.tab h.mem (by decide) e.symm
theorem RPortAt.mem_ (h : RPortAt w base gm L b n gP M pi po gdi gdo) (hf : Frame (fun k => k = gm) w w') (hm : MemAt w' gm M') (hl : M'.length = L) : RPortAt w' base gm L b n gP M' pi po gdi gdo :=
  ⟨hf.blk h.tab (fun e => h.nm (.inl e.symm)), h.di.frame hf (fun e => h.nm (.inr (.inl e.symm))), h.do_.frame hf (fun e => h.nm (.inr (.inr e.symm))), hm, hl, h.ne, h.lo⟩
theorem RPortAt.memG {G : Nat → Prop} (h : RPortAt w base gm L b n gP M pi po gdi gdo) (hf : Frame G w w') (hd : ∀ k, portFoot gP gdi gdo k → ¬ G k) (hm : MemAt w' gm M') (hl : M'.length = L) : RPortAt w' base gm L b n gP M' pi po gdi gdo :=
  ⟨hf.blk h.tab (hd _ (.inl rfl)), h.di.frame hf (hd _ (.inr (.inl rfl))), h.do_.frame hf (hd _ (.inr (.inr rfl))), hm, hl, h.ne, h.lo⟩
theorem RPortAt.in_ {pi' : VD} (h : RPortAt w base gm L b n gP M pi po gdi gdo) (hf : Frame (fun k => k = gdi ∨ k = gm) w w') (hd : RDevAt w' base gm L b n gdi pi') (hm : MemAt w' gm M') (hl : M'.length = L) : RPortAt w' base gm L b n gP M' pi' po gdi gdo :=
  ⟨hf.blk h.tab (fun e => e.elim (fun e => blk_ne h.tab h.di.tab (by decide) e) (fun e => h.nm (.inl e.symm))), hd, h.do_.frame hf (fun e => e.elim (fun e => h.ne e.symm) (fun e => h.nm (.inr (.inr e.symm)))), hm, hl, h.ne, h.lo⟩
theorem RPortAt.out_ {po' : VD} (h : RPortAt w base gm L b n gP M pi po gdi gdo) (hf : Frame (fun k => k = gdo ∨ k = gm) w w') (hd : RDevAt w' base gm L (b + vSize n) n gdo po') (hm : MemAt w' gm M') (hl : M'.length = L) : RPortAt w' base gm L b n gP M' pi po' gdi gdo :=
  ⟨hf.blk h.tab (fun e => e.elim (fun e => blk_ne h.tab h.do_.tab (by decide) e) (fun e => h.nm (.inl e.symm))), h.di.frame hf (fun e => e.elim (fun e => h.ne e) (fun e => h.nm (.inr (.inl e.symm)))), hd, hm, hl, h.ne, h.lo⟩
end
theorem RDevAt.base_ {w : World} {base base' gm L b n g : Nat} {d : VD} (h : RDevAt w base gm L b n g d) (hb : base' ≤ base) : RDevAt w base' gm L b n g d := ⟨h.tab, h.got, h.put, Nat.le_trans hb h.lo⟩
def RNewPortPost (base gm L b n : Nat) (M : List UInt8) (w : World) (e : Ending) (w' : World) : Prop :=
  ∃ gP gdi gdo, e = .returned (.tuple #[.pointer (some ⟨gP, 0, none⟩), .int .i64 0]) ∧ RPortAt w' base gm L b n gP M ⟨0, 0⟩ ⟨0, 0⟩ gdi gdo ∧ Below w.heap.size w w' ∧ ∀ k, portFoot gP gdi gdo k → w.heap.size ≤ k
theorem rnewport_yes (base gm L b n : Nat) (M : List UInt8) (w : World) (hfit : vFits L (b : Int) (n : Int) = true) (hL : L ≤ 1000000) (hM : M.length = L) (hm : MemAt w gm M) (hbase : base ≤ w.heap.size) :
    Calls Try.prog 13 #[.slice (some ⟨gm, 0, none⟩) L L, .int .i64 (b : Int), .int .i64 (n : Int)] w (RNewPortPost base gm L b n M w) := by
  obtain ⟨hok, hfb⟩ := fits_parts hfit
  have h0 := fun wy => rvsize_any (n : Int) wy
  rw [vSizeI_of hok] at h0
  obtain ⟨S, hS⟩ : ∃ S, vSize n = S := ⟨_, rfl⟩
  rw [hS] at h0 hfb
  have HSz := hid h0
  have HFi := hid (fun wy => rvfits5_any (some ⟨gm, 0, none⟩) L L (b : Int) (n : Int) wy hL)
  rw [hfit] at HFi
  have HM := hid hm
  obtain ⟨b2, hb2⟩ : ∃ x : Nat, b + S = x := ⟨_, rfl⟩
  have hb2I : (b : Int) + (S : Int) = (b2 : Int) := by omega
  have HN1 := hid (fun wy => rnewdev_yes gm L b n wy hok (by rw [hS]; omega) hL)
  have HN2 := hid (fun wy => rnewdev_yes gm L b2 n wy hok (by rw [hS]; omega) hL)
  have hbb : b ≤ 1000000 ∧ S ≤ 1000000 := by omega
  have Hb2 := hid (And.intro hS hb2)
  clear hm hfit hok hfb h0 hS hb2
  go_enter Try.func13, Try.ntmps13
  go_upto_region 4 with (go_at_call 30; refine (HFi.out _).mono ?_; rintro e w' ⟨rfl, hw⟩; have hw := hw.symm; subst hw)
  have T1 := hid (Blk.new w 78 #[.pointer none, .pointer none, .slice (some ⟨gm, 0, none⟩) L L])
  have B1 := hid (below_alloc w (.cells #[.pointer none, .pointer none, .slice (some ⟨gm, 0, none⟩) L L] 78))
  obtain ⟨gP, hgP⟩ : ∃ x, w.heap.size = x := ⟨_, rfl⟩
  have HgP := hid hgP
  simp only [hgP] at T1 ⊢
  generalize w.alloc (.cells #[.pointer none, .pointer none, .slice (some ⟨gm, 0, none⟩) L L] 78) = w1 at *
  clear hgP
  go_upto_region 5 with (go_at_call 34; (with_reducible refine (HN1.out w1).mono ?_); rintro e w2 ⟨gdi, rfl, hd, hb⟩; have D2 := hid hd; have B2 := hid hb; have T2 := hid (T1.out.keep hb); have t0 : w2.cell? ⟨gP, 0, none⟩ = some (.pointer none) := T2.out.cell 0; have z0 := T2.out.frozen 0; clear hd hb)
  have K2 := hid (B1.out.trans (B2.out.mono B1.out.size))
  have f3 := frame_mem (grown_set w2 gP 0 (.pointer (some ⟨gdi, 0, none⟩)))
  have hgl := T1.out.lt
  have D3 := hid (D2.out.frame f3 (fun e => by have := D2.out.lo; omega))
  have T3 := hid (show Blk (w2.setCell ⟨gP, 0, none⟩ (.pointer (some ⟨gdi, 0, none⟩))) gP 78 [.pointer (some ⟨gdi, 0, none⟩), .pointer none, .slice (some ⟨gm, 0, none⟩) L L] from T2.out.set_ 0 _)
  have K3 := hid (K2.out.setCell (p := ⟨gP, 0, none⟩) (Nat.le_of_eq HgP.out) (.pointer (some ⟨gdi, 0, none⟩)))
  have hgd := D3.out.tab.lt
  have hgdl := D2.out.lo
  have hz1 := B1.out.size
  have hz2 := B2.out.size
  clear t0 z0 f3 T2 D2 B2 K2 B1
  generalize w2.setCell ⟨gP, 0, none⟩ (.pointer (some ⟨gdi, 0, none⟩)) = w3 at *
  go_upto_region 6 with (first
    | (go_at_call 26; refine (HSz.out _).mono ?_; rintro e w' ⟨rfl, hw⟩; have hw := hw.symm; subst hw)
    | (go_at_call 34; (with_reducible refine (HN2.out w3).mono ?_); rintro e w4 ⟨gdo, rfl, hd, hb⟩; have D4 := hid hd; have B4 := hid hb; have T4 := hid (T3.out.keep hb); have t1 : w4.cell? ⟨gP, 1, none⟩ = some (.pointer none) := T4.out.cell 1; have z1 := T4.out.frozen 1; clear hd hb))
  have K4 := hid (K3.out.trans (B4.out.mono K3.out.size))
  have f5 := frame_mem (grown_set w4 gP 1 (.pointer (some ⟨gdo, 0, none⟩)))
  have hz3 := K3.out.size
  have D5 := hid ((D3.out.keep B4.out).frame f5 (fun e => by omega))
  have E5 := hid (D4.out.frame f5 (fun e => by have := D4.out.lo; have := T3.out.lt; omega))
  have T5 := hid (show Blk (w4.setCell ⟨gP, 1, none⟩ (.pointer (some ⟨gdo, 0, none⟩))) gP 78 [.pointer (some ⟨gdi, 0, none⟩), .pointer (some ⟨gdo, 0, none⟩), .slice (some ⟨gm, 0, none⟩) L L] from T4.out.set_ 1 _)
  have K5 := hid (K4.out.setCell (p := ⟨gP, 1, none⟩) (Nat.le_of_eq HgP.out) (.pointer (some ⟨gdo, 0, none⟩)))
  have hlo4 := D4.out.lo
  have hg5 := HgP.out
  clear t1 z1
  go_wp2_with fail
  go_ret2
  refine ⟨gP, gdi, gdo, rfl, ⟨T5.out, D5.out.base_ (by have := D3.out.lo; omega), ?_, HM.out.keep K5.out, hM, by omega, by have := HgP.out; omega⟩, K5.out, ?_⟩
  · rw [Hb2.out.1, Hb2.out.2]
    exact E5.out.base_ (by have := D3.out.lo; omega)
  · rintro k (rfl | rfl | rfl)
    · exact Nat.le_of_eq HgP.out
    · have := HgP.out; omega
    · have := HgP.out; omega
/-! ### may a chain be written or read? -/
theorem rpiece_other (gP k cap : Nat) (A : Option Addr) (x : Int) (write : Bool) (w : World) (hk : k ≠ 1) (hkl : k ≤ 1000) :
    Calls Try.prog 48 #[.pointer (some ⟨gP, 0, none⟩), .slice A k cap, .int .i64 x, .bool write] w fun e w' => e = .returned (.bool false) ∧ ∃ q, w' = w.drewN q := by
  have hk1 : ((k : Int) == 1) = false := by simp; omega
  have hk2 : ¬ k = 1 := hk
  have hk3 : ¬ (k : Int) = 1 := by omega
  clear hk
  go_enter Try.func48, Try.ntmps48
  go_upto_region 1 with fail
  go_quiet (fail)
  all_goals
    go_wp2_with fail
    go_ret
    exact ⟨rfl, _, rfl⟩
theorem rpiece_one (gP g gm L cap ad ln k : Nat) (wb write : Bool) (w : World) (c2 : w.cell? ⟨gP, 2, none⟩ = some (.slice (some ⟨gm, 0, none⟩) L L)) (r0 : w.cell? ⟨g, 0, none⟩ = some (.int .i64 (ad : Int))) (r1 : w.cell? ⟨g, 1, none⟩ = some (.int .i64 (ln : Int))) (r2 : w.cell? ⟨g, 2, none⟩ = some (.bool wb))
    (hL : L ≤ 1000000) (hln : ln < 4294967296) (hk : k ≤ 1000000) :
    Calls Try.prog 48 #[.pointer (some ⟨gP, 0, none⟩), .slice (some ⟨g, 0, none⟩) 1 cap, .int .i64 (k : Int), .bool write] w fun e w' => e = .returned (.bool (decide (k ≤ ln) && (wb == write) && decide (ad + ln ≤ L))) ∧ ∃ q, w' = w.drewN q := by
  obtain ⟨X, hX⟩ : ∃ X, (decide (k ≤ ln) && (wb == write) && decide (ad + ln ≤ L)) = X := ⟨_, rfl⟩
  rw [hX]
  by_cases hkl : k ≤ ln
  · have hklI : (k : Int) ≤ (ln : Int) := by omega
    by_cases hwr : wb = write
    · subst hwr
      have hwe : (wb == wb) = true := by simp
      by_cases ha : ad ≤ L
      · have haI : (ad : Int) ≤ (L : Int) := by omega
        have hw : IntKind.i64.wrap ((L : Int) - (ad : Int)) = (L : Int) - (ad : Int) := IntWalk.i64_in _ (by omega)
        by_cases hle : ad + ln ≤ L
        · have hleI : (ln : Int) ≤ (L : Int) - (ad : Int) := by omega
          have hx : X = true := by rw [← hX]; simp [hle, hkl]
          subst hx
          clear hX hle hkl ha
          go_enter Try.func48, Try.ntmps48
          go_upto_region 1 with fail
          go_quiet (fail)
          all_goals
            go_wp2_with fail
            go_ret
            exact ⟨rfl, _, rfl⟩
        · have hleI : ¬ (ln : Int) ≤ (L : Int) - (ad : Int) := by omega
          have hx : X = false := by rw [← hX]; simp [hle]
          subst hx
          clear hX hle hkl ha
          go_enter Try.func48, Try.ntmps48
          go_upto_region 1 with fail
          go_quiet (fail)
          all_goals
            go_wp2_with fail
            go_ret
            exact ⟨rfl, _, rfl⟩
      · have haI : ¬ (ad : Int) ≤ (L : Int) := by omega
        have hx : X = false := by rw [← hX, decide_eq_false (show ¬ ad + ln ≤ L by omega)]; simp
        subst hx
        clear hX hkl ha
        go_enter Try.func48, Try.ntmps48
        go_upto_region 1 with fail
        go_quiet (fail)
        all_goals
          go_wp2_with fail
          go_ret
          exact ⟨rfl, _, rfl⟩
    · have hwe : (wb == write) = false := by simpa using hwr
      have hx : X = false := by rw [← hX, hwe]; simp
      subst hx
      clear hX hwr hkl
      go_enter Try.func48, Try.ntmps48
      go_upto_region 1 with fail
      go_quiet (fail)
      all_goals
        go_wp2_with fail
        go_ret
        exact ⟨rfl, _, rfl⟩
  · have hklI : ¬ (k : Int) ≤ (ln : Int) := by omega
    have hx : X = false := by rw [← hX]; simp [hkl]
    subst hx
    clear hX hkl
    go_enter Try.func48, Try.ntmps48
    go_upto_region 1 with fail
    go_quiet (fail)
    all_goals
      go_wp2_with fail
      go_ret
      exact ⟨rfl, _, rfl⟩
theorem rpiece_at (base gP gm L k : Nat) (M : List UInt8) (l : List VBuf) (v : Value) (write : Bool) (w : World) (c2 : w.cell? ⟨gP, 2, none⟩ = some (.slice (some ⟨gm, 0, none⟩) L L)) (hM : M.length = L) (hr : w.ownsRow base 93 3 v l.length (bufRow l)) (hL : L ≤ 1000000) (hlen : l.length ≤ 1000) (hk : k ≤ 1000000) (hx : ∀ x ∈ l, x.len < 4294967296) :
    Calls Try.prog 48 #[.pointer (some ⟨gP, 0, none⟩), v, .int .i64 (k : Int), .bool write] w fun e w' => e = .returned (.bool (vPiece M l k write)) ∧ ∃ q, w' = w.drewN q := by
  obtain ⟨_, A, cap, hv, _, _, _⟩ := RowN.of_own hr
  by_cases h1 : l.length = 1
  · obtain ⟨x, rfl⟩ := List.length_eq_one_iff.1 h1
    obtain ⟨ad, ln, wb⟩ := x
    rcases hr.2 with ⟨_, h0⟩ | ⟨g, c, cur, rfl, _⟩
    · simp at h0
    · have hc := hr.cells (g := g) rfl
      have e0 := hc 0 _ rfl
      have e1 := hc 1 _ rfl
      have e2 := hc 2 _ rfl
      rw [add_off] at e0 e1 e2
      have := rpiece_one gP g gm L c ad ln k wb write w c2 e0 e1 e2 hL (hx ⟨ad, ln, wb⟩ (List.mem_singleton.2 rfl)) hk
      unfold vPiece
      rw [hM]
      exact this
  · have e : vPiece M l k write = false := by
      unfold vPiece
      split
      · exact (h1 rfl).elim
      · rfl
    rw [hv, e]
    exact rpiece_other gP l.length cap A k write w h1 hlen
end Go.Proofs.Ytgiegiobigdplaa
