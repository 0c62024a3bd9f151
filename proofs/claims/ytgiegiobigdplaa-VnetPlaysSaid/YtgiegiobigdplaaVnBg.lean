/- The document's port delivers. -/
import Derived.Test.YtgiegiobigdplaaVnBf
import Derived.Test.YtgiegiobigdplaaVnBc
namespace Go.Proofs.Ytgiegiobigdplaa
open Go Go.RowKit
attribute [local go_sem ↓] Go.wp_at_zero Go.wp_at_succ
set_option maxRecDepth 100000
set_option linter.unusedSimpArgs false
set_option linter.unusedVariables false

def RDeliverPost (base gm L b n gP : Nat) (f : List UInt8) (M : List UInt8) (pi po : VD) (gdi gdo : Nat) (w : World) (e : Ending) (w' : World) : Prop :=
  e = .returned (.int .i64 (if f.length < 14 ∨ f.length > 1514 then 14 else (vDeliver b n f 65536 M pi).1)) ∧
    RPortAt w' base gm L b n gP (if f.length < 14 ∨ f.length > 1514 then M else (vDeliver b n f 65536 M pi).2.1) (if f.length < 14 ∨ f.length > 1514 then pi else (vDeliver b n f 65536 M pi).2.2) po gdi gdo ∧ Frame (fun k => portFoot gP gdi gdo k ∨ k = gm) w w'
theorem rdeliver_bad (base gm L b n gP : Nat) (M : List UInt8) (pi po : VD) (gdi gdo : Nat) (A : Option Addr) (cap : Nat) (f : List UInt8) (w : World) (h : RPortAt w base gm L b n gP M pi po gdi gdo) (hlen : f.length ≤ 100000) (hbad : f.length < 14 ∨ f.length > 1514) :
    Calls Try.prog 20 #[.pointer (some ⟨gP, 0, none⟩), .slice A f.length cap] w (RDeliverPost base gm L b n gP f M pi po gdi gdo w) := by
  have HP := hid (show RDeliverPost base gm L b n gP f M pi po gdi gdo w (.returned (.int .i64 14)) w from by
    unfold RDeliverPost
    rw [if_pos hbad, if_pos hbad, if_pos hbad]
    exact ⟨rfl, h, Frame.refl _ _⟩)
  generalize f.length = k at *
  have hcs : (k : Int) < 14 ∨ ¬ (k : Int) < 14 ∧ (1514 : Int) < (k : Int) := by omega
  clear h hbad
  rcases hcs with h1 | ⟨h1, h2⟩
  all_goals
    go_enter Try.func20, Try.ntmps20
    go_wp2_with fail
    go_ret
    exact HP.out
def RDelivInv (base gm L b n gP : Nat) (f : List UInt8) (po : VD) (gdi gdo : Nat) (R : Int × List UInt8 × VD) (w : World) (gk : Nat) (wr : World) : Prop :=
  ∃ M1 d1, RPortAt wr base gm L b n gP M1 d1 po gdi gdo ∧ Frame (fun k => portFoot gP gdi gdo k ∨ k = gm) w wr ∧ vDeliver b n f gk M1 d1 = R ∧ vTakeLag M1 b n d1 + 1 ≤ gk
/-- one byte of a frame with its head -/
theorem vFrame_get (f : List UInt8) (i : Nat) (h : i < 12) : (vFrame f)[i]? = some 0 := by
  unfold vFrame
  rw [List.getElem?_append_left (by rw [List.length_replicate]; exact h), List.getElem?_replicate, if_pos h]
theorem vFrame_get2 (f : List UInt8) (i : Nat) (x : UInt8) (h : f[i]? = some x) : (vFrame f)[12 + i]? = some x := by
  unfold vFrame
  rw [List.getElem?_append_right (by rw [List.length_replicate]; omega), List.length_replicate, Nat.add_sub_cancel_left]
  exact h
set_option maxHeartbeats 8000000 in
theorem rdeliver_good (base gm L b n gP : Nat) (M : List UInt8) (pi po : VD) (gdi gdo : Nat) (A : Option Addr) (cap : Nat) (f : List UInt8) (w : World) (h : RPortAt w base gm L b n gP M pi po gdi gdo) (hfit : vFits L (b : Int) (n : Int) = true) (hL : L ≤ 1000000)
    (hf : ∀ w', Frame (fun k => portFoot gP gdi gdo k ∨ k = gm) w w' → Bs w' (.slice A f.length cap) f) (hlo : 14 ≤ f.length) (hhi : f.length ≤ 1514) :
    Calls Try.prog 20 #[.pointer (some ⟨gP, 0, none⟩), .slice A f.length cap] w (RDeliverPost base gm L b n gP f M pi po gdi gdo w) := by
  obtain ⟨hok, hfb⟩ := fits_parts hfit
  have hn := okN_le hok
  have Hok := hid hok
  obtain ⟨fb, fo, rfl⟩ : ∃ fb fo, A = some ⟨fb, fo, none⟩ := by
    obtain ⟨_, _, _, h4⟩ := Bs.open (hf w (Frame.refl _ _))
    rcases h4 with h4 | ⟨fb, fo, h4, _⟩
    · omega
    · exact ⟨fb, fo, h4⟩
  have HFc := hid (show ∀ w', Frame (fun k => portFoot gP gdi gdo k ∨ k = gm) w w' → ∀ j x, f[j]? = some x → w'.cell? ⟨fb, fo + j, none⟩ = some (.int .u8 (x.toNat : Int)) from fun w' hw j x hx => by
    obtain ⟨_, _, _, h4⟩ := Bs.open (hf w' hw)
    have hj := (List.getElem?_eq_some_iff.1 hx).1
    rcases h4 with h4 | ⟨fb', fo', h4, h5⟩
    · omega
    · injection h4 with h4
      injection h4 with e1 e2
      subst e1 e2
      rw [h5 j hj, (List.getElem?_eq_some_iff.1 hx).2])
  have HA := hid (And.intro hfit hfb)
  unfold RDeliverPost
  rw [if_neg (by omega), if_neg (by omega), if_neg (by omega)]
  obtain ⟨R, hR⟩ : ∃ R, vDeliver b n f 65536 M pi = R := ⟨_, rfl⟩
  have H0 := hid (show RDelivInv base gm L b n gP f po gdi gdo R w 65536 w from ⟨M, pi, h, Frame.refl _ _, hR, vTakeLag_lt M b n pi⟩)
  rw [hR]
  obtain ⟨l, hl⟩ : ∃ l, f.length = l := ⟨_, rfl⟩
  have Hl := hid hl
  rw [hl] at hlo hhi ⊢
  obtain ⟨k12, hk⟩ : ∃ k, 12 + l = k := ⟨_, rfl⟩
  have hkI : (12 : Int) + (l : Int) = (k12 : Int) := by omega
  have hk12 : k12 ≤ 1526 := by omega
  have Hk := hid hk
  have t1 : ¬ (l : Int) < 14 := by omega
  have t2 : ¬ (1514 : Int) < (l : Int) := by omega
  clear h hok hf hl hR hfit hfb hk
  go_enter Try.func20, Try.ntmps20
  go_wp2_with fail
  go_loopg [5, 6, 7, 8] 65536 (fun gk _ _ _ _ wr => RDelivInv base gm L b n gP f po gdi gdo R w gk wr)
  case atStart => exact H0.out
  case round =>
    obtain ⟨M1, d1, hA, hfr, hR, hlag⟩ := hrel
    have A1 := hid hA
    have F1 := hid hfr
    have R1 := hid hR
    have Hlag := hid hlag
    obtain ⟨k, rfl⟩ : ∃ k, gk = k + 1 := ⟨gk - 1, by omega⟩
    have HT := hid (rtake_at base gm L b n gdi d1 M1 wr A1.out.di A1.out.mem A1.out.len hL Hok.out (by have := HA.out.2; omega))
    have c0 : wr.cell? ⟨gP, 0, none⟩ = some (.pointer (some ⟨gdi, 0, none⟩)) := A1.out.tab.cell 0
    clear hA hfr hR hlag
    rcases vTake_cases M1 b n d1 A1.out.di.got with hu | ⟨d2, hu, hg2, hp2, hl2⟩ | ⟨hd, bl, d2, hu, hg2, hp2, hl2, hdn, hb1, hbn, hbx⟩
    · rw [hu] at HT
      have e : R = (7, M1, d1) := by rw [← R1.out]; exact vDeliver_none hu
      have He := hid e
      clear hu e
      go_wp2_with (go_at_call 47; refine HT.out.mono ?_; rintro e w2 ⟨⟨rfl, hd2⟩, hf2⟩; have D2 := hid hd2; have F2 := hid hf2; clear hd2 hf2)
      go_ret
      rw [He.out]
      have f2 : Frame (fun k => k = gdi ∨ k = gm) wr w2 := F2.out.weaken (fun _ _ e => .inl e)
      exact ⟨rfl, A1.out.in_ f2 D2.out (A1.out.mem.frame F2.out (fun e => A1.out.nm (.inr (.inl e)))) A1.out.len, F1.out.trans (frame_in f2) (fun _ _ e => e)⟩
    · rw [hu] at HT
      have HR2 := hid (show vDeliver b n f k M1 d2 = R by rw [← R1.out]; exact (vDeliver_skip hu).symm)
      have Hl2 := hid hl2
      clear hu hl2 hp2
      go_wp2_with (go_at_call 47; refine HT.out.mono ?_; rintro e w2 ⟨⟨rfl, hd2⟩, hf2⟩; have D2 := hid hd2; have F2 := hid hf2; clear hd2 hf2)
      go_roundg k
      case measure => omega
      case rel =>
        have f2 : Frame (fun k => k = gdi ∨ k = gm) wr w2 := F2.out.weaken (fun _ _ e => .inl e)
        exact ⟨M1, d2, A1.out.in_ f2 D2.out (A1.out.mem.frame F2.out (fun e => A1.out.nm (.inr (.inl e)))) A1.out.len, F1.out.trans (frame_in f2) (fun _ _ e => e), HR2.out, by have := Hlag.out; have := Hl2.out; omega⟩
    · rw [hu] at HT
      have HGi := hid (fun (wy : World) (Mx : List UInt8) (len : Nat) (hy : RPortAt wy base gm L b n gP Mx d2 po gdi gdo) (hlen : len < 4294967296) => rgive_at base gm L b n gdi hd len d2 Mx wy hy.di hy.mem hy.len hL Hok.out (by have := HA.out.2; omega) hdn hlen)
      have Hl2 := hid hl2
      have Hb := hid (And.intro hb1 (And.intro hbn hbx))
      have hdb : hd ≤ 256 := by omega
      have HBack := hid (fun (hp : vPiece M1 bl (12 + f.length) true = false) (w2 w3 w4 : World) (f2 : Frame (fun k => k = gdi ∨ k = gm) wr w2) (A2 : RPortAt w2 base gm L b n gP M1 d2 po gdi gdo) (hb3 : Below w2.heap.size w2 w3) (f4 : Frame (fun k => k = gdi ∨ k = gm) w3 w4) (d4 : RDevAt w4 base gm L b n gdi d2.give) (m4 : MemAt w4 gm (vGiveM M1 b n d2.put hd 0)) =>
        show RDelivInv base gm L b n gP f po gdi gdo R w k w4 from
          have hbl : b + vSize n ≤ M1.length := by rw [A1.out.len]; have := HA.out.2; omega
          ⟨_, _, (A2.keep hb3).in_ f4 d4 m4 (by rw [vGiveM_len _ _ _ _ _ _ (by omega) hbl, A1.out.len]), ((F1.out.trans (frame_in f2) (fun _ _ e => e)).trans (Below.frameF hb3 _) (fun _ _ e => e)).trans (frame_in f4) (fun _ _ e => e), by rw [← R1.out]; exact (vDeliver_not hu hp).symm,
            by rw [vTakeLag_giveM (by omega) hbl]; show vTakeLag M1 b n d2 + 1 ≤ k; have := Hlag.out; have := Hl2.out; omega⟩)
      have HLi := hid (fun (w2 : World) (v : Value) (hrow : w2.ownsRow w.heap.size 93 3 v bl.length (bufRow bl)) (h2 : RPortAt w2 base gm L b n gP M1 d2 po gdi gdo) => rpiece_at w.heap.size gP gm L k12 M1 bl v true w2 (h2.tab.cell 2) h2.len hrow hL (by have := Hb.out.2.1; omega) (by omega) (fun x hx => (Hb.out.2.2 x hx).2))
      have hcs : vPiece M1 bl k12 true = true ∨ vPiece M1 bl k12 true = false := by cases vPiece M1 bl k12 true <;> simp
      rcases hcs with hpc | hpc
      · obtain ⟨x, rfl⟩ : ∃ x, bl = [x] := by
          rcases bl with _ | ⟨x, _ | ⟨y, bl⟩⟩
          · cases hpc
          · exact ⟨x, rfl⟩
          · cases hpc
        obtain ⟨ad, ln, wb⟩ := x
        have hpp : k12 ≤ ln ∧ ad + ln ≤ L := by
          unfold vPiece at hpc
          rw [A1.out.len] at hpc
          simp only [Bool.and_eq_true, decide_eq_true_eq] at hpc
          exact ⟨hpc.1.1, hpc.2⟩
        have HR2 := hid (show R = _ from R1.out.symm.trans (vDeliver_yes hu (by rw [Hl.out, Hk.out]; exact hpc)))
        rw [hpc] at HLi
        have hadL : ad + k12 ≤ L := by omega
        have HadL := hid hadL
        have hadb : ad ≤ 1000000 := by omega
        clear hu hl2 hp2 hb1 hbn hbx hpc hpp HBack
        go_upto_region 9 with (first
          | (go_at_call 47; refine HT.out.mono ?_; rintro e w2 ⟨⟨v, rfl, hrow, hd2⟩, hf2⟩; obtain ⟨gv, cv, rfl⟩ := row_some hrow (Nat.le_refl 1); have r0 := hrow.cells (g := gv) rfl 0 _ rfl; have f2 := hid (show Frame (fun k => k = gdi ∨ k = gm) wr w2 from hf2.weaken (fun _ _ e => .inl e)); have A2 := hid (A1.out.in_ f2.out hd2 (A1.out.mem.frame hf2 (fun e => A1.out.nm (.inr (.inl e)))) A1.out.len); have HLj := hid (HLi.out w2 _ (own_mono hrow (F1.out.size)) A2.out); have Hgv := hid (show gv ≠ gm from own_blk_ne hrow A2.out.mem (by decide) gv rfl); clear hrow hd2 hf2)
          | (go_at_call 48; refine HLj.out.mono ?_; rintro e w3 ⟨rfl, q, rfl⟩; have b3 := hid (below_drewN (Below.refl w2.heap.size w2) q); have r0 := cell_below b3.out r0; have A3 := hid (A2.out.keep b3.out); rw [add_off] at r0))
        have F3 := hid ((F1.out.trans (frame_in f2.out) (fun _ _ e => e)).trans (Below.frameF b3.out _) (fun _ _ e => e))
        have Hr0 := hid r0
        clear A2 HLj HLi b3 f2 r0 c0 HT
        generalize w2.drewN q = w3 at *
        go_wp2_with fail
        go_loopg [8] k12 (fun gk s8 wx => ∃ i : Nat, i + gk = k12 ∧ s8 = .int .i64 (i : Int) ∧ MemAt wx gm (patch M1 ad ((vFrame f).take i)) ∧ Frame (fun k => k = gm) w3 wx)
        case atStart => exact ⟨0, by omega, rfl, by rw [List.take_zero, patch_nil]; exact A3.out.mem, Frame.refl _ _⟩
        case round =>
          obtain ⟨i, hi, rfl, hMi, hFi⟩ := hrel
          have HMi := hid hMi
          have HFi := hid hFi
          have c2 : wr.cell? ⟨gP, 2, none⟩ = some (.slice (some ⟨gm, 0, none⟩) L L) := cell_frame hFi (A3.out.tab.cell 2) (fun e => A3.out.nm (.inl e.symm))
          have r0 : wr.cell? ⟨gv, 0 + 0, none⟩ = some (.int .i64 (ad : Int)) := cell_frame hFi Hr0.out Hgv.out
          have Hvl := hid (show (vFrame f).length = k12 by rw [vFrame_len, Hl.out, Hk.out])
          clear hMi hFi
          by_cases hlt : i < k12
          · have hltI : (i : Int) < (k12 : Int) := by omega
            have hlen : (patch M1 ad ((vFrame f).take i)).length = L := by rw [patch_len (by rw [List.length_take, A1.out.len, Hvl.out]; have := HadL.out; omega), A1.out.len]
            obtain ⟨old, hco⟩ : ∃ old, wr.cell? ⟨gm, ad + i, none⟩ = some old := ⟨_, (Blk.cell HMi.out (ad + i)).trans (List.getElem?_eq_getElem (by rw [List.length_map, hlen]; have := HadL.out; omega))⟩
            have zp := Blk.frozen HMi.out (ad + i)
            have hadi : ad + i < L := by have := HadL.out; omega
            have hadiI : (ad : Int) + (i : Int) < (L : Int) := by omega
            have hge0 : (0 : Int) ≤ (ad : Int) + (i : Int) := by omega
            have htn : ((ad : Int) + (i : Int)).toNat = ad + i := by omega
            have hwai : IntKind.i64.wrap ((ad : Int) + (i : Int)) = (ad : Int) + (i : Int) := IntWalk.i64_in _ (by omega)
            have Fz := hid (frame_mem (grown_set wr gm (ad + i) (.int .u8 0)))
            have c2z : (wr.setCell ⟨gm, ad + i, none⟩ (.int .u8 0)).cell? ⟨gP, 2, none⟩ = some (.slice (some ⟨gm, 0, none⟩) L L) := cell_frame Fz.out c2 (fun e => A3.out.nm (.inl e.symm))
            have r0z : (wr.setCell ⟨gm, ad + i, none⟩ (.int .u8 0)).cell? ⟨gv, 0 + 0, none⟩ = some (.int .i64 (ad : Int)) := cell_frame Fz.out r0 Hgv.out
            rw [Nat.add_zero] at r0 r0z
            have Hz := hid (And.intro c2z r0z)
            have Mz := hid (Blk.set_ HMi.out (ad + i) (u8v 0))
            have Hms := hid (show k12 - (i + 1) < gk ∧ i + 1 + (k12 - (i + 1)) = k12 by omega)
            clear hlen c2z r0z hi
            go_upto_region 12 with fail
            go_region_held3 (fun wy => wy.cell? ⟨gP, 2, none⟩ = some (.slice (some ⟨gm, 0, none⟩) L L) ∧ wy.cell? ⟨gv, 0, none⟩ = some (.int .i64 (ad : Int))) (first | exact ⟨c2, r0⟩ | exact Hz.out) (fail)
            have Mz2 := hid (show MemAt (wr.setCell ⟨gm, ad + i, none⟩ (.int .u8 0)).drew gm ((patch M1 ad ((vFrame f).take i)).set (ad + i) 0) from by
              have := Mz.out
              rw [← List.map_set] at this
              exact this.drew)
            have Fz2 := hid ((HFi.out.trans Fz.out (fun _ _ e => e)).trans (Below.frameF (below_drew _) _) (fun _ _ e => e) : Frame (fun k => k = gm) w3 (wr.setCell ⟨gm, ad + i, none⟩ (.int .u8 0)).drew)
            obtain ⟨c2, r0⟩ : (wr.setCell ⟨gm, ad + i, none⟩ (.int .u8 0)).drew.cell? ⟨gP, 2, none⟩ = some (.slice (some ⟨gm, 0, none⟩) L L) ∧ (wr.setCell ⟨gm, ad + i, none⟩ (.int .u8 0)).drew.cell? ⟨gv, 0, none⟩ = some (.int .i64 (ad : Int)) := Hz.out
            clear Mz Fz hco zp Hz
            generalize (wr.setCell ⟨gm, ad + i, none⟩ (.int .u8 0)).drew = wz at *
            by_cases h12 : i < 12
            · have h12I : ¬ (12 : Int) ≤ (i : Int) := by omega
              have Hst := hid (patch_step M1 (vFrame f) ad i 0 (vFrame_get f i h12) (by rw [Hvl.out, A1.out.len]; exact HadL.out))
              clear h12
              go_wp2_with fail
              go_roundg (k12 - (i + 1))
              case measure => exact Hms.out.1
              case rel => exact ⟨i + 1, Hms.out.2, by go_num, by rw [← Hst.out]; exact Mz2.out, Fz2.out⟩
            · have h12I : (12 : Int) ≤ (i : Int) := by omega
              obtain ⟨j, hj⟩ : ∃ j, i = 12 + j := ⟨i - 12, by omega⟩
              have hjl : j < l := by have := Hk.out; omega
              have hjlI : (j : Int) < (l : Int) := by omega
              have hjI : (i : Int) - 12 = (j : Int) := by omega
              have hwj : IntKind.i64.wrap (j : Int) = (j : Int) := IntWalk.i64_in _ (by omega)
              obtain ⟨x, hx⟩ : ∃ x, f[j]? = some x := ⟨_, List.getElem?_eq_getElem (by rw [Hl.out]; exact hjl)⟩
              have HfrZ := hid (F3.out.trans Fz2.out (fun _ _ e => .inr e))
              have hfc : wz.cell? ⟨fb, fo + j, none⟩ = some (.int .u8 (x.toNat : Int)) := HFc.out wz HfrZ.out j x hx
              have Hst := hid (patch_step M1 (vFrame f) ad i x (by rw [hj]; exact vFrame_get2 f j x hx) (by rw [Hvl.out, A1.out.len]; exact HadL.out))
              obtain ⟨old, hco⟩ : ∃ old, wz.cell? ⟨gm, ad + i, none⟩ = some old := ⟨_, (Blk.cell Mz2.out (ad + i)).trans (List.getElem?_eq_getElem (by rw [List.length_map, List.length_set, patch_len (by rw [List.length_take, A1.out.len, Hvl.out]; have := HadL.out; omega), A1.out.len]; exact hadi))⟩
              have zp := Blk.frozen Mz2.out (ad + i)
              have Fy := hid (frame_mem (grown_set wz gm (ad + i) (.int .u8 (x.toNat : Int))))
              have Hy := hid (show (wz.setCell ⟨gm, ad + i, none⟩ (.int .u8 (x.toNat : Int))).cell? ⟨gP, 2, none⟩ = some (.slice (some ⟨gm, 0, none⟩) L L) ∧ (wz.setCell ⟨gm, ad + i, none⟩ (.int .u8 (x.toNat : Int))).cell? ⟨gv, 0, none⟩ = some (.int .i64 (ad : Int)) ∧ (wz.setCell ⟨gm, ad + i, none⟩ (.int .u8 (x.toNat : Int))).cell? ⟨fb, fo + j, none⟩ = some (.int .u8 (x.toNat : Int)) from
                ⟨cell_frame Fy.out c2 (fun e => A3.out.nm (.inl e.symm)), cell_frame Fy.out r0 Hgv.out, HFc.out _ (HfrZ.out.trans Fy.out (fun _ _ e => .inr e)) j x hx⟩)
              have My := hid (show MemAt (wz.setCell ⟨gm, ad + i, none⟩ (.int .u8 (x.toNat : Int))) gm (patch M1 ad ((vFrame f).take (i + 1))) from by
                have h2 := Blk.set_ Mz2.out (ad + i) (u8v x)
                rw [← List.map_set, List.set_set, Hst.out] at h2
                exact h2)
              have hxl : x.toNat < 256 := x.toNat_lt
              clear h12 hx Hst hj
              go_step
              go_upto_region 14 with fail
              go_region_held3 (fun wy => wy.cell? ⟨gP, 2, none⟩ = some (.slice (some ⟨gm, 0, none⟩) L L) ∧ wy.cell? ⟨gv, 0, none⟩ = some (.int .i64 (ad : Int)) ∧ wy.cell? ⟨fb, fo + j, none⟩ = some (.int .u8 (x.toNat : Int))) (first | exact ⟨c2, r0, hfc⟩ | exact Hy.out) (fail)
              go_wp2_with fail
              go_roundg (k12 - (i + 1))
              case measure => exact Hms.out.1
              case rel => exact ⟨i + 1, Hms.out.2, by go_num, MemAt.keep My.out (below_drew _), (Fz2.out.trans Fy.out (fun _ _ e => e)).trans (Below.frameF (below_drew _) _) (fun _ _ e => e)⟩
          · obtain rfl : i = k12 := by omega
            have hltI : ¬ (i : Int) < (i : Int) := by omega
            have M5 := hid (show MemAt wr gm (patch M1 ad (vFrame f)) from by
              have := HMi.out
              rw [List.take_of_length_le (by rw [Hvl.out]; exact Nat.le_refl _)] at this
              exact this)
            have hl5 : (patch M1 ad (vFrame f)).length = L := by rw [patch_len (by rw [Hvl.out, A1.out.len]; exact HadL.out), A1.out.len]
            have A5 := hid (A3.out.mem_ HFi.out M5.out hl5)
            have HGf := hid (HGi.out wr _ i A5.out (by omega))
            have c0 : wr.cell? ⟨gP, 0, none⟩ = some (.pointer (some ⟨gdi, 0, none⟩)) := A5.out.tab.cell 0
            have Hl5 := hid hl5
            clear hl5 hi c2 r0
            go_wp2_with (go_at_call 49; refine HGf.out.mono ?_; rintro e w6 ⟨rfl, hd6, hm6, hf6⟩; have D6 := hid hd6; have M6 := hid hm6; have F6 := hid hf6; clear hd6 hm6 hf6)
            go_ret
            rw [HR2.out, Hl.out, Hk.out]
            have hbl : b + vSize n ≤ (patch M1 ad (vFrame f)).length := by rw [Hl5.out]; have := HA.out.2; omega
            refine ⟨rfl, A5.out.in_ F6.out D6.out M6.out (by rw [vGiveM_len _ _ _ _ _ _ (by omega) hbl, Hl5.out]), ?_⟩
            exact (F3.out.trans HFi.out (fun _ _ e => .inr e)).trans (frame_in F6.out) (fun _ _ e => e)
      · rw [hpc] at HLi
        have Hpc := hid (show vPiece M1 bl (12 + f.length) true = false by rw [Hl.out, Hk.out]; exact hpc)
        clear hu hl2 hp2 hb1 hbn hbx hpc
        go_wp2_with (first
          | (go_at_call 47; refine HT.out.mono ?_; rintro e w2 ⟨⟨v, rfl, hrow, hd2⟩, hf2⟩; have f2 := hid (show Frame (fun k => k = gdi ∨ k = gm) wr w2 from hf2.weaken (fun _ _ e => .inl e)); have A2 := hid (A1.out.in_ f2.out hd2 (A1.out.mem.frame hf2 (fun e => A1.out.nm (.inr (.inl e)))) A1.out.len); have HLj := hid (HLi.out w2 v (own_mono hrow (F1.out.size)) A2.out); clear hrow hd2 hf2)
          | (go_at_call 48; refine HLj.out.mono ?_; rintro e w3 ⟨rfl, q, rfl⟩; have b3 := hid (below_drewN (Below.refl w2.heap.size w2) q); have c0 := cell_below b3.out (show w2.cell? ⟨gP, 0, none⟩ = some (.pointer (some ⟨gdi, 0, none⟩)) from A2.out.tab.cell 0))
          | (go_at_call 49; refine (show Calls Try.prog 49 #[.pointer (some ⟨gdi, 0, none⟩), .int .i64 (hd : Int), .int .i64 0] (w2.drewN q) _ from HGi.out (w2.drewN q) M1 0 (A2.out.keep b3.out) (by decide)).mono ?_; rintro e w4 ⟨rfl, hd4, hm4, hf4⟩; have D4 := hid hd4; have M4 := hid hm4; have F4 := hid hf4; clear hd4 hm4 hf4))
        go_roundg k
        case measure => omega
        case rel => exact HBack.out Hpc.out w2 _ w4 f2.out A2.out b3.out F4.out D4.out M4.out
/-- the document's Deliver -/
theorem rdeliver_at (base gm L b n gP : Nat) (M : List UInt8) (pi po : VD) (gdi gdo : Nat) (v : Value) (f : List UInt8) (w : World) (h : RPortAt w base gm L b n gP M pi po gdi gdo) (hfit : vFits L (b : Int) (n : Int) = true) (hL : L ≤ 1000000)
    (hf : ∀ w', Frame (fun k => portFoot gP gdi gdo k ∨ k = gm) w w' → Bs w' v f) (hlen : f.length ≤ 100000) :
    Calls Try.prog 20 #[.pointer (some ⟨gP, 0, none⟩), v] w (RDeliverPost base gm L b n gP f M pi po gdi gdo w) := by
  obtain ⟨A, cap, rfl⟩ := slice_len (hf w (Frame.refl _ _)) rfl
  by_cases hbad : f.length < 14 ∨ f.length > 1514
  · exact rdeliver_bad base gm L b n gP M pi po gdi gdo A cap f w h hlen hbad
  · exact rdeliver_good base gm L b n gP M pi po gdi gdo A cap f w h hfit hL hf (by omega) (by omega)
end Go.Proofs.Ytgiegiobigdplaa
