/- The document's port tells what was sent. -/
import Derived.Test.YtgiegiobigdplaaVnBg
namespace Go.Proofs.Ytgiegiobigdplaa
open Go Go.RowKit
attribute [local go_sem ↓] Go.wp_at_zero Go.wp_at_succ
set_option maxRecDepth 100000
set_option linter.unusedSimpArgs false
set_option linter.unusedVariables false

def RSentPost (base gm L b n gP : Nat) (M : List UInt8) (pi po : VD) (gdi gdo : Nat) (w : World) (e : Ending) (w' : World) : Prop :=
  ∃ v, e = .returned v ∧ RPortAt w' base gm L b n gP (vSent (b + vSize n) n 65536 M po []).2.1 pi (vSent (b + vSize n) n 65536 M po []).2.2 gdi gdo ∧ Frame (fun k => portFoot gP gdi gdo k ∨ k = gm) w w' ∧
    RowsN w' w.heap.size (fun _ => False) v (vSent (b + vSize n) n 65536 M po []).1
def RSentInv (base gm L b n gP : Nat) (pi : VD) (gdi gdo : Nat) (R : List (List UInt8) × List UInt8 × VD) (w : World) (gk : Nat) (v : Value) (wr : World) : Prop :=
  ∃ M1 d1 out1, RPortAt wr base gm L b n gP M1 pi d1 gdi gdo ∧ Frame (fun k => portFoot gP gdi gdo k ∨ k = gm) w wr ∧ RowsN wr w.heap.size (fun _ => False) v out1 ∧ vSent (b + vSize n) n gk M1 d1 out1 = R ∧ vTakeLag M1 (b + vSize n) n d1 + 1 ≤ gk ∧ out1.length + gk ≤ 65536
set_option maxHeartbeats 8000000 in
theorem rsent_at (base gm L b n gP : Nat) (M : List UInt8) (pi po : VD) (gdi gdo : Nat) (w : World) (h : RPortAt w base gm L b n gP M pi po gdi gdo) (hfit : vFits L (b : Int) (n : Int) = true) (hL : L ≤ 1000000) :
    Calls Try.prog 22 #[.pointer (some ⟨gP, 0, none⟩)] w (RSentPost base gm L b n gP M pi po gdi gdo w) := by
  obtain ⟨hok, hfb⟩ := fits_parts hfit
  have hn := okN_le hok
  have Hok := hid hok
  have HA := hid (And.intro hfit hfb)
  have Hlt := hid (show ∀ k, (k = gdo ∨ k = gm) → k < w.heap.size from fun k e => e.elim (fun e => e ▸ (h.bd gdo (.inr (.inr rfl))).2) (fun e => e ▸ Blk.lt h.mem))
  have HgP := hid (show ∀ k, portFoot gP gdi gdo k ∨ k = gm → k < w.heap.size from fun k e => e.elim (fun e => (h.bd k e).2) (fun e => e ▸ Blk.lt h.mem))
  unfold RSentPost
  obtain ⟨R, hR⟩ : ∃ R, vSent (b + vSize n) n 65536 M po [] = R := ⟨_, rfl⟩
  have H0 := hid (show RSentInv base gm L b n gP pi gdi gdo R w 65536 (.slice none 0 0) w from ⟨M, po, [], h, Frame.refl _ _, RowsN.nil _ _ _, hR, vTakeLag_lt M (b + vSize n) n po, Nat.le_refl _⟩)
  rw [hR]
  obtain ⟨b2, hb2⟩ : ∃ x, b + vSize n = x := ⟨_, rfl⟩
  have Hb2 := hid hb2
  clear h hok hR hfit hfb hb2
  go_enter Try.func22, Try.ntmps22
  go_wp2_with fail
  go_loopg [3, 4, 5, 6] 65536 (fun gk s3 _ _ _ wr => RSentInv base gm L b n gP pi gdi gdo R w gk s3 wr)
  case atStart => exact H0.out
  case round =>
    obtain ⟨M1, d1, out1, hA, hfr, hrw, hR, hlag, hlen⟩ := hrel
    rw [Hb2.out] at hR hlag
    have A1 := hid hA
    have F1 := hid hfr
    have Rw := hid hrw
    have R1 := hid hR
    have Hlag := hid hlag
    have Hlen := hid hlen
    obtain ⟨k, rfl⟩ : ∃ k, gk = k + 1 := ⟨gk - 1, by omega⟩
    have HbL := hid (show b2 + vSize n ≤ L by rw [← Hb2.out]; have := HA.out.2; omega)
    have Do := hid (show RDevAt wr base gm L b2 n gdo d1 by rw [← Hb2.out]; exact A1.out.do_)
    have HT := hid (rtake_at base gm L b2 n gdo d1 M1 wr Do.out A1.out.mem A1.out.len hL Hok.out HbL.out)
    have c1 : wr.cell? ⟨gP, 1, none⟩ = some (.pointer (some ⟨gdo, 0, none⟩)) := A1.out.tab.cell 1
    have Hto := hid (fun (w2 : World) (d2 : VD) (hd2 : RDevAt w2 base gm L b2 n gdo d2) (hf2 : Frame (fun k => k = gdo) wr w2) =>
      show RPortAt w2 base gm L b n gP M1 pi d2 gdi gdo from A1.out.out_ (hf2.weaken (fun _ _ e => .inl e)) (by rw [Hb2.out]; exact hd2) (A1.out.mem.frame hf2 (fun e => A1.out.nm (.inr (.inr e)))) A1.out.len)
    clear hA hfr hR hlag hrw hlen
    rcases vTake_cases M1 b2 n d1 Do.out.got with hu | ⟨d2, hu, hg2, hp2, hl2⟩ | ⟨hd, bl, d2, hu, hg2, hp2, hl2, hdn, hb1, hbn, hbx⟩
    · rw [hu] at HT
      have e : R = (out1, M1, d1) := by rw [← R1.out]; exact vSent_none hu
      have He := hid e
      clear hu e
      go_wp2_with (go_at_call 47; refine HT.out.mono ?_; rintro e w2 ⟨⟨rfl, hd2⟩, hf2⟩; have D2 := hid hd2; have F2 := hid hf2; clear hd2 hf2)
      go_ret
      rw [He.out]
      have f2 : Frame (fun k => k = gdo ∨ k = gm) wr w2 := F2.out.weaken (fun _ _ e => .inl e)
      exact ⟨_, rfl, Hto.out w2 d1 D2.out F2.out, F1.out.trans (frame_out f2) (fun _ _ e => e), rows_port Rw.out f2 Hlt.out⟩
    · rw [hu] at HT
      have HR2 := hid (show vSent b2 n k M1 d2 out1 = R by rw [← R1.out]; exact (vSent_skip hu).symm)
      have Hl2 := hid hl2
      clear hu hl2 hp2
      go_wp2_with (go_at_call 47; refine HT.out.mono ?_; rintro e w2 ⟨⟨rfl, hd2⟩, hf2⟩; have D2 := hid hd2; have F2 := hid hf2; clear hd2 hf2)
      go_roundg k
      case measure => omega
      case rel =>
        have f2 : Frame (fun k => k = gdo ∨ k = gm) wr w2 := F2.out.weaken (fun _ _ e => .inl e)
        exact ⟨M1, d2, out1, Hto.out w2 d2 D2.out F2.out, F1.out.trans (frame_out f2) (fun _ _ e => e), rows_port Rw.out f2 Hlt.out, by rw [Hb2.out]; exact HR2.out, by rw [Hb2.out]; have := Hlag.out; have := Hl2.out; omega, by have := Hlen.out; omega⟩
    · rw [hu] at HT
      have HGi := hid (fun (wy : World) (Mx : List UInt8) (len : Nat) (hy : RPortAt wy base gm L b n gP Mx pi d2 gdi gdo) (hlen : len < 4294967296) => rgive_at base gm L b2 n gdo hd len d2 Mx wy (by rw [← Hb2.out]; exact hy.do_) hy.mem hy.len hL Hok.out HbL.out hdn hlen)
      have Hl2 := hid hl2
      have Hb := hid (And.intro hb1 (And.intro hbn hbx))
      have hdb : hd ≤ 256 := by omega
      have HBack := hid (fun (out3 : List (List UInt8)) (v3 : Value) (hp : vSent b2 n (k + 1) M1 d1 out1 = vSent b2 n k (vGiveM M1 b2 n d2.put hd 0) d2.give out3) (ho3 : out3.length ≤ out1.length + 1) (w3 w4 : World) (A3 : RPortAt w3 base gm L b n gP M1 pi d2 gdi gdo) (f3 : Frame (fun k => portFoot gP gdi gdo k ∨ k = gm) w w3) (r3 : RowsN w3 w.heap.size (fun _ => False) v3 out3)
          (f4 : Frame (fun k => k = gdo ∨ k = gm) w3 w4) (d4 : RDevAt w4 base gm L b2 n gdo d2.give) (m4 : MemAt w4 gm (vGiveM M1 b2 n d2.put hd 0)) =>
        show RSentInv base gm L b n gP pi gdi gdo R w k v3 w4 from
          have hbl : b2 + vSize n ≤ M1.length := by rw [A1.out.len]; exact HbL.out
          ⟨_, _, _, A3.out_ f4 (by rw [Hb2.out]; exact d4) m4 (by rw [vGiveM_len _ _ _ _ _ _ (by omega) hbl, A1.out.len]), f3.trans (frame_out f4) (fun _ _ e => e), rows_port r3 f4 Hlt.out, by rw [Hb2.out, ← R1.out]; exact hp.symm,
            by rw [Hb2.out, vTakeLag_giveM (by omega) hbl]; show vTakeLag M1 b2 n d2 + 1 ≤ k; have := Hlag.out; have := Hl2.out; omega, by have := Hlen.out; omega⟩)
      have HLi := hid (fun (w2 : World) (v : Value) (hrow : w2.ownsRow w.heap.size 93 3 v bl.length (bufRow bl)) (h2 : RPortAt w2 base gm L b n gP M1 pi d2 gdi gdo) => (show Calls Try.prog 48 #[.pointer (some ⟨gP, 0, none⟩), v, .int .i64 26, .bool false] w2 _ from rpiece_at w.heap.size gP gm L 26 M1 bl v false w2 (h2.tab.cell 2) h2.len hrow hL (by have := Hb.out.2.1; omega) (by decide) (fun x hx => (Hb.out.2.2 x hx).2)))
      have hcs : vPiece M1 bl 26 false = true ∨ vPiece M1 bl 26 false = false := by cases vPiece M1 bl 26 false <;> simp
      rcases hcs with hpc | hpc
      · obtain ⟨x, rfl⟩ : ∃ x, bl = [x] := by
          rcases bl with _ | ⟨x, _ | ⟨y, bl⟩⟩
          · cases hpc
          · exact ⟨x, rfl⟩
          · cases hpc
        obtain ⟨ad, ln, wb⟩ := x
        have hpp : 26 ≤ ln ∧ ad + ln ≤ L := by
          have h0 := hpc
          unfold vPiece at h0
          rw [A1.out.len] at h0
          simp only [Bool.and_eq_true, decide_eq_true_eq] at h0
          exact ⟨h0.1.1, h0.2⟩
        rw [hpc] at HLi
        by_cases hin : ln ≤ 1526
        · have Hok2 := hid (show vSentOk M1 [⟨ad, ln, wb⟩] = true by unfold vSentOk; rw [hpc]; exact decide_eq_true hin)
          have hl3 : (ln : Int) ≤ 1526 := by omega
          have HR3 := hid (vSent_yes (k := k) (out := out1) hu Hok2.out)
          have hadL : ad + ln ≤ L := hpp.2
          have HadL := hid (And.intro hadL (And.intro hpp.1 hin))
          have hadb : ad ≤ 1000000 := by omega
          obtain ⟨vs0, ho0, _, _⟩ := Rw.out
          have Hv0 := hid (fun z e => World.ownsRow.lt ho0 z e)
          obtain ⟨ii, hif, hz, hss, hbyy⟩ := info_parts u8info
          have hw12 : IntKind.i64.wrap ((ad : Int) + 12) = (ad : Int) + 12 := IntWalk.i64_in _ (by omega)
          have hwln : IntKind.i64.wrap ((ad : Int) + (ln : Int)) = (ad : Int) + (ln : Int) := IntWalk.i64_in _ (by omega)
          have hcut1 := run_cut (P := Try.prog) (T := 25) Try.underlying25 hif (some ⟨gm, 0, none⟩) L L .i64 .i64 ((ad : Int) + 12) ((ad : Int) + (ln : Int)) (ad + 12) (ln - 12) (by omega) (by omega) (by omega)
          rw [hss, cutA_at gm 0 L _ (by omega), Nat.zero_add] at hcut1
          clear hu hl2 hp2 hb1 hbn hbx hpc hpp hin hif hz hss hbyy hadL ho0
          go_upto_region 7 with (first
            | (go_at_call 47; refine HT.out.mono ?_; rintro e w2 ⟨⟨v, rfl, hrow, hd2⟩, hf2⟩; obtain ⟨gv, cv, rfl⟩ := row_some hrow (Nat.le_refl 1); have Hgv := hid (World.ownsRow.lt hrow gv rfl); have r0 := hrow.cells (g := gv) rfl 0 _ rfl; have r1 := hrow.cells (g := gv) rfl 1 _ rfl; have f2 := hid (show Frame (fun k => k = gdo ∨ k = gm) wr w2 from hf2.weaken (fun _ _ e => .inl e)); have A2 := hid (Hto.out w2 d2 hd2 hf2); have HLj := hid (HLi.out w2 _ (own_mono hrow (F1.out.size)) A2.out); clear hrow hd2 hf2)
            | (go_at_call 48; refine HLj.out.mono ?_; rintro e w3 ⟨rfl, q, rfl⟩; have b3 := hid (below_drewN (Below.refl w2.heap.size w2) q); have r0 := cell_below b3.out r0; have r1 := cell_below b3.out r1; have c2 := cell_below b3.out (show w2.cell? ⟨gP, 2, none⟩ = some (.slice (some ⟨gm, 0, none⟩) L L) from A2.out.tab.cell 2); have A3 := hid (A2.out.keep b3.out); rw [add_off] at r0 r1)
            | fail)
          have Rw3 := hid (rows_port (rows_port Rw.out f2.out Hlt.out) (Below.frameF b3.out (fun _ => False)) (fun _ e => e.elim))
          have F3 := hid ((F1.out.trans (frame_out f2.out) (fun _ _ e => e)).trans (Below.frameF b3.out _) (fun _ _ e => e))
          clear b3 A2 HLi HLj
          generalize w2.drewN q = w3 at *
          obtain ⟨vs, ho, hnn, hri⟩ := Rw3.out
          have Ho := hid ho
          have Hri := hid hri
          clear ho hnn hri
          have HBm := hid (fun wy (hy : Below w3.heap.size w3 wy) => ((A3.out.mem.keep hy).bs (off := ad + 12) (n := ln - 12) (cap := L - (ad + 12)) (by rw [A1.out.len]; have := HadL.out; omega) (by have := HadL.out; omega) (by simp only [maxLen]; omega)))
          go_region_held3 (fun wy => wy.cell? ⟨gP, 2, none⟩ = some (.slice (some ⟨gm, 0, none⟩) L L) ∧ wy.cell? ⟨gv, 0, none⟩ = some (.int .i64 (ad : Int)) ∧ wy.cell? ⟨gv, 1, none⟩ = some (.int .i64 (ln : Int)))
            (first | exact ⟨c2, r0, r1⟩ | exact ⟨cell_below (below_drew _) c2, cell_below (below_drew _) r0, cell_below (below_drew _) r1⟩ | exact ⟨cell_below (below_alloc' (below_drew _) _) c2, cell_below (below_alloc' (below_drew _) _) r0, cell_below (below_alloc' (below_drew _) _) r1⟩ | exact S7.out | exact S5.out | exact ⟨cell_below (below_alloc _ _) S5.out.1, cell_below (below_alloc _ _) S5.out.2.1, cell_below (below_alloc _ _) S5.out.2.2⟩)
            (first
              | (refine step_app8 _ (by rfl) _ _ 25 (by rfl) w3.heap.size 5 u8ok (.slice (some ⟨w3.heap.size, 0, none⟩) 0 0) [] (by rfl) (by first | exact ownBs_litNil rfl (Nat.le_refl _) | exact (ownBs_litNil rfl (Nat.le_refl _)).drew) (.slice (some ⟨gm, ad + 12, none⟩) (ln - 12) (L - (ad + 12))) ((M1.drop (ad + 12)).take (ln - 12)) (by rfl) (HBm.out _ (below_alloc' (below_drew w3) _)) (by have := HadL.out; rw [List.length_take]; simp only [List.length_nil]; omega) (by simp) ?_; intro x5 w5 hown5 hb5 hg5; rw [List.nil_append] at hown5; obtain ⟨A9, c9, rfl⟩ := slice_len (n := ln - 12) hown5.bs (by rw [List.length_take, List.length_drop, A1.out.len]; have := HadL.out; omega); have X5 := hid hown5; have B5 := hid ((below_alloc' (below_drew w3) _).trans hb5); have S5 := hid (And.intro (cell_below B5.out c2) (And.intro (cell_below B5.out r0) (cell_below B5.out r1))); clear hown5 hb5 hg5)
              | (refine step_appH _ (by rfl) _ _ 44 (by rfl) w.heap.size 25 (.slice none 0 0) 1 24 slok _ out1.length vs (by rfl) (own_below Ho.out (below_alloc' B5.out _)) _ 1 [.slice A9 (ln - 12) c9] (by rfl) (row_lit #[.slice A9 (ln - 12) c9] 1 rfl (by decide)) (by simp [Value.oneCell']) (by have := Hlen.out; omega) (by simp only [maxLen]; have := Hlen.out; omega) (by have := F3.out.size; have := B5.out.size; simp; omega) ?_; intro v7 w7 hown7 hg7 hat7; have O7 := hid hown7; have G7 := hid hg7; have T7 := hid hat7; have S7 := hid (And.intro (cell_frame (frame_grown hg7 (fun g e => e)) (cell_below (below_alloc _ _) S5.out.1) (fun e => by have := (Hv0.out _ e).1; have := HgP.out gP (.inl (.inl rfl)); omega)) (And.intro (cell_frame (frame_grown hg7 (fun g e => e)) (cell_below (below_alloc _ _) S5.out.2.1) (fun e => by have := (Hv0.out _ e).2; have := Hgv.out.1; omega)) (cell_frame (frame_grown hg7 (fun g e => e)) (cell_below (below_alloc _ _) S5.out.2.2) (fun e => by have := (Hv0.out _ e).2; have := Hgv.out.1; omega)))); clear hown7 hg7 hat7)
              | fail)
          all_goals
            have b24 := below_alloc' B5.out (.cells #[.slice A9 (ln - 12) c9] 25)
            have Rw7 := hid (RowsN.push (N := fun _ => False) Ho.out (fun _ _ => id) Hri.out (fun z hz => hz.elim) F3.out.size b24 (OwnBs.below X5.out (below_alloc _ _)) O7.out G7.out T7.out)
            have f37 : Frame (fun z => (u3 : Value).ownBlock = some z) w3 w7 := (Below.frameF b24 _).trans (frame_grown G7.out (fun g e => e)) (fun _ _ e => e)
            have A7 := hid (A3.out.frame f37 (fun z hz e => by have := (Hv0.out z e).1; have := HgP.out z hz; omega))
            have F7 := hid (F3.out.trans f37 (fun z hz e => by have := (Hv0.out z e).1; omega))
            have HGf := hid (show Calls Try.prog 49 #[.pointer (some ⟨gdo, 0, none⟩), .int .i64 (hd : Int), .int .i64 0] w7 _ from HGi.out w7 M1 0 A7.out (by decide))
            have c1 : w7.cell? ⟨gP, 1, none⟩ = some (.pointer (some ⟨gdo, 0, none⟩)) := A7.out.tab.cell 1
            clear b24 f37 c2 r0 r1
            go_wp2_with (go_at_call 49; refine HGf.out.mono ?_; rintro e w8 ⟨rfl, hd4, hm4, hf4⟩; have D8 := hid hd4; have M8 := hid hm4; have F8 := hid hf4; clear hd4 hm4 hf4)
            go_roundg k
            case measure => omega
            case rel => exact HBack.out _ _ HR3.out (by rw [List.length_append, List.length_singleton]; omega) w7 w8 A7.out F7.out Rw7.out F8.out D8.out M8.out
        · have Hpc := hid (show vSentOk M1 [⟨ad, ln, wb⟩] = false by unfold vSentOk; rw [hpc]; exact decide_eq_false hin)
          have HR3 := hid (vSent_not (k := k) (out := out1) hu Hpc.out)
          have hl3 : ¬ (ln : Int) ≤ 1526 := by omega
          clear hu hl2 hp2 hb1 hbn hbx hpc hpp hin
          go_wp2_with (first
            | (go_at_call 47; refine HT.out.mono ?_; rintro e w2 ⟨⟨v, rfl, hrow, hd2⟩, hf2⟩; obtain ⟨gv, cv, rfl⟩ := row_some hrow (Nat.le_refl 1); have r1 := hrow.cells (g := gv) rfl 1 _ rfl; have f2 := hid (show Frame (fun k => k = gdo ∨ k = gm) wr w2 from hf2.weaken (fun _ _ e => .inl e)); have A2 := hid (Hto.out w2 d2 hd2 hf2); have HLj := hid (HLi.out w2 _ (own_mono hrow (F1.out.size)) A2.out); clear hrow hd2 hf2)
            | (go_at_call 48; refine HLj.out.mono ?_; rintro e w3 ⟨rfl, q, rfl⟩; have b3 := hid (below_drewN (Below.refl w2.heap.size w2) q); have r1 := cell_below b3.out r1; have c1 := cell_below b3.out (show w2.cell? ⟨gP, 1, none⟩ = some (.pointer (some ⟨gdo, 0, none⟩)) from A2.out.tab.cell 1); rw [add_off] at r1)
            | (go_at_call 49; refine (show Calls Try.prog 49 #[.pointer (some ⟨gdo, 0, none⟩), .int .i64 (hd : Int), .int .i64 0] (w2.drewN q) _ from HGi.out (w2.drewN q) M1 0 (A2.out.keep b3.out) (by decide)).mono ?_; rintro e w4 ⟨rfl, hd4, hm4, hf4⟩; have D4 := hid hd4; have M4 := hid hm4; have F4 := hid hf4; clear hd4 hm4 hf4))
          go_roundg k
          case measure => omega
          case rel => exact HBack.out out1 _ HR3.out (Nat.le_succ _) (w2.drewN q) w4 (A2.out.keep b3.out) ((F1.out.trans (frame_out f2.out) (fun _ _ e => e)).trans (Below.frameF b3.out _) (fun _ _ e => e)) (rows_port (rows_port Rw.out f2.out Hlt.out) (Below.frameF b3.out (fun _ => False)) (fun _ e => e.elim)) F4.out D4.out M4.out
      · rw [hpc] at HLi
        have Hpc := hid (show vSentOk M1 bl = false by unfold vSentOk; rw [hpc]; rfl)
        have HR3 := hid (vSent_not (k := k) (out := out1) hu Hpc.out)
        clear hu hl2 hp2 hb1 hbn hbx hpc
        go_wp2_with (first
          | (go_at_call 47; refine HT.out.mono ?_; rintro e w2 ⟨⟨v, rfl, hrow, hd2⟩, hf2⟩; have f2 := hid (show Frame (fun k => k = gdo ∨ k = gm) wr w2 from hf2.weaken (fun _ _ e => .inl e)); have A2 := hid (Hto.out w2 d2 hd2 hf2); have HLj := hid (HLi.out w2 v (own_mono hrow (F1.out.size)) A2.out); clear hrow hd2 hf2)
          | (go_at_call 48; refine HLj.out.mono ?_; rintro e w3 ⟨rfl, q, rfl⟩; have b3 := hid (below_drewN (Below.refl w2.heap.size w2) q); have c1 := cell_below b3.out (show w2.cell? ⟨gP, 1, none⟩ = some (.pointer (some ⟨gdo, 0, none⟩)) from A2.out.tab.cell 1))
          | (go_at_call 49; refine (show Calls Try.prog 49 #[.pointer (some ⟨gdo, 0, none⟩), .int .i64 (hd : Int), .int .i64 0] (w2.drewN q) _ from HGi.out (w2.drewN q) M1 0 (A2.out.keep b3.out) (by decide)).mono ?_; rintro e w4 ⟨rfl, hd4, hm4, hf4⟩; have D4 := hid hd4; have M4 := hid hm4; have F4 := hid hf4; clear hd4 hm4 hf4))
        go_roundg k
        case measure => omega
        case rel => exact HBack.out out1 _ HR3.out (Nat.le_succ _) (w2.drewN q) w4 (A2.out.keep b3.out) ((F1.out.trans (frame_out f2.out) (fun _ _ e => e)).trans (Below.frameF b3.out _) (fun _ _ e => e)) (rows_port (rows_port Rw.out f2.out Hlt.out) (Below.frameF b3.out (fun _ => False)) (fun _ e => e.elim)) F4.out D4.out M4.out
end Go.Proofs.Ytgiegiobigdplaa
