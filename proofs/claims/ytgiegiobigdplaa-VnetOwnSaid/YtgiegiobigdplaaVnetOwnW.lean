/- The walk of VnetOwn. -/
import Derived.Test.YtgiegiobigdplaaVnetSizesW
import Derived.Test.YtgiegiobigdplaaVnAg
namespace Go.Proofs.Ytgiegiobigdplaa
open Go Go.RowKit
attribute [local go_sem ↓] Go.wp_at_zero Go.wp_at_succ
set_option maxRecDepth 100000
set_option linter.unusedSimpArgs false
set_option linter.unusedVariables false

set_option maxHeartbeats 4000000 in
theorem vnetOwn_walk (v0 : Value) (rs : List (List UInt8)) (w : World) (hr : Rows8 w v0 rs) : Calls Try.prog 6 #[v0] w fun e w' => e = .returned (.bool true) ∧ Below w.heap.size w w' := by
  have HK := hid (known_any w)
  have hA := fun wy => varea_any 8 wy
  rw [show vAreaI 8 = 24880 from rfl] at hA
  have HA := hid hA
  have hmk := run_make8 u8ok .i64 .i64 24880 24880 rfl (by decide)
  have Hok := hid (show okN ((8 : Nat) : Int) = true by decide)
  obtain ⟨A0, c0, rfl, hl1, hl2, hcells⟩ := hr.cells
  have hrl : rs.length ≤ 9223372036854775807 := Nat.le_trans hl1 hl2
  clear hl1 hl2
  have Hcells := hid hcells
  obtain ⟨ln, hln⟩ : ∃ ln, rs.length = ln := ⟨_, rfl⟩
  have Hln := hid hln
  rw [hln] at hrl ⊢
  clear hA hr hcells hln
  go_enter Try.func6, Try.ntmps6
  go_upto_region 4 with (first
    | (go_at_call 7; (with_reducible refine HK.out.mono ?_); rintro e w1 ⟨rfl, hb⟩; have B1 := hid hb; clear hb)
    | (go_at_call 8; refine (HA.out _).mono ?_; rintro e w' ⟨rfl, hw⟩; have hw := hw.symm; subst hw))
  have HC := hid (begin_card w1 8 24880 Hok.out rfl)
  go_upto_region 5 with (go_at_call 10; (refine HC.out.mono ?_); rintro e w2 ⟨gC, I, rfl, hc⟩; have C2 := hid hc; clear hc)
  have HP := hid (begin_port C2.out Hok.out rfl)
  go_upto_region 6 with (go_at_call 12; (refine HP.out.mono ?_); rintro e w3 ⟨gP, F3, rfl, hp, hb⟩; have W3 := hid (WIt.none hp hb); clear hp hb)
  clear HK HC HP C2 hmk
  go_upto_region 10 with fail
  obtain ⟨N8, hN8⟩ : ∃ N8, min ln 8 = N8 := ⟨_, rfl⟩
  have HN8 := hid (show N8 ≤ ln ∧ N8 ≤ 8 ∧ (N8 = ln ∨ N8 = 8) by omega)
  clear hN8
  go_loopg [8, 9, 10, 11] N8 (fun gk s8 s9 _ _ wx => ∃ (i : Nat) (L : List (List UInt8)) (F : Nat → Prop), i + gk = N8 ∧ s9 = .int .i64 (i : Int) ∧ L.length = i ∧ WIt w1 wx w1.heap.size 24880 8 gC gP (8 + i) F s8 L L L)
  case atStart => exact ⟨0, [], F3, by omega, rfl, rfl, W3.out⟩
  case round =>
    obtain ⟨i, L, F, hi, rfl, hL, hit⟩ := hrel
    have It := hid hit
    have HL := hid hL
    clear hit hL
    by_cases hlt : i < N8
    · have hltI : (i : Int) < (ln : Int) := by have := HN8.out; omega
      have hlt8 : (i : Int) < 8 := by have := HN8.out; omega
      obtain ⟨b0, o0, x0, rfl, hc0, hb0⟩ := Hcells.out i (by rw [Hln.out]; have := HN8.out; omega)
      obtain ⟨X0, d0, rfl⟩ := slice_len hb0 rfl
      obtain ⟨z0, hz0⟩ : ∃ z, (rs[i]'(by rw [Hln.out]; have := HN8.out; omega)).length = z := ⟨_, rfl⟩
      rw [hz0] at hc0
      have hcr : wr.cell? ⟨b0, o0 + i, none⟩ = some (.slice X0 z0 d0) := cell_below (B1.out.trans (It.out.bl.mono B1.out.size)) hc0
      have HF := hid (vframe_at (i : Int) (z0 : Int) wr)
      clear hz0 hb0 hc0
      go_upto_region 13 with (go_at_call 24; (with_reducible refine HF.out.mono ?_); rintro e w4 hfp; obtain ⟨g, f, h14, h1514, rfl, hwf⟩ := wf_frame It.out hfp; have W4 := hid hwf; have Hf := hid (And.intro h14 h1514); clear hfp hwf h14 h1514; obtain ⟨fl, hfl⟩ : ∃ fl, f.length = fl := ⟨_, rfl⟩; have Hfl := hid hfl; simp only [hfl]; clear hfl)
      have HD := hid (pf_deliver W4.out.pf Hf.out.1 Hf.out.2 (by have := HN8.out; rw [HL.out]; omega))
      rw [Hfl.out] at HD
      go_upto_region 14 with (go_at_call 19; (refine HD.out.mono ?_); rintro e w5 ⟨rfl, hp⟩; obtain ⟨F5, hwf⟩ := wf_step W4.out hp; have W5 := hid hwf; clear hp hwf)
      have HS := hid (pf_send W5.out.pf (by have := HN8.out; omega) Hf.out.1 Hf.out.2 (by have := HN8.out; rw [HL.out]; omega))
      rw [Hfl.out] at HS
      go_upto_region 15 with (go_at_call 14; (refine HS.out.mono ?_); rintro e w6 ⟨rfl, hp⟩; obtain ⟨F6, hwf⟩ := wf_step W5.out hp; have W6 := hid hwf; clear hp hwf)
      clear HF HD HS W4 W5 It
      have Bs6 := hid W6.out.pf.bs
      rw [Hfl.out] at Bs6
      obtain ⟨vs, ho, hn, hi6⟩ := W6.out.rows
      rw [HL.out] at ho
      have Ho := hid ho
      have Hi6 := hid (And.intro hn hi6)
      clear ho hn hi6
      go_upto_region 16 with (first
        | ((with_reducible show wpList _ _ _ (Oper.mk (some 61) _ _ _ _ _ :: _) _ _); refine wpList_app8 _ rfl _ _ 25 rfl w6.heap.size 5 u8ok (.slice (some ⟨_, 0, none⟩) 0 0) [] rfl (ownBs_litNil rfl (Nat.le_refl _)) _ f rfl (Bs6.out.alloc _) (by have := Hf.out; simp; omega) (by simp) ?_; intro x7 w7 hown hb7 hg7 hat7; rw [List.nil_append] at hown; obtain ⟨A7, c7, rfl⟩ := slice_len hown.bs rfl; have X7 := hid hown; have B7 := hid ((below_alloc _ _).trans hb7); clear hg7 hat7 hown hb7)
        | ((with_reducible show wpList _ _ _ (Oper.mk (some 63) _ _ _ _ _ :: _) _ _); refine wpList_app _ rfl _ _ 44 rfl w1.heap.size 25 (.slice none 0 0) 1 24 slok _ i vs rfl (own_below Ho.out (below_alloc' B7.out _)) _ 1 [.slice A7 f.length c7] rfl (row_lit #[.slice A7 f.length c7] 1 rfl (by decide)) (by simp [Value.oneCell']) (by have := HN8.out; omega) (by have := HN8.out; simp only [maxLen]; omega) (by have := B7.out.size; have := W6.out.pf.bl.size; simp; omega) ?_; intro v9 w9 hown9 hg9 hat9; have O9 := hid hown9; have G9 := hid hg9; have T9 := hid hat9; clear hown9 hg9 hat9))
      have W9 := hid (wf_push (x := .slice A7 f.length c7) (r := f) W6.out (by rw [HL.out]; exact Ho.out) Hi6.out.1 Hi6.out.2 (below_alloc' B7.out (.cells #[.slice A7 f.length c7] 25)) (OwnBs.below X7.out (below_alloc _ _)) (by rw [HL.out]; exact O9.out) G9.out T9.out)
      have HL9 := hid (show (L ++ [f]).length = i + 1 by rw [List.length_append, HL.out]; rfl)
      have Hms := hid (show N8 - (i + 1) < gk ∧ i + 1 + (N8 - (i + 1)) = N8 by omega)
      generalize L ++ [f] = L9 at *
      clear W6 Ho Hi6 B7 X7 O9 G9 T9 Bs6 HL hcr hi hlt
      have hflb : fl ≤ 1514 := by have := Hf.out; have := Hfl.out; omega
      go_wp2_with fail
      go_loopg [11] fl (fun gk2 s11 wx => ∃ (k : Nat) (fx : List UInt8), k + gk2 = fl ∧ s11 = .int .i64 (k : Int) ∧ fx.length = fl ∧ WF w1 wx w1.heap.size 24880 8 gC gP (8 + i + 1) F6 g fx v9 L9 L9 L9)
      case atStart => exact ⟨0, f, by omega, rfl, Hfl.out, W9.out⟩
      case round =>
        obtain ⟨k, fx, hk, rfl, hfx, hwx⟩ := hrel
        have Wx := hid hwx
        have Hfx := hid hfx
        clear hwx hfx
        by_cases hlt : k < fl
        · have hltI : (k : Int) < (fl : Int) := by omega
          obtain ⟨old, hco⟩ : ∃ old, wr.cell? ⟨g, k, none⟩ = some old := ⟨_, (Wx.out.pf.blk.cell k).trans (List.getElem?_eq_getElem (by rw [List.length_map, Hfx.out]; omega))⟩
          have zp := Wx.out.pf.blk.frozen k
          obtain ⟨f', hl', hw'⟩ := Wx.out.set k 238
          have Wn := hid (show f'.length = fl ∧ WF w1 (wr.setCell ⟨g, k, none⟩ (.int .u8 238)) w1.heap.size 24880 8 gC gP (8 + i + 1) F6 g f' v9 L9 L9 L9 from ⟨hl'.trans Hfx.out, hw'⟩)
          have Hms2 := hid (show fl - (k + 1) < gk ∧ k + 1 + (fl - (k + 1)) = fl by omega)
          clear hl' hw' hk
          go_wp2_with fail
          go_roundg (fl - (k + 1))
          case measure => exact Hms2.out.1
          case rel => exact ⟨k + 1, f', Hms2.out.2, by go_num, Wn.out.1, Wn.out.2⟩
        · obtain rfl : k = fl := by omega
          have hltI : ¬ (k : Int) < (k : Int) := by omega
          have Wn := hid Wx.out.off
          clear Wx hk
          go_wp2_with fail
          go_roundg (N8 - (i + 1))
          case measure => exact Hms.out.1
          case rel => exact ⟨i + 1, L9, F6, Hms.out.2, by have := HN8.out; go_num, HL9.out, Wn.out⟩
    · obtain rfl : i = N8 := by omega
      have HL8 := hid (show L.length ≤ 1000000 by rw [HL.out]; have := HN8.out; omega)
      have HR := hid (pl_receive It.out.pl (by have := HN8.out; omega))
      have HX := hid (fun (K : Prop) (h1 : ¬ (i : Int) < (ln : Int) → K) (h2 : (i : Int) < (ln : Int) → ¬ (i : Int) < 8 → K) => show K from by
        by_cases hc : i < ln
        · exact h2 (by omega) (by have := HN8.out; omega)
        · exact h1 (by omega))
      have Hcl := hid (fun (w9 w10 : World) (F9 : Nat → Prop) (v1 v2 : Value) (hp9 : Pl w9 w1.heap.size w1.heap.size 24880 8 gC gP (8 + i + 65536) F9 [] L) (hf9 : Frame F wr w9) (hF9 : ∀ k, F9 k → F k ∨ wr.heap.size ≤ k) (hr9 : RowsN w9 wr.heap.size F9 v1 L)
          (hp10 : Pl w10 w1.heap.size w1.heap.size 24880 8 gC gP (8 + i + 65536) F9 [] []) (hf10 : Frame F9 w9 w10) (hr10 : RowsN w10 w9.heap.size F9 v2 L) =>
        show (∃ M : List UInt8, M.length = 24880 ∧ Blk w10 w1.heap.size 5 (M.map u8v)) ∧ Below w1.heap.size w1 w10 ∧ ∀ wx, Frame (fun k => k = w1.heap.size) w10 wx → Rows8 wx v1 L ∧ Rows8 wx v2 L ∧ Rows8 wx u8 L from by
          have hlo := It.out.pl.lo
          have b9 := It.out.bl.trans (hf9.below hlo It.out.bl.size)
          have b10 := b9.trans (hf10.below hp9.lo b9.size)
          have hgm := hp10.mem
          have hgF := It.out.pl.mem.1
          refine ⟨hgm.2, b10, fun wx hfx => ⟨?_, ?_, ?_⟩⟩
          · exact ((hr9.step hf10 (N' := F9) (fun k _ _ h3 => ⟨h3, h3⟩)).step hfx (N' := fun _ => False) (fun k _ _ h3 => ⟨fun e => h3 (e ▸ hgm.1), id⟩)).rows8
          · exact (hr10.step hfx (N' := fun _ => False) (fun k _ _ h3 => ⟨fun e => h3 (e ▸ hgm.1), id⟩)).rows8
          · exact (((It.out.rows.step hf9 (N' := F9) (fun k _ h2 h3 => ⟨h3, fun e => (hF9 k e).elim h3 (fun e => by omega)⟩)).step hf10 (N' := F9) (fun k _ _ h3 => ⟨h3, h3⟩)).step hfx (N' := fun _ => False) (fun k _ _ h3 => ⟨fun e => h3 (e ▸ hgm.1), id⟩)).rows8)
      clear Hcells
      have HcH := hid HL8.out
      refine HX.out _ (fun h1 => ?_) (fun h1 h2 => ?_)
      all_goals
        go_upto_region 21 with (go_at_call 17; (refine HR.out.mono ?_); rintro e w9 ⟨v1, F9, rfl, hp, hf, hF, hr⟩; have P9 := hid (And.intro hp (And.intro hf (And.intro hF hr))); clear hp hf hF hr)
        go_upto_region 22 with (go_at_call 21; (refine (pl_sent P9.out.1).mono ?_); rintro e w10 ⟨v2, rfl, hp, hf, hr⟩; have P10 := hid (Hcl.out w9 w10 F9 v1 v2 P9.out.1 P9.out.2.1 P9.out.2.2.1 P9.out.2.2.2 hp hf hr); clear hp hf hr P9)
        obtain ⟨M0, hM0, hBM0⟩ := P10.out.1
        have HM0 := hid (And.intro hM0 hBM0)
        clear hM0 hBM0
        go_wp2_with fail
        go_loopg [14] 24880 (fun gk s14 wx => ∃ (k : Nat) (M : List UInt8), k + gk = 24880 ∧ s14 = .int .i64 (k : Int) ∧ M.length = 24880 ∧ Blk wx w1.heap.size 5 (M.map u8v) ∧ Frame (fun k => k = w1.heap.size) w10 wx)
        case atStart => exact ⟨0, M0, rfl, rfl, HM0.out.1, HM0.out.2, Frame.refl _ _⟩
        case round =>
          obtain ⟨k, M, hk, rfl, hM, hB, hF⟩ := hrel
          have HM := hid hM
          have HB := hid hB
          have HF := hid hF
          clear hM hB hF
          by_cases hlt : k < 24880
          · have hltI : (k : Int) < 24880 := by omega
            obtain ⟨old, hco⟩ : ∃ old, wr.cell? ⟨w1.heap.size, k, none⟩ = some old := ⟨_, (HB.out.cell k).trans (List.getElem?_eq_getElem (by rw [List.length_map, HM.out]; omega))⟩
            have zp := HB.out.frozen k
            obtain ⟨f', hl', hw'⟩ := HB.out.set8 k 238
            have Wn := hid (show f'.length = 24880 ∧ Blk (wr.setCell ⟨w1.heap.size, k, none⟩ (.int .u8 238)) w1.heap.size 5 (f'.map u8v) from ⟨hl'.trans HM.out, hw'⟩)
            have Hfn := hid (HF.out.trans (frame_grown (grown_set wr w1.heap.size k (.int .u8 238)) (fun z hz => by injection hz with hz; exact hz.symm)) (fun _ _ e => e) : Frame (fun k => k = w1.heap.size) w10 (wr.setCell ⟨w1.heap.size, k, none⟩ (.int .u8 238)))
            have Hms2 := hid (show 24880 - (k + 1) < gk ∧ k + 1 + (24880 - (k + 1)) = 24880 by omega)
            clear hl' hw' hk
            go_wp2_with fail
            go_roundg (24880 - (k + 1))
            case measure => exact Hms2.out.1
            case rel => exact ⟨k + 1, f', Hms2.out.2, by go_num, Wn.out.1, Wn.out.2, Hfn.out⟩
          · obtain rfl : k = 24880 := by omega
            have hend := P10.out.2.2 wr HF.out
            have He := hid hend
            have Hb := hid (below_end B1.out (P10.out.2.1.trans (HF.out.below (fun k e => Nat.le_of_eq e.symm) P10.out.2.1.size)) B1.out.size)
            clear hend hk
            go_wp2_with (first
              | (go_at_call 16; (with_reducible refine (rows_same_eq He.out.1 He.out.2.2 HcH.out).mono ?_); rintro e w12 ⟨rfl, q, rfl⟩)
              | (go_at_call 16; (with_reducible refine (rows_same_eq (He.out.2.1.drewN _) (He.out.2.2.drewN _) HcH.out).mono ?_); rintro e w13 ⟨rfl, q2, rfl⟩))
            go_ret
            exact ⟨rfl, below_drewN Hb.out _⟩
end Go.Proofs.Ytgiegiobigdplaa
