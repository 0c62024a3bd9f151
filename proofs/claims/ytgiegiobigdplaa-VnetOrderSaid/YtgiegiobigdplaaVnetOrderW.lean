/- The walk of VnetOrder. -/
import Derived.Test.YtgiegiobigdplaaVnetSizesW
import Derived.Test.YtgiegiobigdplaaVnAg
namespace Go.Proofs.Ytgiegiobigdplaa
open Go Go.RowKit
attribute [local go_sem ↓] Go.wp_at_zero Go.wp_at_succ
set_option maxRecDepth 100000
set_option linter.unusedSimpArgs false
set_option linter.unusedVariables false

set_option maxHeartbeats 4000000 in
theorem vnetOrder_walk (z : Int) (v1 : Value) (zs : List Int) (b : Bool) (w : World) (hr : RowN w 1 v1 zs.length (zs.map fun x => Value.int .i64 x)) : Calls Try.prog 4 #[.int .i64 z, v1, .bool b] w fun e w' => e = .returned (.bool true) ∧ Below w.heap.size w w' := by
  have HK := hid (known_any w)
  have HW := hid (fun wy => within_at z 4 4 wy rfl (by decide) (by decide))
  go_enter Try.func4, Try.ntmps4
  go_upto_region 4 with (first
    | (go_at_call 7; (with_reducible refine HK.out.mono ?_); rintro e w1 ⟨rfl, hb⟩; have B1 := hid hb; clear hb)
    | (go_at_call 23; (with_reducible refine (HW.out _).mono ?_); rintro e w' ⟨k, hk, rfl, hw⟩; subst hw; have Hk := hid hk; have hkI : 0 ≤ (k : Int) ∧ (k : Int) < 4 := (by omega); clear hk))
  obtain ⟨n, hn, hok, hn8, hn1⟩ : ∃ n : Nat, wrap64 ((2 : Int) ^ k) = (n : Int) ∧ okN (n : Int) = true ∧ n ≤ 8 ∧ 1 ≤ n := by
    have hk := Hk.out
    rcases (show k = 0 ∨ k = 1 ∨ k = 2 ∨ k = 3 by omega) with rfl | rfl | rfl | rfl
    · exact ⟨1, by kernel_rfl, by decide, by decide, by decide⟩
    · exact ⟨2, by kernel_rfl, by decide, by decide, by decide⟩
    · exact ⟨4, by kernel_rfl, by decide, by decide, by decide⟩
    · exact ⟨8, by kernel_rfl, by decide, by decide, by decide⟩
  simp only [hn]
  have hA := fun wy => varea_any (n : Int) wy
  rw [vAreaI_of hok] at hA
  obtain ⟨A, hAe⟩ : ∃ A, vArea n = A := ⟨_, rfl⟩
  have HAe := hid hAe
  rw [hAe] at hA
  have HA := hid hA
  have hAI : 0 ≤ (A : Int) ∧ (A : Int) ≤ 1000000 := by rw [← hAe]; unfold vArea vSize; omega
  have hmk := run_make8 u8ok .i64 .i64 (A : Int) A rfl (by omega)
  have Hok := hid hok
  have Hn := hid (And.intro hn8 hn1)
  clear hn hok hA hAe hn8 hn1
  go_upto_region 5 with (go_at_call 8; refine (HA.out _).mono ?_; rintro e w' ⟨rfl, hw⟩; have hw := hw.symm; subst hw)
  have HC := hid (begin_card w1 n A Hok.out HAe.out)
  go_upto_region 6 with (go_at_call 10; (refine HC.out.mono ?_); rintro e w2 ⟨gC, I, rfl, hc⟩; have C2 := hid hc; clear hc)
  have HP := hid (begin_port C2.out Hok.out HAe.out)
  go_upto_region 7 with (go_at_call 12; (refine HP.out.mono ?_); rintro e w3 ⟨gP, F3, rfl, hp, hb⟩; have W3 := hid (WIt.none hp hb); clear hp hb)
  clear HK HC HP C2 hmk HW HA
  go_upto_region 11 with fail
  obtain ⟨N, hN⟩ : ∃ N, min zs.length 100 = N := ⟨_, rfl⟩
  obtain ⟨A0, c0, rfl, hl0, hl1, hl2, hcs⟩ := hr.cells
  have Hcells := hid hcs
  clear hcs
  obtain ⟨ln, hln⟩ : ∃ ln, zs.length = ln := ⟨_, rfl⟩
  have HN := hid (show N ≤ ln ∧ N ≤ 100 ∧ (N = ln ∨ N = 100) by omega)
  have Hln := hid hln
  have hlb : ln ≤ 9223372036854775807 := by omega
  simp only [hln]
  clear hN hl0 hl1 hl2 hr hln
  go_loopg [13, 14, 15, 16, 17] N (fun gk s13 s14 _ _ _ wx => ∃ (i d : Nat) (L : List (List UInt8)) (F : Nat → Prop) (cx : Nat) (Ax : Option Addr), i + gk = N ∧ s14 = .int .i64 (i : Int) ∧ L.length < n ∧ d ≤ 8 + 70000 * i ∧ s13 = .slice Ax L.length cx ∧ WIt w1 wx w1.heap.size A n gC gP d F s13 L (cond b L []) (cond b [] L))
  case atStart => exact ⟨0, n, [], F3, 0, none, by omega, rfl, Hn.out.2, Hn.out.1, rfl, by have := W3.out; cases b <;> exact this⟩
  case round =>
    obtain ⟨i, d, L, F, cx, Ax, hi, rfl, hL, hd, rfl, hit⟩ := hrel
    have It := hid hit
    have HL := hid hL
    have Hd := hid hd
    obtain ⟨l, hl⟩ : ∃ l, L.length = l := ⟨_, rfl⟩
    have Hl := hid hl
    simp only [hl]
    have hln1 : l < n := by omega
    have hn8 : n ≤ 8 := Hn.out.1
    clear hit hL hd hl
    by_cases hlt : i < N
    · have hltI : (i : Int) < (ln : Int) := by have := HN.out; omega
      have hlt1 : (i : Int) < 100 := by have := HN.out; omega
      obtain ⟨b0, o0, rfl, hc0⟩ := Hcells.out i (by rw [List.length_map, Hln.out]; have := HN.out; omega)
      obtain ⟨x, hx⟩ : ∃ x, (zs.map fun x => Value.int .i64 x)[i]'(by rw [List.length_map, Hln.out]; have := HN.out; omega) = Value.int .i64 x := ⟨_, List.getElem_map ..⟩
      rw [hx] at hc0
      have hcr : wr.cell? ⟨b0, o0 + i, none⟩ = some (.int .i64 x) := cell_below (B1.out.trans (It.out.bl.mono B1.out.size)) hc0
      have HF := hid (vframe_at (i : Int) x wr)
      clear hx hc0
      go_upto_region 14 with (go_at_call 24; (with_reducible refine HF.out.mono ?_); rintro e w4 hfp; obtain ⟨g, f, h14, h1514, rfl, hwf⟩ := wf_frame It.out hfp; have W4 := hid hwf; have Hf := hid (And.intro h14 h1514); clear hfp hwf h14 h1514; obtain ⟨fl, hfl⟩ : ∃ fl, f.length = fl := ⟨_, rfl⟩; have Hfl := hid hfl; simp only [hfl]; clear hfl)
      have Hms := hid (show N - (i + 1) < gk ∧ i + 1 + (N - (i + 1)) = N by omega)
      clear HF hcr It hi hlt
      cases b
      · have HD := hid (pf_send W4.out.pf (by have := Hd.out; have := HN.out; omega) Hf.out.1 Hf.out.2 HL.out)
        rw [Hfl.out] at HD
        go_upto_region 18 with (go_at_call 14; (refine HD.out.mono ?_); rintro e w5 ⟨rfl, hp⟩; obtain ⟨F5, hwf⟩ := wf_step W4.out hp; have W5 := hid hwf; clear hp hwf)
        clear HD W4
        have HB5 := hid (blk_own W5.out.pf.blk W5.out.gb (by have := Hf.out; omega))
        rw [Hfl.out] at HB5
        obtain ⟨vs, ho, hn, hi5⟩ := W5.out.rows
        have Ho := hid ho
        have Hi5 := hid (And.intro hn hi5)
        clear ho hn hi5
        have HO := hid Ho.out
        rw [Hl.out] at HO
        have hlnI : (l : Int) < (n : Int) := by omega
        go_upto_region 22 with ((with_reducible show wpList _ _ _ (Oper.mk (some 95) _ _ _ _ _ :: _) _ _); refine wpList_app _ rfl _ _ 44 rfl w1.heap.size 25 (.slice none 0 0) 1 24 slok (.slice Ax l cx) l vs rfl (own_below (HO.out) (below_alloc _ _)) _ 1 [.slice (some ⟨g, 0, none⟩) fl fl] rfl (row_lit #[.slice (some ⟨g, 0, none⟩) fl fl] 1 rfl (by decide)) (by simp [Value.oneCell']) (by omega) (by simp only [maxLen]; omega) (by have := W5.out.pf.bl.size; simp; omega) ?_; intro v9 w9 hown9 hg9 hat9; have O9 := hid hown9; have G9 := hid hg9; have T9 := hid hat9; clear hown9 hg9 hat9)
        have W9 := hid (wf_put W5.out Ho.out Hi5.out.1 Hi5.out.2 (below_alloc w5 (.cells #[.slice (some ⟨g, 0, none⟩) fl fl] 25)) (by rw [Hl.out, Hfl.out]; exact O9.out) (by rw [Hl.out]; exact G9.out) (by rw [Hl.out]; exact T9.out))
        obtain ⟨l1, hl1⟩ : ∃ l1, l + 1 = l1 := ⟨_, rfl⟩
        have Hl1 := hid hl1
        have Hl9 := hid (show (L ++ [f]).length = l1 by rw [List.length_append, Hl.out]; exact hl1)
        obtain ⟨A9, c9, rfl⟩ := W9.out.rows.slice_ Hl9.out
        have hl1n : l1 ≤ n := by omega
        clear W5 HB5 Ho HO Hi5 O9 G9 T9 hl1
        have hrem : (i : Int).tmod 7 = ((i % 7 : Nat) : Int) := rfl
        obtain ⟨r7, hr7⟩ : ∃ r7, i % 7 = r7 := ⟨_, rfl⟩
        have hr7b : r7 < 7 := by omega
        rw [hr7] at hrem
        by_cases hc : r7 ≠ 6 ∧ l1 < n
        · have hc1 : ¬ (r7 : Int) = 6 := by omega
          have hc2 : (l1 : Int) < (n : Int) := by omega
          have Hi9 := hid (show i ≤ 100 by have := HN.out; omega)
          clear hr7
          go_wp2_with fail
          go_roundg (N - (i + 1))
          case measure => exact Hms.out.1
          case rel => exact ⟨i + 1, d + 1, L ++ [f], F5, c9, A9, Hms.out.2, by have := Hi9.out; go_num, by rw [Hl9.out]; exact hc.2, by have := Hd.out; omega, by rw [Hl9.out], W9.out⟩
        · have HR := hid (pl_sent W9.out.pl)
          have HcH := hid (show (L ++ [f]).length ≤ 1000000 by rw [Hl9.out]; omega)
          have HX := hid (fun (K : Prop) (h1 : (r7 : Int) = 6 → K) (h2 : ¬ (r7 : Int) = 6 → ¬ (l1 : Int) < (n : Int) → K) => show K from by
            by_cases h6 : r7 = 6
            · exact h1 (by omega)
            · exact h2 (by omega) (by omega))
          clear hr7 hc
          have Hi9 := hid (show i ≤ 100 by have := HN.out; omega)
          refine HX.out _ (fun h1 => ?_) (fun h1 h2 => ?_)
          all_goals
            go_upto_region 27 with (go_at_call 21; (refine HR.out.mono ?_); rintro e w10 ⟨v1, rfl, hp, hf, hr⟩; have P10 := hid hp; have R1 := hid (show Rows8 w10 v1 (L ++ [f]) from hr.rows8); have R2 := hid (W9.out.rows.on hf).rows8; have B10 := hid (W9.out.bl.trans (hf.below W9.out.pl.lo W9.out.bl.size)); clear hp hf hr)
            go_wp2_with (go_at_call 16; (with_reducible refine (rows_same_eq R1.out R2.out HcH.out).mono ?_); rintro e w11 ⟨rfl, q, rfl⟩)
            go_roundg (N - (i + 1))
            case measure => exact Hms.out.1
            case rel => exact ⟨i + 1, d + 1, [], F5, 0, none, Hms.out.2, by have := Hi9.out; go_num, Hn.out.2, by have := Hd.out; omega, rfl, WIt.none (P10.out.keep (below_drewN (Below.refl _ _) q)) (below_drewN B10.out q)⟩
      · have HD := hid (pf_deliver W4.out.pf Hf.out.1 Hf.out.2 HL.out)
        rw [Hfl.out] at HD
        go_upto_region 18 with (go_at_call 19; (refine HD.out.mono ?_); rintro e w5 ⟨rfl, hp⟩; obtain ⟨F5, hwf⟩ := wf_step W4.out hp; have W5 := hid hwf; clear hp hwf)
        clear HD W4
        have HB5 := hid (blk_own W5.out.pf.blk W5.out.gb (by have := Hf.out; omega))
        rw [Hfl.out] at HB5
        obtain ⟨vs, ho, hn, hi5⟩ := W5.out.rows
        have Ho := hid ho
        have Hi5 := hid (And.intro hn hi5)
        clear ho hn hi5
        have HO := hid Ho.out
        rw [Hl.out] at HO
        have hlnI : (l : Int) < (n : Int) := by omega
        go_upto_region 22 with ((with_reducible show wpList _ _ _ (Oper.mk (some 95) _ _ _ _ _ :: _) _ _); refine wpList_app _ rfl _ _ 44 rfl w1.heap.size 25 (.slice none 0 0) 1 24 slok (.slice Ax l cx) l vs rfl (own_below (HO.out) (below_alloc _ _)) _ 1 [.slice (some ⟨g, 0, none⟩) fl fl] rfl (row_lit #[.slice (some ⟨g, 0, none⟩) fl fl] 1 rfl (by decide)) (by simp [Value.oneCell']) (by omega) (by simp only [maxLen]; omega) (by have := W5.out.pf.bl.size; simp; omega) ?_; intro v9 w9 hown9 hg9 hat9; have O9 := hid hown9; have G9 := hid hg9; have T9 := hid hat9; clear hown9 hg9 hat9)
        have W9 := hid (wf_put W5.out Ho.out Hi5.out.1 Hi5.out.2 (below_alloc w5 (.cells #[.slice (some ⟨g, 0, none⟩) fl fl] 25)) (by rw [Hl.out, Hfl.out]; exact O9.out) (by rw [Hl.out]; exact G9.out) (by rw [Hl.out]; exact T9.out))
        obtain ⟨l1, hl1⟩ : ∃ l1, l + 1 = l1 := ⟨_, rfl⟩
        have Hl1 := hid hl1
        have Hl9 := hid (show (L ++ [f]).length = l1 by rw [List.length_append, Hl.out]; exact hl1)
        obtain ⟨A9, c9, rfl⟩ := W9.out.rows.slice_ Hl9.out
        have hl1n : l1 ≤ n := by omega
        clear W5 HB5 Ho HO Hi5 O9 G9 T9 hl1
        have hrem : (i : Int).tmod 7 = ((i % 7 : Nat) : Int) := rfl
        obtain ⟨r7, hr7⟩ : ∃ r7, i % 7 = r7 := ⟨_, rfl⟩
        have hr7b : r7 < 7 := by omega
        rw [hr7] at hrem
        by_cases hc : r7 ≠ 6 ∧ l1 < n
        · have hc1 : ¬ (r7 : Int) = 6 := by omega
          have hc2 : (l1 : Int) < (n : Int) := by omega
          have Hi9 := hid (show i ≤ 100 by have := HN.out; omega)
          clear hr7
          go_wp2_with fail
          go_roundg (N - (i + 1))
          case measure => exact Hms.out.1
          case rel => exact ⟨i + 1, d + 1, L ++ [f], F5, c9, A9, Hms.out.2, by have := Hi9.out; go_num, by rw [Hl9.out]; exact hc.2, by have := Hd.out; omega, by rw [Hl9.out], ⟨W9.out.pl.more (Nat.le_succ d), W9.out.rows, W9.out.bl⟩⟩
        · have HR := hid (pl_receive (W9.out.pl.more (Nat.le_succ d)) (by have := Hd.out; have := HN.out; omega))
          have HcH := hid (show (L ++ [f]).length ≤ 1000000 by rw [Hl9.out]; omega)
          have HX := hid (fun (K : Prop) (h1 : (r7 : Int) = 6 → K) (h2 : ¬ (r7 : Int) = 6 → ¬ (l1 : Int) < (n : Int) → K) => show K from by
            by_cases h6 : r7 = 6
            · exact h1 (by omega)
            · exact h2 (by omega) (by omega))
          clear hr7 hc
          have Hi9 := hid (show i ≤ 100 by have := HN.out; omega)
          refine HX.out _ (fun h1 => ?_) (fun h1 h2 => ?_)
          all_goals
            go_upto_region 27 with (go_at_call 17; (refine HR.out.mono ?_); rintro e w10 ⟨v1, F10, rfl, hp, hf, _, hr⟩; have P10 := hid hp; have R1 := hid (show Rows8 w10 v1 (L ++ [f]) from hr.rows8); have R2 := hid (W9.out.rows.on hf).rows8; have B10 := hid (W9.out.bl.trans (hf.below W9.out.pl.lo W9.out.bl.size)); clear hp hf hr)
            go_wp2_with (go_at_call 16; (with_reducible refine (rows_same_eq R1.out R2.out HcH.out).mono ?_); rintro e w11 ⟨rfl, q, rfl⟩)
            go_roundg (N - (i + 1))
            case measure => exact Hms.out.1
            case rel => exact ⟨i + 1, d + 1 + 65536, [], F10, 0, none, Hms.out.2, by have := Hi9.out; go_num, Hn.out.2, by have := Hd.out; omega, rfl, WIt.none (P10.out.keep (below_drewN (Below.refl _ _) q)) (below_drewN B10.out q)⟩
    · obtain rfl : i = N := by omega
      have Hend := hid (B1.out.trans (It.out.bl.mono B1.out.size))
      have HX := hid (fun (K : Prop) (h1 : ¬ (i : Int) < (ln : Int) → K) (h2 : (i : Int) < (ln : Int) → ¬ (i : Int) < 100 → K) => show K from by
        by_cases hc : i < ln
        · exact h2 (by omega) (by have := HN.out; omega)
        · exact h1 (by omega))
      refine HX.out _ (fun h1 => ?_) (fun h1 h2 => ?_)
      all_goals
        go_wp2_with fail
        go_ret
        exact ⟨rfl, Hend.out⟩
end Go.Proofs.Ytgiegiobigdplaa
