/- The walk of VnetSizes. -/
import Derived.Test.YtgiegiobigdplaaVnAf
namespace Go.Proofs.Ytgiegiobigdplaa
open Go Go.RowKit
attribute [local go_sem ↓] Go.wp_at_zero Go.wp_at_succ
set_option maxRecDepth 100000
set_option linter.unusedSimpArgs false
set_option linter.unusedVariables false

theorem RowsN.slice_ {w : World} {b : Nat} {N : Nat → Prop} {v : Value} {L : List (List UInt8)} {k : Nat} (h : RowsN w b N v L) (hk : L.length = k) : ∃ A c, v = .slice A k c := by
  subst hk
  obtain ⟨A, c, rfl, _⟩ := h.rows8.cells
  exact ⟨A, c, rfl⟩
theorem rows_same_eq {v1 v2 : Value} {L : List (List UInt8)} {w : World} (h1 : Rows8 w v1 L) (h2 : Rows8 w v2 L) (hl : L.length ≤ 1000000) :
    Calls Try.prog 16 #[v1, v2] w fun e w' => e = .returned (.bool true) ∧ ∃ q, w' = w.drewN q := by
  refine (rows_same_any v1 v2 L L w h1 h2 hl hl).mono ?_
  rintro e w' ⟨rfl, h⟩
  exact ⟨by rw [decide_eq_true rfl], h⟩
theorem below_end {B : Nat} {w a w' : World} (h : Below B w a) (hb : Below a.heap.size a w') (hB : B ≤ a.heap.size) : Below B w w' := h.trans (hb.mono hB)
set_option maxHeartbeats 4000000 in
theorem vnetSizes_walk (nI : Int) (x : Int) (w : World) : Calls Try.prog 5 #[.int .i64 nI, .int .u8 x] w fun e w' => e = .returned (.bool true) ∧ Below w.heap.size w w' := by
  have HK := hid (known_any w)
  have HW := hid (fun wy => within_at nI 1600 1600 wy rfl (by decide) (by decide))
  have hA := fun wy => varea_any 4 wy
  rw [show vAreaI 4 = 12448 from rfl] at hA
  have HA := hid hA
  have hmk := run_make8 u8ok .i64 .i64 12448 12448 rfl (by decide)
  have Hok := hid (show okN ((4 : Nat) : Int) = true by decide)
  clear hA
  go_enter Try.func5, Try.ntmps5
  go_upto_region 5 with (first
    | (go_at_call 7; (with_reducible refine HK.out.mono ?_); rintro e w1 ⟨rfl, hb⟩; have B1 := hid hb; clear hb)
    | (go_at_call 23; (with_reducible refine (HW.out _).mono ?_); rintro e w' ⟨k, hk, rfl, hw⟩; subst hw; have Hk := hid hk; clear hk)
    | (go_at_call 8; refine (HA.out _).mono ?_; rintro e w' ⟨rfl, hw⟩; have hw := hw.symm; subst hw))
  have HC := hid (begin_card w1 4 12448 Hok.out rfl)
  go_upto_region 6 with (go_at_call 10; (refine HC.out.mono ?_); rintro e w2 ⟨gC, I, rfl, hc⟩; have C2 := hid hc; clear hc)
  have HP := hid (begin_port C2.out Hok.out rfl)
  go_upto_region 7 with (go_at_call 12; (refine HP.out.mono ?_); rintro e w3 ⟨gP, F, rfl, hp, hb⟩; have P3 := hid hp; have HB3 := hid hb; clear hp hb)
  have hkI : (0 : Int) ≤ (k : Int) := by omega
  have hmk := run_make8 u8ok .i64 .i64 (k : Int) k rfl (by have := Hk.out; omega)
  have B4 := hid (mem_zero8 w3 k)
  have L4 := hid (below_alloc w3 (.cells (zero8 k) 5))
  go_upto_region 10 with fail
  have Hz := hid (zeros_len k)
  generalize zeros k = f0 at *
  generalize w3.alloc (.cells (zero8 k) 5) = w4 at *
  have Hg := hid (show w3.heap.size ≤ w3.heap.size from Nat.le_refl _)
  have HL := hid (show Blk w4 w3.heap.size 5 (f0.map u8v) from B4.out)
  obtain ⟨g, hg⟩ : ∃ g, w3.heap.size = g := ⟨_, rfl⟩
  have HG := hid hg
  simp only [hg]
  clear hmk B4 hg
  go_wp2_with fail
  go_loopg [11] k (fun gk s11 wx => ∃ (i : Nat) (c : List UInt8), i + gk = k ∧ s11 = .int .i64 (i : Int) ∧ c.length = k ∧ Blk wx g 5 (c.map u8v) ∧ Below w3.heap.size w3 wx)
  case atStart => exact ⟨0, f0, by omega, rfl, Hz.out, by rw [← HG.out]; exact HL.out, L4.out⟩
  case round =>
    obtain ⟨i, c, hi, rfl, hc, hb, hbl⟩ := hrel
    have hk16 := Hk.out
    have Hb := hid hb
    have Hbl := hid hbl
    have Hc := hid hc
    clear hb hbl
    by_cases hlt : i < k
    · have hltI : (i : Int) < (k : Int) := by omega
      obtain ⟨old, hco⟩ : ∃ old, wr.cell? ⟨g, i, none⟩ = some old := ⟨_, (Hb.out.cell i).trans (List.getElem?_eq_getElem (by rw [List.length_map, Hc.out]; omega))⟩
      have zp := Hb.out.frozen i
      go_wp2_with fail
      have Hms := hid (show k - (i + 1) < gk ∧ i + 1 + (k - (i + 1)) = k by omega)
      obtain ⟨c', hl', hb'⟩ := Hb.out.set8 i (x + (i : Int))
      have Hn := hid (show c'.length = k ∧ Blk _ g 5 (c'.map u8v) from ⟨hl'.trans Hc.out, hb'⟩)
      have Hn2 := hid (Hbl.out.setCell (p := ⟨g, i, none⟩) (Nat.le_of_eq HG.out) (.int .u8 ((x + (i : Int)) % 256)))
      clear hl' hb'
      go_roundg (k - (i + 1))
      case measure => exact Hms.out.1
      case rel => exact ⟨i + 1, c', Hms.out.2, by go_num, Hn.out.1, Hn.out.2, Hn2.out⟩
    · obtain rfl : i = k := by omega
      have hltI : ¬ (i : Int) < (i : Int) := by omega
      clear hi
      have PW := hid (show PF w1 wr w1.heap.size 12448 4 gC gP 4 F g c [] [] from ⟨P3.out.keep Hbl.out, Hb.out, fun e => by have := P3.out.bd _ e; have := HG.out; omega, HB3.out.trans (Hbl.out.mono HB3.out.size), by have := Hk.out; have := Hc.out; omega⟩)
      clear Hbl HC HP Hz HL L4 P3 HB3 Hb HG HK HW
      have e1 := Hc.out
      by_cases hbad : i < 14 ∨ i > 1514
      · have HS := hid (pf_sbad PW.out (by decide) (by rw [Hc.out]; exact hbad))
        rw [e1] at HS
        go_upto_region 15 with (go_at_call 14; (refine HS.out.mono ?_); rintro e w5 ⟨rfl, F5, hp, _, _⟩; have P5 := hid hp; clear hp)
        have HD := hid (pf_dbad P5.out (by rw [Hc.out]; exact hbad))
        rw [e1] at HD
        go_upto_region 16 with (go_at_call 19; (refine HD.out.mono ?_); rintro e w6 ⟨rfl, F6, hp, _, _⟩; have P6 := hid hp; clear hp)
        go_upto_region 17 with (go_at_call 21; (refine (pf_sent P6.out).mono ?_); rintro e w7 ⟨v1, rfl, hp, hf, hr⟩; have P7 := hid hp; obtain ⟨A1, q1, rfl⟩ := hr.slice_ (k := 0) rfl; clear hp hf hr)
        go_upto_region 18 with (go_at_call 17; (refine (pf_receive P7.out (by decide)).mono ?_); rintro e w8 ⟨v2, F8, rfl, hp, hf, _, hr⟩; have P8 := hid hp; obtain ⟨A2, q2, rfl⟩ := hr.slice_ (k := 0) rfl; clear hp hf hr)
        have Hend := hid (show Below w.heap.size w w8 from B1.out.trans (P8.out.bl.mono B1.out.size))
        clear P8 P7 P6 P5 HS HD PW
        rcases hbad with hlo | hhi
        · have hloI : (i : Int) < 14 := by omega
          go_wp2_with fail
          go_ret
          exact ⟨rfl, Hend.out⟩
        · have hloI : ¬ (i : Int) < 14 := by omega
          have hhiI : (1514 : Int) < (i : Int) := by omega
          go_wp2_with fail
          go_ret
          exact ⟨rfl, Hend.out⟩
      · have hloI : ¬ (i : Int) < 14 := by omega
        have hhiI : ¬ (1514 : Int) < (i : Int) := by omega
        have HS := hid (pf_send PW.out (by decide) (by omega) (by omega) (Nat.zero_lt_succ 3))
        rw [e1] at HS
        go_upto_region 15 with (go_at_call 14; (refine HS.out.mono ?_); rintro e w5 ⟨rfl, F5, hp, _, _⟩; have P5 := hid hp; clear hp)
        have HD := hid (pf_deliver P5.out (by omega) (by omega) (Nat.zero_lt_succ 3))
        rw [e1] at HD
        go_upto_region 16 with (go_at_call 19; (refine HD.out.mono ?_); rintro e w6 ⟨rfl, F6, hp, _, _⟩; have P6 := hid hp; clear hp)
        go_upto_region 17 with (go_at_call 21; (refine (pf_sent P6.out).mono ?_); rintro e w7 ⟨v1, rfl, hp, hf, hr⟩; have P7 := hid hp; have R7 := hid hr; clear hp hf hr)
        go_upto_region 18 with (go_at_call 17; (refine (pf_receive P7.out (by decide)).mono ?_); rintro e w8 ⟨v2, F8, rfl, hp, hf, _, hr⟩; have P8 := hid hp; have R8 := hid (R7.out.on hf).rows8; have Q8 := hid hr.rows8; clear hp hf hr)
        have Hend := hid (show Below w.heap.size w w8 from B1.out.trans (P8.out.bl.mono B1.out.size))
        have Hbs := hid P8.out.bs
        rw [e1] at Hbs
        clear P7 P6 P5 HS HD PW R7
        go_upto_region 20 with fail
        have HC1 := hid (fun (e : TypeId) (mk : Nat × Nat) => rows_same_eq (R8.out.alloc (.cells #[.slice (some ⟨g, 0, none⟩) i i] e mk)) (rows8_one (e := e) (mk := mk) Hbs.out rfl) (by show 1 ≤ 1000000; decide))
        have HC2 := hid (fun (e : TypeId) (mk : Nat × Nat) (q : Nat) (e2 : TypeId) (mk2 : Nat × Nat) => rows_same_eq (((Q8.out.alloc (.cells #[.slice (some ⟨g, 0, none⟩) i i] e mk)).drewN q).alloc (.cells #[.slice (some ⟨g, 0, none⟩) i i] e2 mk2)) (rows8_one (e := e2) (mk := mk2) (H := w8.heap.size + 1) ((Hbs.out.alloc (.cells #[.slice (some ⟨g, 0, none⟩) i i] e mk)).drewN q) (show w8.heap.size + 1 = (w8.alloc _).heap.size from (World.size_alloc _ _).symm)) (by show 1 ≤ 1000000; decide))
        have HE := hid (fun (e : TypeId) (mk : Nat × Nat) (q : Nat) (e2 : TypeId) (mk2 : Nat × Nat) (q2 : Nat) => below_drewN (below_alloc' (below_drewN (below_alloc' (Hend.out) (.cells #[.slice (some ⟨g, 0, none⟩) i i] e mk)) q) (.cells #[.slice (some ⟨g, 0, none⟩) i i] e2 mk2)) q2)
        go_wp2_with (first
          | (go_at_call 16; (with_reducible refine (HC1.out _ _).mono ?_); rintro e w9 ⟨rfl, q, rfl⟩)
          | (go_at_call 16; (with_reducible refine (HC2.out _ _ _ _ _).mono ?_); rintro e w10 ⟨rfl, q2, rfl⟩))
        go_ret
        exact ⟨rfl, HE.out _ _ _ _ _ _⟩
end Go.Proofs.Ytgiegiobigdplaa
