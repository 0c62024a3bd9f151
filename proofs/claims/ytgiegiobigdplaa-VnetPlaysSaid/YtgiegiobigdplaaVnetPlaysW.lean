/- The walk of VnetPlays. -/
import Derived.Test.YtgiegiobigdplaaVnBq
import Derived.Test.YtgiegiobigdplaaVnetSizesW
namespace Go.Proofs.Ytgiegiobigdplaa
open Go Go.RowKit
attribute [local go_sem ↓] Go.wp_at_zero Go.wp_at_succ
set_option maxRecDepth 100000
set_option linter.unusedSimpArgs false
set_option linter.unusedVariables false

/-- a call of the play -/
structure PCall where
  k : Int
  n : Int
  m : Int
  b : List UInt8
  v : Value
def PCall.cells (c : PCall) : List Value := [.int .i64 c.k, .int .i64 c.n, .int .i64 c.m, c.v]
def pcCells (l : List PCall) : List Value := l.flatMap PCall.cells
theorem pcCells_at (l : List PCall) (i j : Nat) (c : PCall) (hi : l[i]? = some c) (hj : j < 4) : (pcCells l)[i * 4 + j]? = c.cells[j]? := by
  induction l generalizing i with
  | nil => simp at hi
  | cons x l ih =>
    rw [show pcCells (x :: l) = x.cells ++ pcCells l from rfl]
    cases i with
    | zero =>
      simp at hi
      subst hi
      rw [Nat.zero_mul, Nat.zero_add, List.getElem?_append_left (by show j < 4; exact hj)]
    | succ i =>
      rw [List.getElem?_append_right (by show 4 ≤ _; omega), show (i + 1) * 4 + j - x.cells.length = i * 4 + j by show (i + 1) * 4 + j - 4 = _; omega]
      exact ih i hi
def PCall.Ok (W : World) (c : PCall) : Prop := (-9223372036854775808 ≤ c.k ∧ c.k ≤ 9223372036854775807) ∧ (-9223372036854775808 ≤ c.n ∧ c.n ≤ 9223372036854775807) ∧ (-9223372036854775808 ≤ c.m ∧ c.m ≤ 9223372036854775807) ∧ Bs W c.v c.b ∧ c.b.length ≤ 140737488351232
set_option maxHeartbeats 16000000 in
theorem vnetPlays_walk (sizeI nI baseI : Int) (v3 : Value) (cs : List PCall) (w : World) (hr : RowN w 4 v3 cs.length (pcCells cs)) (hok : ∀ c ∈ cs, PCall.Ok w c) :
    Calls Try.prog 3 #[.int .i64 sizeI, .int .i64 nI, .int .i64 baseI, v3] w fun e w' => e = .returned (.bool true) ∧ Below w.heap.size w w' := by
  have HK := hid (known_any w)
  have HA1 := hid (fun wy => varea_any nI wy)
  have HA2 := hid (fun wy => rarea_any nI wy)
  obtain ⟨AA, hAA⟩ : ∃ x, vAreaI nI = x := ⟨_, rfl⟩
  rw [hAA] at HA1 HA2
  have hne : (AA != AA) = false := by simp
  have Hok := hid hok
  obtain ⟨_, A3, c3, rfl, hl1, hl2, hcells⟩ := hr
  have Hcells := hid (show ∀ (i : Nat) (c : PCall), cs[i]? = some c → ∃ gr off, A3 = some ⟨gr, off, none⟩ ∧ ∀ j x, j < 4 → c.cells[j]? = some x → w.cell? ⟨gr, off + i * 4 + j, none⟩ = some x from fun i c hc => by
    have hlt := (List.getElem?_eq_some_iff.1 hc).1
    rcases hcells with h0 | ⟨gr, off, hA, hx⟩
    · omega
    · exact ⟨gr, off, hA, fun j x hj hjx => by rw [Nat.add_assoc]; exact hx _ x ((pcCells_at cs i j c hc hj).trans hjx)⟩)
  have hlb : cs.length ≤ 9223372036854775807 := Nat.le_trans hl1 hl2
  obtain ⟨ln, hln⟩ : ∃ x, cs.length = x := ⟨_, rfl⟩
  have Hln := hid hln
  rw [hln] at hlb ⊢
  clear hAA hok hcells hl1 hl2 hln
  go_enter Try.func3, Try.ntmps3
  go_upto_region 3 with (first
    | (go_at_call 7; (with_reducible refine HK.out.mono ?_); rintro e w1 ⟨rfl, hb⟩; have B1 := hid hb; clear hb)
    | (go_at_call 8; refine (HA1.out _).mono ?_; rintro e w' ⟨rfl, hw⟩; have hw := hw.symm; subst hw)
    | (go_at_call 9; refine (HA2.out _).mono ?_; rintro e w' ⟨rfl, hw⟩; have hw := hw.symm; subst hw))
  go_upto_region 4 with fail
  obtain ⟨z, hz⟩ : ∃ z, (if sizeI < 0 then (0 : Int) else sizeI) = z := ⟨_, rfl⟩
  have hz0 : 0 ≤ z := by rw [← hz]; split <;> omega
  simp only [hz]
  obtain ⟨L, hL, hL6⟩ : ∃ L : Nat, (if 60000 < z then (60000 : Int) else z) = (L : Int) ∧ L ≤ 60000 := by
    by_cases h2 : 60000 < z
    · exact ⟨60000, by rw [if_pos h2]; rfl, Nat.le_refl _⟩
    · exact ⟨z.toNat, by rw [if_neg h2]; omega, by omega⟩
  clear hz hz0
  simp only [hL]
  have hLI : (0 : Int) ≤ (L : Int) ∧ (L : Int) ≤ 60000 := by omega
  have hmk := run_make8 u8ok .i64 .i64 (L : Int) L rfl (by omega)
  have Hgm := hid (show w1.heap.size < (w1.alloc (.cells (zero8 L) 5)).heap.size by rw [World.size_alloc]; omega)
  have M1 := hid (mem_zero8 w1 L)
  have M2 := hid (mem_zero8 (w1.alloc (.cells (zero8 L) 5)) L)
  have B2 := hid (below_alloc w1 (.cells (zero8 L) 5))
  have B3 := hid (below_alloc (w1.alloc (.cells (zero8 L) 5)) (.cells (zero8 L) 5))
  rw [World.size_alloc] at M2
  clear hL HK HA1 HA2
  go_upto_region 6 with fail
  clear hmk
  have M1b := hid (MemAt.keep M1.out B3.out)
  have B13 := hid (B2.out.trans (B3.out.mono B2.out.size))
  obtain ⟨gm, hgm⟩ : ∃ x, w1.heap.size = x := ⟨_, rfl⟩
  have Hgme := hid hgm
  simp only [hgm] at M1b M2 ⊢
  generalize (w1.alloc (.cells (zero8 L) 5)).alloc (.cells (zero8 L) 5) = w3 at *
  clear M1 B2 B3 Hgm
  cases hfit : vFits L baseI nI with
  | false =>
    have N1 := hid (fun wy => vnewcard_no gm L (some ⟨gm, 0, none⟩) baseI nI wy hfit (by omega))
    have N2 := hid (fun wy => rnewcard_no gm L (some ⟨gm + 1, 0, none⟩) baseI nI wy hfit (by omega))
    have N3 := hid (fun wy => vnewport_no gm L (some ⟨gm, 0, none⟩) baseI nI wy hfit (by omega))
    have N4 := hid (fun wy => rnewport_no gm L (some ⟨gm + 1, 0, none⟩) baseI nI wy hfit (by omega))
    have t1 := run_str Try.underlying25 Try.underlying5 Try.underlying9 (M1b.out.bs (off := 0) (n := L) (cap := L) (by rw [zeros_len]; omega) (Nat.le_refl _) (by simp only [maxLen]; omega))
    have t2 := run_str Try.underlying25 Try.underlying5 Try.underlying9 (M2.out.bs (off := 0) (n := L) (cap := L) (by rw [zeros_len]; omega) (Nat.le_refl _) (by simp only [maxLen]; omega))
    have Hend := hid (show Below w.heap.size w w3 from B1.out.trans (B13.out.mono B1.out.size))
    clear hfit M1b M2 B13
    go_wp2_with (first
      | (go_at_call 10; refine (N1.out _).mono ?_; rintro e w' ⟨rfl, hw⟩; have hw := hw.symm; subst hw)
      | (go_at_call 11; refine (N2.out _).mono ?_; rintro e w' ⟨rfl, hw⟩; have hw := hw.symm; subst hw)
      | (go_at_call 12; refine (N3.out _).mono ?_; rintro e w' ⟨rfl, hw⟩; have hw := hw.symm; subst hw)
      | (go_at_call 13; refine (N4.out _).mono ?_; rintro e w' ⟨rfl, hw⟩; have hw := hw.symm; subst hw))
    go_ret
    exact ⟨rfl, Hend.out⟩
  | true =>
    have hfp : ∃ b n : Nat, baseI = (b : Int) ∧ nI = (n : Int) := by
      have h0 := hfit
      unfold vFits at h0
      simp only [Bool.and_eq_true, decide_eq_true_eq] at h0
      have := okN_le h0.1.1
      exact ⟨baseI.toNat, nI.toNat, by omega, by omega⟩
    obtain ⟨b, n, rfl, rfl⟩ := hfp
    have Hfit := hid hfit
    have hgl := Blk.lt M1b.out
    have hgx := Blk.lt M2.out
    have HC := hid (vnewcard_yes gm gm L b n (zeros L) w3 hfit (by omega) (zeros_len L) M1b.out (by omega))
    clear hfit
    go_upto_region 7 with (go_at_call 10; (with_reducible refine HC.out.mono ?_); rintro e w4 ⟨gC, I, rfl, hc, hf, hn⟩; have C4 := hid hc; have F4 := hid hf; have N4 := hid hn; clear hc hf hn)
    have hz4 := F4.out.size
    have M4 := hid (MemAt.frame M2.out F4.out (by omega))
    have HD := hid (rnewcard_yes gm (gm + 1) L b n (zeros L) w4 Hfit.out (by omega) (zeros_len L) M4.out (by omega) (by omega))
    go_upto_region 8 with (go_at_call 11; (with_reducible refine HD.out.mono ?_); rintro e w5 ⟨gD, gi, go, vi, vo, col, rfl, hr, hf, hn⟩; have R5 := hid hr; have F5 := hid hf; have N5 := hid hn; clear hr hf hn)
    have hz5 := F5.out.size
    have M5 := hid (MemAt.frame C4.out.mem F5.out (by omega))
    have HP := hid (vnewport_yes gm gm L b n _ w5 Hfit.out (by omega) C4.out.len M5.out (by omega))
    go_upto_region 9 with (go_at_call 12; (with_reducible refine HP.out.mono ?_); rintro e w6 ⟨gP, gdi, gdo, rfl, hp, hb, hn⟩; have P6 := hid hp; have B6 := hid hb; have N6 := hid hn; clear hp hb hn)
    have hz6 := B6.out.size
    have HQ := hid (rnewport_yes gm (gm + 1) L b n _ w6 Hfit.out (by omega) R5.out.len (R5.out.mem.keep B6.out) (by omega))
    go_upto_region 10 with (go_at_call 13; (with_reducible refine HQ.out.mono ?_); rintro e w7 ⟨gQ, rdi, rdo, rfl, hp, hb, hn⟩; have Q7 := hid hp; have B7 := hid hb; have N7 := hid hn; clear hp hb hn)
    obtain ⟨F, hpl⟩ := plv_start Hfit.out hL6 (Nat.le_refl gm) C4.out R5.out F5.out N5.out (fun k hk e => hk.elim (fun e2 => by have := N4.out k e2; omega) (fun e2 => by omega)) P6.out B6.out N6.out Q7.out B7.out N7.out
    have PL := hid hpl
    have BW := hid (show Below w1.heap.size w1 w7 from (((B13.out.trans (by rw [Hgme.out]; exact F4.out.below (fun k e => by omega) (by omega))).trans (by rw [Hgme.out]; exact F5.out.below (fun k e => by omega) (by omega))).trans (B6.out.mono (by rw [Hgme.out]; omega))).trans (B7.out.mono (by rw [Hgme.out]; omega)))
    clear hpl HC HD HP HQ M4 M5 C4 F4 N4 R5 F5 N5 P6 B6 N6 Q7 B7 N7 M1b M2 B13
    obtain ⟨s, hs⟩ : ∃ s, vStart (zeros L) b n = s := ⟨_, rfl⟩
    rw [hs] at PL
    clear hs
    have hn256 : n ≤ 256 := by have := (fits_parts Hfit.out).1; have := okN_le this; omega
    have t1 := run_str Try.underlying25 Try.underlying5 Try.underlying9 PL.out.strs.1
    have t2 := run_str Try.underlying25 Try.underlying5 Try.underlying9 PL.out.strs.2
    go_upto_region 15 with fail
    clear t1 t2
    obtain ⟨N, hN⟩ : ∃ N, min ln 60 = N := ⟨_, rfl⟩
    have HN := hid (show N ≤ ln ∧ N ≤ 60 ∧ (N = ln ∨ N = 60) by omega)
    clear hN
    go_loopg [19, 20, 21, 122, 135, 142, 155, 162] N (fun gk s19 _ _ _ _ _ _ _ wx => ∃ (i d : Nat) (F : Nat → Prop) (s : VnSt), i + gk = N ∧ s19 = .int .i64 (i : Int) ∧ PlV wx gm gm (gm + 1) L b n gC gP gD gQ d F s s ∧ d ≤ 256 + 140000 * i ∧ Below w.heap.size w wx)
    case atStart => exact ⟨0, n, F, s, by omega, rfl, PL.out, by omega, B1.out.trans (BW.out.mono B1.out.size)⟩
    case round =>
      obtain ⟨i, d, F, s, hi, rfl, hpl, hd, hbw⟩ := hrel
      have PLr := hid hpl
      have BWr := hid hbw
      have Hd := hid hd
      clear hpl hbw hd PL BW
      by_cases hlt : i < N
      · have hltI : (i : Int) < (ln : Int) := by have := HN.out; omega
        have hlt6 : (i : Int) < 60 := by have := HN.out; omega
        obtain ⟨c, hc⟩ : ∃ c, cs[i]? = some c := ⟨_, List.getElem?_eq_getElem (by rw [Hln.out]; have := HN.out; omega)⟩
        obtain ⟨gr, off, rfl, hcc⟩ := Hcells.out i c hc
        obtain ⟨ok1, ok2, ok3, okv, okl⟩ := Hok.out c (List.mem_of_getElem? hc)
        obtain ⟨kk, nn, mm, bb, vv⟩ := c
        have okv : Bs w vv bb := okv
        have okl : bb.length ≤ 140737488351232 := okl
        have Hokl := hid okl
        have hcc : ∀ (j : Nat) (x : Value), j < 4 → [Value.int .i64 kk, .int .i64 nn, .int .i64 mm, vv][j]? = some x → w.cell? ⟨gr, off + i * 4 + j, none⟩ = some x := hcc
        obtain ⟨Ab, cb, rfl⟩ := slice_len (n := bb.length) okv rfl
        obtain ⟨lb, hlb2⟩ : ∃ x, bb.length = x := ⟨_, rfl⟩
        have Hlb := hid hlb2
        have Hv := hid okv
        have BWw := BWr
        have Hc3 := hid (show ∀ wy, Below w.heap.size w wy → wy.cell? ⟨gr, off + i * 4 + 3, none⟩ = some (.slice Ab lb cb) from fun wy hy => cell_below hy (by rw [← hlb2]; exact hcc 3 _ (by decide) rfl))
        have Hc0 := hid (show ∀ wy, Below w.heap.size w wy → wy.cell? ⟨gr, off + i * 4, none⟩ = some (.int .i64 kk) from fun wy hy => cell_below hy (hcc 0 _ (by decide) rfl))
        have Hc1 := hid (show ∀ wy, Below w.heap.size w wy → wy.cell? ⟨gr, off + i * 4 + 1, none⟩ = some (.int .i64 nn) from fun wy hy => cell_below hy (hcc 1 _ (by decide) rfl))
        have Hc2 := hid (show ∀ wy, Below w.heap.size w wy → wy.cell? ⟨gr, off + i * 4 + 2, none⟩ = some (.int .i64 mm) from fun wy hy => cell_below hy (hcc 2 _ (by decide) rfl))
        have Hms := hid (show N - (i + 1) < gk ∧ i + 1 + (N - (i + 1)) = N by omega)
        have hi60 : i ≤ 60 := by have := HN.out; omega
        have hlbcb : lb ≤ 9223372036854775807 := by
          obtain ⟨A', c', hvv, h1, h2, _⟩ := Bs.cells okv
          rw [← hlb2]
          exact Nat.le_trans h1 h2
        have HBa := hid (show Bs w (.slice Ab lb cb) bb by rw [← hlb2]; exact Hv.out)
        clear hcc okv hc ok1 ok2 ok3 hlb2 okl
        have c3r := Hc3.out (wr.alloc (.cells #[] 5)) (BWw.out.trans ((below_alloc wr _).mono BWw.out.size))
        go_upto_region 18 with ((with_reducible show wpList _ _ _ (Oper.mk (some 113) _ _ _ _ _ :: _) _ _); refine wpList_app8 _ rfl _ _ 25 rfl wr.heap.size 5 u8ok (.slice (some ⟨wr.heap.size, 0, none⟩) 0 0) [] rfl (ownBs_litNil rfl (Nat.le_refl _)) (.slice Ab lb cb) bb rfl (HBa.out.below (BWw.out.trans ((below_alloc wr _).mono BWw.out.size))) (by have := Hokl.out; simp only [List.length_nil]; omega) (by simp) ?_; intro x5 w5 hown5 hb5 hg5 hat5; rw [List.nil_append] at hown5; obtain ⟨A5, c5, rfl⟩ := slice_len (n := lb) hown5.bs Hlb.out; have X5 := hid hown5; have B5 := hid ((below_alloc wr _).trans hb5); clear hown5 hb5 hg5 hat5)
        clear c3r
        by_cases hbig : lb > 3000
        · have hbigI : (3000 : Int) < (lb : Int) := by omega
          go_wp2_with fail
          go_roundg (N - (i + 1))
          case measure => exact Hms.out.1
          case rel => exact ⟨i + 1, d, F, s, Hms.out.2, by go_num, PLr.out.keep B5.out, by have := Hd.out; omega, BWr.out.trans (B5.out.mono BWr.out.size)⟩
        · have hbigI : ¬ (3000 : Int) < (lb : Int) := by omega
          have P5 := hid (show PS w w5 gm gm (gm + 1) L b n gC gP gD gQ d F s s (.slice A5 lb c5) bb from ⟨PLr.out.keep B5.out, OwnBs.mono X5.out BWw.out.size, fun k hk e => by have h1 := (World.ownsRow.lt X5.out k hk).1; have h2 := (PLr.out.bd k e).2; omega, BWw.out.trans (B5.out.mono BWw.out.size), by have := B1.out.size; have := Hgme.out; omega, by rw [Hlb.out]; omega⟩)
          have Hd8 := hid (show d < 790000000 by have := Hd.out; omega)
          have c0 := Hc0.out w5 P5.out.bl
          clear X5 B5 PLr BWr
          have hks : kk = 1 ∨ kk = 2 ∨ kk = 3 ∨ kk = 4 ∨ kk = 5 ∨ (kk ≠ 1 ∧ kk ≠ 2 ∧ kk ≠ 3 ∧ kk ≠ 4 ∧ kk ≠ 5) := by omega
          go_upto_region 21 with fail
          rcases hks with rfl | rfl | rfl | rfl | rfl | ⟨k1, k2, k3, k4, k5⟩
          · obtain ⟨sx, hsx⟩ : ∃ x, (vSend b n s bb).2 = x := ⟨_, rfl⟩
            obtain ⟨rx, hrx⟩ : ∃ x, (vSend b n s bb).1 = x := ⟨_, rfl⟩
            have H1 := hid (ps_psend (P5.out.keep (below_drew _)) (by have := Hd8.out; omega))
            rw [hsx, hrx] at H1
            have H2 := hid (fun (w6 : World) (F6 : Nat → Prop) (h6 : PS w w6 gm gm (gm + 1) L b n gC gP gD gQ (d + 1) F6 sx s (.slice A5 lb c5) bb) => ps_dsend h6 HBa.out (by have := Hd8.out; omega))
            rw [hsx, hrx] at H2
            have Hbx := hid (show ∀ (w6 : World) (F6 : Nat → Prop) (dd : Nat) (s1 s2 : VnSt), PS w w6 gm gm (gm + 1) L b n gC gP gD gQ dd F6 s1 s2 (.slice A5 lb c5) bb → True from fun _ _ _ _ _ _ => trivial)
            clear hsx hrx
            go_upto_region 22 with fail
            go_region_held3 (fun wy => wy.cell? ⟨gr, off + i * 4 + 3, none⟩ = some (.slice Ab lb cb)) (first | exact Hc3.out _ P5.out.bl | exact Hc3.out _ P5.out.bl.drew | exact Hc3.out _ P6.out.bl | exact Hc3.out _ P7.out.bl) (first
              | (go_at_call 14; (with_reducible refine H1.out.mono ?_); rintro e w6 ⟨rfl, F6, h6⟩; have P6 := hid h6; clear h6)
              | (go_at_call 15; (with_reducible refine (H2.out w6 F6 P6.out).mono ?_); rintro e w7 ⟨rfl, F7, h7⟩; have P7 := hid h7; clear h7)
              | fail)
            have P9 := hid (show PS w w7 gm gm (gm + 1) L b n gC gP gD gQ (d + 2) F7 sx sx (.slice A5 lb c5) bb from P7.out)
            clear P5 P6 P7 H1 H2 Hbx
            generalize w7 = w9 at *
            go_step
            have hst := P9.out.pl.strs
            have Ht := hid (And.intro (Hc3.out _ P9.out.bl.drew) (And.intro (run_str Try.underlying25 Try.underlying5 Try.underlying9 hst.1.drew) (And.intro (run_str Try.underlying25 Try.underlying5 Try.underlying9 hst.2.drew) (And.intro (run_str Try.underlying25 Try.underlying5 Try.underlying9 (P9.out.fb _ (Frame.refl _ _)).drew) (run_str Try.underlying25 Try.underlying5 Try.underlying9 (HBa.out.below P9.out.bl).drew)))))
            clear hst c0
            go_upto_region 33 with fail
            go_region_held3 (fun wy => wy.cell? ⟨gr, off + i * 4 + 3, none⟩ = some (.slice Ab lb cb) ∧ Sem.run Try.prog (convert 25 9 (.slice (some ⟨gm, 0, none⟩) L L)) wy = .ok (.string (mkStr sx.M)) wy ∧ Sem.run Try.prog (convert 25 9 (.slice (some ⟨gm + 1, 0, none⟩) L L)) wy = .ok (.string (mkStr sx.M)) wy ∧ Sem.run Try.prog (convert 25 9 (.slice A5 lb c5)) wy = .ok (.string (mkStr bb)) wy ∧ Sem.run Try.prog (convert 25 9 (.slice Ab lb cb)) wy = .ok (.string (mkStr bb)) wy) (exact Ht.out) (fail)
            go_wp2_with fail
            go_roundg (N - (i + 1))
            case measure => exact Hms.out.1
            case rel => exact ⟨i + 1, _, _, sx, Hms.out.2, by go_num, P9.out.pl.keep (by first | exact below_drew _ | exact Below.refl _ _), by have := Hd.out; omega, by first | exact P9.out.bl.drew | exact P9.out.bl⟩
          · obtain ⟨sx, hsx⟩ : ∃ x, (vRcv b n s).2 = x := ⟨_, rfl⟩
            obtain ⟨rx, hrx⟩ : ∃ x, (vRcv b n s).1 = x := ⟨_, rfl⟩
            have Hrl := hid (show rx.length ≤ 1000000 by rw [← hrx]; exact Nat.le_trans (vReceive_len b n 65536 s.M s.ci []) (by decide))
            have H1 := hid (ps_preceive P5.out (by have := Hd8.out; omega))
            rw [hsx, hrx] at H1
            have H2 := hid (fun (w6 : World) (F6 : Nat → Prop) (v1 : Value) (b1 : Nat) (h6 : PS w w6 gm gm (gm + 1) L b n gC gP gD gQ (d + 65536) F6 sx s (.slice A5 lb c5) bb) (hr : RowsN w6 b1 F6 v1 rx) => ps_dreceive h6 (by have := Hd8.out; omega) hr)
            rw [hsx, hrx] at H2
            clear hsx hrx
            go_upto_region 33 with (first
              | (go_at_call 17; (with_reducible refine H1.out.mono ?_); rintro e w6 ⟨v1, F6, rfl, h6, hr6⟩; have P6 := hid h6; have R6 := hid hr6; clear h6 hr6)
              | (go_at_call 18; (with_reducible refine (H2.out w6 F6 v1 _ P6.out R6.out).mono ?_); rintro e w7 ⟨v2, F7, rfl, h7, hr7, hr8⟩; have P7 := hid h7; have R7 := hid hr7; have R8 := hid hr8; clear h7 hr7 hr8)
              | (go_at_call 16; (with_reducible refine (rows_same_eq R7.out R8.out Hrl.out).mono ?_); rintro e w8 ⟨rfl, q, rfl⟩))
            have P9 := hid (show PS w (w7.drewN q) gm gm (gm + 1) L b n gC gP gD gQ (d + 131072) F7 sx sx (.slice A5 lb c5) bb from P7.out.keep (below_drewN (Below.refl _ _) q))
            clear P5 P6 P7 H1 H2 R6 R7 R8
            generalize w7.drewN q = w9 at *
            have hst := P9.out.pl.strs
            have Ht := hid (And.intro (Hc3.out _ P9.out.bl.drew) (And.intro (run_str Try.underlying25 Try.underlying5 Try.underlying9 hst.1.drew) (And.intro (run_str Try.underlying25 Try.underlying5 Try.underlying9 hst.2.drew) (And.intro (run_str Try.underlying25 Try.underlying5 Try.underlying9 (P9.out.fb _ (Frame.refl _ _)).drew) (run_str Try.underlying25 Try.underlying5 Try.underlying9 (HBa.out.below P9.out.bl).drew)))))
            clear hst c0
            go_upto_region 33 with fail
            go_region_held3 (fun wy => wy.cell? ⟨gr, off + i * 4 + 3, none⟩ = some (.slice Ab lb cb) ∧ Sem.run Try.prog (convert 25 9 (.slice (some ⟨gm, 0, none⟩) L L)) wy = .ok (.string (mkStr sx.M)) wy ∧ Sem.run Try.prog (convert 25 9 (.slice (some ⟨gm + 1, 0, none⟩) L L)) wy = .ok (.string (mkStr sx.M)) wy ∧ Sem.run Try.prog (convert 25 9 (.slice A5 lb c5)) wy = .ok (.string (mkStr bb)) wy ∧ Sem.run Try.prog (convert 25 9 (.slice Ab lb cb)) wy = .ok (.string (mkStr bb)) wy) (exact Ht.out) (fail)
            go_wp2_with fail
            go_roundg (N - (i + 1))
            case measure => exact Hms.out.1
            case rel => exact ⟨i + 1, _, _, sx, Hms.out.2, by go_num, P9.out.pl.keep (by first | exact below_drew _ | exact Below.refl _ _), by have := Hd.out; omega, by first | exact P9.out.bl.drew | exact P9.out.bl⟩
          · obtain ⟨sx, hsx⟩ : ∃ x, (vDel b n s bb).2 = x := ⟨_, rfl⟩
            obtain ⟨rx, hrx⟩ : ∃ x, (vDel b n s bb).1 = x := ⟨_, rfl⟩
            have H1 := hid (ps_pdeliver (P5.out.keep (below_drew _)))
            rw [hsx, hrx] at H1
            have H2 := hid (fun (w6 : World) (F6 : Nat → Prop) (h6 : PS w w6 gm gm (gm + 1) L b n gC gP gD gQ d F6 sx s (.slice A5 lb c5) bb) => ps_ddeliver h6 HBa.out)
            rw [hsx, hrx] at H2
            clear hsx hrx
            go_upto_region 26 with fail
            go_region_held3 (fun wy => wy.cell? ⟨gr, off + i * 4 + 3, none⟩ = some (.slice Ab lb cb)) (first | exact Hc3.out _ P5.out.bl | exact Hc3.out _ P5.out.bl.drew | exact Hc3.out _ P6.out.bl | exact Hc3.out _ P7.out.bl) (first
              | (go_at_call 19; (with_reducible refine H1.out.mono ?_); rintro e w6 ⟨rfl, F6, h6⟩; have P6 := hid h6; clear h6)
              | (go_at_call 20; (with_reducible refine (H2.out w6 F6 P6.out).mono ?_); rintro e w7 ⟨rfl, F7, h7⟩; have P7 := hid h7; clear h7)
              | fail)
            have P9 := hid (show PS w w7 gm gm (gm + 1) L b n gC gP gD gQ d F7 sx sx (.slice A5 lb c5) bb from P7.out)
            clear P5 P6 P7 H1 H2
            generalize w7 = w9 at *
            go_step
            have hst := P9.out.pl.strs
            have Ht := hid (And.intro (Hc3.out _ P9.out.bl.drew) (And.intro (run_str Try.underlying25 Try.underlying5 Try.underlying9 hst.1.drew) (And.intro (run_str Try.underlying25 Try.underlying5 Try.underlying9 hst.2.drew) (And.intro (run_str Try.underlying25 Try.underlying5 Try.underlying9 (P9.out.fb _ (Frame.refl _ _)).drew) (run_str Try.underlying25 Try.underlying5 Try.underlying9 (HBa.out.below P9.out.bl).drew)))))
            clear hst c0
            go_upto_region 33 with fail
            go_region_held3 (fun wy => wy.cell? ⟨gr, off + i * 4 + 3, none⟩ = some (.slice Ab lb cb) ∧ Sem.run Try.prog (convert 25 9 (.slice (some ⟨gm, 0, none⟩) L L)) wy = .ok (.string (mkStr sx.M)) wy ∧ Sem.run Try.prog (convert 25 9 (.slice (some ⟨gm + 1, 0, none⟩) L L)) wy = .ok (.string (mkStr sx.M)) wy ∧ Sem.run Try.prog (convert 25 9 (.slice A5 lb c5)) wy = .ok (.string (mkStr bb)) wy ∧ Sem.run Try.prog (convert 25 9 (.slice Ab lb cb)) wy = .ok (.string (mkStr bb)) wy) (exact Ht.out) (fail)
            go_wp2_with fail
            go_roundg (N - (i + 1))
            case measure => exact Hms.out.1
            case rel => exact ⟨i + 1, _, _, sx, Hms.out.2, by go_num, P9.out.pl.keep (by first | exact below_drew _ | exact Below.refl _ _), by have := Hd.out; omega, by first | exact P9.out.bl.drew | exact P9.out.bl⟩
          · obtain ⟨sx, hsx⟩ : ∃ x, (vSnt b n s).2 = x := ⟨_, rfl⟩
            obtain ⟨rx, hrx⟩ : ∃ x, (vSnt b n s).1 = x := ⟨_, rfl⟩
            have Hrl := hid (show rx.length ≤ 1000000 by rw [← hrx]; exact Nat.le_trans (vSent_len (b + vSize n) n 65536 s.M s.po []) (by decide))
            have H1 := hid (ps_psent P5.out)
            rw [hsx, hrx] at H1
            have H2 := hid (fun (w6 : World) (v1 : Value) (b1 : Nat) (h6 : PS w w6 gm gm (gm + 1) L b n gC gP gD gQ d F sx s (.slice A5 lb c5) bb) (hr : RowsN w6 b1 F v1 rx) => ps_dsent h6 hr)
            rw [hsx, hrx] at H2
            clear hsx hrx
            go_upto_region 33 with (first
              | (go_at_call 21; (with_reducible refine H1.out.mono ?_); rintro e w6 ⟨v1, rfl, h6, hr6⟩; have P6 := hid h6; have R6 := hid hr6; clear h6 hr6)
              | (go_at_call 22; (with_reducible refine (H2.out w6 v1 _ P6.out R6.out).mono ?_); rintro e w7 ⟨v2, rfl, h7, hr7, hr8⟩; have P7 := hid h7; have R7 := hid hr7; have R8 := hid hr8; clear h7 hr7 hr8)
              | (go_at_call 16; (with_reducible refine (rows_same_eq R7.out R8.out Hrl.out).mono ?_); rintro e w8 ⟨rfl, q, rfl⟩))
            have P9 := hid (show PS w (w7.drewN q) gm gm (gm + 1) L b n gC gP gD gQ d F sx sx (.slice A5 lb c5) bb from P7.out.keep (below_drewN (Below.refl _ _) q))
            clear P5 P6 P7 H1 H2 R6 R7 R8
            generalize w7.drewN q = w9 at *
            have hst := P9.out.pl.strs
            have Ht := hid (And.intro (Hc3.out _ P9.out.bl.drew) (And.intro (run_str Try.underlying25 Try.underlying5 Try.underlying9 hst.1.drew) (And.intro (run_str Try.underlying25 Try.underlying5 Try.underlying9 hst.2.drew) (And.intro (run_str Try.underlying25 Try.underlying5 Try.underlying9 (P9.out.fb _ (Frame.refl _ _)).drew) (run_str Try.underlying25 Try.underlying5 Try.underlying9 (HBa.out.below P9.out.bl).drew)))))
            clear hst c0
            go_upto_region 33 with fail
            go_region_held3 (fun wy => wy.cell? ⟨gr, off + i * 4 + 3, none⟩ = some (.slice Ab lb cb) ∧ Sem.run Try.prog (convert 25 9 (.slice (some ⟨gm, 0, none⟩) L L)) wy = .ok (.string (mkStr sx.M)) wy ∧ Sem.run Try.prog (convert 25 9 (.slice (some ⟨gm + 1, 0, none⟩) L L)) wy = .ok (.string (mkStr sx.M)) wy ∧ Sem.run Try.prog (convert 25 9 (.slice A5 lb c5)) wy = .ok (.string (mkStr bb)) wy ∧ Sem.run Try.prog (convert 25 9 (.slice Ab lb cb)) wy = .ok (.string (mkStr bb)) wy) (exact Ht.out) (fail)
            go_wp2_with fail
            go_roundg (N - (i + 1))
            case measure => exact Hms.out.1
            case rel => exact ⟨i + 1, _, _, sx, Hms.out.2, by go_num, P9.out.pl.keep (by first | exact below_drew _ | exact Below.refl _ _), by have := Hd.out; omega, by first | exact P9.out.bl.drew | exact P9.out.bl⟩
          · have c1r := Hc1.out w5 P5.out.bl
            have hps : ¬ (0 : Int) ≤ nn ∨ (0 : Int) ≤ nn ∧ ¬ nn < (L : Int) ∨ (0 : Int) ≤ nn ∧ nn < (L : Int) := by omega
            rcases hps with h1 | ⟨h1, h2⟩ | ⟨h1, h2⟩
            · have P9 := P5
              clear P5
              generalize s = sx at *
              generalize w5 = w9 at *
              go_upto_region 33 with fail
              clear c1r
              have hst := P9.out.pl.strs
              have Ht := hid (And.intro (Hc3.out _ P9.out.bl.drew) (And.intro (run_str Try.underlying25 Try.underlying5 Try.underlying9 hst.1.drew) (And.intro (run_str Try.underlying25 Try.underlying5 Try.underlying9 hst.2.drew) (And.intro (run_str Try.underlying25 Try.underlying5 Try.underlying9 (P9.out.fb _ (Frame.refl _ _)).drew) (run_str Try.underlying25 Try.underlying5 Try.underlying9 (HBa.out.below P9.out.bl).drew)))))
              clear hst c0
              go_upto_region 33 with fail
              go_region_held3 (fun wy => wy.cell? ⟨gr, off + i * 4 + 3, none⟩ = some (.slice Ab lb cb) ∧ Sem.run Try.prog (convert 25 9 (.slice (some ⟨gm, 0, none⟩) L L)) wy = .ok (.string (mkStr sx.M)) wy ∧ Sem.run Try.prog (convert 25 9 (.slice (some ⟨gm + 1, 0, none⟩) L L)) wy = .ok (.string (mkStr sx.M)) wy ∧ Sem.run Try.prog (convert 25 9 (.slice A5 lb c5)) wy = .ok (.string (mkStr bb)) wy ∧ Sem.run Try.prog (convert 25 9 (.slice Ab lb cb)) wy = .ok (.string (mkStr bb)) wy) (exact Ht.out) (fail)
              go_wp2_with fail
              go_roundg (N - (i + 1))
              case measure => exact Hms.out.1
              case rel => exact ⟨i + 1, _, _, sx, Hms.out.2, by go_num, P9.out.pl.keep (by first | exact below_drew _ | exact Below.refl _ _), by have := Hd.out; omega, by first | exact P9.out.bl.drew | exact P9.out.bl⟩
            · have P9 := P5
              clear P5
              generalize s = sx at *
              generalize w5 = w9 at *
              go_upto_region 33 with fail
              clear c1r
              have hst := P9.out.pl.strs
              have Ht := hid (And.intro (Hc3.out _ P9.out.bl.drew) (And.intro (run_str Try.underlying25 Try.underlying5 Try.underlying9 hst.1.drew) (And.intro (run_str Try.underlying25 Try.underlying5 Try.underlying9 hst.2.drew) (And.intro (run_str Try.underlying25 Try.underlying5 Try.underlying9 (P9.out.fb _ (Frame.refl _ _)).drew) (run_str Try.underlying25 Try.underlying5 Try.underlying9 (HBa.out.below P9.out.bl).drew)))))
              clear hst c0
              go_upto_region 33 with fail
              go_region_held3 (fun wy => wy.cell? ⟨gr, off + i * 4 + 3, none⟩ = some (.slice Ab lb cb) ∧ Sem.run Try.prog (convert 25 9 (.slice (some ⟨gm, 0, none⟩) L L)) wy = .ok (.string (mkStr sx.M)) wy ∧ Sem.run Try.prog (convert 25 9 (.slice (some ⟨gm + 1, 0, none⟩) L L)) wy = .ok (.string (mkStr sx.M)) wy ∧ Sem.run Try.prog (convert 25 9 (.slice A5 lb c5)) wy = .ok (.string (mkStr bb)) wy ∧ Sem.run Try.prog (convert 25 9 (.slice Ab lb cb)) wy = .ok (.string (mkStr bb)) wy) (exact Ht.out) (fail)
              go_wp2_with fail
              go_roundg (N - (i + 1))
              case measure => exact Hms.out.1
              case rel => exact ⟨i + 1, _, _, sx, Hms.out.2, by go_num, P9.out.pl.keep (by first | exact below_drew _ | exact Below.refl _ _), by have := Hd.out; omega, by first | exact P9.out.bl.drew | exact P9.out.bl⟩
            · obtain ⟨p, rfl⟩ : ∃ p : Nat, nn = (p : Int) := ⟨nn.toNat, by omega⟩
              have hpL : p < L := by omega
              obtain ⟨x, hx⟩ := u8w mm
              have Hx := hid hx
              clear hx
              obtain ⟨sx, hsx⟩ : ∃ y, ({ s with M := s.M.set p x } : VnSt) = y := ⟨_, rfl⟩
              have c2r := Hc2.out w5 P5.out.bl
              have hmm := P5.out.pl.mems
              have P6 := hid (show PS w (w5.setCell ⟨gm, p, none⟩ (.int .u8 (IntKind.u8.wrap mm))) gm gm (gm + 1) L b n gC gP gD gQ d F sx s (.slice A5 lb c5) bb from by
                rw [Hx.out, ← hsx]
                exact P5.out.go (p_poke P5.out.pl p x) ((frame_mem (grown_set w5 gm p (u8v x))).weaken (fun k _ e => by rw [e]; exact hmm.2.2.2.2.1)) (fun k hk => .inl hk))
              obtain ⟨old, hco⟩ : ∃ old, w5.cell? ⟨gm, p, none⟩ = some old := ⟨_, (Blk.cell hmm.1 p).trans (List.getElem?_eq_getElem (by rw [List.length_map, hmm.2.2.1]; exact hpL))⟩
              have zp := Blk.frozen hmm.1 p
              clear hmm c0
              go_upto_region 31 with fail
              go_region_held3 (fun wy => wy.cell? ⟨gr, off + i * 4 + 1, none⟩ = some (.int .i64 (p : Int)) ∧ wy.cell? ⟨gr, off + i * 4 + 2, none⟩ = some (.int .i64 mm)) (first | exact ⟨c1r, c2r⟩ | exact ⟨Hc1.out _ P6.out.bl.drew, Hc2.out _ P6.out.bl.drew⟩ | exact ⟨Hc1.out _ P6.out.bl, Hc2.out _ P6.out.bl⟩) (fail)
              have P7 := hid (P6.out.keep (below_drew _))
              clear hco zp P6 c1r c2r
              generalize (w5.setCell ⟨gm, p, none⟩ (.int .u8 (IntKind.u8.wrap mm))).drew = w7 at *
              have c1r := Hc1.out w7 P7.out.bl
              have c2r := Hc2.out w7 P7.out.bl
              have hmm := P7.out.pl.mems
              have P8 := hid (show PS w (w7.setCell ⟨gm + 1, p, none⟩ (.int .u8 (IntKind.u8.wrap mm))) gm gm (gm + 1) L b n gC gP gD gQ d F sx sx (.slice A5 lb c5) bb from by
                have h8 := P7.out.go (d_poke P7.out.pl p x) ((frame_mem (grown_set w7 (gm + 1) p (u8v x))).weaken (fun k _ e => by rw [e]; exact hmm.2.2.2.2.2.1)) (fun k hk => .inl hk)
                rw [hsx] at h8
                rw [Hx.out]
                exact h8)
              obtain ⟨old, hco⟩ : ∃ old, w7.cell? ⟨gm + 1, p, none⟩ = some old := ⟨_, (Blk.cell hmm.2.1 p).trans (List.getElem?_eq_getElem (by rw [List.length_map, hmm.2.2.2.1]; exact hpL))⟩
              have zp := Blk.frozen hmm.2.1 p
              clear hmm P5 hsx
              go_step
              go_upto_region 32 with fail
              go_region_held3 (fun wy => wy.cell? ⟨gr, off + i * 4 + 1, none⟩ = some (.int .i64 (p : Int)) ∧ wy.cell? ⟨gr, off + i * 4 + 2, none⟩ = some (.int .i64 mm)) (first | exact ⟨c1r, c2r⟩ | exact ⟨Hc1.out _ P8.out.bl.drew, Hc2.out _ P8.out.bl.drew⟩ | exact ⟨Hc1.out _ P8.out.bl, Hc2.out _ P8.out.bl⟩) (fail)
              have P9 := hid (P8.out.keep (below_drew _))
              clear hco zp P8 P7 c1r c2r Hx
              generalize (w7.setCell ⟨gm + 1, p, none⟩ (.int .u8 (IntKind.u8.wrap mm))).drew = w9 at *
              go_step
              have c0 := trivial
              have hst := P9.out.pl.strs
              have Ht := hid (And.intro (Hc3.out _ P9.out.bl.drew) (And.intro (run_str Try.underlying25 Try.underlying5 Try.underlying9 hst.1.drew) (And.intro (run_str Try.underlying25 Try.underlying5 Try.underlying9 hst.2.drew) (And.intro (run_str Try.underlying25 Try.underlying5 Try.underlying9 (P9.out.fb _ (Frame.refl _ _)).drew) (run_str Try.underlying25 Try.underlying5 Try.underlying9 (HBa.out.below P9.out.bl).drew)))))
              clear hst c0
              go_upto_region 33 with fail
              go_region_held3 (fun wy => wy.cell? ⟨gr, off + i * 4 + 3, none⟩ = some (.slice Ab lb cb) ∧ Sem.run Try.prog (convert 25 9 (.slice (some ⟨gm, 0, none⟩) L L)) wy = .ok (.string (mkStr sx.M)) wy ∧ Sem.run Try.prog (convert 25 9 (.slice (some ⟨gm + 1, 0, none⟩) L L)) wy = .ok (.string (mkStr sx.M)) wy ∧ Sem.run Try.prog (convert 25 9 (.slice A5 lb c5)) wy = .ok (.string (mkStr bb)) wy ∧ Sem.run Try.prog (convert 25 9 (.slice Ab lb cb)) wy = .ok (.string (mkStr bb)) wy) (exact Ht.out) (fail)
              go_wp2_with fail
              go_roundg (N - (i + 1))
              case measure => exact Hms.out.1
              case rel => exact ⟨i + 1, _, _, sx, Hms.out.2, by go_num, P9.out.pl.keep (by first | exact below_drew _ | exact Below.refl _ _), by have := Hd.out; omega, by first | exact P9.out.bl.drew | exact P9.out.bl⟩
          · have P9 := P5
            clear P5
            generalize s = sx at *
            generalize w5 = w9 at *
            have hst := P9.out.pl.strs
            have Ht := hid (And.intro (Hc3.out _ P9.out.bl.drew) (And.intro (run_str Try.underlying25 Try.underlying5 Try.underlying9 hst.1.drew) (And.intro (run_str Try.underlying25 Try.underlying5 Try.underlying9 hst.2.drew) (And.intro (run_str Try.underlying25 Try.underlying5 Try.underlying9 (P9.out.fb _ (Frame.refl _ _)).drew) (run_str Try.underlying25 Try.underlying5 Try.underlying9 (HBa.out.below P9.out.bl).drew)))))
            clear hst c0
            go_upto_region 33 with fail
            go_region_held3 (fun wy => wy.cell? ⟨gr, off + i * 4 + 3, none⟩ = some (.slice Ab lb cb) ∧ Sem.run Try.prog (convert 25 9 (.slice (some ⟨gm, 0, none⟩) L L)) wy = .ok (.string (mkStr sx.M)) wy ∧ Sem.run Try.prog (convert 25 9 (.slice (some ⟨gm + 1, 0, none⟩) L L)) wy = .ok (.string (mkStr sx.M)) wy ∧ Sem.run Try.prog (convert 25 9 (.slice A5 lb c5)) wy = .ok (.string (mkStr bb)) wy ∧ Sem.run Try.prog (convert 25 9 (.slice Ab lb cb)) wy = .ok (.string (mkStr bb)) wy) (exact Ht.out) (fail)
            go_wp2_with fail
            go_roundg (N - (i + 1))
            case measure => exact Hms.out.1
            case rel => exact ⟨i + 1, _, _, sx, Hms.out.2, by go_num, P9.out.pl.keep (by first | exact below_drew _ | exact Below.refl _ _), by have := Hd.out; omega, by first | exact P9.out.bl.drew | exact P9.out.bl⟩
      · obtain rfl : i = N := by omega
        have HX := hid (fun (K : Prop) (h1 : ¬ (i : Int) < (ln : Int) → K) (h2 : (i : Int) < (ln : Int) → ¬ (i : Int) < 60 → K) => show K from by
          by_cases hc : i < ln
          · exact h2 (by omega) (by have := HN.out; omega)
          · exact h1 (by omega))
        refine HX.out _ (fun h1 => ?_) (fun h1 h2 => ?_)
        all_goals
          go_wp2_with fail
          go_ret
          exact ⟨rfl, BWr.out⟩
end Go.Proofs.Ytgiegiobigdplaa
