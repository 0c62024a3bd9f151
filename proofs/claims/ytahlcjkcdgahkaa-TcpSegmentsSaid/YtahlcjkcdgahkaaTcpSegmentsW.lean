/- The walk of TcpSegments. -/
import Derived.Test.YtahlcjkcdgahkaaSegG
import Derived.Test.YtahlcjkcdgahkaaSegH
import Derived.Test.YtahlcjkcdgahkaaTcpQ
namespace Go.Proofs.Ytahlcjkcdgahkaa
open Go Go.RowKit
attribute [local go_sem ↓] Go.wp_at_zero Go.wp_at_succ
set_option maxRecDepth 100000

set_option maxHeartbeats 8000000 in
theorem tcpSegments_walk (src dst : Nat) (v : Value) (b : List UInt8) (s : TSeg) (vs : Value) (x y : Nat) (w : World) (h : Bs w v b) (h2 : Bs w vs s.data) (hs : src < 4294967296) (hd : dst < 4294967296) (hsq : s.seq < 4294967296) (hak : s.ack < 4294967296) (hx : x < 4294967296) (hy : y < 4294967296) :
    Calls Try.prog 12 #[.int .u32 src, .int .u32 dst, v, s.val vs, .int .u32 x, .int .u32 y] w fun e w' => e = .returned (.bool true) ∧ Below w.heap.size w w' := by
  obtain ⟨f, t, sq, ak, fl, wi, ms, data⟩ := s
  obtain ⟨n, hn⟩ : ∃ n, data.length = n := ⟨_, rfl⟩
  obtain ⟨A, cap, rfl⟩ := slice_len h2 hn
  obtain ⟨L, hL⟩ : ∃ n, b.length = n := ⟨_, rfl⟩
  obtain ⟨Ab, capb, rfl⟩ := slice_len h hL
  have HB := hid h
  have HD := hid h2
  have Hn := hid hn
  have HL := hid hL
  have Hnum := hid (And.intro hs (And.intro hd (And.intro hsq (And.intro hak (And.intro hx hy)))))
  dsimp only [TSeg.val, TSeg.cells]
  clear h h2 hn hL hs hd hsq hak hx hy
  by_cases hbig : L > 16384
  · have t1 : (L : Int) > 16384 := by omega
    go_enter Try.func12, Try.ntmps12
    go_wp2_with (go_at_call 13; refine (known_any _).mono ?_; rintro e w1 ⟨rfl, hb⟩; have Hb1 := hid ((below_alloc w _).trans (hb.mono (below_alloc w _).size)); have B1 := hid ((Blk.new w 30 _).keep hb); have e7 := B1.out.cell 7; clear hb)
    go_ret
    exact ⟨rfl, Hb1.out⟩
  have t1 : ¬ (L : Int) > 16384 := by omega
  by_cases hbig2 : n > 66000
  · have t2 : (n : Int) > 66000 := by omega
    go_enter Try.func12, Try.ntmps12
    go_wp2_with (go_at_call 13; refine (known_any _).mono ?_; rintro e w1 ⟨rfl, hb⟩; have Hb1 := hid ((below_alloc w _).trans (hb.mono (below_alloc w _).size)); have B1 := hid ((Blk.new w 30 _).keep hb); have e7 := B1.out.cell 7; clear hb)
    go_ret
    exact ⟨rfl, Hb1.out⟩
  have t2 : ¬ (n : Int) > 66000 := by omega
  obtain ⟨P, hP⟩ : ∃ P, segParse src dst b = P := ⟨_, rfl⟩
  obtain ⟨⟨pf, pt, psq, pak, pfl, pwi, pms, pdat⟩, pe⟩ := P
  obtain ⟨W, hW⟩ : ∃ W, segWrite src dst ⟨f, t, sq, ak, fl, wi, ms, data⟩ = W := ⟨_, rfl⟩
  obtain ⟨wb, we⟩ := W
  obtain ⟨R, hR⟩ : ∃ R, segReset ⟨f, t, sq, ak, fl, wi, ms, data⟩ = R := ⟨_, rfl⟩
  obtain ⟨⟨rf, rt, rsq, rak, rfl', rwi, rms, rdat⟩, rb⟩ := R
  have hrd : rdat = [] := by
    have h1 : (segReset ⟨f, t, sq, ak, fl, wi, ms, data⟩).1.data = [] := by
      unfold segReset
      split
      · rfl
      · split <;> rfl
    rw [hR] at h1
    exact h1
  subst hrd
  obtain ⟨pn, hpn⟩ : ∃ n, pdat.length = n := ⟨_, rfl⟩
  obtain ⟨wn, hwn⟩ : ∃ n, wb.length = n := ⟨_, rfl⟩
  have HPa := hid hP
  have HWa := hid hW
  have Hpn := hid hpn
  have Hwn := hid hwn
  have HT1 := hid (fun wx => treset_any f t sq ak fl wi ms data A n cap wx Hn.out (by omega) _ _ hR)
  have HT2 := hid (fun wx => rreset_any f t sq ak fl wi ms data A n cap wx Hn.out (by omega) _ _ hR)
  have HTh := hid (fun wx => theirs_any f t sq ak fl wi ms A n cap wx)
  clear hP hW hR hpn hwn
  go_enter Try.func12, Try.ntmps12
  go_upto_region 6 with (first
    | (go_at_call 13; refine (known_any _).mono ?_; rintro e w1 ⟨rfl, hb⟩; have Hb1 := hid ((below_alloc w _).trans (hb.mono (below_alloc w _).size)); have B1 := hid ((Blk.new w 30 _).keep hb); have e7 := B1.out.cell 7; clear hb)
    | ((with_reducible show wpList _ _ _ (Oper.mk (some 39) _ _ _ _ _ :: _) _ _); refine wpList_app8 _ rfl _ _ 28 rfl w1.heap.size 5 u8ok (.slice (some ⟨w1.heap.size, 0, none⟩) 0 0) [] rfl (ownBs_litNil rfl (Nat.le_refl _)) _ b rfl ((HB.out.below Hb1.out).alloc _) (by have := HL.out; simp; omega) (by simp) ?_; intro v2 w2 hown hb hg hat; rw [List.nil_append] at hown; obtain ⟨A2, cap2, rfl⟩ := slice_len hown.bs HL.out; have H2 := hid hown.bs; have hbb := (below_alloc w1 _).trans hb; have Hb2 := hid (Hb1.out.trans (hbb.mono Hb1.out.size)); have B2 := hid (B1.out.keep hbb); clear hown hb hg hat hbb))
  clear e7 B1
  have HPx := hid (tparse_any _ b src dst w2 H2.out (by rw [HL.out]; omega) Hnum.out.1 Hnum.out.2.1)
  go_upto_region 7 with (first
    | (go_at_call 31; refine HPx.out.mono ?_; rintro e w3 ⟨v3, rfl, hown, hb⟩; rw [HPa.out] at hown ⊢; dsimp only [TSeg.cells] at hown ⊢; obtain ⟨A3, cap3, rfl⟩ := slice_len hown.bs Hpn.out; have Hb3 := hid (Hb2.out.trans (hb.mono Hb2.out.size)); have X3 := hid hown.bs; have B3 := hid (B2.out.keep hb); have H3 := hid (H2.out.below hb); clear hown hb)
    | ((with_reducible show wpList _ _ _ (Oper.mk none _ _ _ _ _ :: _) _ _); refine wpList_storeBlk rfl _ _ _ rfl _ _ rfl rfl _ _ (Blk.new _ _ _) seginfo rfl rfl ?_; intro w4 hblk hg hsz; have hb := below_new_store hg; have Hb4 := hid (Hb3.out.trans (hb.mono Hb3.out.size)); have X4 := hid (X3.out.below hb); have B4 := hid (B3.out.keep hb); have C4 := hid hblk; have H4 := hid (H3.out.below hb); clear hblk hg hsz hb))
  clear HPx X3 B3 H3 B2 H2
  have HPy := hid (rparse_any _ b src dst w4 (HB.out.below Hb4.out) (by rw [HL.out]; omega) Hnum.out.1 Hnum.out.2.1)
  go_upto_region 8 with (first
    | (go_at_call 32; refine HPy.out.mono ?_; rintro e w5 ⟨v5, rfl, hown, hb⟩; rw [HPa.out] at hown ⊢; dsimp only [TSeg.cells] at hown ⊢; obtain ⟨A5, cap5, rfl⟩ := slice_len hown.bs Hpn.out; have Hb5 := hid (Hb4.out.trans (hb.mono Hb4.out.size)); have Y5 := hid hown.bs; have X5 := hid (X4.out.below hb); have B5 := hid (B4.out.keep hb); have C5 := hid (C4.out.keep hb); have H5 := hid (H4.out.below hb); clear hown hb)
    | ((with_reducible show wpList _ _ _ (Oper.mk none _ _ _ _ _ :: _) _ _); refine wpList_storeBlk rfl _ _ _ rfl _ _ rfl rfl _ _ (Blk.new _ _ _) rseginfo rfl rfl ?_; intro w6 hblk hg hsz; have hb := below_new_store hg; have Hb6 := hid (Hb5.out.trans (hb.mono Hb5.out.size)); have X6 := hid (X5.out.below hb); have Y6 := hid (Y5.out.below hb); have B6 := hid (B5.out.keep hb); have C6 := hid (C5.out.keep hb); have D6 := hid hblk; have H6 := hid (H5.out.below hb); clear hblk hg hsz hb))
  clear HPy X4 B4 H4 C4 X5 Y5 B5 C5 H5
  have HW1 := hid (twrite_any f t sq ak fl wi ms data A n cap src dst w6 (HD.out.below Hb6.out) (by rw [Hn.out]; omega) Hnum.out.1 Hnum.out.2.1 Hnum.out.2.2.1 Hnum.out.2.2.2.1)
  go_upto_region 9 with (first
    | ((with_reducible show wpList _ _ _ (Oper.mk (some 57) _ _ _ _ _ :: _) _ _); refine wpList_loadBlk rfl _ _ rfl _ rfl _ _ _ B6.out Try.underlying30 seginfo ?_)
    | (go_at_call 30; refine HW1.out.mono ?_; rintro e w7 ⟨v7, rfl, hown, hb⟩; rw [HWa.out] at hown ⊢; dsimp only at hown ⊢; obtain ⟨A7, cap7, rfl⟩ := slice_len hown.bs Hwn.out; have Hb7 := hid (Hb6.out.trans (hb.mono Hb6.out.size)); have P7 := hid hown.bs; have X7 := hid (X6.out.below hb); have Y7 := hid (Y6.out.below hb); have B7 := hid (B6.out.keep hb); have C7 := hid (C6.out.keep hb); have D7 := hid (D6.out.keep hb); have H7 := hid (H6.out.below hb); clear hown hb))
  clear HW1 X6 Y6 B6 C6 D6 H6
  go_upto_region 10 with (first
    | ((with_reducible show wpList _ _ _ (Oper.mk (some 64) _ _ _ _ _ :: _) _ _); refine wpList_loadBlk rfl _ _ rfl _ rfl _ _ _ B7.out Try.underlying30 seginfo ?_)
    | (go_at_call 25; refine (HTh.out _).mono ?_; rintro e w8 ⟨rfl, hb⟩; have Hb8 := hid (Hb7.out.trans (hb.mono Hb7.out.size)); have P8 := hid (P7.out.below hb); have X8 := hid (X7.out.below hb); have Y8 := hid (Y7.out.below hb); have B8 := hid (B7.out.keep hb); have C8 := hid (C7.out.keep hb); have D8 := hid (D7.out.keep hb); have H8 := hid (H7.out.below hb); clear hb)
    | (go_at_call 33; refine (rwrite_any f t sq ak fl wi ms data A n cap src dst w8 (HD.out.below Hb8.out) (by rw [Hn.out]; omega) Hnum.out.1 Hnum.out.2.1 Hnum.out.2.2.1 Hnum.out.2.2.2.1).mono ?_; rintro e w9 ⟨v9, rfl, hown, hb⟩; rw [HWa.out] at hown ⊢; dsimp only at hown ⊢; obtain ⟨A9, cap9, rfl⟩ := slice_len hown.bs Hwn.out; have Hb9 := hid (Hb8.out.trans (hb.mono Hb8.out.size)); have Q9 := hid hown.bs; have P9 := hid (P8.out.below hb); have X9 := hid (X8.out.below hb); have Y9 := hid (Y8.out.below hb); have B9 := hid (B8.out.keep hb); have C9 := hid (C8.out.keep hb); have D9 := hid (D8.out.keep hb); have H9 := hid (H8.out.below hb); clear hown hb))
  clear P7 X7 Y7 B7 C7 D7 H7 P8 X8 Y8 B8 C8 D8 H8
  go_upto_region 12 with (first
    | ((with_reducible show wpList _ _ _ (Oper.mk (some 69) _ _ _ _ _ :: _) _ _); refine wpList_loadBlk rfl _ _ rfl _ rfl _ _ _ C9.out Try.underlying30 seginfo ?_)
    | ((with_reducible show wpList _ _ _ (Oper.mk (some 70) _ _ _ _ _ :: _) _ _); refine wpList_loadBlk rfl _ _ rfl _ rfl _ _ _ D9.out Try.underlying51 rseginfo ?_)
    | (go_at_call 34; refine (same_any pf pt psq pak pfl pwi pms pdat A3 A5 pn cap3 cap5 _ X9.out Y9.out).mono ?_; rintro e w10 ⟨rfl, hb⟩; have Hb10 := hid (Hb9.out.trans (hb.mono Hb9.out.size)); have B10 := hid (B9.out.keep hb); have s1 := run_str Try.underlying28 Try.underlying5 Try.underlying9 (P9.out.below hb); have s2 := run_str Try.underlying28 Try.underlying5 Try.underlying9 (Q9.out.below hb); have s3 := run_str Try.underlying28 Try.underlying5 Try.underlying9 (H9.out.below hb); have s4 := run_str Try.underlying28 Try.underlying5 Try.underlying9 (HB.out.below Hb10.out); clear hb))
  clear s1 s2 s3 s4 P9 Q9 X9 Y9 B9 C9 D9 H9
  go_upto_region 13 with (first
    | ((with_reducible show wpList _ _ _ (Oper.mk (some 98) _ _ _ _ _ :: _) _ _); refine wpList_loadBlk rfl _ _ rfl _ rfl _ _ _ B10.out Try.underlying30 seginfo ?_)
    | (go_at_call 35; refine (HT1.out _).mono ?_; rintro e w11 ⟨rfl, hb⟩; dsimp only [TSeg.val, TSeg.cells]; have Hb11 := hid (Hb10.out.trans (hb.mono Hb10.out.size)); have B11 := hid (B10.out.keep hb); clear hb)
    | ((with_reducible show wpList _ _ _ (Oper.mk none _ _ _ _ _ :: _) _ _); refine wpList_storeBlk rfl _ _ _ rfl _ _ rfl rfl _ _ (Blk.new _ _ _) seginfo rfl rfl ?_; intro w12 hblk hg hsz; have hb := below_new_store hg; have Hb12 := hid (Hb11.out.trans (hb.mono Hb11.out.size)); have B12 := hid (B11.out.keep hb); have C12 := hid hblk; clear hblk hg hsz hb))
  clear B10 B11
  go_upto_region 14 with (first
    | ((with_reducible show wpList _ _ _ (Oper.mk (some 103) _ _ _ _ _ :: _) _ _); refine wpList_loadBlk rfl _ _ rfl _ rfl _ _ _ B12.out Try.underlying30 seginfo ?_)
    | (go_at_call 25; refine (HTh.out _).mono ?_; rintro e w13 ⟨rfl, hb⟩; have Hb13 := hid (Hb12.out.trans (hb.mono Hb12.out.size)); have C13 := hid (C12.out.keep hb); clear hb)
    | (go_at_call 36; refine (HT2.out _).mono ?_; rintro e w14 ⟨rfl, hb⟩; dsimp only [TSeg.val, TSeg.cells]; have Hb14 := hid (Hb13.out.trans (hb.mono Hb13.out.size)); have C14 := hid (C13.out.keep hb); clear hb)
    | ((with_reducible show wpList _ _ _ (Oper.mk none _ _ _ _ _ :: _) _ _); refine wpList_storeBlk rfl _ _ _ rfl _ _ rfl rfl _ _ (Blk.new _ _ _) rseginfo rfl rfl ?_; intro w15 hblk hg hsz; have hb := below_new_store hg; have Hb15 := hid (Hb14.out.trans (hb.mono Hb14.out.size)); have C15 := hid (C14.out.keep hb); have D15 := hid hblk; clear hblk hg hsz hb))
  clear B12 C12 C13 C14
  have HLa := hid (fun wx => less_any x y Hnum.out.2.2.2.2.1 Hnum.out.2.2.2.2.2 wx)
  have HLb := hid (fun wx => rless_any x y Hnum.out.2.2.2.2.1 Hnum.out.2.2.2.2.2 wx)
  go_wp2_with (first
    | ((with_reducible show wpList _ _ _ (Oper.mk (some 108) _ _ _ _ _ :: _) _ _); refine wpList_loadBlk rfl _ _ rfl _ rfl _ _ _ C15.out Try.underlying30 seginfo ?_)
    | ((with_reducible show wpList _ _ _ (Oper.mk (some 109) _ _ _ _ _ :: _) _ _); refine wpList_loadBlk rfl _ _ rfl _ rfl _ _ _ D15.out Try.underlying51 rseginfo ?_)
    | (go_at_call 34; refine (same_any rf rt rsq rak rfl' rwi rms [] none none 0 0 0 _ (Bs.nil _) (Bs.nil _)).mono ?_; rintro e w16 ⟨rfl, hb⟩; have Hb16 := hid (Hb15.out.trans (hb.mono Hb15.out.size)); clear hb)
    | (go_at_call 20; refine (HLa.out _).mono ?_; rintro e w' ⟨rfl, rfl⟩)
    | (go_at_call 37; refine (HLb.out _).mono ?_; rintro e w' ⟨rfl, rfl⟩))
  go_ret
  exact ⟨by simp, Hb16.out⟩
end Go.Proofs.Ytahlcjkcdgahkaa
