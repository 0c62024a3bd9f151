/- Contract of tcp.Parse. -/
import Derived.Test.YtahlcjkcdgahkaaSegB
import Derived.Test.YtahlcjkcdgahkaaTcpD
import Derived.Deep.RegionHeld3
import Derived.Laws.BitsAllLaws
namespace Go.Proofs.Ytahlcjkcdgahkaa
open Go Go.RowKit
attribute [local go_sem ↓] Go.wp_at_zero Go.wp_at_succ
set_option maxRecDepth 100000
attribute [local go_sem ↓] fold_seg
attribute [local go_sem] storeG_run lays_seg

set_option maxHeartbeats 8000000 in
theorem tparse_any (v : Value) (b : List UInt8) (src dst : Nat) (w : World) (h : Bs w v b) (hl : b.length ≤ 1000000000) (hs : src < 4294967296) (hd : dst < 4294967296) :
    Calls Try.prog 31 #[.int .u32 src, .int .u32 dst, v] w fun e w' => ∃ v', e = .returned (.tuple #[.agg ((segParse src dst b).1.cells v').toArray, .int .i64 (segParse src dst b).2]) ∧ OwnBs w' w.heap.size 5 v' (segParse src dst b).1.data ∧ Below w.heap.size w w' := by
  have Hb := hid h
  obtain ⟨L, hL⟩ : ∃ n, b.length = n := ⟨_, rfl⟩
  obtain ⟨A, cap, rfl⟩ := slice_len h hL
  have HL := hid hL
  rw [hL] at hl
  clear h
  have HBk := hid (Blk.new w 30 #[.int .i64 0, .int .i64 0, .int .u32 0, .int .u32 0, .int .i64 0, .int .i64 0, .int .i64 0, .slice none 0 0])
  by_cases hl20 : L < 20
  · have Hr := hid (show segParse src dst b = (seg0, 11) by unfold segParse; rw [if_pos (by omega)])
    have hl' : (L : Int) < 20 := by omega
    rw [Hr.out]
    dsimp only [TSeg.cells, seg0]
    clear hL
    go_enter Try.func31, Try.ntmps31
    go_wp2_with ((with_reducible show wpList _ _ _ (Oper.mk none _ _ _ _ _ :: _) _ _); refine wpList_storeBlk rfl _ _ _ rfl _ _ rfl rfl _ _ (HBk.out) seginfo rfl rfl ?_; intro w9 hblk9 hg9 hsz9)
    refine ret_cell2 rfl _ _ _ _ rfl hblk9 Try.underlying30 seginfo _ rfl rfl ?_
    exact ⟨_, rfl, OwnBs.nil _ _ _, below_own (below_alloc w _) hg9 (Nat.le_refl _) (by simp)⟩
  have hl' : ¬ (L : Int) < 20 := by omega
  have h12 : 12 < b.length := by omega
  have h13 : 13 < b.length := by omega
  obtain ⟨A0, o0, rfl, hc12⟩ := cell_of Hb.out h12
  obtain ⟨A9, o9, e9, hc13⟩ := cell_of Hb.out h13
  injection e9 with e9
  injection e9 with e91 e92
  subst e91; subst e92
  have e12 : b.getD 12 0 = b[12] := by simp [List.getD, h12]
  have e13 : b.getD 13 0 = b[13] := by simp [List.getD, h13]
  obtain ⟨x12, hx12⟩ : ∃ x, b[12].toNat = x := ⟨_, rfl⟩
  obtain ⟨x13, hx13⟩ : ∃ x, b[13].toNat = x := ⟨_, rfl⟩
  have hx12l : x12 < 256 := by rw [← hx12]; exact b[12].toNat_lt
  have hx13l : x13 < 256 := by rw [← hx13]; exact b[13].toNat_lt
  rw [hx12] at hc12
  rw [hx13] at hc13
  have c12 : (w.alloc (.cells #[.int .i64 0, .int .i64 0, .int .u32 0, .int .u32 0, .int .i64 0, .int .i64 0, .int .i64 0, .slice none 0 0] 30)).cell? ⟨A0, o0 + 12, none⟩ = some (.int .u8 (x12 : Int)) := cell_below (below_alloc w _) hc12
  obtain ⟨hh, hhh⟩ : ∃ n, x12 / 16 * 4 = n := ⟨_, rfl⟩
  have hhI : (x12 : Int) / 16 * 4 = (hh : Int) := by omega
  have hh60 : hh ≤ 60 := by omega
  obtain ⟨sm, hsm⟩ : ∃ n, segSum src dst b = n := ⟨_, rfl⟩
  have Hsm := hid hsm
  have Hp := hid (show segParse src dst b = if hh < 20 then (seg0, (15 : Int)) else if L < hh then (seg0, (11 : Int)) else if sm ≠ 0 then (seg0, 13) else match segOpts (segMore b hh).length (segMore b hh) 0 0 with | none => (seg0, 15) | some m => (segRead b hh m, 0) by
    unfold segParse
    rw [if_neg (by omega), e12, hx12, hhh, hsm, hL]
    rfl)
  have Hc13 := hid (And.intro hc13 (e13.symm ▸ hx13 : (b.getD 13 0).toNat = x13))
  clear hc12 hc13 e12 e13 hx12 hx13 hsm hL h12 h13 hhh
  by_cases c1 : hh < 20
  · have Hr := hid (show segParse src dst b = (seg0, 15) by rw [Hp.out, if_pos c1])
    rw [Hr.out]
    dsimp only [TSeg.cells, seg0]
    have c1' : (hh : Int) < 20 := by omega
    go_enter Try.func31, Try.ntmps31
    go_wp2_with ((with_reducible show wpList _ _ _ (Oper.mk none _ _ _ _ _ :: _) _ _); refine wpList_storeBlk rfl _ _ _ rfl _ _ rfl rfl _ _ (HBk.out) seginfo rfl rfl ?_; intro w9 hblk9 hg9 hsz9)
    refine ret_cell2 rfl _ _ _ _ rfl hblk9 Try.underlying30 seginfo _ rfl rfl ?_
    exact ⟨_, rfl, OwnBs.nil _ _ _, below_own (below_alloc w _) hg9 (Nat.le_refl _) (by simp)⟩
  have c1' : ¬ (hh : Int) < 20 := by omega
  by_cases c2 : L < hh
  · have Hr := hid (show segParse src dst b = (seg0, 11) by rw [Hp.out, if_neg c1, if_pos c2])
    rw [Hr.out]
    dsimp only [TSeg.cells, seg0]
    have c2' : (L : Int) < (hh : Int) := by omega
    go_enter Try.func31, Try.ntmps31
    go_wp2_with ((with_reducible show wpList _ _ _ (Oper.mk none _ _ _ _ _ :: _) _ _); refine wpList_storeBlk rfl _ _ _ rfl _ _ rfl rfl _ _ (HBk.out) seginfo rfl rfl ?_; intro w9 hblk9 hg9 hsz9)
    refine ret_cell2 rfl _ _ _ _ rfl hblk9 Try.underlying30 seginfo _ rfl rfl ?_
    exact ⟨_, rfl, OwnBs.nil _ _ _, below_own (below_alloc w _) hg9 (Nat.le_refl _) (by simp)⟩
  have c2' : ¬ (L : Int) < (hh : Int) := by omega
  by_cases c3 : sm ≠ 0
  · have Hr := hid (show segParse src dst b = (seg0, 13) by rw [Hp.out, if_neg c1, if_neg c2, if_pos c3])
    rw [Hr.out]
    dsimp only [TSeg.cells, seg0]
    have c3' : ((sm : Int) != 0) = true := by simp; omega
    clear HBk
    go_enter Try.func31, Try.ntmps31
    go_wp2_with (first | (go_at_call 53; refine (tsum_any _ b src dst _ (w.alloc (.cells #[.int .i64 0, .int .i64 0, .int .u32 0, .int .u32 0, .int .i64 0, .int .i64 0, .int .i64 0, .slice none 0 0] 30)) (Hb.out.alloc _) (by rw [HL.out]; exact hl) hs hd Hsm.out).mono ?_; rintro e w1 ⟨rfl, hb1⟩; have HBk := hid ((Blk.new w _ _).keep hb1); have Hb1 := hid ((below_alloc w _).trans (hb1.mono (by simp))); clear hb1) | ((with_reducible show wpList _ _ _ (Oper.mk none _ _ _ _ _ :: _) _ _); refine wpList_storeBlk rfl _ _ _ rfl _ _ rfl rfl _ _ (HBk.out) seginfo rfl rfl ?_; intro w9 hblk9 hg9 hsz9))
    refine ret_cell2 rfl _ _ _ _ rfl hblk9 Try.underlying30 seginfo _ rfl rfl ?_
    exact ⟨_, rfl, OwnBs.nil _ _ _, below_own Hb1.out hg9 (Nat.le_refl _) Hb1.out.size⟩
  obtain rfl : sm = 0 := by omega
  have c3' : (((0 : Nat) : Int) != 0) = false := by simp
  have hml : (segMore b hh).length = hh - 20 := by unfold segMore; rw [List.length_take, List.length_drop, HL.out]; omega
  obtain ⟨R, hR⟩ : ∃ R, segOpts (segMore b hh).length (segMore b hh) 0 0 = R := ⟨_, rfl⟩
  obtain ⟨ii, hii, hz, hss, hby⟩ := info_parts u8info
  have hLc : L ≤ cap := by obtain ⟨_, _, _, hv, h1, _⟩ := Hb.out; injection hv with _ e8 e3; omega
  have cut1 := run_cut (P := Try.prog) (T := 28) Try.underlying28 hii (some ⟨A0, o0, none⟩) L cap .i64 .i64 20 (hh : Int) 20 (hh - 20) rfl (by omega) (by omega)
  have cut2 := run_cut_from (P := Try.prog) (T := 28) Try.underlying28 hii (some ⟨A0, o0, none⟩) L cap .i64 (hh : Int) hh (L - hh) rfl (by omega) (by omega)
  rw [hss] at cut1 cut2
  have HB1 := hid (show Bs w (.slice (cutA (some ⟨A0, o0, none⟩) cap 20 1) (hh - 20) (cap - 20)) (segMore b hh) from Bs.cut (l := 20) (k := hh - 20) Hb.out (by rw [HL.out]; omega))
  have HB2 := hid (show Bs w (.slice (cutA (some ⟨A0, o0, none⟩) cap hh 1) (L - hh) (cap - hh)) (b.drop hh) by have := Bs.cut (l := hh) (k := L - hh) Hb.out (by rw [HL.out]; omega); rwa [List.take_of_length_le (by rw [List.length_drop, HL.out]; omega)] at this)
  rw [hR] at Hp
  have HO := hid (fun wx (hx : Bs wx (.slice (cutA (some ⟨A0, o0, none⟩) cap 20 1) (hh - 20) (cap - 20)) (segMore b hh)) => topts_any _ (segMore b hh) wx hx (by rw [hml]; omega) R hR)
  clear hii hz hss hby HBk hml hR
  cases R with
  | none =>
    have Hr := hid (show segParse src dst b = (seg0, 15) by rw [Hp.out, if_neg c1, if_neg c2, if_neg (by simp)])
    rw [Hr.out]
    dsimp only [TSeg.cells, seg0]
    go_enter Try.func31, Try.ntmps31
    go_wp2_with (first
      | (go_at_call 53; refine (tsum_any _ b src dst _ (w.alloc (.cells #[.int .i64 0, .int .i64 0, .int .u32 0, .int .u32 0, .int .i64 0, .int .i64 0, .int .i64 0, .slice none 0 0] 30)) (Hb.out.alloc _) (by rw [HL.out]; exact hl) hs hd Hsm.out).mono ?_; rintro e w1 ⟨rfl, hb1⟩; have HBk := hid ((Blk.new w _ _).keep hb1); have Hb1 := hid ((below_alloc w _).trans (hb1.mono (by simp))); clear hb1)
      | (go_at_call 54; refine (HO.out _ (HB1.out.below Hb1.out)).mono ?_; rintro e w' ⟨rfl, hww⟩; subst w'; dsimp only [optAns])
      | ((with_reducible show wpList _ _ _ (Oper.mk none _ _ _ _ _ :: _) _ _); refine wpList_storeBlk rfl _ _ _ rfl _ _ rfl rfl _ _ (HBk.out) seginfo rfl rfl ?_; intro w9 hblk9 hg9 hsz9))
    refine ret_cell2 rfl _ _ _ _ rfl hblk9 Try.underlying30 seginfo _ rfl rfl ?_
    exact ⟨_, rfl, OwnBs.nil _ _ _, below_own Hb1.out hg9 (Nat.le_refl _) Hb1.out.size⟩
  | some ms =>
    have Hr := hid (show segParse src dst b = (segRead b hh ms, 0) by rw [Hp.out, if_neg c1, if_neg c2, if_neg (by simp)])
    rw [Hr.out]
    dsimp only [TSeg.cells, segRead]
    rw [Hc13.out.2]
    obtain ⟨n0, h0⟩ : ∃ n, sAt b 0 2 = n := ⟨_, rfl⟩
    obtain ⟨n2, h2⟩ : ∃ n, sAt b 2 2 = n := ⟨_, rfl⟩
    obtain ⟨n4, h4⟩ : ∃ n, sAt b 4 4 = n := ⟨_, rfl⟩
    obtain ⟨n8, h8⟩ : ∃ n, sAt b 8 4 = n := ⟨_, rfl⟩
    obtain ⟨n14, h14⟩ : ∃ n, sAt b 14 2 = n := ⟨_, rfl⟩
    have l4 : n4 < 4294967296 := by rw [← h4]; exact sAt_lt b 4 4
    have l8 : n8 < 4294967296 := by rw [← h8]; exact sAt_lt b 8 4
    obtain ⟨m13, hm13⟩ : ∃ n, x13 % 32 = n := ⟨_, rfl⟩
    have hm32 : m13 < 32 := by omega
    have hcv : IntKind.i64.wrap (m13 : Int) = (m13 : Int) := IntWalk.i64_in _ (by omega)
    have hw4 : IntKind.u32.wrap (n4 : Int) = (n4 : Int) := by simp [IntKind.wrap, IntKind.bits, IntKind.signed]; omega
    have hw8 : IntKind.u32.wrap (n8 : Int) = (n8 : Int) := by simp [IntKind.wrap, IntKind.bits, IntKind.signed]; omega
    have hbit : bits .and .u8 (x13 : Int) 31 = (m13 : Int) := by
      rw [show (31 : Int) = ((31 : Nat) : Int) from rfl, u8_and_nat _ _ hx13l (by decide), show (31 : Nat) = 2 ^ 5 - 1 from rfl, Nat.and_two_pow_sub_one_eq_mod, ← hm13]
    have hL9 : b.length ≤ 1099511627776 := by rw [HL.out]; omega
    have hL16 : 16 ≤ b.length := by rw [HL.out]; omega
    have HA0 := hid (fun wx (hx : Bs wx (.slice (some ⟨A0, o0, none⟩) L cap) b) => tat_any _ b 0 2 n0 0 2 wx hx rfl rfl (.inl rfl) (by omega) h0 hL9)
    have HA2 := hid (fun wx (hx : Bs wx (.slice (some ⟨A0, o0, none⟩) L cap) b) => tat_any _ b 2 2 n2 2 2 wx hx rfl rfl (.inl rfl) (by omega) h2 hL9)
    have HA4 := hid (fun wx (hx : Bs wx (.slice (some ⟨A0, o0, none⟩) L cap) b) => tat_any _ b 4 4 n4 4 4 wx hx rfl rfl (.inr rfl) (by omega) h4 hL9)
    have HA8 := hid (fun wx (hx : Bs wx (.slice (some ⟨A0, o0, none⟩) L cap) b) => tat_any _ b 8 4 n8 8 4 wx hx rfl rfl (.inr rfl) (by omega) h8 hL9)
    have HA14 := hid (fun wx (hx : Bs wx (.slice (some ⟨A0, o0, none⟩) L cap) b) => tat_any _ b 14 2 n14 14 2 wx hx rfl rfl (.inl rfl) (by omega) h14 hL9)
    have Hdl := hid (show (b.drop hh).length = L - hh by rw [List.length_drop, HL.out])
    rw [h0, h2, h4, h8, h14, hm13]
    clear h0 h2 h4 h8 h14 hm13 hL9 hL16 Hr Hp
    generalize b.drop hh = tl at *
    go_enter Try.func31, Try.ntmps31
    go_upto_region 13 with (first
      | (go_at_call 53; refine (tsum_any _ b src dst _ (w.alloc (.cells #[.int .i64 0, .int .i64 0, .int .u32 0, .int .u32 0, .int .i64 0, .int .i64 0, .int .i64 0, .slice none 0 0] 30)) (Hb.out.alloc _) (by rw [HL.out]; exact hl) hs hd Hsm.out).mono ?_; rintro e w1 ⟨rfl, hb1⟩; have HBk := hid ((Blk.new w _ _).keep hb1); have Hb1 := hid ((below_alloc w _).trans (hb1.mono (by simp))); clear hb1)
      | (go_at_call 54; refine (HO.out _ (HB1.out.below Hb1.out)).mono ?_; rintro e w' ⟨rfl, hww⟩; subst w'; dsimp only [optAns]))
    have ix13 : (13 : Int) < (L : Int) := by omega
    have hBs : Bs w1 (.slice (some ⟨A0, o0, none⟩) L cap) b := Hb.out.below Hb1.out
    have hB2 := HB2.out.below Hb1.out
    have q13 : w1.cell? ⟨A0, o0 + 13, none⟩ = some (.int .u8 (x13 : Int)) := cell_below Hb1.out Hc13.out.1
    go_region_held3 (fun wy => wy.cell? ⟨A0, o0 + 13, none⟩ = some (.int .u8 (x13 : Int))) (first | exact q13 | exact cell_below (below_drew _) q13 | exact Q13.out | exact HS3.out) (first
      | (go_at_call 55; (with_reducible refine (HA0.out _ (by first | exact hBs | exact hBs.drew | exact hBs.drewN _ | exact HBs.out)).mono ?_); rintro e w' ⟨rfl, rfl⟩)
      | (go_at_call 55; (with_reducible refine (HA2.out _ (by first | exact hBs | exact hBs.drew | exact hBs.drewN _ | exact HBs.out)).mono ?_); rintro e w' ⟨rfl, rfl⟩)
      | (go_at_call 55; (with_reducible refine (HA4.out _ (by first | exact hBs | exact hBs.drew | exact hBs.drewN _ | exact HBs.out)).mono ?_); rintro e w' ⟨rfl, rfl⟩)
      | (go_at_call 55; (with_reducible refine (HA8.out _ (by first | exact hBs | exact hBs.drew | exact hBs.drewN _ | exact HBs.out)).mono ?_); rintro e w' ⟨rfl, rfl⟩)
      | (go_at_call 55; (with_reducible refine (HA14.out _ (by first | exact hBs | exact hBs.drew | exact hBs.drewN _ | exact HBs.out)).mono ?_); rintro e w' ⟨rfl, rfl⟩)
      | (go_at_call 56; refine (clone_any _ tl _ (by first | exact hB2 | exact hB2.drew | exact hB2.drewN _) (by rw [Hdl.out]; omega)).mono ?_; rintro e w3 ⟨v3, rfl, hown, hb3⟩; have Hb3 := hid (show Below w.heap.size w w3 from by first | exact Hb1.out.trans (hb3.mono Hb1.out.size) | exact (Hb1.out.drew).trans (hb3.mono Hb1.out.size)); have Hown := hid hown; have HBk := hid (show Blk w3 w.heap.size 30 _ from by first | exact HBk.out.keep hb3 | exact (HBk.out.drew).keep hb3 | exact (HBk.out.drewN _).keep hb3); have HBs := hid (Hb.out.below Hb3.out); have Q13 := hid (cell_below Hb3.out Hc13.out.1); obtain ⟨A3, cap3, rfl⟩ := slice_len hown.bs Hdl.out; have hroom : RoomFor w3 w.heap.size 8 := HBk.out.room; have HS3 := hid (cell_below (below_own Hb3.out (grown_setRow w3 w.heap.size #[.int .i64 (n0 : Int), .int .i64 (n2 : Int), .int .u32 (n4 : Int), .int .u32 (n8 : Int), .int .i64 (m13 : Int), .int .i64 (n14 : Int), .int .i64 (ms : Int), .slice A3 (L - hh) cap3]) (Nat.le_refl _) Hb3.out.size) Hc13.out.1); clear hown hb3)
      | fail)
    go_wp2_with fail
    refine ret_cell2 rfl _ _ _ _ rfl (HBk.out.setRow #[.int .i64 (n0 : Int), .int .i64 (n2 : Int), .int .u32 (n4 : Int), .int .u32 (n8 : Int), .int .i64 (m13 : Int), .int .i64 (n14 : Int), .int .i64 (ms : Int), .slice A3 (L - hh) cap3]) Try.underlying30 seginfo _ rfl rfl ?_
    exact ⟨_, rfl, (ownBs_store Hown.out HBk.out (by decide) (grown_setRow w3 w.heap.size #[.int .i64 (n0 : Int), .int .i64 (n2 : Int), .int .u32 (n4 : Int), .int .u32 (n8 : Int), .int .i64 (m13 : Int), .int .i64 (n14 : Int), .int .i64 (ms : Int), .slice A3 (L - hh) cap3])).mono Hb1.out.size, below_own Hb3.out (grown_setRow _ _ _) (Nat.le_refl _) Hb3.out.size⟩
end Go.Proofs.Ytahlcjkcdgahkaa
