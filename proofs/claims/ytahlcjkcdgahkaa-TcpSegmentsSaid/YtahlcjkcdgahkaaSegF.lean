/- Contract of the document's Parse. -/
import Derived.Test.YtahlcjkcdgahkaaSegE
import Derived.Test.YtahlcjkcdgahkaaSegR
import Derived.Test.YtahlcjkcdgahkaaTcpD
import Derived.Deep.RegionHeld3
import Derived.Laws.BitsAllLaws
namespace Go.Proofs.Ytahlcjkcdgahkaa
open Go Go.RowKit
attribute [local go_sem ↓] Go.wp_at_zero Go.wp_at_succ
set_option maxRecDepth 100000

theorem rseginfo : (Try.prog.info? 51).map (·.size) = some 8 := by kernel_rfl
theorem lays_rseg (s0 s1 s2 s3 s4 s5 s6 : Int) (A : Option Addr) (n c : Nat) : Lays Try.prog 51 #[.int .i64 s0, .int .i64 s1, .int .u32 s2, .int .u32 s3, .int .i64 s4, .int .i64 s5, .int .i64 s6, .slice A n c] := ⟨rseginfo, by simp [Value.oneCell']⟩
theorem fold_rseg (x y : Value) : Instr.storeAt 51 x y = storeG 51 x y := rfl
attribute [local go_sem ↓] fold_rseg
attribute [local go_sem] storeG_run lays_rseg
theorem segHead_len12 (src dst n : Nat) : (segHead src dst n).length = 12 := by simp [segHead, beBytes_len]
set_option maxHeartbeats 8000000 in
theorem rparse_any (v : Value) (b : List UInt8) (src dst : Nat) (w : World) (h : Bs w v b) (hl : b.length ≤ 900000000) (hs : src < 4294967296) (hd : dst < 4294967296) :
    Calls Try.prog 32 #[.int .u32 src, .int .u32 dst, v] w fun e w' => ∃ v', e = .returned (.tuple #[.agg ((segParse src dst b).1.cells v').toArray, .int .i64 (segParse src dst b).2]) ∧ OwnBs w' w.heap.size 5 v' (segParse src dst b).1.data ∧ Below w.heap.size w w' := by
  have Hb := hid h
  obtain ⟨L, hL⟩ : ∃ n, b.length = n := ⟨_, rfl⟩
  obtain ⟨A, cap, rfl⟩ := slice_len h hL
  have HL := hid hL
  rw [hL] at hl
  clear h
  have HBk := hid (Blk.new w 51 #[.int .i64 0, .int .i64 0, .int .u32 0, .int .u32 0, .int .i64 0, .int .i64 0, .int .i64 0, .slice none 0 0])
  by_cases hl20 : L < 20
  · have Hr := hid (show segParse src dst b = (seg0, 11) by unfold segParse; rw [if_pos (by omega)])
    have hl' : (L : Int) < 20 := by omega
    rw [Hr.out]
    dsimp only [TSeg.cells, seg0]
    clear hL
    go_enter Try.func32, Try.ntmps32
    go_wp2_with ((with_reducible show wpList _ _ _ (Oper.mk none _ _ _ _ _ :: _) _ _); refine wpList_storeBlk rfl _ _ _ rfl _ _ rfl rfl _ _ (HBk.out) rseginfo rfl rfl ?_; intro w9 hblk9 hg9 hsz9)
    refine ret_cell2 rfl _ _ _ _ rfl hblk9 Try.underlying51 rseginfo _ rfl rfl ?_
    exact ⟨_, rfl, OwnBs.nil _ _ _, below_own (below_alloc w _) hg9 (Nat.le_refl _) (by simp)⟩
  have hl' : ¬ (L : Int) < 20 := by omega
  have h12 : 12 < b.length := by omega
  have h13 : 13 < b.length := by omega
  obtain ⟨A0, o0, rfl, hc12⟩ := cell_of Hb.out h12
  obtain ⟨A9, o9, e9, hc13⟩ := cell_of Hb.out h13
  injection e9 with e9
  injection e9 with e91 e92
  subst e91; subst e92
  have e12 : b.getD 12 0 = b[12] := by simp [List.getD, h12]
  have e13 : b.getD 13 0 = b[13] := by simp [List.getD, h13]
  obtain ⟨x12, hx12⟩ : ∃ x, b[12].toNat = x := ⟨_, rfl⟩
  obtain ⟨x13, hx13⟩ : ∃ x, b[13].toNat = x := ⟨_, rfl⟩
  have hx12l : x12 < 256 := by rw [← hx12]; exact b[12].toNat_lt
  have hx13l : x13 < 256 := by rw [← hx13]; exact b[13].toNat_lt
  rw [hx12] at hc12
  rw [hx13] at hc13
  have c12 : (w.alloc (.cells #[.int .i64 0, .int .i64 0, .int .u32 0, .int .u32 0, .int .i64 0, .int .i64 0, .int .i64 0, .slice none 0 0] 51)).cell? ⟨A0, o0 + 12, none⟩ = some (.int .u8 (x12 : Int)) := cell_below (below_alloc w _) hc12
  obtain ⟨hh, hhh⟩ : ∃ n, x12 / 16 * 4 = n := ⟨_, rfl⟩
  have hhI : (x12 : Int) / 16 * 4 = (hh : Int) := by omega
  have hh60 : hh ≤ 60 := by omega
  obtain ⟨sm, hsm⟩ : ∃ n, segSum src dst b = n := ⟨_, rfl⟩
  have hsm16 : sm ≤ 65535 := by rw [← hsm]; unfold segSum inet; omega
  have Hp := hid (show segParse src dst b = if hh < 20 then (seg0, (15 : Int)) else if L < hh then (seg0, (11 : Int)) else if sm ≠ 0 then (seg0, 13) else match segOpts (segMore b hh).length (segMore b hh) 0 0 with | none => (seg0, 15) | some m => (segRead b hh m, 0) by
    unfold segParse
    rw [if_neg (by omega), e12, hx12, hhh, hsm, hL]
    rfl)
  have Hsm := hid (show inet (segHead src dst L ++ b) = sm by rw [← hsm, ← hL]; rfl)
  have Hc13 := hid (And.intro hc13 (e13.symm ▸ hx13 : (b.getD 13 0).toNat = x13))
  clear hc12 hc13 e12 e13 hx12 hx13 hsm hL h12 h13 hhh
  by_cases c1 : hh < 20
  · have Hr := hid (show segParse src dst b = (seg0, 15) by rw [Hp.out, if_pos c1])
    rw [Hr.out]
    dsimp only [TSeg.cells, seg0]
    have c1' : (hh : Int) < 20 := by omega
    go_enter Try.func32, Try.ntmps32
    go_wp2_with ((with_reducible show wpList _ _ _ (Oper.mk none _ _ _ _ _ :: _) _ _); refine wpList_storeBlk rfl _ _ _ rfl _ _ rfl rfl _ _ (HBk.out) rseginfo rfl rfl ?_; intro w9 hblk9 hg9 hsz9)
    refine ret_cell2 rfl _ _ _ _ rfl hblk9 Try.underlying51 rseginfo _ rfl rfl ?_
    exact ⟨_, rfl, OwnBs.nil _ _ _, below_own (below_alloc w _) hg9 (Nat.le_refl _) (by simp)⟩
  have c1' : ¬ (hh : Int) < 20 := by omega
  by_cases c2 : L < hh
  · have Hr := hid (show segParse src dst b = (seg0, 11) by rw [Hp.out, if_neg c1, if_pos c2])
    rw [Hr.out]
    dsimp only [TSeg.cells, seg0]
    have c2' : (L : Int) < (hh : Int) := by omega
    go_enter Try.func32, Try.ntmps32
    go_wp2_with ((with_reducible show wpList _ _ _ (Oper.mk none _ _ _ _ _ :: _) _ _); refine wpList_storeBlk rfl _ _ _ rfl _ _ rfl rfl _ _ (HBk.out) rseginfo rfl rfl ?_; intro w9 hblk9 hg9 hsz9)
    refine ret_cell2 rfl _ _ _ _ rfl hblk9 Try.underlying51 rseginfo _ rfl rfl ?_
    exact ⟨_, rfl, OwnBs.nil _ _ _, below_own (below_alloc w _) hg9 (Nat.le_refl _) (by simp)⟩
  have c2' : ¬ (L : Int) < (hh : Int) := by omega
  by_cases c3 : sm ≠ 0
  · have Hr := hid (show segParse src dst b = (seg0, 13) by rw [Hp.out, if_neg c1, if_neg c2, if_pos c3])
    rw [Hr.out]
    dsimp only [TSeg.cells, seg0]
    have c3' : ((sm : Int) != 0) = true := by simp; omega
    clear HBk
    go_enter Try.func32, Try.ntmps32
    go_wp2_with (first | (go_at_call 58; refine (rpseudo_any src dst L (w.alloc (.cells #[.int .i64 0, .int .i64 0, .int .u32 0, .int .u32 0, .int .i64 0, .int .i64 0, .int .i64 0, .slice none 0 0] 51)) hs hd (by omega)).mono ?_; rintro e w1 ⟨v1, rfl, hown, hb1⟩; have HB1 := hid hb1; have HO1 := hid (hown.mono (base' := w.heap.size + 1) (by simp)); clear hown hb1) | ((with_reducible show wpList _ _ _ (Oper.mk (some 35) _ _ _ _ _ :: _) _ _); refine wpList_app8 _ rfl _ _ 28 rfl (w.heap.size + 1) 5 u8ok _ (segHead src dst L) rfl HO1.out _ b rfl ((Hb.out.alloc _).below HB1.out) (by rw [segHead_len12, HL.out]; omega) (by have := HB1.out.size; simp at this; omega) ?_; intro v2 w2 hown hb2 hg2 hat2; have HB2 := hid ((HB1.out.mono (B' := w.heap.size + 1) (by simp)).trans hb2); have HO2 := hid hown; have HBk := hid ((Blk.new w 51 _).below HB2.out (Nat.lt_succ_self _)); have Hb1 := hid ((below_alloc w _).trans (HB2.out.mono (by omega))); clear hown hb2 hg2 hat2) | (go_at_call 57; refine (rinet_any _ (segHead src dst L ++ b) w2 HO2.out.bs (by rw [List.length_append, segHead_len12, HL.out]; omega)).mono ?_; rintro e w' ⟨rfl, rfl⟩; rw [Hsm.out]) | ((with_reducible show wpList _ _ _ (Oper.mk none _ _ _ _ _ :: _) _ _); refine wpList_storeBlk rfl _ _ _ rfl _ _ rfl rfl _ _ (HBk.out) rseginfo rfl rfl ?_; intro w9 hblk9 hg9 hsz9))
    refine ret_cell2 rfl _ _ _ _ rfl hblk9 Try.underlying51 rseginfo _ rfl rfl ?_
    exact ⟨_, rfl, OwnBs.nil _ _ _, below_own Hb1.out hg9 (Nat.le_refl _) Hb1.out.size⟩
  obtain rfl : sm = 0 := by omega
  have c3' : (((0 : Nat) : Int) != 0) = false := by simp
  have hml : (segMore b hh).length = hh - 20 := by unfold segMore; rw [List.length_take, List.length_drop, HL.out]; omega
  obtain ⟨R, hR⟩ : ∃ R, segOpts (segMore b hh).length (segMore b hh) 0 0 = R := ⟨_, rfl⟩
  obtain ⟨ii, hii, hz, hss, hby⟩ := info_parts u8info
  have hLc : L ≤ cap := by obtain ⟨_, _, _, hv, h1, _⟩ := Hb.out; injection hv with _ e8 e3; omega
  have cut1 := run_cut (P := Try.prog) (T := 28) Try.underlying28 hii (some ⟨A0, o0, none⟩) L cap .i64 .i64 20 (hh : Int) 20 (hh - 20) rfl (by omega) (by omega)
  have cut2 := run_cut_from (P := Try.prog) (T := 28) Try.underlying28 hii (some ⟨A0, o0, none⟩) L cap .i64 (hh : Int) hh (L - hh) rfl (by omega) (by omega)
  rw [hss] at cut1 cut2
  have HS1 := hid (show Bs w (.slice (cutA (some ⟨A0, o0, none⟩) cap 20 1) (hh - 20) (cap - 20)) (segMore b hh) from Bs.cut (l := 20) (k := hh - 20) Hb.out (by rw [HL.out]; omega))
  have HS2 := hid (show Bs w (.slice (cutA (some ⟨A0, o0, none⟩) cap hh 1) (L - hh) (cap - hh)) (b.drop hh) by have := Bs.cut (l := hh) (k := L - hh) Hb.out (by rw [HL.out]; omega); rwa [List.take_of_length_le (by rw [List.length_drop, HL.out]; omega)] at this)
  rw [hR] at Hp
  have HO := hid (fun wx (hx : Bs wx (.slice (cutA (some ⟨A0, o0, none⟩) cap 20 1) (hh - 20) (cap - 20)) (segMore b hh)) => ropts_any _ (segMore b hh) wx hx (by rw [hml]; omega) R hR)
  clear hii hz hss hby HBk hml hR
  cases R with
  | none =>
    have Hr := hid (show segParse src dst b = (seg0, 15) by rw [Hp.out, if_neg c1, if_neg c2, if_neg (by simp)])
    rw [Hr.out]
    dsimp only [TSeg.cells, seg0]
    go_enter Try.func32, Try.ntmps32
    go_wp2_with (first
      | (go_at_call 58; refine (rpseudo_any src dst L (w.alloc (.cells #[.int .i64 0, .int .i64 0, .int .u32 0, .int .u32 0, .int .i64 0, .int .i64 0, .int .i64 0, .slice none 0 0] 51)) hs hd (by omega)).mono ?_; rintro e w1 ⟨v1, rfl, hown, hb1⟩; have HB1 := hid hb1; have HO1 := hid (hown.mono (base' := w.heap.size + 1) (by simp)); clear hown hb1) | ((with_reducible show wpList _ _ _ (Oper.mk (some 35) _ _ _ _ _ :: _) _ _); refine wpList_app8 _ rfl _ _ 28 rfl (w.heap.size + 1) 5 u8ok _ (segHead src dst L) rfl HO1.out _ b rfl ((Hb.out.alloc _).below HB1.out) (by rw [segHead_len12, HL.out]; omega) (by have := HB1.out.size; simp at this; omega) ?_; intro v2 w2 hown hb2 hg2 hat2; have HB2 := hid ((HB1.out.mono (B' := w.heap.size + 1) (by simp)).trans hb2); have HO2 := hid hown; have HBk := hid ((Blk.new w 51 _).below HB2.out (Nat.lt_succ_self _)); have Hb1 := hid ((below_alloc w _).trans (HB2.out.mono (by omega))); clear hown hb2 hg2 hat2) | (go_at_call 57; refine (rinet_any _ (segHead src dst L ++ b) w2 HO2.out.bs (by rw [List.length_append, segHead_len12, HL.out]; omega)).mono ?_; rintro e w' ⟨rfl, rfl⟩; rw [Hsm.out])
      | (go_at_call 59; refine (HO.out _ (HS1.out.below Hb1.out)).mono ?_; rintro e w' ⟨rfl, hww⟩; subst w'; dsimp only [optAnsR])
      | ((with_reducible show wpList _ _ _ (Oper.mk none _ _ _ _ _ :: _) _ _); refine wpList_storeBlk rfl _ _ _ rfl _ _ rfl rfl _ _ (HBk.out) rseginfo rfl rfl ?_; intro w9 hblk9 hg9 hsz9))
    refine ret_cell2 rfl _ _ _ _ rfl hblk9 Try.underlying51 rseginfo _ rfl rfl ?_
    exact ⟨_, rfl, OwnBs.nil _ _ _, below_own Hb1.out hg9 (Nat.le_refl _) Hb1.out.size⟩
  | some ms =>
    have Hr := hid (show segParse src dst b = (segRead b hh ms, 0) by rw [Hp.out, if_neg c1, if_neg c2, if_neg (by simp)])
    rw [Hr.out]
    dsimp only [TSeg.cells, segRead]
    rw [Hc13.out.2]
    obtain ⟨n0, h0⟩ : ∃ n, sAt b 0 2 = n := ⟨_, rfl⟩
    obtain ⟨n2, h2⟩ : ∃ n, sAt b 2 2 = n := ⟨_, rfl⟩
    obtain ⟨n4, h4⟩ : ∃ n, sAt b 4 4 = n := ⟨_, rfl⟩
    obtain ⟨n8, h8⟩ : ∃ n, sAt b 8 4 = n := ⟨_, rfl⟩
    obtain ⟨n14, h14⟩ : ∃ n, sAt b 14 2 = n := ⟨_, rfl⟩
    have l4 : n4 < 4294967296 := by rw [← h4]; exact sAt_lt b 4 4
    have l8 : n8 < 4294967296 := by rw [← h8]; exact sAt_lt b 8 4
    obtain ⟨m13, hm13⟩ : ∃ n, x13 % 32 = n := ⟨_, rfl⟩
    have hm32 : m13 < 32 := by omega
    have hcv : IntKind.i64.wrap (m13 : Int) = (m13 : Int) := IntWalk.i64_in _ (by omega)
    have hw4 : IntKind.u32.wrap (n4 : Int) = (n4 : Int) := by simp [IntKind.wrap, IntKind.bits, IntKind.signed]; omega
    have hw8 : IntKind.u32.wrap (n8 : Int) = (n8 : Int) := by simp [IntKind.wrap, IntKind.bits, IntKind.signed]; omega
    have hbit : bits .and .u8 (x13 : Int) 31 = (m13 : Int) := by
      rw [show (31 : Int) = ((31 : Nat) : Int) from rfl, u8_and_nat _ _ hx13l (by decide), show (31 : Nat) = 2 ^ 5 - 1 from rfl, Nat.and_two_pow_sub_one_eq_mod, ← hm13]
    have hL9 : b.length ≤ 1099511627776 := by rw [HL.out]; omega
    have hL16 : 16 ≤ b.length := by rw [HL.out]; omega
    have HA0 := hid (fun wx (hx : Bs wx (.slice (some ⟨A0, o0, none⟩) L cap) b) => rtat_any _ b 0 2 n0 0 2 wx hx rfl rfl (.inl rfl) (by omega) h0 hL9)
    have HA2 := hid (fun wx (hx : Bs wx (.slice (some ⟨A0, o0, none⟩) L cap) b) => rtat_any _ b 2 2 n2 2 2 wx hx rfl rfl (.inl rfl) (by omega) h2 hL9)
    have HA4 := hid (fun wx (hx : Bs wx (.slice (some ⟨A0, o0, none⟩) L cap) b) => rtat_any _ b 4 4 n4 4 4 wx hx rfl rfl (.inr rfl) (by omega) h4 hL9)
    have HA8 := hid (fun wx (hx : Bs wx (.slice (some ⟨A0, o0, none⟩) L cap) b) => rtat_any _ b 8 4 n8 8 4 wx hx rfl rfl (.inr rfl) (by omega) h8 hL9)
    have HA14 := hid (fun wx (hx : Bs wx (.slice (some ⟨A0, o0, none⟩) L cap) b) => rtat_any _ b 14 2 n14 14 2 wx hx rfl rfl (.inl rfl) (by omega) h14 hL9)
    have Hdl := hid (show (b.drop hh).length = L - hh by rw [List.length_drop, HL.out])
    rw [h0, h2, h4, h8, h14, hm13]
    clear h0 h2 h4 h8 h14 hm13 hL9 hL16 Hr Hp
    generalize b.drop hh = tl at *
    go_enter Try.func32, Try.ntmps32
    go_upto_region 13 with (first
      | (go_at_call 58; refine (rpseudo_any src dst L (w.alloc (.cells #[.int .i64 0, .int .i64 0, .int .u32 0, .int .u32 0, .int .i64 0, .int .i64 0, .int .i64 0, .slice none 0 0] 51)) hs hd (by omega)).mono ?_; rintro e w1 ⟨v1, rfl, hown, hb1⟩; have HB1 := hid hb1; have HO1 := hid (hown.mono (base' := w.heap.size + 1) (by simp)); clear hown hb1) | ((with_reducible show wpList _ _ _ (Oper.mk (some 35) _ _ _ _ _ :: _) _ _); refine wpList_app8 _ rfl _ _ 28 rfl (w.heap.size + 1) 5 u8ok _ (segHead src dst L) rfl HO1.out _ b rfl ((Hb.out.alloc _).below HB1.out) (by rw [segHead_len12, HL.out]; omega) (by have := HB1.out.size; simp at this; omega) ?_; intro v2 w2 hown hb2 hg2 hat2; have HB2 := hid ((HB1.out.mono (B' := w.heap.size + 1) (by simp)).trans hb2); have HO2 := hid hown; have HBk := hid ((Blk.new w 51 _).below HB2.out (Nat.lt_succ_self _)); have Hb1 := hid ((below_alloc w _).trans (HB2.out.mono (by omega))); clear hown hb2 hg2 hat2) | (go_at_call 57; refine (rinet_any _ (segHead src dst L ++ b) w2 HO2.out.bs (by rw [List.length_append, segHead_len12, HL.out]; omega)).mono ?_; rintro e w' ⟨rfl, rfl⟩; rw [Hsm.out])
      | (go_at_call 59; refine (HO.out _ (HS1.out.below Hb1.out)).mono ?_; rintro e w' ⟨rfl, hww⟩; subst w'; dsimp only [optAnsR]))
    have ix13 : (13 : Int) < (L : Int) := by omega
    have hBs : Bs w2 (.slice (some ⟨A0, o0, none⟩) L cap) b := Hb.out.below Hb1.out
    have hB2 := HS2.out.below Hb1.out
    have q13 : w2.cell? ⟨A0, o0 + 13, none⟩ = some (.int .u8 (x13 : Int)) := cell_below Hb1.out Hc13.out.1
    go_region_held3 (fun wy => wy.cell? ⟨A0, o0 + 13, none⟩ = some (.int .u8 (x13 : Int))) (first | exact q13 | exact cell_below (below_drew _) q13 | exact cell_below (below_alloc' (below_drew w2) _) q13 | exact Q13.out | exact HS3.out) (first
      | (go_at_call 60; (with_reducible refine (HA0.out _ (by (repeat (first | (with_reducible exact hBs) | (with_reducible refine Bs.drew ?_) | (with_reducible refine Bs.drewN ?_ _) | (with_reducible refine Bs.alloc ?_ _))))).mono ?_); rintro e w' ⟨rfl, rfl⟩)
      | (go_at_call 60; (with_reducible refine (HA2.out _ (by (repeat (first | (with_reducible exact hBs) | (with_reducible refine Bs.drew ?_) | (with_reducible refine Bs.drewN ?_ _) | (with_reducible refine Bs.alloc ?_ _))))).mono ?_); rintro e w' ⟨rfl, rfl⟩)
      | (go_at_call 60; (with_reducible refine (HA4.out _ (by (repeat (first | (with_reducible exact hBs) | (with_reducible refine Bs.drew ?_) | (with_reducible refine Bs.drewN ?_ _) | (with_reducible refine Bs.alloc ?_ _))))).mono ?_); rintro e w' ⟨rfl, rfl⟩)
      | (go_at_call 60; (with_reducible refine (HA8.out _ (by (repeat (first | (with_reducible exact hBs) | (with_reducible refine Bs.drew ?_) | (with_reducible refine Bs.drewN ?_ _) | (with_reducible refine Bs.alloc ?_ _))))).mono ?_); rintro e w' ⟨rfl, rfl⟩)
      | (go_at_call 60; (with_reducible refine (HA14.out _ (by (repeat (first | (with_reducible exact hBs) | (with_reducible refine Bs.drew ?_) | (with_reducible refine Bs.drewN ?_ _) | (with_reducible refine Bs.alloc ?_ _))))).mono ?_); rintro e w' ⟨rfl, rfl⟩)
      | (refine step_app8 _ (by rfl) _ _ 28 (by rfl) (w.heap.size + 1) 5 u8ok (.slice (some ⟨_, 0, none⟩) 0 0) [] (by rfl) (by exact ownBs_litNil rfl (by have := HB2.out.size; simp at this; exact this)) (.slice (cutA (some ⟨A0, o0, none⟩) cap hh 1) (L - hh) (cap - hh)) tl (by rfl) (by exact (hB2.drew).alloc _) (by rw [Hdl.out]; simp; omega) (by have := HB2.out.size; simp at this; (try simp); omega) ?_; intro v3 w3 hown hb3 hg3; rw [List.nil_append] at hown; have HB3 := hid (HB2.out.trans (((Below.refl (w.heap.size + 1) w2).drew.alloc (by have := HB2.out.size; simp at this; exact this) _).trans hb3)); have Hb3 := hid ((below_alloc w _).trans (HB3.out.mono (by omega))); have Hown := hid hown; have HBk := hid ((Blk.new w 51 _).below HB3.out (Nat.lt_succ_self _)); have Q13 := hid (cell_below Hb3.out Hc13.out.1); obtain ⟨A3, cap3, rfl⟩ := slice_len hown.bs Hdl.out; have hroom : RoomFor w3 w.heap.size 8 := HBk.out.room; have HS3 := hid (cell_below (below_own Hb3.out (grown_setRow w3 w.heap.size #[.int .i64 (n0 : Int), .int .i64 (n2 : Int), .int .u32 (n4 : Int), .int .u32 (n8 : Int), .int .i64 (m13 : Int), .int .i64 (n14 : Int), .int .i64 (ms : Int), .slice A3 (L - hh) cap3]) (Nat.le_refl _) Hb3.out.size) Hc13.out.1); clear hown hb3 hg3)
      | fail)
    all_goals
      go_wp2_with fail
      refine ret_cell2 rfl _ _ _ _ rfl (HBk.out.setRow #[.int .i64 (n0 : Int), .int .i64 (n2 : Int), .int .u32 (n4 : Int), .int .u32 (n8 : Int), .int .i64 (m13 : Int), .int .i64 (n14 : Int), .int .i64 (ms : Int), .slice A3 (L - hh) cap3]) Try.underlying51 rseginfo _ rfl rfl ?_
      exact ⟨_, rfl, (ownBs_store (Hown.out.mono (by omega)) HBk.out (by decide) (grown_setRow w3 w.heap.size #[.int .i64 (n0 : Int), .int .i64 (n2 : Int), .int .u32 (n4 : Int), .int .u32 (n8 : Int), .int .i64 (m13 : Int), .int .i64 (n14 : Int), .int .i64 (ms : Int), .slice A3 (L - hh) cap3])), below_own Hb3.out (grown_setRow _ _ _) (Nat.le_refl _) Hb3.out.size⟩
end Go.Proofs.Ytahlcjkcdgahkaa
