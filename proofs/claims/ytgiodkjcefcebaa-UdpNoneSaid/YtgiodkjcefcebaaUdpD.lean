/- Contract of the document's Parse of a datagram. -/
import Derived.Test.YtgiodkjcefcebaaUdpC
import Derived.Test.YtgiodkjcefcebaaRegion
import Derived.Deep.RegionHeld3
import Derived.Deep.Cut
import Derived.Deep.CutRange
namespace Go.Proofs.Ytgiodkjcefcebaa
open Go Go.RowKit
attribute [local go_sem ↓] Go.wp_at_zero Go.wp_at_succ

theorem u16at_eq (b : List UInt8) (i : Nat) (h : i + 1 < b.length) : u16at b i = b[i].toNat * 256 + b[i + 1].toNat := by
  unfold u16at
  rw [List.drop_eq_getElem_cons (by omega), List.drop_eq_getElem_cons (by omega)]
  simp only [List.take_succ_cons, List.take_zero, beVal, List.foldl_cons, List.foldl_nil]
  omega

theorem rbe2 (v : Value) (b : List UInt8) (i n : Nat) (p : Int) (w : World) (h : Bs w v b) (hp : p = i) (hi : i + 2 ≤ b.length) (hn : u16at b i = n) :
    Calls Try.prog 16 #[v, .int .i64 p] w fun e w' => e = .returned (.int .i64 (n : Int)) ∧ ∃ m, w' = w.drewN m := by
  subst hp
  obtain ⟨A, cap, rfl, k1, k2, _⟩ := h.cells
  obtain ⟨_, _, _, h3⟩ := Bs.open h
  clear h
  rcases h3 with h3 | ⟨g, off, rfl, hc⟩
  · omega
  have hc0 := hc i (by omega)
  have hc1 := hc (i + 1) (by omega)
  rw [u16at_eq b i (by omega)] at hn
  have x0 := b[i].toNat_lt
  have x1 := b[i + 1].toNat_lt
  unfold u8v at hc0 hc1
  clear hc
  generalize b[i].toNat = x at *
  generalize b[i + 1].toNat = y at *
  have H := hid hn; clear hn
  have w1 : IntKind.i64.wrap (256 * (x : Int)) = 256 * (x : Int) := IntWalk.i64_in _ (by omega)
  have w2 : IntKind.i64.wrap (256 * (x : Int) + (y : Int)) = 256 * (x : Int) + (y : Int) := IntWalk.i64_in _ (by omega)
  have w3 : IntKind.i64.wrap ((i : Int) + 1) = (i : Int) + 1 := IntWalk.i64_in _ (by omega)
  have q1 : (0 : Int) ≤ (i : Int) := by omega
  have q2 : (i : Int) < (b.length : Int) := by omega
  have q3 : (0 : Int) ≤ (i : Int) + 1 := by omega
  have q4 : (i : Int) + 1 < (b.length : Int) := by omega
  go_enter Try.func16, Try.ntmps16
  go_wp2_with fail
  go_quiet (fail)
  go_wp2_with fail
  go_ret
  exact ⟨ret_int (by have := H.out; omega), _, rfl⟩
theorem rbe2b (v : Value) (b : List UInt8) (i n : Nat) (p : Int) (w : World) (h : Bs w v b) (hp : p = i) (hi : i + 2 ≤ b.length) (hn : u16at b i = n) :
    Calls Try.prog 16 #[v, .int .i64 p] w fun e w' => e = .returned (.int .i64 (n : Int)) ∧ Below w.heap.size w w' :=
  (rbe2 v b i n p w h hp hi hn).mono fun _ _ ⟨he, m, hm⟩ => ⟨he, hm ▸ below_drewN (Below.refl _ _) m⟩

theorem rdginfo : (Try.prog.info? 30).map (·.size) = some 3 := by kernel_rfl

set_option maxHeartbeats 2000000 in
theorem rparse_any (v : Value) (b : List UInt8) (src dst : Nat) (w : World) (h : Bs w v b) (hlen : b.length ≤ 1099511627776) (hs : src < 4294967296) (hd : dst < 4294967296) :
    Calls Try.prog 8 #[.int .u32 src, .int .u32 dst, v] w fun e w' => ∃ v', e = .returned (.tuple #[.agg #[.int .i64 ((udpParse src dst b).1.1 : Int), .int .i64 ((udpParse src dst b).1.2.1 : Int), v'], .int .i64 (udpParse src dst b).2]) ∧
      OwnBs w' w.heap.size 5 v' (udpParse src dst b).1.2.2 ∧ Below w.heap.size w w' := by
  have Hb := hid h
  obtain ⟨A, cap, rfl, k1, k2, _⟩ := h.cells
  clear h
  by_cases hl8 : b.length < 8
  · have Hr := hid (show udpParse src dst b = ((0, 0, []), 11) by simp [udpParse, hl8])
    have hl8' : (b.length : Int) < 8 := by omega
    rw [Hr.out]
    go_enter Try.func8, Try.ntmps8
    go_wp2_with fail
    refine ret_cell2 rfl _ _ _ _ rfl (Blk.new _ _ _) Try.underlying30 rdginfo _ rfl rfl ?_
    exact ⟨_, rfl, OwnBs.nil _ _ _, below_alloc _ _⟩
  have hg8 : ¬ (b.length : Int) < 8 := by omega
  obtain ⟨n0, e0⟩ : ∃ n, u16at b 0 = n := ⟨_, rfl⟩
  obtain ⟨n2, e2⟩ : ∃ n, u16at b 2 = n := ⟨_, rfl⟩
  obtain ⟨n4, e4⟩ : ∃ n, u16at b 4 = n := ⟨_, rfl⟩
  obtain ⟨n6, e6⟩ : ∃ n, u16at b 6 = n := ⟨_, rfl⟩
  have q0 : n0 ≤ 65535 := e0 ▸ u16at_lt b 0
  have q2 : n2 ≤ 65535 := e2 ▸ u16at_lt b 2
  have q4 : n4 ≤ 65535 := e4 ▸ u16at_lt b 4
  have q6 : n6 ≤ 65535 := e6 ▸ u16at_lt b 6
  have E0 := hid e0; have E2 := hid e2; have E4 := hid e4; have E6 := hid e6
  have Hp := hid (show udpParse src dst b = if n4 < 8 then ((0, 0, []), 15) else if b.length < n4 then ((0, 0, []), 11) else if n6 ≠ 0 ∧ n6 ≠ udpSum src dst (b.take n4) then ((0, 0, []), 13) else ((n0, n2, (b.take n4).drop 8), 0) by
    unfold udpParse; rw [if_neg hl8, e0, e2, e4, e6])
  clear e0 e2 e4 e6
  by_cases h4 : n4 < 8
  · have Hr := hid (show udpParse src dst b = ((0, 0, []), 15) by rw [Hp.out, if_pos h4])
    have h4' : (n4 : Int) < 8 := by omega
    rw [Hr.out]
    go_enter Try.func8, Try.ntmps8
    go_wp2_with (first | ((go_at_call 16; (with_reducible refine (rbe2b _ b 4 n4 4 _ (Hb.out.alloc _) (by omega) (by omega) E4.out).mono ?_); rintro e w' ⟨rfl, hb4⟩); have Hblk4 := hid ((Blk.new w _ _).keep hb4); have Hb4 := hid ((below_alloc w _).trans (hb4.mono (by simp))); clear hb4) | ((with_reducible show wpList _ _ _ (Oper.mk none _ _ _ _ _ :: _) _ _); refine wpList_storeBlk rfl _ _ _ rfl _ _ rfl rfl _ _ Hblk4.out rdginfo rfl rfl ?_; intro w9 hblk9 hg9 hsz9))
    refine ret_cell2 rfl _ _ _ _ rfl hblk9 Try.underlying30 rdginfo _ rfl rfl ?_
    exact ⟨_, rfl, OwnBs.nil _ _ _, below_own Hb4.out hg9 (Nat.le_refl _) Hb4.out.size⟩
  have h4' : ¬ (n4 : Int) < 8 := by omega
  by_cases hsh : b.length < n4
  · have Hr := hid (show udpParse src dst b = ((0, 0, []), 11) by rw [Hp.out, if_neg h4, if_pos hsh])
    rw [Hr.out]
    go_enter Try.func8, Try.ntmps8
    go_wp2_with (first | ((go_at_call 16; (with_reducible refine (rbe2b _ b 4 n4 4 _ (Hb.out.alloc _) (by omega) (by omega) E4.out).mono ?_); rintro e w' ⟨rfl, hb4⟩); have Hblk4 := hid ((Blk.new w _ _).keep hb4); have Hb4 := hid ((below_alloc w _).trans (hb4.mono (by simp))); clear hb4) | ((with_reducible show wpList _ _ _ (Oper.mk none _ _ _ _ _ :: _) _ _); refine wpList_storeBlk rfl _ _ _ rfl _ _ rfl rfl _ _ Hblk4.out rdginfo rfl rfl ?_; intro w9 hblk9 hg9 hsz9))
    refine ret_cell2 rfl _ _ _ _ rfl hblk9 Try.underlying30 rdginfo _ rfl rfl ?_
    exact ⟨_, rfl, OwnBs.nil _ _ _, below_own Hb4.out hg9 (Nat.le_refl _) Hb4.out.size⟩
  obtain ⟨ii, hii, hz, hss, hby⟩ := info_parts u8info
  have c1 := run_cut_to (P := Try.prog) (T := 23) Try.underlying23 hii A b.length cap .i64 n4 n4 rfl (by omega)
  have c3 := run_cut (P := Try.prog) (T := 23) Try.underlying23 hii A b.length cap .i64 .i64 8 n4 8 (n4 - 8) rfl (by omega) (by omega)
  rw [hss] at c1 c3
  clear hii hz hss hby
  have B1 := hid (show Bs w (.slice (cutA A cap 0 1) n4 cap) (b.take n4) by have := Bs.cut (l := 0) (k := n4) Hb.out (by omega); simpa using this)
  have B3 := hid (show Bs w (.slice (cutA A cap 8 1) (n4 - 8) (cap - 8)) ((b.take n4).drop 8) by have := Bs.cut (l := 8) (k := n4 - 8) Hb.out (by omega); rwa [← List.drop_take] at this)
  have hlt := hid (show (b.take n4).length = n4 by simp; omega)
  have hld := hid (show ((b.take n4).drop 8).length = n4 - 8 by simp; omega)
  generalize (b.take n4).drop 8 = data at *
  obtain ⟨S, hS⟩ : ∃ S, udpSum src dst (b.take n4) = S := ⟨_, rfl⟩
  have HS := hid hS; clear hS
  rw [HS.out] at Hp
  have hS16 : S ≤ 65535 := by rw [← HS.out]; unfold udpSum inet; simp only; split <;> omega
  by_cases hbad : n6 ≠ 0 ∧ n6 ≠ S
  · have Hr := hid (show udpParse src dst b = ((0, 0, []), 13) by rw [Hp.out, if_neg h4, if_neg hsh, if_pos hbad])
    have hne : ((n6 : Int) != 0) = true := by simp; omega
    have hne2 : ((n6 : Int) != (S : Int)) = true := by simp; omega
    clear hbad
    rw [Hr.out]
    go_enter Try.func8, Try.ntmps8
    go_wp2_with (first | ((go_at_call 16; (with_reducible refine (rbe2b _ b 4 n4 4 _ (Hb.out.alloc _) (by omega) (by omega) E4.out).mono ?_); rintro e w' ⟨rfl, hb4⟩); have Hblk4 := hid ((Blk.new w _ _).keep hb4); have Hb4 := hid ((below_alloc w _).trans (hb4.mono (by simp))); clear hb4) | ((go_at_call 16; (with_reducible refine (rbe2b _ b 6 n6 6 _ (Hb.out.below Hb4.out) (by omega) (by omega) E6.out).mono ?_); rintro e w' ⟨rfl, hb6⟩); have Hblk6 := hid (Hblk4.out.keep hb6); have Hb6 := hid (Hb4.out.trans (hb6.mono Hb4.out.size)); clear hb6) | ((go_at_call 17; refine (rsum_any _ (b.take n4) src dst _ (B1.out.below Hb6.out) (by have := hlt.out; omega) (by have := hlt.out; omega) hs hd).mono ?_; rintro e w' ⟨rfl, hb7⟩); rw [HS.out]; have Hblk7 := hid (Hblk6.out.keep hb7); have Hb7 := hid (Hb6.out.trans (hb7.mono Hb6.out.size)); clear hb7) | ((with_reducible show wpList _ _ _ (Oper.mk none _ _ _ _ _ :: _) _ _); refine wpList_storeBlk rfl _ _ _ rfl _ _ rfl rfl _ _ Hblk7.out rdginfo rfl rfl ?_; intro w9 hblk9 hg9 hsz9))
    refine ret_cell2 rfl _ _ _ _ rfl hblk9 Try.underlying30 rdginfo _ rfl rfl ?_
    exact ⟨_, rfl, OwnBs.nil _ _ _, below_own Hb7.out hg9 (Nat.le_refl _) Hb7.out.size⟩
  have Hr := hid (show udpParse src dst b = ((n0, n2, data), 0) by rw [Hp.out, if_neg h4, if_neg hsh, if_neg hbad])
  rw [Hr.out]
  by_cases hz6 : n6 = 0
  · have hne : ((n6 : Int) != 0) = false := by simp; omega
    clear hbad hz6
    go_enter Try.func8, Try.ntmps8
    go_upto_region 11 with (first | ((go_at_call 16; (with_reducible refine (rbe2b _ b 4 n4 4 _ (Hb.out.alloc _) (by omega) (by omega) E4.out).mono ?_); rintro e w' ⟨rfl, hb4⟩); have Hblk4 := hid ((Blk.new w _ _).keep hb4); have Hb4 := hid ((below_alloc w _).trans (hb4.mono (by simp))); clear hb4) | ((go_at_call 16; (with_reducible refine (rbe2b _ b 6 n6 6 _ (Hb.out.below Hb4.out) (by omega) (by omega) E6.out).mono ?_); rintro e w' ⟨rfl, hb6⟩); have Hblk6 := hid (Hblk4.out.keep hb6); have Hb6 := hid (Hb4.out.trans (hb6.mono Hb4.out.size)); clear hb6))
    clear hne
    obtain ⟨wr, hwr⟩ : ∃ x, x = w' := ⟨_, rfl⟩
    rw [← hwr] at Hb6 Hblk6 ⊢
    clear hwr
    have Hdl : data.length ≤ 65535 := by have := hld.out; omega
    go_region_law (first | (refine step_app8b _ (by rfl) _ _ 23 (by rfl) w.heap.size 5 u8ok (.slice (some ⟨wr.heap.size, 0, none⟩) 0 0) [] (by rfl) (by (repeat (first | (with_reducible exact ownBs_litNil (by simp) Hb6.out.size) | (with_reducible refine OwnBs.drew ?_) | (with_reducible refine OwnBs.drewN ?_ _) | (with_reducible refine OwnBs.alloc ?_ _)))) _ data (by rfl) (B3.out.below (by (repeat (first | (with_reducible exact Hb6.out) | (with_reducible exact Hb8.out) | (with_reducible refine below_alloc' ?_ _) | (with_reducible refine Below.drew ?_) | (with_reducible refine below_drewN ?_ _))))) (by simp; omega) w (by (repeat (first | (with_reducible exact Hb6.out) | (with_reducible exact Hb8.out) | (with_reducible refine below_alloc' ?_ _) | (with_reducible refine Below.drew ?_) | (with_reducible refine below_drewN ?_ _)))) (Nat.le_refl _) w.heap.size 30 [.int .i64 0, .int .i64 0, .slice none 0 0] (by (repeat (first | (with_reducible exact Hblk6.out) | (with_reducible exact Hblk8.out) | (with_reducible refine Blk.alloc ?_ _) | (with_reducible refine Blk.drew ?_) | (with_reducible refine Blk.drewN ?_ _)))) (by decide) ?_; rw [List.nil_append]; intro A3 cap3 w3 hown3 hb8 hblk8; have Hown3 := hid hown3; have Hb8 := hid hb8; have Hblk8 := hid hblk8; have hc0 : w3.cell? ⟨w.heap.size, 0, none⟩ = some (.int .i64 0) := hblk8.cell 0; have hc1 : w3.cell? ⟨w.heap.size, 1, none⟩ = some (.int .i64 0) := hblk8.cell 1; have hc2 : w3.cell? ⟨w.heap.size, 2, none⟩ = some (.slice none 0 0) := hblk8.cell 2; have hf0 := hblk8.frozen 0; have hf1 := hblk8.frozen 1; have hf2 := hblk8.frozen 2; clear hown3 hb8 hblk8) | (go_simp; (go_at_call 16; (with_reducible refine (rbe2 _ b 0 n0 0 _ (Hb.out.below (by (repeat (first | (with_reducible exact Hb6.out) | (with_reducible exact Hb8.out) | (with_reducible refine below_alloc' ?_ _) | (with_reducible refine Below.drew ?_) | (with_reducible refine below_drewN ?_ _))))) (by omega) (by omega) E0.out).mono ?_); rintro e w' ⟨rfl, m0, rfl⟩)) | (go_simp; (go_at_call 16; (with_reducible refine (rbe2 _ b 2 n2 2 _ (Hb.out.below (by (repeat (first | (with_reducible exact Hb6.out) | (with_reducible exact Hb8.out) | (with_reducible refine below_alloc' ?_ _) | (with_reducible refine Below.drew ?_) | (with_reducible refine below_drewN ?_ _))))) (by omega) (by omega) E2.out).mono ?_); rintro e w' ⟨rfl, m2, rfl⟩)))
    all_goals (obtain ⟨hblk9, hg9⟩ := set3 Hblk8.out (.int .i64 (n0 : Int)) (.int .i64 (n2 : Int)) (.slice A3 data.length cap3); go_wp2_with fail; refine ret_cell2 rfl _ _ _ _ rfl hblk9 Try.underlying30 rdginfo _ rfl rfl ?_; exact ⟨_, rfl, ownBs_store Hown3.out Hblk8.out (by decide) hg9, below_own Hb8.out hg9 (Nat.le_refl _) Hb8.out.size⟩)
  · have hne : ((n6 : Int) != 0) = true := by simp; omega
    have hne2 : ((n6 : Int) != (S : Int)) = false := by simp; omega
    clear hbad hz6
    go_enter Try.func8, Try.ntmps8
    go_upto_region 11 with (first | ((go_at_call 16; (with_reducible refine (rbe2b _ b 4 n4 4 _ (Hb.out.alloc _) (by omega) (by omega) E4.out).mono ?_); rintro e w' ⟨rfl, hb4⟩); have Hblk4 := hid ((Blk.new w _ _).keep hb4); have Hb4 := hid ((below_alloc w _).trans (hb4.mono (by simp))); clear hb4) | ((go_at_call 16; (with_reducible refine (rbe2b _ b 6 n6 6 _ (Hb.out.below Hb4.out) (by omega) (by omega) E6.out).mono ?_); rintro e w' ⟨rfl, hb6⟩); have Hblk6 := hid (Hblk4.out.keep hb6); have Hb6 := hid (Hb4.out.trans (hb6.mono Hb4.out.size)); clear hb6) | ((go_at_call 17; refine (rsum_any _ (b.take n4) src dst _ (B1.out.below Hb6.out) (by have := hlt.out; omega) (by have := hlt.out; omega) hs hd).mono ?_; rintro e w' ⟨rfl, hb7⟩); rw [HS.out]; have Hblk7 := hid (Hblk6.out.keep hb7); have Hb7 := hid (Hb6.out.trans (hb7.mono Hb6.out.size)); clear hb7))
    clear hne hne2
    obtain ⟨wr, hwr⟩ : ∃ x, x = w' := ⟨_, rfl⟩
    rw [← hwr] at Hb7 Hblk7 ⊢
    clear hwr Hb6 Hblk6
    have Hb6 := Hb7; have Hblk6 := Hblk7
    clear Hb7 Hblk7
    have Hdl : data.length ≤ 65535 := by have := hld.out; omega
    go_region_law (first | (refine step_app8b _ (by rfl) _ _ 23 (by rfl) w.heap.size 5 u8ok (.slice (some ⟨wr.heap.size, 0, none⟩) 0 0) [] (by rfl) (by (repeat (first | (with_reducible exact ownBs_litNil (by simp) Hb6.out.size) | (with_reducible refine OwnBs.drew ?_) | (with_reducible refine OwnBs.drewN ?_ _) | (with_reducible refine OwnBs.alloc ?_ _)))) _ data (by rfl) (B3.out.below (by (repeat (first | (with_reducible exact Hb6.out) | (with_reducible exact Hb8.out) | (with_reducible refine below_alloc' ?_ _) | (with_reducible refine Below.drew ?_) | (with_reducible refine below_drewN ?_ _))))) (by simp; omega) w (by (repeat (first | (with_reducible exact Hb6.out) | (with_reducible exact Hb8.out) | (with_reducible refine below_alloc' ?_ _) | (with_reducible refine Below.drew ?_) | (with_reducible refine below_drewN ?_ _)))) (Nat.le_refl _) w.heap.size 30 [.int .i64 0, .int .i64 0, .slice none 0 0] (by (repeat (first | (with_reducible exact Hblk6.out) | (with_reducible exact Hblk8.out) | (with_reducible refine Blk.alloc ?_ _) | (with_reducible refine Blk.drew ?_) | (with_reducible refine Blk.drewN ?_ _)))) (by decide) ?_; rw [List.nil_append]; intro A3 cap3 w3 hown3 hb8 hblk8; have Hown3 := hid hown3; have Hb8 := hid hb8; have Hblk8 := hid hblk8; have hc0 : w3.cell? ⟨w.heap.size, 0, none⟩ = some (.int .i64 0) := hblk8.cell 0; have hc1 : w3.cell? ⟨w.heap.size, 1, none⟩ = some (.int .i64 0) := hblk8.cell 1; have hc2 : w3.cell? ⟨w.heap.size, 2, none⟩ = some (.slice none 0 0) := hblk8.cell 2; have hf0 := hblk8.frozen 0; have hf1 := hblk8.frozen 1; have hf2 := hblk8.frozen 2; clear hown3 hb8 hblk8) | (go_simp; (go_at_call 16; (with_reducible refine (rbe2 _ b 0 n0 0 _ (Hb.out.below (by (repeat (first | (with_reducible exact Hb6.out) | (with_reducible exact Hb8.out) | (with_reducible refine below_alloc' ?_ _) | (with_reducible refine Below.drew ?_) | (with_reducible refine below_drewN ?_ _))))) (by omega) (by omega) E0.out).mono ?_); rintro e w' ⟨rfl, m0, rfl⟩)) | (go_simp; (go_at_call 16; (with_reducible refine (rbe2 _ b 2 n2 2 _ (Hb.out.below (by (repeat (first | (with_reducible exact Hb6.out) | (with_reducible exact Hb8.out) | (with_reducible refine below_alloc' ?_ _) | (with_reducible refine Below.drew ?_) | (with_reducible refine below_drewN ?_ _))))) (by omega) (by omega) E2.out).mono ?_); rintro e w' ⟨rfl, m2, rfl⟩)))
    all_goals (obtain ⟨hblk9, hg9⟩ := set3 Hblk8.out (.int .i64 (n0 : Int)) (.int .i64 (n2 : Int)) (.slice A3 data.length cap3); go_wp2_with fail; refine ret_cell2 rfl _ _ _ _ rfl hblk9 Try.underlying30 rdginfo _ rfl rfl ?_; exact ⟨_, rfl, ownBs_store Hown3.out Hblk8.out (by decide) hg9, below_own Hb8.out hg9 (Nat.le_refl _) Hb8.out.size⟩)
end Go.Proofs.Ytgiodkjcefcebaa
