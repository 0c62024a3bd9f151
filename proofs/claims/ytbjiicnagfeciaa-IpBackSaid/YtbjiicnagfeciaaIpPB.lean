/- Contract of ip.Parse. -/
import Derived.Test.YtbjiicnagfeciaaIpPA
import Derived.BigQuiet
import Derived.Deep.QuietTactic
import Derived.Deep.Cut
import Derived.Deep.CutRange
import Derived.Deep.RegionHeld3
import Derived.Deep.DrawnRows
namespace Go.Proofs.Ytbjiicnagfeciaa
open Go Go.RowKit
attribute [local go_sem ↓] Go.wp_at_zero Go.wp_at_succ
set_option maxRecDepth 100000

theorem u8_low (x : UInt8) : bits .and .u8 (x.toNat : Int) 15 = (x.toNat : Int) % 16 := by
  rw [show (15 : Int) = ((15 : Nat) : Int) from rfl, u8_and_nat _ _ x.toNat_lt (by decide), show (15 : Nat) = 2 ^ 4 - 1 from rfl, Nat.and_two_pow_sub_one_eq_mod]
  simp

theorem set9 {w : World} {g : Nat} {t : TypeId} {x0 x1 x2 x3 x4 x5 x6 x7 x8 : Value} (h : Blk w g t [x0, x1, x2, x3, x4, x5, x6, x7, x8]) (y0 y1 y2 y3 y4 y5 y6 y7 y8 : Value) :
    Blk (((((((((w.setCell ⟨g, 0, none⟩ y0).setCell ⟨g, 1, none⟩ y1).setCell ⟨g, 2, none⟩ y2).setCell ⟨g, 3, none⟩ y3).setCell ⟨g, 4, none⟩ y4).setCell ⟨g, 5, none⟩ y5).setCell ⟨g, 6, none⟩ y6).setCell ⟨g, 7, none⟩ y7).setCell ⟨g, 8, none⟩ y8) g t [y0, y1, y2, y3, y4, y5, y6, y7, y8] ∧
    w.grownBy (((((((((w.setCell ⟨g, 0, none⟩ y0).setCell ⟨g, 1, none⟩ y1).setCell ⟨g, 2, none⟩ y2).setCell ⟨g, 3, none⟩ y3).setCell ⟨g, 4, none⟩ y4).setCell ⟨g, 5, none⟩ y5).setCell ⟨g, 6, none⟩ y6).setCell ⟨g, 7, none⟩ y7).setCell ⟨g, 8, none⟩ y8) (some g) :=
  ⟨((((((((h.set_ 0 y0).set_ 1 y1).set_ 2 y2).set_ 3 y3).set_ 4 y4).set_ 5 y5).set_ 6 y6).set_ 7 y7).set_ 8 y8,
   grown_trans (grown_trans (grown_trans (grown_trans (grown_trans (grown_trans (grown_trans (grown_trans (grown_set _ _ _ _) (grown_set _ _ _ _)) (grown_set _ _ _ _)) (grown_set _ _ _ _)) (grown_set _ _ _ _)) (grown_set _ _ _ _)) (grown_set _ _ _ _)) (grown_set _ _ _ _)) (grown_set _ _ _ _)⟩
theorem far_cell {w : World} {p q : Addr} {u x : Value} (h : q.block ≠ p.block) (hx : w.cell? q = some x) : (w.setCell p u).cell? q = some x := by
  have e := Below.heap_setCell w p u q.block h
  simpa [World.cell?, e] using hx
theorem drew_cell {w : World} {q : Addr} {x : Value} (hx : w.cell? q = some x) : w.drew.cell? q = some x := hx
theorem below_of {w wx : World} {o : Obj} (h : Below (w.heap.size + 1) (w.alloc o) wx) : Below (w.alloc o).heap.size (w.alloc o) wx := by
  rw [World.size_alloc]; exact h
theorem nat_bit13 (n : Nat) : n &&& 2 ^ 13 = n / 2 ^ 13 % 2 * 2 ^ 13 := by
  have t : Nat.testBit n 13 = decide (n / 2 ^ 13 % 2 = 1) := Nat.testBit_eq_decide_div_mod_eq
  apply Nat.eq_of_testBit_eq
  intro j
  rw [Nat.testBit_and, Nat.testBit_two_pow]
  rcases Nat.mod_two_eq_zero_or_one (n / 2 ^ 13) with z | z
  · rw [z]
    by_cases hj : 13 = j
    · subst hj; rw [t, z]; simp
    · simp [hj]
  · rw [z, Nat.one_mul, Nat.testBit_two_pow]
    by_cases hj : 13 = j
    · subst hj; rw [t, z]; simp
    · simp [hj]
theorem i64_bit13 (n : Nat) : bits .and .i64 (n : Int) 8192 = ((n / 8192 % 2 * 8192 : Nat) : Int) := by
  have h13 : (BitVec.ofInt 64 8192).toNat = 2 ^ 13 := by decide
  have key : (BitVec.ofInt 64 (n : Int) &&& BitVec.ofInt 64 8192).toNat = n / 8192 % 2 * 8192 := by
    rw [BitVec.toNat_and, BitVec.toNat_ofInt, h13, nat_bit13]
    have e : ((n : Int) % ((2 ^ 64 : Nat) : Int)).toNat = n % 2 ^ 64 := by omega
    rw [e]
    omega
  show IntKind.i64.wrap ((BitVec.ofInt 64 (n : Int) &&& BitVec.ofInt 64 8192).toNat : Nat) = _
  rw [key, IntKind.wrap_i64]
  omega
theorem bs_to {w : World} {A : Option Addr} {n cap k : Nat} {b : List UInt8} (h : Bs w (.slice A n cap) b) (hk : k ≤ b.length) : Bs w (.slice A k cap) (b.take k) := by
  obtain ⟨hl, A', c, hv, k1, k2, hc⟩ := h
  injection hv with e1 e2 e3
  subst e1; subst e2; subst e3
  have hlen : (b.take k).length = k := by simp; omega
  refine ⟨by simp, A, cap, by rw [hlen], by rw [hlen]; omega, k2, ?_⟩
  rcases hc with hc | ⟨g, off, rfl, hc⟩
  · left; rw [hlen]; omega
  · right
    refine ⟨g, off, rfl, fun i x hx => hc i x ?_⟩
    rw [List.map_take] at hx
    have hi : i < k := by have := (List.getElem?_eq_some_iff.1 hx).1; simp at this; omega
    rwa [List.getElem?_take_of_lt hi] at hx

set_option maxHeartbeats 8000000 in
theorem ipParse_any (v : Value) (b : List UInt8) (w : World) (h : Bs w v b) (hl : b.length ≤ 1099511627776) :
    Calls Try.prog 22 #[v] w fun e w' => ∃ v', e = .returned (.tuple #[.agg (pkCells (ipParse b).1 v').toArray, .int .i64 (ipParse b).2]) ∧ OwnBs w' w.heap.size 5 v' (ipParse b).1.body ∧ Below w.heap.size w w' := by
  have Hb := hid h
  obtain ⟨A, cap, rfl, k1, k2, hc⟩ := h.cells
  clear h
  by_cases hl20 : b.length < 20
  · have Hr := hid (show ipParse b = (pk0, 11) by unfold ipParse; rw [if_pos hl20])
    have hl' : (b.length : Int) < 20 := by omega
    rw [Hr.out]
    dsimp only [pkCells, pk0]
    go_enter Try.func22, Try.ntmps22
    go_wp2_with fail
    refine ret_cell2 rfl _ _ _ _ rfl (Blk.new _ _ _) Try.underlying25 pkinfo _ rfl rfl ?_
    exact ⟨_, rfl, OwnBs.nil _ _ _, below_alloc _ _⟩
  have hl' : ¬ (b.length : Int) < 20 := by omega
  obtain ⟨g, off, rfl, _⟩ := hc 0 (by omega)
  have hcell : ∀ (i : Nat) (hi : i < b.length), w.cell? ⟨g, off + i, none⟩ = some (.int .u8 (b[i].toNat : Int)) := by
    intro i hi
    obtain ⟨g', off', e, hx⟩ := hc i hi
    injection e with e
    injection e with e1 e2
    subst e1; subst e2
    exact hx
  have hc0 : (w.alloc (.cells #[.int .u32 0, .int .u32 0, .int .i64 0, .int .i64 0, .int .i64 0, .bool false, .bool false, .int .i64 0, .slice none 0 0] 25)).cell? ⟨g, off, none⟩ = some (.int .u8 (b[0].toNat : Int)) := cell_below (below_alloc w _) (hcell 0 (by omega))
  have hc8 : (w.alloc (.cells #[.int .u32 0, .int .u32 0, .int .i64 0, .int .i64 0, .int .i64 0, .bool false, .bool false, .int .i64 0, .slice none 0 0] 25)).cell? ⟨g, off + 8, none⟩ = some (.int .u8 (b[8].toNat : Int)) := cell_below (below_alloc w _) (hcell 8 (by omega))
  have hc9 : (w.alloc (.cells #[.int .u32 0, .int .u32 0, .int .i64 0, .int .i64 0, .int .i64 0, .bool false, .bool false, .int .i64 0, .slice none 0 0] 25)).cell? ⟨g, off + 9, none⟩ = some (.int .u8 (b[9].toNat : Int)) := cell_below (below_alloc w _) (hcell 9 (by omega))
  have ix0 : (0 : Int) < (b.length : Int) := by omega
  have ix8 : (8 : Int) < (b.length : Int) := by omega
  have ix9 : (9 : Int) < (b.length : Int) := by omega
  have e0 : b.getD 0 0 = b[0] := by simp [List.getD, show 0 < b.length by omega]
  have e8 : b.getD 8 0 = b[8] := by simp [List.getD, show 8 < b.length by omega]
  have e9 : b.getD 9 0 = b[9] := by simp [List.getD, show 9 < b.length by omega]
  obtain ⟨x0, hx0⟩ : ∃ x, b[0] = x := ⟨_, rfl⟩
  obtain ⟨x8, hx8⟩ : ∃ x, b[8] = x := ⟨_, rfl⟩
  obtain ⟨x9, hx9⟩ : ∃ x, b[9] = x := ⟨_, rfl⟩
  rw [hx0] at hc0 e0
  rw [hx8] at hc8 e8
  rw [hx9] at hc9 e9
  have E8 := hid e8
  have E9 := hid e9
  have hlow := u8_low x0
  have hx0l := x0.toNat_lt
  obtain ⟨hd, hhd⟩ : ∃ n, x0.toNat % 16 * 4 = n := ⟨_, rfl⟩
  have hhdI : (x0.toNat : Int) % 16 * 4 = (hd : Int) := by omega
  have hhd2 : hd ≤ 60 := by omega
  obtain ⟨n2, hn2⟩ : ∃ n, uAt b 2 2 = n := ⟨_, rfl⟩
  have hn2l : n2 < 65536 := by rw [← hn2]; exact uAt_lt b 2 2
  have HA := fun n => at_any (.slice (some ⟨g, off, none⟩) b.length cap) b 2 2 n2 2 2 ((w.alloc (.cells #[.int .u32 0, .int .u32 0, .int .i64 0, .int .i64 0, .int .i64 0, .bool false, .bool false, .int .i64 0, .slice none 0 0] 25)).drewN n) ((Hb.out.alloc _).drewN n) rfl rfl (.inl rfl) (by omega) hn2 hl
  have Hp := hid (show ipParse b = if x0.toNat / 16 ≠ 4 ∨ hd < 20 then (pk0, 15) else if b.length < hd then (pk0, 11) else if n2 < hd then (pk0, 15) else if b.length < n2 then (pk0, 11) else if inet (b.take hd) ≠ 0 then (pk0, 13) else (ipRead b hd n2, 0) by
    unfold ipParse; rw [if_neg hl20, e0, hhd, hn2])
  have Hn2 := hid hn2
  clear hc hcell e0 e8 e9 hx0 hx8 hx9 hn2
  by_cases c1 : x0.toNat / 16 ≠ 4 ∨ hd < 20
  · have Hr := hid (show ipParse b = (pk0, 15) by rw [Hp.out, if_pos c1])
    rw [Hr.out]
    dsimp only [pkCells, pk0]
    have c1' : ((x0.toNat : Int) / 16 != 4) = true ∨ ((((x0.toNat : Int) / 16 != 4) = false) ∧ (hd : Int) < 20) := by
      by_cases z : x0.toNat / 16 = 4
      · right; simp; omega
      · left; simp; omega
    rcases c1' with z | ⟨z, z2⟩
    · (go_enter Try.func22, Try.ntmps22; go_upto_region 3 with (fail); go_quiet ((go_at_call 40; exact Calls.quiet_of_same ((HA _).mono fun _ _ ⟨x, y⟩ => ⟨x, y.symm⟩))); go_wp2_with (((with_reducible show wpList _ _ _ (Oper.mk none _ _ _ _ _ :: _) _ _); refine wpList_storeBlk rfl _ _ _ rfl _ _ rfl rfl _ _ (((Blk.new w _ _).drewN _)) pkinfo rfl rfl ?_; intro w9 hblk9 hg9 hsz9)); refine ret_cell2 rfl _ _ _ _ rfl hblk9 Try.underlying25 pkinfo _ rfl rfl ?_; exact ⟨_, rfl, OwnBs.nil _ _ _, below_own (below_drewN (below_alloc w _) _) hg9 (Nat.le_refl _) (by simp)⟩)
    · (go_enter Try.func22, Try.ntmps22; go_upto_region 3 with (fail); go_quiet ((go_at_call 40; exact Calls.quiet_of_same ((HA _).mono fun _ _ ⟨x, y⟩ => ⟨x, y.symm⟩))); go_wp2_with (((with_reducible show wpList _ _ _ (Oper.mk none _ _ _ _ _ :: _) _ _); refine wpList_storeBlk rfl _ _ _ rfl _ _ rfl rfl _ _ (((Blk.new w _ _).drewN _)) pkinfo rfl rfl ?_; intro w9 hblk9 hg9 hsz9)); refine ret_cell2 rfl _ _ _ _ rfl hblk9 Try.underlying25 pkinfo _ rfl rfl ?_; exact ⟨_, rfl, OwnBs.nil _ _ _, below_own (below_drewN (below_alloc w _) _) hg9 (Nat.le_refl _) (by simp)⟩)
  have c1a : ((x0.toNat : Int) / 16 != 4) = false := by simp; omega
  have c1b : ¬ (hd : Int) < 20 := by omega
  by_cases c2 : b.length < hd
  · have Hr := hid (show ipParse b = (pk0, 11) by rw [Hp.out, if_neg c1, if_pos c2])
    rw [Hr.out]
    dsimp only [pkCells, pk0]
    have c2' : (b.length : Int) < (hd : Int) := by omega
    (go_enter Try.func22, Try.ntmps22; go_upto_region 3 with (fail); go_quiet ((go_at_call 40; exact Calls.quiet_of_same ((HA _).mono fun _ _ ⟨x, y⟩ => ⟨x, y.symm⟩))); go_wp2_with (((with_reducible show wpList _ _ _ (Oper.mk none _ _ _ _ _ :: _) _ _); refine wpList_storeBlk rfl _ _ _ rfl _ _ rfl rfl _ _ (((Blk.new w _ _).drewN _)) pkinfo rfl rfl ?_; intro w9 hblk9 hg9 hsz9)); refine ret_cell2 rfl _ _ _ _ rfl hblk9 Try.underlying25 pkinfo _ rfl rfl ?_; exact ⟨_, rfl, OwnBs.nil _ _ _, below_own (below_drewN (below_alloc w _) _) hg9 (Nat.le_refl _) (by simp)⟩)
  have c2' : ¬ (b.length : Int) < (hd : Int) := by omega
  by_cases c3 : n2 < hd
  · have Hr := hid (show ipParse b = (pk0, 15) by rw [Hp.out, if_neg c1, if_neg c2, if_pos c3])
    rw [Hr.out]
    dsimp only [pkCells, pk0]
    have c3' : (n2 : Int) < (hd : Int) := by omega
    (go_enter Try.func22, Try.ntmps22; go_upto_region 3 with (fail); go_quiet ((go_at_call 40; exact Calls.quiet_of_same ((HA _).mono fun _ _ ⟨x, y⟩ => ⟨x, y.symm⟩))); go_wp2_with (((with_reducible show wpList _ _ _ (Oper.mk none _ _ _ _ _ :: _) _ _); refine wpList_storeBlk rfl _ _ _ rfl _ _ rfl rfl _ _ (((Blk.new w _ _).drewN _)) pkinfo rfl rfl ?_; intro w9 hblk9 hg9 hsz9)); refine ret_cell2 rfl _ _ _ _ rfl hblk9 Try.underlying25 pkinfo _ rfl rfl ?_; exact ⟨_, rfl, OwnBs.nil _ _ _, below_own (below_drewN (below_alloc w _) _) hg9 (Nat.le_refl _) (by simp)⟩)
  have c3' : ¬ (n2 : Int) < (hd : Int) := by omega
  by_cases c4 : b.length < n2
  · have Hr := hid (show ipParse b = (pk0, 11) by rw [Hp.out, if_neg c1, if_neg c2, if_neg c3, if_pos c4])
    rw [Hr.out]
    dsimp only [pkCells, pk0]
    have c4' : (b.length : Int) < (n2 : Int) := by omega
    (go_enter Try.func22, Try.ntmps22; go_upto_region 3 with (fail); go_quiet ((go_at_call 40; exact Calls.quiet_of_same ((HA _).mono fun _ _ ⟨x, y⟩ => ⟨x, y.symm⟩))); go_wp2_with (((with_reducible show wpList _ _ _ (Oper.mk none _ _ _ _ _ :: _) _ _); refine wpList_storeBlk rfl _ _ _ rfl _ _ rfl rfl _ _ (((Blk.new w _ _).drewN _)) pkinfo rfl rfl ?_; intro w9 hblk9 hg9 hsz9)); refine ret_cell2 rfl _ _ _ _ rfl hblk9 Try.underlying25 pkinfo _ rfl rfl ?_; exact ⟨_, rfl, OwnBs.nil _ _ _, below_own (below_drewN (below_alloc w _) _) hg9 (Nat.le_refl _) (by simp)⟩)
  have c4' : ¬ (b.length : Int) < (n2 : Int) := by omega
  obtain ⟨ii, hii, hz, hss, hby⟩ := info_parts u8info
  have q2 := run_cut (P := Try.prog) (T := 23) Try.underlying23 hii (some ⟨g, off, none⟩) b.length cap .i64 .i64 hd n2 hd (n2 - hd) rfl (by omega) (by omega)
  rw [hss] at q2
  clear hii hz hss hby
  have HB1 := fun n => bs_to ((Hb.out.alloc (.cells #[.int .u32 0, .int .u32 0, .int .i64 0, .int .i64 0, .int .i64 0, .bool false, .bool false, .int .i64 0, .slice none 0 0] 25)).drewN n) (k := hd) (by omega)
  have HB2 := hid (show Bs w (.slice (cutA (some ⟨g, off, none⟩) cap hd 1) (n2 - hd) (cap - hd)) ((b.take n2).drop hd) by have := Bs.cut (l := hd) (k := n2 - hd) Hb.out (by omega); rwa [← List.drop_take] at this)
  obtain ⟨S, hS⟩ : ∃ S, inet (b.take hd) = S := ⟨_, rfl⟩
  have HS := hid (show inet [b.take hd].flatten = S by simpa using hS)
  rw [hS] at Hp
  have hS16 : S ≤ 65535 := by rw [← hS]; unfold inet; omega
  have Hbl := hid (show (b.take hd).length ≤ 100 by simp; omega)
  clear hS
  by_cases c5 : S = 0
  case neg =>
    have Hr := hid (show ipParse b = (pk0, 13) by rw [Hp.out, if_neg c1, if_neg c2, if_neg c3, if_neg c4, if_pos c5])
    rw [Hr.out]
    dsimp only [pkCells, pk0]
    have c5' : ((S : Int) != 0) = true := by simp; omega
    go_enter Try.func22, Try.ntmps22
    go_upto_region 3 with (fail)
    go_quiet ((go_at_call 40; exact Calls.quiet_of_same ((HA _).mono fun _ _ ⟨x, y⟩ => ⟨x, y.symm⟩)))
    go_wp2_with (first
      | ((go_at_call 33; refine (inet_any _ [b.take hd] _ (rows_one (HB1 _) (by simp)) (by simp; have := Hbl.out; simp at this; omega)).mono ?_; rintro e w' ⟨rfl, rfl⟩); rw [HS.out])
      | ((with_reducible show wpList _ _ _ (Oper.mk none _ _ _ _ _ :: _) _ _); refine wpList_storeBlk rfl _ _ _ rfl _ _ rfl rfl _ _ (((Blk.new w _ _).drewN _).alloc _) pkinfo rfl rfl ?_; intro w9 hblk9 hg9 hsz9))
    refine ret_cell2 rfl _ _ _ _ rfl hblk9 Try.underlying25 pkinfo _ rfl rfl ?_
    exact ⟨_, rfl, OwnBs.nil _ _ _, below_own (below_alloc' (below_drewN (below_alloc w _) _) _) hg9 (Nat.le_refl _) (by simp; omega)⟩
  subst c5
  have Hr := hid (show ipParse b = (ipRead b hd n2, 0) by rw [Hp.out, if_neg c1, if_neg c2, if_neg c3, if_neg c4, if_neg (by simp)])
  rw [Hr.out]
  obtain ⟨n6, hn6⟩ : ∃ n, uAt b 6 2 = n := ⟨_, rfl⟩
  obtain ⟨n4, hn4⟩ : ∃ n, uAt b 4 2 = n := ⟨_, rfl⟩
  obtain ⟨n12, hn12⟩ : ∃ n, uAt b 12 4 = n := ⟨_, rfl⟩
  obtain ⟨n16, hn16⟩ : ∃ n, uAt b 16 4 = n := ⟨_, rfl⟩
  have l6 : n6 < 65536 := by rw [← hn6]; exact uAt_lt b 6 2
  have l4 : n4 < 65536 := by rw [← hn4]; exact uAt_lt b 4 2
  have l12 : n12 < 4294967296 := by rw [← hn12]; exact uAt_lt b 12 4
  have l16 : n16 < 4294967296 := by rw [← hn16]; exact uAt_lt b 16 4
  have N6 := hid hn6; have N4 := hid hn4; have N12 := hid hn12; have N16 := hid hn16
  clear hn6 hn4 hn12 hn16
  go_enter Try.func22, Try.ntmps22
  go_upto_region 3 with (fail)
  go_quiet ((go_at_call 40; exact Calls.quiet_of_same ((HA _).mono fun _ _ ⟨x, y⟩ => ⟨x, y.symm⟩)))
  go_upto_region 15 with (first
    | ((go_at_call 33; refine (inet_any _ [b.take hd] _ (rows_one (HB1 _) (by simp)) (by simp; have := Hbl.out; simp at this; omega)).mono ?_; rintro e w' ⟨rfl, rfl⟩); rw [HS.out])
    | ((go_at_call 40; refine (at_any (.slice (some ⟨g, off, none⟩) b.length cap) b 6 2 n6 6 2 _ (((Hb.out.alloc _).drewN _).alloc _) rfl rfl (.inl rfl) (by omega) N6.out hl).mono ?_; rintro e w' ⟨rfl, rfl⟩)))
  obtain ⟨wx, hwx⟩ : ∃ x, x = ((w.alloc (.cells #[.int .u32 0, .int .u32 0, .int .i64 0, .int .i64 0, .int .i64 0, .bool false, .bool false, .int .i64 0, .slice none 0 0] 25)).drewN nq).alloc (.cells #[.slice (some ⟨g, off, none⟩) hd cap] 23) := ⟨_, rfl⟩
  have kx : Below w.heap.size w wx := by rw [hwx]; exact below_alloc' (below_drewN (below_alloc w _) _) _
  have blkx : Blk wx w.heap.size 25 [.int .u32 0, .int .u32 0, .int .i64 0, .int .i64 0, .int .i64 0, .bool false, .bool false, .int .i64 0, .slice none 0 0] := by rw [hwx]; exact ((Blk.new w _ #[.int .u32 0, .int .u32 0, .int .i64 0, .int .i64 0, .int .i64 0, .bool false, .bool false, .int .i64 0, .slice none 0 0]).drewN _).alloc _
  have kx1 : Below (w.heap.size + 1) (w.alloc (.cells #[.int .u32 0, .int .u32 0, .int .i64 0, .int .i64 0, .int .i64 0, .bool false, .bool false, .int .i64 0, .slice none 0 0] 25)) wx := by rw [hwx]; exact (below_drewN (Below.refl _ _) _).alloc (by simp) _
  rw [← hwx]
  have hc8 : wx.cell? ⟨g, off + 8, none⟩ = some (.int .u8 (x8.toNat : Int)) := cell_below (below_of kx1) hc8
  have hc9 : wx.cell? ⟨g, off + 9, none⟩ = some (.int .u8 (x9.toNat : Int)) := cell_below (below_of kx1) hc9
  have hc8a := cell_below (below_alloc wx (.cells #[.int .u32 0, .int .u32 0, .int .i64 0, .int .i64 0, .int .i64 0, .bool false, .bool false, .int .i64 0, .slice none 0 0] 25)) hc8
  have hc9a := cell_below (below_alloc wx (.cells #[.int .u32 0, .int .u32 0, .int .i64 0, .int .i64 0, .int .i64 0, .bool false, .bool false, .int .i64 0, .slice none 0 0] 25)) hc9
  have hbx : Bs wx (.slice (some ⟨g, off, none⟩) b.length cap) b := Hb.out.below kx
  have hby : Bs wx (.slice (cutA (some ⟨g, off, none⟩) cap hd 1) (n2 - hd) (cap - hd)) ((b.take n2).drop hd) := HB2.out.below kx
  have Hrb := hid (show ((b.take n2).drop hd).length = n2 - hd by simp; omega)
  generalize hrb : (b.take n2).drop hd = rb at *
  have Hrb2 := hid hrb
  clear hrb hwx HA HB1 kx1 hc0
  have HT1 := fun wy (hy : Bs wy (.slice (some ⟨g, off, none⟩) b.length cap) b) => at_any (.slice (some ⟨g, off, none⟩) b.length cap) b 12 4 n12 12 4 wy hy rfl rfl (.inr rfl) (by omega) N12.out hl
  have HT2 := fun wy (hy : Bs wy (.slice (some ⟨g, off, none⟩) b.length cap) b) => at_any (.slice (some ⟨g, off, none⟩) b.length cap) b 16 4 n16 16 4 wy hy rfl rfl (.inr rfl) (by omega) N16.out hl
  have HT3 := fun wy (hy : Bs wy (.slice (some ⟨g, off, none⟩) b.length cap) b) => at_any (.slice (some ⟨g, off, none⟩) b.length cap) b 4 2 n4 4 2 wy hy rfl rfl (.inl rfl) (by omega) N4.out hl
  obtain ⟨o8, ho8⟩ : ∃ n, n6 % 8192 * 8 = n := ⟨_, rfl⟩
  have v1 : (n6 : Int).tmod 8192 = (n6 : Int) % 8192 := by rw [Int.tmod_eq_emod_of_nonneg (by omega)]
  have v2 : IntKind.i64.wrap ((n6 : Int) % 8192 * 8) = (o8 : Int) := by rw [IntWalk.i64_in _ (by omega)]; omega
  have v6 : IntKind.i64.wrap (x8.toNat : Int) = (x8.toNat : Int) := IntWalk.i64_in _ (by have := x8.toNat_lt; omega)
  have v7 : IntKind.i64.wrap (x9.toNat : Int) = (x9.toNat : Int) := IntWalk.i64_in _ (by have := x9.toNat_lt; omega)
  have hgx : ¬ g = wx.heap.size := by have := World.block_lt_of_cell? wx _ hc8; simp at this; omega
  have hgx2 : ¬ wx.heap.size = g := by omega
  have v3 : bits .and .i64 (n6 : Int) 8192 = (n6 : Int) / 8192 % 2 * 8192 := by rw [i64_bit13]; simp
  obtain ⟨mo, hmo⟩ : ∃ m, ((n6 : Int) / 8192 % 2 * 8192 != 0) = m := ⟨_, rfl⟩
  have v4 : IntKind.u32.wrap (n12 : Int) = (n12 : Int) := IntWalk.u32_in _ (by omega)
  have v5 : IntKind.u32.wrap (n16 : Int) = (n16 : Int) := IntWalk.u32_in _ (by omega)
  go_cut [7] from 58 to 85 (fun s wy => ∃ gp A1 cap1, s = .pointer (some ⟨gp, 0, none⟩) ∧ wx.heap.size ≤ gp ∧ Blk wy gp 25 #[.int .u32 (n12 : Int), .int .u32 (n16 : Int), .int .i64 (x9.toNat : Int), .int .i64 (n4 : Int), .int .i64 (o8 : Int), .bool mo, .bool false, .int .i64 (x8.toNat : Int), .slice A1 (n2 - hd) cap1].toList ∧ OwnBs wy wx.heap.size 5 (.slice A1 (n2 - hd) cap1) rb ∧ Below wx.heap.size wx wy)
  case first =>
    go_region_held3 (fun wr => wr.cell? ⟨g, off + 8, none⟩ = some (.int .u8 (x8.toNat : Int)) ∧ wr.cell? ⟨g, off + 9, none⟩ = some (.int .u8 (x9.toNat : Int))) (refine ⟨?_, ?_⟩ <;> (repeat (first | with_reducible exact d8 | with_reducible exact d9 | with_reducible exact hc8 | with_reducible exact hc9 | (with_reducible refine far_cell (by exact hgx) ?_) | (with_reducible refine cell_below (below_alloc _ _) ?_) | (with_reducible refine drew_cell ?_)))) (first
      | (go_at_call 40; (first | (with_reducible refine (HT1 _ (by (repeat (first | exact hbx | refine Bs.drew ?_ | refine Bs.drewN ?_ _ | refine Bs.alloc ?_ _)))).mono ?_) | (with_reducible refine (HT2 _ (by (repeat (first | exact hbx | refine Bs.drew ?_ | refine Bs.drewN ?_ _ | refine Bs.alloc ?_ _)))).mono ?_) | (with_reducible refine (HT3 _ (by (repeat (first | exact hbx | refine Bs.drew ?_ | refine Bs.drewN ?_ _ | refine Bs.alloc ?_ _)))).mono ?_)); rintro e w2 ⟨rfl, rfl⟩)
      | (go_at_call 30; (with_reducible refine (clone_any (.slice (cutA (some ⟨g, off, none⟩) cap hd 1) (n2 - hd) (cap - hd)) rb _ (by (repeat (first | exact hby | refine Bs.drew ?_ | refine Bs.drewN ?_ _ | refine Bs.alloc ?_ _))) (by have := Hrb.out; omega)).mono ?_); rintro e w2 ⟨v1, rfl, hown, hb1⟩; have hb2 : Below wx.heap.size wx w2 := (by (first | exact ((below_alloc wx _).drew).trans (hb1.mono (by simp)) | exact (below_alloc wx _).trans (hb1.mono (by simp)) | exact (below_drew _).trans hb1 | exact (below_drewN (Below.refl _ _) _).trans hb1 | exact hb1)); obtain ⟨A1, cap1, rfl⟩ := slice_len hown.bs Hrb.out; have Hown : Hid (OwnBs w2 wx.heap.size 5 (.slice A1 (n2 - hd) cap1) rb) := hid (hown.mono (by simp)); have Hb2 := hid hb2; have d8 := cell_below hb2 hc8; have d9 := cell_below hb2 hc9; have d8a := cell_below (below_alloc w2 (.cells #[.int .u32 0, .int .u32 0, .int .i64 0, .int .i64 0, .int .i64 0, .bool false, .bool false, .int .i64 0, .slice none 0 0] 25)) d8; have d9a := cell_below (below_alloc w2 (.cells #[.int .u32 0, .int .u32 0, .int .i64 0, .int .i64 0, .int .i64 0, .bool false, .bool false, .int .i64 0, .slice none 0 0] 25)) d9; (first | (have hp : Blk w2 wx.heap.size 25 [.int .u32 0, .int .u32 0, .int .i64 0, .int .i64 0, .int .i64 0, .bool false, .bool false, .int .i64 0, .slice none 0 0] := ((Blk.new wx 25 #[.int .u32 0, .int .u32 0, .int .i64 0, .int .i64 0, .int .i64 0, .bool false, .bool false, .int .i64 0, .slice none 0 0]).drew).keep hb1; have pc0 := hp.cell 0; have pf0 := hp.frozen 0; have pc1 := hp.cell 1; have pf1 := hp.frozen 1; have pc2 := hp.cell 2; have pf2 := hp.frozen 2; have pc3 := hp.cell 3; have pf3 := hp.frozen 3; have pc4 := hp.cell 4; have pf4 := hp.frozen 4; have pc5 := hp.cell 5; have pf5 := hp.frozen 5; have pc6 := hp.cell 6; have pf6 := hp.frozen 6; have pc7 := hp.cell 7; have pf7 := hp.frozen 7; have pc8 := hp.cell 8; have pf8 := hp.frozen 8; have Hp := hid hp; clear hp) | skip); clear hown hb1 hb2 c1a c1b c2' c3' c4' hl' ix0 ix8 ix9 hlow hhdI v1 v3 d8a d9a hc8a hc9a))
    all_goals
      go_wp2
      go_meet
      case rel =>
        first
          | exact ⟨wx.heap.size, A1, cap1, rfl, Nat.le_refl _, (set9 Hp.out _ _ _ _ _ _ _ _ _).1, ownBs_store Hown.out Hp.out (by decide) (set9 Hp.out _ _ _ _ _ _ _ _ _).2, below_own Hb2.out (set9 Hp.out _ _ _ _ _ _ _ _ _).2 (Nat.le_refl _) Hb2.out.size⟩
          | exact ⟨w2.heap.size, A1, cap1, rfl, Hb2.out.size, Blk.new w2 25 #[.int .u32 (n12 : Int), .int .u32 (n16 : Int), .int .i64 (x9.toNat : Int), .int .i64 (n4 : Int), .int .i64 (o8 : Int), .bool mo, .bool false, .int .i64 (x8.toNat : Int), .slice A1 (n2 - hd) cap1], Hown.out.alloc _, below_alloc' Hb2.out _⟩
  case rest =>
  obtain ⟨gp, A1, cap1, rfl, hgp, hblk, hown, hbel⟩ := hcut
  have Hbr := hid (blkx.keep hbel)
  have Hown := hid hown
  have Hbel := hid hbel
  have Hblk := hid hblk
  have p4 := hblk.cell 4
  have p5 := hblk.cell 5
  have p6 := hblk.cell 6
  have z6 := hblk.frozen 6
  have hne : gp ≠ w.heap.size := by have := kx.size; have := blkx.lt; omega
  have HRd := hid (show ipRead b hd n2 = ⟨n12, n16, (x9.toNat : Int), (n4 : Int), (o8 : Int), mo, decide ((o8 : Int) = 0) && !mo, (x8.toNat : Int), rb⟩ by
    have d1 : decide (n6 / 8192 % 2 = 1) = mo := by
      rw [← hmo]
      rcases Nat.mod_two_eq_zero_or_one (n6 / 8192) with q | q
      · have : ((n6 : Int) / 8192 % 2 * 8192) = 0 := by omega
        rw [this, q]; rfl
      · have : ((n6 : Int) / 8192 % 2 * 8192) = 8192 := by omega
        rw [this, q]; rfl
    have d2 : decide (n6 % 8192 = 0) = decide ((o8 : Int) = 0) := by congr 1; simp only [eq_iff_iff]; omega
    unfold ipRead
    rw [N12.out, N16.out, N4.out, N6.out, E8.out, E9.out, d1, d2, ho8, Hrb2.out])
  clear hblk hown hbel v1 v2 v3 v4 v5 v6 v7 hmo
  have hfin : ∀ (wz : World) (wh : Bool) (w9 : World), (decide ((o8 : Int) = 0) && !mo) = wh → wz = wc.setCell ⟨gp, 6, none⟩ (.bool wh) → wz.grownBy w9 (some w.heap.size) →
      (∃ v', Ending.returned (.tuple #[.agg #[.int .u32 (n12 : Int), .int .u32 (n16 : Int), .int .i64 (x9.toNat : Int), .int .i64 (n4 : Int), .int .i64 (o8 : Int), .bool mo, .bool wh, .int .i64 (x8.toNat : Int), .slice A1 (n2 - hd) cap1], .int .i64 0]) = .returned (.tuple #[.agg (pkCells (ipRead b hd n2, (0 : Int)).1 v').toArray, .int .i64 (ipRead b hd n2, (0 : Int)).2]) ∧
        OwnBs w9 w.heap.size 5 v' (ipRead b hd n2, (0 : Int)).1.body ∧ Below w.heap.size w w9) := by
    intro wz wh w9 hwh hwz hg9
    have sg := grown_set wc gp 6 (.bool wh)
    have ow := ownBs_store Hown.out Hblk.out (by decide) sg
    have bl := below_own ((kx.trans (Hbel.out.mono kx.size))) sg (by have := kx.size; omega) (by have := Hbel.out.size; have := kx.size; omega)
    rw [← hwz] at ow bl
    have hzb : Blk wz w.heap.size 25 #[.int .u32 0, .int .u32 0, .int .i64 0, .int .i64 0, .int .i64 0, .bool false, .bool false, .int .i64 0, .slice none 0 0].toList := by rw [hwz]; exact Hbr.out.far (fun e => hne e.symm) _
    rw [HRd.out, hwh]
    exact ⟨_, rfl, (ownBs_store ow hzb (by decide) hg9).mono (by have := kx.size; omega), below_own bl hg9 (Nat.le_refl _) bl.size⟩
  by_cases z8 : (o8 : Int) = 0
  · cases hm2 : mo
    · subst hm2
      go_wp2_with (first
        | ((with_reducible show wpList _ _ _ (Oper.mk (some 95) _ _ _ _ _ :: _) _ _); refine wpList_loadBlk rfl _ _ rfl _ rfl _ _ _ (Hblk.out.set_ 6 (.bool true)) Try.underlying25 pkinfo ?_)
        | ((with_reducible show wpList _ _ _ (Oper.mk none _ _ _ _ _ :: _) _ _); refine wpList_storeBlk rfl _ _ _ rfl _ _ rfl rfl _ _ (Hbr.out.far (fun e => hne e.symm) (.bool true)) pkinfo rfl rfl ?_; intro w9 hblk9 hg9 hsz9))
      refine ret_cell2 rfl _ _ _ _ rfl hblk9 Try.underlying25 pkinfo _ rfl rfl ?_
      exact hfin _ true w9 (by simp [z8]) rfl hg9
    · subst hm2
      go_wp2_with (first
        | ((with_reducible show wpList _ _ _ (Oper.mk (some 95) _ _ _ _ _ :: _) _ _); refine wpList_loadBlk rfl _ _ rfl _ rfl _ _ _ (Hblk.out.set_ 6 (.bool false)) Try.underlying25 pkinfo ?_)
        | ((with_reducible show wpList _ _ _ (Oper.mk none _ _ _ _ _ :: _) _ _); refine wpList_storeBlk rfl _ _ _ rfl _ _ rfl rfl _ _ (Hbr.out.far (fun e => hne e.symm) (.bool false)) pkinfo rfl rfl ?_; intro w9 hblk9 hg9 hsz9))
      refine ret_cell2 rfl _ _ _ _ rfl hblk9 Try.underlying25 pkinfo _ rfl rfl ?_
      exact hfin _ false w9 (by simp) rfl hg9
  · go_wp2_with (first
      | ((with_reducible show wpList _ _ _ (Oper.mk (some 95) _ _ _ _ _ :: _) _ _); refine wpList_loadBlk rfl _ _ rfl _ rfl _ _ _ (Hblk.out.set_ 6 (.bool false)) Try.underlying25 pkinfo ?_)
      | ((with_reducible show wpList _ _ _ (Oper.mk none _ _ _ _ _ :: _) _ _); refine wpList_storeBlk rfl _ _ _ rfl _ _ rfl rfl _ _ (Hbr.out.far (fun e => hne e.symm) (.bool false)) pkinfo rfl rfl ?_; intro w9 hblk9 hg9 hsz9))
    refine ret_cell2 rfl _ _ _ _ rfl hblk9 Try.underlying25 pkinfo _ rfl rfl ?_
    exact hfin _ false w9 (by rw [decide_eq_false z8]; rfl) rfl hg9
end Go.Proofs.Ytbjiicnagfeciaa
