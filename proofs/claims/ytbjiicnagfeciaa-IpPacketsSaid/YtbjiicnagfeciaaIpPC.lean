/- Contract of the document's Parse of a packet. -/
import Derived.Test.YtbjiicnagfeciaaIpPB
import Derived.Test.YtbjiicnagfeciaaRegion2
namespace Go.Proofs.Ytbjiicnagfeciaa
open Go Go.RowKit
attribute [local go_sem ↓] Go.wp_at_zero Go.wp_at_succ
set_option maxRecDepth 100000

theorem i64_mask13 (n : Int) : bits .and .i64 n 8191 = n % 8192 := by
  have h127 : (BitVec.ofInt 64 8191).toNat = 2 ^ 13 - 1 := by decide
  have key : (BitVec.ofInt 64 n &&& BitVec.ofInt 64 8191).toNat = (n % ((2 ^ 64 : Nat) : Int)).toNat % 2 ^ 13 := by
    rw [BitVec.toNat_and, BitVec.toNat_ofInt, h127, Nat.and_two_pow_sub_one_eq_mod]
  show IntKind.i64.wrap ((BitVec.ofInt 64 n &&& BitVec.ofInt 64 8191).toNat : Nat) = n % 8192
  rw [key, IntKind.wrap_i64]
  omega
set_option maxHeartbeats 8000000 in
theorem rParse_any (v : Value) (b : List UInt8) (w : World) (h : Bs w v b) (hl : b.length ≤ 1099511627776) :
    Calls Try.prog 23 #[v] w fun e w' => ∃ v', e = .returned (.tuple #[.agg (pkCells (ipParse b).1 v').toArray, .int .i64 (ipParse b).2]) ∧ OwnBs w' w.heap.size 5 v' (ipParse b).1.body ∧ Below w.heap.size w w' := by
  have Hb := hid h
  obtain ⟨A, cap, rfl, k1, k2, hc⟩ := h.cells
  clear h
  by_cases hl20 : b.length < 20
  · have Hr := hid (show ipParse b = (pk0, 11) by unfold ipParse; rw [if_pos hl20])
    have hl' : (b.length : Int) < 20 := by omega
    rw [Hr.out]
    dsimp only [pkCells, pk0]
    go_enter Try.func23, Try.ntmps23
    go_wp2_with fail
    refine ret_cell2 rfl _ _ _ _ rfl (Blk.new _ _ _) Try.underlying35 rpkinfo _ rfl rfl ?_
    exact ⟨_, rfl, OwnBs.nil _ _ _, below_alloc _ _⟩
  have hl' : ¬ (b.length : Int) < 20 := by omega
  obtain ⟨g, off, rfl, _⟩ := hc 0 (by omega)
  have hcell : ∀ (i : Nat) (hi : i < b.length), w.cell? ⟨g, off + i, none⟩ = some (.int .u8 (b[i].toNat : Int)) := by
    intro i hi
    obtain ⟨g', off', e, hx⟩ := hc i hi
    injection e with e
    injection e with e1 e2
    subst e1; subst e2
    exact hx
  have hc0 : (w.alloc (.cells #[.int .u32 0, .int .u32 0, .int .i64 0, .int .i64 0, .int .i64 0, .bool false, .bool false, .int .i64 0, .slice none 0 0] 35)).cell? ⟨g, off, none⟩ = some (.int .u8 (b[0].toNat : Int)) := cell_below (below_alloc w _) (hcell 0 (by omega))
  have hc8 : (w.alloc (.cells #[.int .u32 0, .int .u32 0, .int .i64 0, .int .i64 0, .int .i64 0, .bool false, .bool false, .int .i64 0, .slice none 0 0] 35)).cell? ⟨g, off + 8, none⟩ = some (.int .u8 (b[8].toNat : Int)) := cell_below (below_alloc w _) (hcell 8 (by omega))
  have hc9 : (w.alloc (.cells #[.int .u32 0, .int .u32 0, .int .i64 0, .int .i64 0, .int .i64 0, .bool false, .bool false, .int .i64 0, .slice none 0 0] 35)).cell? ⟨g, off + 9, none⟩ = some (.int .u8 (b[9].toNat : Int)) := cell_below (below_alloc w _) (hcell 9 (by omega))
  have ix0 : (0 : Int) < (b.length : Int) := by omega
  have ix8 : (8 : Int) < (b.length : Int) := by omega
  have ix9 : (9 : Int) < (b.length : Int) := by omega
  have e0 : b.getD 0 0 = b[0] := by simp [List.getD, show 0 < b.length by omega]
  have e8 : b.getD 8 0 = b[8] := by simp [List.getD, show 8 < b.length by omega]
  have e9 : b.getD 9 0 = b[9] := by simp [List.getD, show 9 < b.length by omega]
  obtain ⟨x0, hx0⟩ : ∃ x, b[0] = x := ⟨_, rfl⟩
  obtain ⟨x8, hx8⟩ : ∃ x, b[8] = x := ⟨_, rfl⟩
  obtain ⟨x9, hx9⟩ : ∃ x, b[9] = x := ⟨_, rfl⟩
  rw [hx0] at hc0 e0
  rw [hx8] at hc8 e8
  rw [hx9] at hc9 e9
  have E8 := hid e8
  have E9 := hid e9
  have hlow := u8_low x0
  have hx0l := x0.toNat_lt
  obtain ⟨hd, hhd⟩ : ∃ n, x0.toNat % 16 * 4 = n := ⟨_, rfl⟩
  have hhdI : (x0.toNat : Int) % 16 * 4 = (hd : Int) := by omega
  have hhd2 : hd ≤ 60 := by omega
  obtain ⟨n2, hn2⟩ : ∃ n, uAt b 2 2 = n := ⟨_, rfl⟩
  have hn2l : n2 < 65536 := by rw [← hn2]; exact uAt_lt b 2 2
  have Hp := hid (show ipParse b = if x0.toNat / 16 ≠ 4 ∨ hd < 20 then (pk0, 15) else if b.length < hd then (pk0, 11) else if n2 < hd then (pk0, 15) else if b.length < n2 then (pk0, 11) else if inet (b.take hd) ≠ 0 then (pk0, 13) else (ipRead b hd n2, 0) by
    unfold ipParse; rw [if_neg hl20, e0, hhd, hn2])
  have Hn2 := hid hn2
  clear hc hcell e0 e8 e9 hx0 hx8 hx9 hn2
  by_cases c1 : x0.toNat / 16 ≠ 4 ∨ hd < 20
  · have Hr := hid (show ipParse b = (pk0, 15) by rw [Hp.out, if_pos c1])
    rw [Hr.out]
    dsimp only [pkCells, pk0]
    have c1' : ((x0.toNat : Int) / 16 != 4) = true ∨ ((((x0.toNat : Int) / 16 != 4) = false) ∧ (hd : Int) < 20) := by
      by_cases z : x0.toNat / 16 = 4
      · right; simp; omega
      · left; simp; omega
    rcases c1' with z | ⟨z, z2⟩
    · (go_enter Try.func23, Try.ntmps23; go_wp2_with (first | ((go_at_call 41; (with_reducible refine (rbeN_any (.slice (some ⟨g, off, none⟩) b.length cap) b 2 2 n2 2 2 (w.alloc (.cells #[.int .u32 0, .int .u32 0, .int .i64 0, .int .i64 0, .int .i64 0, .bool false, .bool false, .int .i64 0, .slice none 0 0] 35)) (Hb.out.alloc _) rfl rfl (.inl rfl) (by omega) Hn2.out hl).mono ?_); rintro e w' ⟨rfl, rfl⟩)) | ((with_reducible show wpList _ _ _ (Oper.mk none _ _ _ _ _ :: _) _ _); refine wpList_storeBlk rfl _ _ _ rfl _ _ rfl rfl _ _ (Blk.new w _ _) rpkinfo rfl rfl ?_; intro w9 hblk9 hg9 hsz9)); refine ret_cell2 rfl _ _ _ _ rfl hblk9 Try.underlying35 rpkinfo _ rfl rfl ?_; exact ⟨_, rfl, OwnBs.nil _ _ _, below_own (below_alloc w _) hg9 (Nat.le_refl _) (by simp)⟩)
    · (go_enter Try.func23, Try.ntmps23; go_wp2_with (first | ((go_at_call 41; (with_reducible refine (rbeN_any (.slice (some ⟨g, off, none⟩) b.length cap) b 2 2 n2 2 2 (w.alloc (.cells #[.int .u32 0, .int .u32 0, .int .i64 0, .int .i64 0, .int .i64 0, .bool false, .bool false, .int .i64 0, .slice none 0 0] 35)) (Hb.out.alloc _) rfl rfl (.inl rfl) (by omega) Hn2.out hl).mono ?_); rintro e w' ⟨rfl, rfl⟩)) | ((with_reducible show wpList _ _ _ (Oper.mk none _ _ _ _ _ :: _) _ _); refine wpList_storeBlk rfl _ _ _ rfl _ _ rfl rfl _ _ (Blk.new w _ _) rpkinfo rfl rfl ?_; intro w9 hblk9 hg9 hsz9)); refine ret_cell2 rfl _ _ _ _ rfl hblk9 Try.underlying35 rpkinfo _ rfl rfl ?_; exact ⟨_, rfl, OwnBs.nil _ _ _, below_own (below_alloc w _) hg9 (Nat.le_refl _) (by simp)⟩)
  have c1a : ((x0.toNat : Int) / 16 != 4) = false := by simp; omega
  have c1b : ¬ (hd : Int) < 20 := by omega
  by_cases c2 : b.length < hd
  · have Hr := hid (show ipParse b = (pk0, 11) by rw [Hp.out, if_neg c1, if_pos c2])
    rw [Hr.out]
    dsimp only [pkCells, pk0]
    have c2' : (b.length : Int) < (hd : Int) := by omega
    (go_enter Try.func23, Try.ntmps23; go_wp2_with (first | ((go_at_call 41; (with_reducible refine (rbeN_any (.slice (some ⟨g, off, none⟩) b.length cap) b 2 2 n2 2 2 (w.alloc (.cells #[.int .u32 0, .int .u32 0, .int .i64 0, .int .i64 0, .int .i64 0, .bool false, .bool false, .int .i64 0, .slice none 0 0] 35)) (Hb.out.alloc _) rfl rfl (.inl rfl) (by omega) Hn2.out hl).mono ?_); rintro e w' ⟨rfl, rfl⟩)) | ((with_reducible show wpList _ _ _ (Oper.mk none _ _ _ _ _ :: _) _ _); refine wpList_storeBlk rfl _ _ _ rfl _ _ rfl rfl _ _ (Blk.new w _ _) rpkinfo rfl rfl ?_; intro w9 hblk9 hg9 hsz9)); refine ret_cell2 rfl _ _ _ _ rfl hblk9 Try.underlying35 rpkinfo _ rfl rfl ?_; exact ⟨_, rfl, OwnBs.nil _ _ _, below_own (below_alloc w _) hg9 (Nat.le_refl _) (by simp)⟩)
  have c2' : ¬ (b.length : Int) < (hd : Int) := by omega
  by_cases c3 : n2 < hd
  · have Hr := hid (show ipParse b = (pk0, 15) by rw [Hp.out, if_neg c1, if_neg c2, if_pos c3])
    rw [Hr.out]
    dsimp only [pkCells, pk0]
    have c3' : (n2 : Int) < (hd : Int) := by omega
    (go_enter Try.func23, Try.ntmps23; go_wp2_with (first | ((go_at_call 41; (with_reducible refine (rbeN_any (.slice (some ⟨g, off, none⟩) b.length cap) b 2 2 n2 2 2 (w.alloc (.cells #[.int .u32 0, .int .u32 0, .int .i64 0, .int .i64 0, .int .i64 0, .bool false, .bool false, .int .i64 0, .slice none 0 0] 35)) (Hb.out.alloc _) rfl rfl (.inl rfl) (by omega) Hn2.out hl).mono ?_); rintro e w' ⟨rfl, rfl⟩)) | ((with_reducible show wpList _ _ _ (Oper.mk none _ _ _ _ _ :: _) _ _); refine wpList_storeBlk rfl _ _ _ rfl _ _ rfl rfl _ _ (Blk.new w _ _) rpkinfo rfl rfl ?_; intro w9 hblk9 hg9 hsz9)); refine ret_cell2 rfl _ _ _ _ rfl hblk9 Try.underlying35 rpkinfo _ rfl rfl ?_; exact ⟨_, rfl, OwnBs.nil _ _ _, below_own (below_alloc w _) hg9 (Nat.le_refl _) (by simp)⟩)
  have c3' : ¬ (n2 : Int) < (hd : Int) := by omega
  by_cases c4 : b.length < n2
  · have Hr := hid (show ipParse b = (pk0, 11) by rw [Hp.out, if_neg c1, if_neg c2, if_neg c3, if_pos c4])
    rw [Hr.out]
    dsimp only [pkCells, pk0]
    have c4' : (b.length : Int) < (n2 : Int) := by omega
    (go_enter Try.func23, Try.ntmps23; go_wp2_with (first | ((go_at_call 41; (with_reducible refine (rbeN_any (.slice (some ⟨g, off, none⟩) b.length cap) b 2 2 n2 2 2 (w.alloc (.cells #[.int .u32 0, .int .u32 0, .int .i64 0, .int .i64 0, .int .i64 0, .bool false, .bool false, .int .i64 0, .slice none 0 0] 35)) (Hb.out.alloc _) rfl rfl (.inl rfl) (by omega) Hn2.out hl).mono ?_); rintro e w' ⟨rfl, rfl⟩)) | ((with_reducible show wpList _ _ _ (Oper.mk none _ _ _ _ _ :: _) _ _); refine wpList_storeBlk rfl _ _ _ rfl _ _ rfl rfl _ _ (Blk.new w _ _) rpkinfo rfl rfl ?_; intro w9 hblk9 hg9 hsz9)); refine ret_cell2 rfl _ _ _ _ rfl hblk9 Try.underlying35 rpkinfo _ rfl rfl ?_; exact ⟨_, rfl, OwnBs.nil _ _ _, below_own (below_alloc w _) hg9 (Nat.le_refl _) (by simp)⟩)
  have c4' : ¬ (b.length : Int) < (n2 : Int) := by omega
  obtain ⟨ii, hii, hz, hss, hby⟩ := info_parts u8info
  have q2 := run_cut (P := Try.prog) (T := 23) Try.underlying23 hii (some ⟨g, off, none⟩) b.length cap .i64 .i64 hd n2 hd (n2 - hd) rfl (by omega) (by omega)
  rw [hss] at q2
  clear hii hz hss hby
  have HB1 := bs_to (Hb.out.alloc (.cells #[.int .u32 0, .int .u32 0, .int .i64 0, .int .i64 0, .int .i64 0, .bool false, .bool false, .int .i64 0, .slice none 0 0] 35)) (k := hd) (by omega)
  have HB2 := hid (show Bs w (.slice (cutA (some ⟨g, off, none⟩) cap hd 1) (n2 - hd) (cap - hd)) ((b.take n2).drop hd) by have := Bs.cut (l := hd) (k := n2 - hd) Hb.out (by omega); rwa [← List.drop_take] at this)
  obtain ⟨S, hS⟩ : ∃ S, inet (b.take hd) = S := ⟨_, rfl⟩
  have HS := hid hS
  rw [hS] at Hp
  have hS16 : S ≤ 65535 := by rw [← hS]; unfold inet; omega
  have Hbl := hid (show (b.take hd).length ≤ 100 by simp; omega)
  clear hS
  by_cases c5 : S = 0
  case neg =>
    have Hr := hid (show ipParse b = (pk0, 13) by rw [Hp.out, if_neg c1, if_neg c2, if_neg c3, if_neg c4, if_pos c5])
    rw [Hr.out]
    dsimp only [pkCells, pk0]
    have c5' : ((S : Int) != 0) = true := by simp; omega
    go_enter Try.func23, Try.ntmps23
    go_wp2_with (first | ((go_at_call 41; (with_reducible refine (rbeN_any (.slice (some ⟨g, off, none⟩) b.length cap) b 2 2 n2 2 2 (w.alloc (.cells #[.int .u32 0, .int .u32 0, .int .i64 0, .int .i64 0, .int .i64 0, .bool false, .bool false, .int .i64 0, .slice none 0 0] 35)) (Hb.out.alloc _) rfl rfl (.inl rfl) (by omega) Hn2.out hl).mono ?_); rintro e w' ⟨rfl, rfl⟩)) | ((go_at_call 35; refine (rinet_any _ (b.take hd) _ HB1 (by have := Hbl.out; omega)).mono ?_; rintro e w' ⟨rfl, rfl⟩); rw [HS.out]) | ((with_reducible show wpList _ _ _ (Oper.mk none _ _ _ _ _ :: _) _ _); refine wpList_storeBlk rfl _ _ _ rfl _ _ rfl rfl _ _ (Blk.new w _ _) rpkinfo rfl rfl ?_; intro w9 hblk9 hg9 hsz9))
    refine ret_cell2 rfl _ _ _ _ rfl hblk9 Try.underlying35 rpkinfo _ rfl rfl ?_
    exact ⟨_, rfl, OwnBs.nil _ _ _, below_own (below_alloc w _) hg9 (Nat.le_refl _) (by simp)⟩
  subst c5
  have Hr := hid (show ipParse b = (ipRead b hd n2, 0) by rw [Hp.out, if_neg c1, if_neg c2, if_neg c3, if_neg c4, if_neg (by simp)])
  rw [Hr.out]
  obtain ⟨n6, hn6⟩ : ∃ n, uAt b 6 2 = n := ⟨_, rfl⟩
  obtain ⟨n4, hn4⟩ : ∃ n, uAt b 4 2 = n := ⟨_, rfl⟩
  obtain ⟨n12, hn12⟩ : ∃ n, uAt b 12 4 = n := ⟨_, rfl⟩
  obtain ⟨n16, hn16⟩ : ∃ n, uAt b 16 4 = n := ⟨_, rfl⟩
  have l6 : n6 < 65536 := by rw [← hn6]; exact uAt_lt b 6 2
  have l4 : n4 < 65536 := by rw [← hn4]; exact uAt_lt b 4 2
  have l12 : n12 < 4294967296 := by rw [← hn12]; exact uAt_lt b 12 4
  have l16 : n16 < 4294967296 := by rw [← hn16]; exact uAt_lt b 16 4
  have N6 := hid hn6; have N4 := hid hn4; have N12 := hid hn12; have N16 := hid hn16
  clear hn6 hn4 hn12 hn16
  go_enter Try.func23, Try.ntmps23
  go_upto_region 16 with (first
    | ((go_at_call 41; (with_reducible refine (rbeN_any (.slice (some ⟨g, off, none⟩) b.length cap) b 2 2 n2 2 2 (w.alloc (.cells #[.int .u32 0, .int .u32 0, .int .i64 0, .int .i64 0, .int .i64 0, .bool false, .bool false, .int .i64 0, .slice none 0 0] 35)) (Hb.out.alloc _) rfl rfl (.inl rfl) (by omega) Hn2.out hl).mono ?_); rintro e w' ⟨rfl, rfl⟩))
    | ((go_at_call 35; refine (rinet_any _ (b.take hd) _ HB1 (by have := Hbl.out; omega)).mono ?_; rintro e w' ⟨rfl, rfl⟩); rw [HS.out])
    | ((go_at_call 41; (with_reducible refine (rbeN_any (.slice (some ⟨g, off, none⟩) b.length cap) b 6 2 n6 6 2 (w.alloc (.cells #[.int .u32 0, .int .u32 0, .int .i64 0, .int .i64 0, .int .i64 0, .bool false, .bool false, .int .i64 0, .slice none 0 0] 35)) (Hb.out.alloc _) rfl rfl (.inl rfl) (by omega) N6.out hl).mono ?_); rintro e w' ⟨rfl, rfl⟩)))
  obtain ⟨wx, hwx⟩ : ∃ x, x = (w.alloc (.cells #[.int .u32 0, .int .u32 0, .int .i64 0, .int .i64 0, .int .i64 0, .bool false, .bool false, .int .i64 0, .slice none 0 0] 35)) := ⟨_, rfl⟩
  have kx : Below w.heap.size w wx := by rw [hwx]; exact below_alloc w _
  have blkx : Blk wx w.heap.size 35 [.int .u32 0, .int .u32 0, .int .i64 0, .int .i64 0, .int .i64 0, .bool false, .bool false, .int .i64 0, .slice none 0 0] := by rw [hwx]; exact Blk.new w _ #[.int .u32 0, .int .u32 0, .int .i64 0, .int .i64 0, .int .i64 0, .bool false, .bool false, .int .i64 0, .slice none 0 0]
  rw [← hwx] at hc8 hc9 ⊢
  have hbx : Bs wx (.slice (some ⟨g, off, none⟩) b.length cap) b := Hb.out.below kx
  have hby : Bs wx (.slice (cutA (some ⟨g, off, none⟩) cap hd 1) (n2 - hd) (cap - hd)) ((b.take n2).drop hd) := HB2.out.below kx
  have Hrb := hid (show ((b.take n2).drop hd).length = n2 - hd by simp; omega)
  generalize hrb : (b.take n2).drop hd = rb at *
  have Hrb2 := hid hrb
  have Hby := hid hby
  clear hrb hwx HB1 HB2 hc0 hby
  have HT1 := fun wy (hy : Bs wy (.slice (some ⟨g, off, none⟩) b.length cap) b) => rbeN_any (.slice (some ⟨g, off, none⟩) b.length cap) b 12 4 n12 12 4 wy hy rfl rfl (.inr rfl) (by omega) N12.out hl
  have HT2 := fun wy (hy : Bs wy (.slice (some ⟨g, off, none⟩) b.length cap) b) => rbeN_any (.slice (some ⟨g, off, none⟩) b.length cap) b 16 4 n16 16 4 wy hy rfl rfl (.inr rfl) (by omega) N16.out hl
  have HT3 := fun wy (hy : Bs wy (.slice (some ⟨g, off, none⟩) b.length cap) b) => rbeN_any (.slice (some ⟨g, off, none⟩) b.length cap) b 4 2 n4 4 2 wy hy rfl rfl (.inl rfl) (by omega) N4.out hl
  obtain ⟨o8, ho8⟩ : ∃ n, n6 % 8192 * 8 = n := ⟨_, rfl⟩
  have v0 : bits .and .i64 (n6 : Int) 8191 = (n6 : Int) % 8192 := i64_mask13 _
  have v2 : IntKind.i64.wrap ((n6 : Int) % 8192 * 8) = (o8 : Int) := by rw [IntWalk.i64_in _ (by omega)]; omega
  have v2' : (n6 : Int) % 8192 * 8 = (o8 : Int) := by omega
  have v6 : IntKind.i64.wrap (x8.toNat : Int) = (x8.toNat : Int) := IntWalk.i64_in _ (by have := x8.toNat_lt; omega)
  have v7 : IntKind.i64.wrap (x9.toNat : Int) = (x9.toNat : Int) := IntWalk.i64_in _ (by have := x9.toNat_lt; omega)
  have v3 : bits .and .i64 (n6 : Int) 8192 = (n6 : Int) / 8192 % 2 * 8192 := by rw [i64_bit13]; simp
  obtain ⟨mo, hmo⟩ : ∃ m, ((n6 : Int) / 8192 % 2 * 8192 != 0) = m := ⟨_, rfl⟩
  have v4 : IntKind.u32.wrap (n12 : Int) = (n12 : Int) := IntWalk.u32_in _ (by omega)
  have v5 : IntKind.u32.wrap (n16 : Int) = (n16 : Int) := IntWalk.u32_in _ (by omega)
  go_cut [7] from 52 to 68 (fun s wy => ∃ gp, s = .pointer (some ⟨gp, 0, none⟩) ∧ wx.heap.size ≤ gp ∧ Blk wy gp 35 #[.int .u32 (n12 : Int), .int .u32 (n16 : Int), .int .i64 (x9.toNat : Int), .int .i64 (n4 : Int), .int .i64 0, .bool false, .bool false, .int .i64 (x8.toNat : Int), .slice none 0 0].toList ∧ Below wx.heap.size wx wy)
  case first =>
    go_region_held3 (fun wr => wr.cell? ⟨g, off + 8, none⟩ = some (.int .u8 (x8.toNat : Int)) ∧ wr.cell? ⟨g, off + 9, none⟩ = some (.int .u8 (x9.toNat : Int))) (refine ⟨?_, ?_⟩ <;> (repeat (first | with_reducible exact hc8 | with_reducible exact hc9 | (with_reducible refine cell_below (below_alloc _ _) ?_) | (with_reducible refine drew_cell ?_)))) (first
      | (go_at_call 41; (first | (with_reducible refine (HT1 _ (by (repeat (first | exact hbx | refine Bs.drew ?_ | refine Bs.drewN ?_ _ | refine Bs.alloc ?_ _)))).mono ?_) | (with_reducible refine (HT2 _ (by (repeat (first | exact hbx | refine Bs.drew ?_ | refine Bs.drewN ?_ _ | refine Bs.alloc ?_ _)))).mono ?_) | (with_reducible refine (HT3 _ (by (repeat (first | exact hbx | refine Bs.drew ?_ | refine Bs.drewN ?_ _ | refine Bs.alloc ?_ _)))).mono ?_)); rintro e w2 ⟨rfl, rfl⟩)
      | fail)
    all_goals
      go_wp2
      go_meet
      case rel =>
        exact ⟨wx.heap.size, rfl, Nat.le_refl _, (Blk.new wx _ #[.int .u32 (n12 : Int), .int .u32 (n16 : Int), .int .i64 (x9.toNat : Int), .int .i64 (n4 : Int), .int .i64 0, .bool false, .bool false, .int .i64 (x8.toNat : Int), .slice none 0 0]).drew, (below_alloc wx _).drew⟩
  case rest =>
  obtain ⟨gp, rfl, hgp, hblk, hbel⟩ := hcut
  have p4 := hblk.cell 4
  have z4 := hblk.frozen 4
  have p5 := hblk.cell 5
  have z5 := hblk.frozen 5
  have p6 := hblk.cell 6
  have z6 := hblk.frozen 6
  have Hblk := hid hblk
  have Hbr := hid (blkx.keep hbel)
  have Hbel := hid hbel
  have Hkx := hid kx
  have hne : gp ≠ w.heap.size := by have := kx.size; have := blkx.lt; omega
  have HRd := hid (show ipRead b hd n2 = ⟨n12, n16, (x9.toNat : Int), (n4 : Int), (o8 : Int), mo, decide ((o8 : Int) = 0) && !mo, (x8.toNat : Int), rb⟩ by
    have d1 : decide (n6 / 8192 % 2 = 1) = mo := by
      rw [← hmo]
      rcases Nat.mod_two_eq_zero_or_one (n6 / 8192) with q | q
      · have : ((n6 : Int) / 8192 % 2 * 8192) = 0 := by omega
        rw [this, q]; rfl
      · have : ((n6 : Int) / 8192 % 2 * 8192) = 8192 := by omega
        rw [this, q]; rfl
    have d2 : decide (n6 % 8192 = 0) = decide ((o8 : Int) = 0) := by congr 1; simp only [eq_iff_iff]; omega
    unfold ipRead
    rw [N12.out, N16.out, N4.out, N6.out, E8.out, E9.out, d1, d2, ho8, Hrb2.out])
  have hgx : ¬ gp = g := by have := World.block_lt_of_cell? wx _ hc8; simp at this; omega
  clear hblk hbel hc8 hc9 HT1 HT2 HT3 kx
  have hz : ∀ (O M W : Value), Blk (((wc.setCell ⟨gp, 4, none⟩ O).setCell ⟨gp, 5, none⟩ M).setCell ⟨gp, 6, none⟩ W) gp 35 [.int .u32 (n12 : Int), .int .u32 (n16 : Int), .int .i64 (x9.toNat : Int), .int .i64 (n4 : Int), O, M, W, .int .i64 (x8.toNat : Int), .slice none 0 0] ∧
      wc.grownBy (((wc.setCell ⟨gp, 4, none⟩ O).setCell ⟨gp, 5, none⟩ M).setCell ⟨gp, 6, none⟩ W) (some gp) := fun O M W =>
    ⟨((Hblk.out.set_ 4 O).set_ 5 M).set_ 6 W, grown_trans (grown_trans (grown_set _ _ _ _) (grown_set _ _ _ _)) (grown_set _ _ _ _)⟩
  have Hz := hid hz
  clear hz
  have Hfin : Hid (∀ (wz : World) (wh : Bool) (A1 : Option Addr) (cap1 : Nat) (w8 w9 : World), (decide ((o8 : Int) = 0) && !mo) = wh → wc.grownBy wz (some gp) → Below wz.heap.size wz w8 → OwnBs w8 wz.heap.size 5 (.slice A1 (n2 - hd) cap1) rb →
      (w8.setCell ⟨gp, 8, none⟩ (.slice A1 (n2 - hd) cap1)).grownBy w9 (some w.heap.size) → Blk w8 gp 35 [.int .u32 (n12 : Int), .int .u32 (n16 : Int), .int .i64 (x9.toNat : Int), .int .i64 (n4 : Int), .int .i64 (o8 : Int), .bool mo, .bool wh, .int .i64 (x8.toNat : Int), .slice none 0 0] →
      (∃ v', Ending.returned (.tuple #[.agg #[.int .u32 (n12 : Int), .int .u32 (n16 : Int), .int .i64 (x9.toNat : Int), .int .i64 (n4 : Int), .int .i64 (o8 : Int), .bool mo, .bool wh, .int .i64 (x8.toNat : Int), .slice A1 (n2 - hd) cap1], .int .i64 0]) = .returned (.tuple #[.agg (pkCells (ipRead b hd n2, (0 : Int)).1 v').toArray, .int .i64 (ipRead b hd n2, (0 : Int)).2]) ∧
        OwnBs w9 w.heap.size 5 v' (ipRead b hd n2, (0 : Int)).1.body ∧ Below w.heap.size w w9)) := hid (by
    intro wz wh A1 cap1 w8 w9 hwh hgz hb8 hown8 hg9 hblk8
    have sg := grown_set w8 gp 8 (.slice A1 (n2 - hd) cap1)
    have hsz := hgz.size
    have hk := Hkx.out.size
    have hk2 := Hbel.out.size
    have ow := ownBs_store hown8 hblk8 (by decide) sg
    have bz : Below w.heap.size w wz := below_own (Hkx.out.trans (Hbel.out.mono hk)) hgz (by omega) (by omega)
    have bl := below_own (bz.trans (hb8.mono (by omega))) sg (by omega) (by have := hb8.size; omega)
    have hzb : Blk (w8.setCell ⟨gp, 8, none⟩ (.slice A1 (n2 - hd) cap1)) w.heap.size 35 [.int .u32 0, .int .u32 0, .int .i64 0, .int .i64 0, .int .i64 0, .bool false, .bool false, .int .i64 0, .slice none 0 0] := ((Hbr.out.grown hgz (fun e => by injection e with e; exact hne e.symm)).keep hb8).far (fun e => hne e.symm) _
    rw [HRd.out, hwh]
    exact ⟨_, rfl, (ownBs_store ow hzb (by decide) hg9).mono (by omega), below_own bl hg9 (Nat.le_refl _) bl.size⟩)
  obtain ⟨wh, hwh⟩ : ∃ x, (decide ((o8 : Int) = 0) && !mo) = x := ⟨_, rfl⟩
  have Hwh := hid hwh
  have ht : (o8 : Int) = 0 ∧ mo = false ∧ wh = true ∨ (o8 : Int) = 0 ∧ mo = true ∧ wh = false ∨ ¬ (o8 : Int) = 0 ∧ wh = false := by
    by_cases y8 : (o8 : Int) = 0
    · cases mo
      · exact .inl ⟨y8, rfl, by rw [← hwh, decide_eq_true y8]; rfl⟩
      · exact .inr (.inl ⟨y8, rfl, by rw [← hwh]; simp⟩)
    · exact .inr (.inr ⟨y8, by rw [← hwh, decide_eq_false y8]; rfl⟩)
  obtain ⟨oi, hoi⟩ : ∃ x, (o8 : Int) = x := ⟨_, rfl⟩
  rw [hoi] at v2 ht Hfin Hwh
  have Hrl := hid (show rb.length ≤ 65536 by rw [Hrb.out]; omega)
  clear hwh v2' HRd ho8 hoi p4 p5 p6
  have p4 := Hblk.out.cell 4
  have p5 := Hblk.out.cell 5
  have p6 := Hblk.out.cell 6
  rcases ht with ⟨y8, rfl, rfl⟩ | ⟨y8, rfl, rfl⟩ | ⟨y8, rfl⟩
  · subst y8
    go_upto_region 20 with (fail)
    obtain ⟨hbz, hgz⟩ := Hz.out (.int .i64 (0)) (.bool false) (.bool true)
    generalize ((wc.setCell ⟨gp, 4, none⟩ (.int .i64 (0))).setCell ⟨gp, 5, none⟩ (.bool false)).setCell ⟨gp, 6, none⟩ (.bool true) = wz at *
    have p8 := hbz.cell 8
    have Hbz := hid hbz
    have Hgz := hid hgz
    have Hby2 := hid (show ∀ n, Bs (wz.drewN n) (.slice (cutA (some ⟨g, off, none⟩) cap hd 1) (n2 - hd) (cap - hd)) rb from fun n => Bs.drewN (Hby.out.below (below_own Hbel.out Hgz.out hgp Hbel.out.size)) n)
    clear hbz hgz p4 p5 p6 z4 z5 z6
    go_region_law (first
      | (refine step_app8 _ (by rfl) _ _ 23 (by rfl) wz.heap.size 5 u8ok (.slice none 0 0) [] (by rfl) (OwnBs.nil _ _ _) _ rb (by rfl) (Hby2.out _) (by have := Hrl.out; simp; omega) (Nat.le_refl _) ?_; intro v8 w8 hown8 hb8 hg8; rw [List.nil_append] at hown8; obtain ⟨A1, cap1, rfl⟩ := slice_len hown8.bs Hrb.out; have hbk := Hbz.out.drew.keep hb8; have p8b := hbk.cell 8; have z8b := hbk.frozen 8; have Hbk8 := hid hbk; have Hb8 := hid ((below_drew wz).trans hb8); have Hown8 := hid hown8; clear hown8 hb8 hg8 hbk)
      | fail)
    all_goals
      go_wp2_with (first
        | ((with_reducible show wpList _ _ _ (Oper.mk (some 94) _ _ _ _ _ :: _) _ _); refine wpList_loadBlk rfl _ _ rfl _ rfl _ _ _ (Hbk8.out.set_ 8 (.slice A1 (n2 - hd) cap1)) Try.underlying35 rpkinfo ?_)
        | ((with_reducible show wpList _ _ _ (Oper.mk none _ _ _ _ _ :: _) _ _); refine wpList_storeBlk rfl _ _ _ rfl _ _ rfl rfl _ _ (((Hbr.out.grown Hgz.out (fun e => by injection e with e; exact hne e.symm)).keep Hb8.out).far (fun e => hne e.symm) (.slice A1 (n2 - hd) cap1)) rpkinfo rfl rfl ?_; intro w9 hblk9 hg9 hsz9))
      refine ret_cell2 rfl _ _ _ _ rfl hblk9 Try.underlying35 rpkinfo _ rfl rfl ?_
      exact Hfin.out wz true A1 cap1 w8 w9 Hwh.out Hgz.out Hb8.out Hown8.out hg9 Hbk8.out
  · subst y8
    go_upto_region 20 with (fail)
    obtain ⟨hbz, hgz⟩ := Hz.out (.int .i64 (0)) (.bool true) (.bool false)
    generalize ((wc.setCell ⟨gp, 4, none⟩ (.int .i64 (0))).setCell ⟨gp, 5, none⟩ (.bool true)).setCell ⟨gp, 6, none⟩ (.bool false) = wz at *
    have p8 := hbz.cell 8
    have Hbz := hid hbz
    have Hgz := hid hgz
    have Hby2 := hid (show ∀ n, Bs (wz.drewN n) (.slice (cutA (some ⟨g, off, none⟩) cap hd 1) (n2 - hd) (cap - hd)) rb from fun n => Bs.drewN (Hby.out.below (below_own Hbel.out Hgz.out hgp Hbel.out.size)) n)
    clear hbz hgz p4 p5 p6 z4 z5 z6
    go_region_law (first
      | (refine step_app8 _ (by rfl) _ _ 23 (by rfl) wz.heap.size 5 u8ok (.slice none 0 0) [] (by rfl) (OwnBs.nil _ _ _) _ rb (by rfl) (Hby2.out _) (by have := Hrl.out; simp; omega) (Nat.le_refl _) ?_; intro v8 w8 hown8 hb8 hg8; rw [List.nil_append] at hown8; obtain ⟨A1, cap1, rfl⟩ := slice_len hown8.bs Hrb.out; have hbk := Hbz.out.drew.keep hb8; have p8b := hbk.cell 8; have z8b := hbk.frozen 8; have Hbk8 := hid hbk; have Hb8 := hid ((below_drew wz).trans hb8); have Hown8 := hid hown8; clear hown8 hb8 hg8 hbk)
      | fail)
    all_goals
      go_wp2_with (first
        | ((with_reducible show wpList _ _ _ (Oper.mk (some 94) _ _ _ _ _ :: _) _ _); refine wpList_loadBlk rfl _ _ rfl _ rfl _ _ _ (Hbk8.out.set_ 8 (.slice A1 (n2 - hd) cap1)) Try.underlying35 rpkinfo ?_)
        | ((with_reducible show wpList _ _ _ (Oper.mk none _ _ _ _ _ :: _) _ _); refine wpList_storeBlk rfl _ _ _ rfl _ _ rfl rfl _ _ (((Hbr.out.grown Hgz.out (fun e => by injection e with e; exact hne e.symm)).keep Hb8.out).far (fun e => hne e.symm) (.slice A1 (n2 - hd) cap1)) rpkinfo rfl rfl ?_; intro w9 hblk9 hg9 hsz9))
      refine ret_cell2 rfl _ _ _ _ rfl hblk9 Try.underlying35 rpkinfo _ rfl rfl ?_
      exact Hfin.out wz false A1 cap1 w8 w9 Hwh.out Hgz.out Hb8.out Hown8.out hg9 Hbk8.out
  · go_upto_region 20 with (fail)
    obtain ⟨hbz, hgz⟩ := Hz.out (.int .i64 (oi)) (.bool mo) (.bool false)
    generalize ((wc.setCell ⟨gp, 4, none⟩ (.int .i64 (oi))).setCell ⟨gp, 5, none⟩ (.bool mo)).setCell ⟨gp, 6, none⟩ (.bool false) = wz at *
    have p8 := hbz.cell 8
    have Hbz := hid hbz
    have Hgz := hid hgz
    have Hby2 := hid (show ∀ n, Bs (wz.drewN n) (.slice (cutA (some ⟨g, off, none⟩) cap hd 1) (n2 - hd) (cap - hd)) rb from fun n => Bs.drewN (Hby.out.below (below_own Hbel.out Hgz.out hgp Hbel.out.size)) n)
    clear hbz hgz p4 p5 p6 z4 z5 z6
    go_region_law (first
      | (refine step_app8 _ (by rfl) _ _ 23 (by rfl) wz.heap.size 5 u8ok (.slice none 0 0) [] (by rfl) (OwnBs.nil _ _ _) _ rb (by rfl) (Hby2.out _) (by have := Hrl.out; simp; omega) (Nat.le_refl _) ?_; intro v8 w8 hown8 hb8 hg8; rw [List.nil_append] at hown8; obtain ⟨A1, cap1, rfl⟩ := slice_len hown8.bs Hrb.out; have hbk := Hbz.out.drew.keep hb8; have p8b := hbk.cell 8; have z8b := hbk.frozen 8; have Hbk8 := hid hbk; have Hb8 := hid ((below_drew wz).trans hb8); have Hown8 := hid hown8; clear hown8 hb8 hg8 hbk)
      | fail)
    all_goals
      go_wp2_with (first
        | ((with_reducible show wpList _ _ _ (Oper.mk (some 94) _ _ _ _ _ :: _) _ _); refine wpList_loadBlk rfl _ _ rfl _ rfl _ _ _ (Hbk8.out.set_ 8 (.slice A1 (n2 - hd) cap1)) Try.underlying35 rpkinfo ?_)
        | ((with_reducible show wpList _ _ _ (Oper.mk none _ _ _ _ _ :: _) _ _); refine wpList_storeBlk rfl _ _ _ rfl _ _ rfl rfl _ _ (((Hbr.out.grown Hgz.out (fun e => by injection e with e; exact hne e.symm)).keep Hb8.out).far (fun e => hne e.symm) (.slice A1 (n2 - hd) cap1)) rpkinfo rfl rfl ?_; intro w9 hblk9 hg9 hsz9))
      refine ret_cell2 rfl _ _ _ _ rfl hblk9 Try.underlying35 rpkinfo _ rfl rfl ?_
      exact Hfin.out wz false A1 cap1 w8 w9 Hwh.out Hgz.out Hb8.out Hown8.out hg9 Hbk8.out
end Go.Proofs.Ytbjiicnagfeciaa
