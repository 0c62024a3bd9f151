/- Contract of udp.Parse. -/
import Derived.Test.YtgiodkjcefcebaaUdpB
import Derived.Test.YtgiodkjcefcebaaStruct
namespace Go.Proofs.Ytgiodkjcefcebaa
open Go Go.RowKit

theorem dginfo : (Try.prog.info? 25).map (·.size) = some 3 := by kernel_rfl

theorem cutOf_two (b : List UInt8) (i : Nat) (p : Int) (hp : p = i) (hi : i + 2 ≤ b.length) : cutOf b p 2 = ((b.drop i).take 2, 0) := by
  subst hp
  have h : ¬((i : Int) < 0 ∨ (i : Int) > (b.length : Int) - 2) := by omega
  simp [cutOf, okSize, if_neg h]
/-- two bytes at a place, as a number -/
theorem be2 (v : Value) (b : List UInt8) (i n : Nat) (p : Int) (w : World) (h : Bs w v b) (hp : p = i) (hi : i + 2 ≤ b.length) (hn : u16at b i = n) (hlen : b.length ≤ 1099511627776) :
    Calls Try.prog 13 #[v, .int .i64 p, .int .i64 2] w fun e w' => e = .returned (.tuple #[.int .u64 (n : Int), .int .i64 0]) ∧ w = w' := by
  have := be_any v b p 2 w h (by omega) (by omega)
  rw [cutOf_two b i p hp hi] at this
  rw [← hn]
  exact this
theorem u16at_lt (b : List UInt8) (i : Nat) : u16at b i ≤ 65535 := by
  have h1 := beVal_lt ((b.drop i).take 2)
  have h2 : ((b.drop i).take 2).length ≤ 2 := by simp; omega
  have h3 : 256 ^ ((b.drop i).take 2).length ≤ 256 ^ 2 := Nat.pow_le_pow_right (by decide) h2
  unfold u16at
  omega

set_option maxHeartbeats 1000000 in
theorem parse_any (v : Value) (b : List UInt8) (src dst : Nat) (w : World) (h : Bs w v b) (hlen : b.length ≤ 1099511627776) (hs : src < 4294967296) (hd : dst < 4294967296) :
    Calls Try.prog 7 #[.int .u32 src, .int .u32 dst, v] w fun e w' => ∃ v', e = .returned (.tuple #[.agg #[.int .i64 ((udpParse src dst b).1.1 : Int), .int .i64 ((udpParse src dst b).1.2.1 : Int), v'], .int .i64 (udpParse src dst b).2]) ∧
      OwnBs w' w.heap.size 5 v' (udpParse src dst b).1.2.2 ∧ Below w.heap.size w w' := by
  have Hb := hid h
  obtain ⟨A, cap, rfl, k1, k2, _⟩ := h.cells
  clear h
  by_cases hl8 : b.length < 8
  · have Hr := hid (show udpParse src dst b = ((0, 0, []), 11) by simp [udpParse, hl8])
    have hl8' : (b.length : Int) < 8 := by omega
    rw [Hr.out]
    go_enter Try.func7, Try.ntmps7
    go_wp2_with fail
    refine ret_cell2 rfl _ _ _ _ rfl (Blk.new _ _ _) Try.underlying25 dginfo _ rfl rfl ?_
    exact ⟨_, rfl, OwnBs.nil _ _ _, below_alloc _ _⟩
  have hg8 : ¬ (b.length : Int) < 8 := by omega
  obtain ⟨n0, e0⟩ : ∃ n, u16at b 0 = n := ⟨_, rfl⟩
  obtain ⟨n2, e2⟩ : ∃ n, u16at b 2 = n := ⟨_, rfl⟩
  obtain ⟨n4, e4⟩ : ∃ n, u16at b 4 = n := ⟨_, rfl⟩
  obtain ⟨n6, e6⟩ : ∃ n, u16at b 6 = n := ⟨_, rfl⟩
  have q0 : n0 ≤ 65535 := e0 ▸ u16at_lt b 0
  have q2 : n2 ≤ 65535 := e2 ▸ u16at_lt b 2
  have q4 : n4 ≤ 65535 := e4 ▸ u16at_lt b 4
  have q6 : n6 ≤ 65535 := e6 ▸ u16at_lt b 6
  have E0 := hid e0; have E2 := hid e2; have E4 := hid e4; have E6 := hid e6
  have Hp := hid (show udpParse src dst b = if n4 < 8 then ((0, 0, []), 15) else if b.length < n4 then ((0, 0, []), 11) else if n6 ≠ 0 ∧ n6 ≠ udpSum src dst (b.take n4) then ((0, 0, []), 13) else ((n0, n2, (b.take n4).drop 8), 0) by
    unfold udpParse; rw [if_neg hl8, e0, e2, e4, e6])
  clear e0 e2 e4 e6
  by_cases h4 : n4 < 8
  · have Hr := hid (show udpParse src dst b = ((0, 0, []), 15) by rw [Hp.out, if_pos h4])
    have h4' : (n4 : Int) < 8 := by omega
    rw [Hr.out]
    go_enter Try.func7, Try.ntmps7
    go_wp2_with (first
      | (go_at_call 13; (with_reducible refine (be2 _ b 0 n0 0 _ (by (repeat (first | exact Hb.out | refine Bs.alloc ?_ _))) (by omega) (by omega) E0.out hlen).mono ?_); rintro e w' ⟨rfl, rfl⟩) | (go_at_call 13; (with_reducible refine (be2 _ b 2 n2 2 _ (by (repeat (first | exact Hb.out | refine Bs.alloc ?_ _))) (by omega) (by omega) E2.out hlen).mono ?_); rintro e w' ⟨rfl, rfl⟩) | (go_at_call 13; (with_reducible refine (be2 _ b 4 n4 4 _ (by (repeat (first | exact Hb.out | refine Bs.alloc ?_ _))) (by omega) (by omega) E4.out hlen).mono ?_); rintro e w' ⟨rfl, rfl⟩) | (go_at_call 13; (with_reducible refine (be2 _ b 6 n6 6 _ (by (repeat (first | exact Hb.out | refine Bs.alloc ?_ _))) (by omega) (by omega) E6.out hlen).mono ?_); rintro e w' ⟨rfl, rfl⟩))
    refine ret_cell2 rfl _ _ _ _ rfl (Blk.new _ _ _) Try.underlying25 dginfo _ rfl rfl ?_
    exact ⟨_, rfl, OwnBs.nil _ _ _, below_alloc _ _⟩
  have h4' : ¬ (n4 : Int) < 8 := by omega
  by_cases hsh : b.length < n4
  · have Hr := hid (show udpParse src dst b = ((0, 0, []), 11) by rw [Hp.out, if_neg h4, if_pos hsh])
    rw [Hr.out]
    go_enter Try.func7, Try.ntmps7
    go_wp2_with (first
      | (go_at_call 13; (with_reducible refine (be2 _ b 0 n0 0 _ (by (repeat (first | exact Hb.out | refine Bs.alloc ?_ _))) (by omega) (by omega) E0.out hlen).mono ?_); rintro e w' ⟨rfl, rfl⟩) | (go_at_call 13; (with_reducible refine (be2 _ b 2 n2 2 _ (by (repeat (first | exact Hb.out | refine Bs.alloc ?_ _))) (by omega) (by omega) E2.out hlen).mono ?_); rintro e w' ⟨rfl, rfl⟩) | (go_at_call 13; (with_reducible refine (be2 _ b 4 n4 4 _ (by (repeat (first | exact Hb.out | refine Bs.alloc ?_ _))) (by omega) (by omega) E4.out hlen).mono ?_); rintro e w' ⟨rfl, rfl⟩) | (go_at_call 13; (with_reducible refine (be2 _ b 6 n6 6 _ (by (repeat (first | exact Hb.out | refine Bs.alloc ?_ _))) (by omega) (by omega) E6.out hlen).mono ?_); rintro e w' ⟨rfl, rfl⟩))
    refine ret_cell2 rfl _ _ _ _ rfl (Blk.new _ _ _) Try.underlying25 dginfo _ rfl rfl ?_
    exact ⟨_, rfl, OwnBs.nil _ _ _, below_alloc _ _⟩
  obtain ⟨ii, hii, hz, hss, hby⟩ := info_parts u8info
  have c1 := run_cut_to (P := Try.prog) (T := 23) Try.underlying23 hii A b.length cap .i64 n4 n4 rfl (by omega)
  have c3 := run_cut (P := Try.prog) (T := 23) Try.underlying23 hii A b.length cap .i64 .i64 8 n4 8 (n4 - 8) rfl (by omega) (by omega)
  rw [hss] at c1 c3
  clear hii hz hss hby
  have B1 := hid (show Bs w (.slice (cutA A cap 0 1) n4 cap) (b.take n4) by have := Bs.cut (l := 0) (k := n4) Hb.out (by omega); simpa using this)
  have B3 := hid (show Bs w (.slice (cutA A cap 8 1) (n4 - 8) (cap - 8)) ((b.take n4).drop 8) by have := Bs.cut (l := 8) (k := n4 - 8) Hb.out (by omega); rwa [← List.drop_take] at this)
  have hlt := hid (show (b.take n4).length = n4 by simp; omega)
  have hld := hid (show ((b.take n4).drop 8).length = n4 - 8 by simp; omega)
  generalize (b.take n4).drop 8 = data at *
  obtain ⟨S, hS⟩ : ∃ S, udpSum src dst (b.take n4) = S := ⟨_, rfl⟩
  have HS := hid hS; clear hS
  rw [HS.out] at Hp
  have hS16 : S ≤ 65535 := by rw [← HS.out]; unfold udpSum inet; simp only; split <;> omega
  by_cases h6 : n6 = 0
  · have Hr := hid (show udpParse src dst b = ((n0, n2, data), 0) by rw [Hp.out, if_neg h4, if_neg hsh, if_neg (by simp [h6])])
    have hne : ((n6 : Int) != 0) = false := by simp [h6]
    clear h6
    rw [Hr.out]
    go_enter Try.func7, Try.ntmps7
    go_wp2_with (first
      | (go_at_call 13; (with_reducible refine (be2 _ b 0 n0 0 _ (by (repeat (first | exact Hb.out | refine Bs.alloc ?_ _))) (by omega) (by omega) E0.out hlen).mono ?_); rintro e w' ⟨rfl, rfl⟩) | (go_at_call 13; (with_reducible refine (be2 _ b 2 n2 2 _ (by (repeat (first | exact Hb.out | refine Bs.alloc ?_ _))) (by omega) (by omega) E2.out hlen).mono ?_); rintro e w' ⟨rfl, rfl⟩) | (go_at_call 13; (with_reducible refine (be2 _ b 4 n4 4 _ (by (repeat (first | exact Hb.out | refine Bs.alloc ?_ _))) (by omega) (by omega) E4.out hlen).mono ?_); rintro e w' ⟨rfl, rfl⟩) | (go_at_call 13; (with_reducible refine (be2 _ b 6 n6 6 _ (by (repeat (first | exact Hb.out | refine Bs.alloc ?_ _))) (by omega) (by omega) E6.out hlen).mono ?_); rintro e w' ⟨rfl, rfl⟩)
      | ((go_at_call 15; refine (clone_any _ _ _ (B3.out.alloc _) (by have := hld.out; omega)).mono ?_; rintro e w' ⟨v1, rfl, hown, hb1⟩); have Hown := hid hown; have Hb1 := hid ((below_alloc w _).trans (hb1.mono (by simp))); have Hblk := hid ((Blk.new w _ _).keep hb1); obtain ⟨A1, cap1, rfl, _, _, _⟩ := hown.bs.cells; clear hown hb1)
      | ((with_reducible show wpList _ _ _ (Oper.mk none _ _ _ _ _ :: _) _ _); refine wpList_storeBlk rfl _ _ _ rfl _ _ rfl rfl _ _ Hblk.out dginfo rfl rfl ?_; intro w9 hblk9 hg9 hsz9))
    refine ret_cell2 rfl _ _ _ _ rfl hblk9 Try.underlying25 dginfo _ rfl rfl ?_; exact ⟨_, rfl, ownBs_store (Hown.out.mono (base' := w.heap.size) (by first | (simp; done) | (have := Hb0.out.size; simp at this; omega))) Hblk.out (by decide) hg9, below_own Hb1.out hg9 (Nat.le_refl _) Hb1.out.size⟩
  have hne : ((n6 : Int) != 0) = true := by simp; omega
  by_cases hsm : n6 = S
  · have Hr := hid (show udpParse src dst b = ((n0, n2, data), 0) by rw [Hp.out, if_neg h4, if_neg hsh, if_neg (by simp [hsm])])
    have hne2 : ((n6 : Int) != (S : Int)) = false := by simp [hsm]
    clear h6 hsm
    rw [Hr.out]
    go_enter Try.func7, Try.ntmps7
    go_wp2_with (first
      | (go_at_call 13; (with_reducible refine (be2 _ b 0 n0 0 _ (by (repeat (first | exact Hb.out | refine Bs.alloc ?_ _))) (by omega) (by omega) E0.out hlen).mono ?_); rintro e w' ⟨rfl, rfl⟩) | (go_at_call 13; (with_reducible refine (be2 _ b 2 n2 2 _ (by (repeat (first | exact Hb.out | refine Bs.alloc ?_ _))) (by omega) (by omega) E2.out hlen).mono ?_); rintro e w' ⟨rfl, rfl⟩) | (go_at_call 13; (with_reducible refine (be2 _ b 4 n4 4 _ (by (repeat (first | exact Hb.out | refine Bs.alloc ?_ _))) (by omega) (by omega) E4.out hlen).mono ?_); rintro e w' ⟨rfl, rfl⟩) | (go_at_call 13; (with_reducible refine (be2 _ b 6 n6 6 _ (by (repeat (first | exact Hb.out | refine Bs.alloc ?_ _))) (by omega) (by omega) E6.out hlen).mono ?_); rintro e w' ⟨rfl, rfl⟩)
      | ((go_at_call 14; refine (sum_any _ (b.take n4) src dst _ (B1.out.alloc _) (by have := hlt.out; omega) (by have := hlt.out; omega) hs hd).mono ?_; rintro e w' ⟨rfl, hb0⟩); rw [HS.out]; have Hb0 := hid hb0; clear hb0)
      | ((go_at_call 15; refine (clone_any _ _ _ ((B3.out.alloc _).below Hb0.out) (by have := hld.out; omega)).mono ?_; rintro e w' ⟨v1, rfl, hown, hb1⟩); have Hown := hid hown; have Hb1 := hid ((below_alloc w _).trans ((Hb0.out.mono (by simp)).trans (hb1.mono (by have := Hb0.out.size; simp at this; omega)))); have Hblk := hid (((Blk.new w _ _).keep Hb0.out).keep hb1); obtain ⟨A1, cap1, rfl, _, _, _⟩ := hown.bs.cells; clear hown hb1)
      | ((with_reducible show wpList _ _ _ (Oper.mk none _ _ _ _ _ :: _) _ _); refine wpList_storeBlk rfl _ _ _ rfl _ _ rfl rfl _ _ Hblk.out dginfo rfl rfl ?_; intro w9 hblk9 hg9 hsz9))
    refine ret_cell2 rfl _ _ _ _ rfl hblk9 Try.underlying25 dginfo _ rfl rfl ?_; exact ⟨_, rfl, ownBs_store (Hown.out.mono (base' := w.heap.size) (by first | (simp; done) | (have := Hb0.out.size; simp at this; omega))) Hblk.out (by decide) hg9, below_own Hb1.out hg9 (Nat.le_refl _) Hb1.out.size⟩
  · have Hr := hid (show udpParse src dst b = ((0, 0, []), 13) by rw [Hp.out, if_neg h4, if_neg hsh, if_pos ⟨h6, hsm⟩])
    have hne2 : ((n6 : Int) != (S : Int)) = true := by simp; omega
    clear h6 hsm
    rw [Hr.out]
    go_enter Try.func7, Try.ntmps7
    go_wp2_with (first
      | (go_at_call 13; (with_reducible refine (be2 _ b 0 n0 0 _ (by (repeat (first | exact Hb.out | refine Bs.alloc ?_ _))) (by omega) (by omega) E0.out hlen).mono ?_); rintro e w' ⟨rfl, rfl⟩) | (go_at_call 13; (with_reducible refine (be2 _ b 2 n2 2 _ (by (repeat (first | exact Hb.out | refine Bs.alloc ?_ _))) (by omega) (by omega) E2.out hlen).mono ?_); rintro e w' ⟨rfl, rfl⟩) | (go_at_call 13; (with_reducible refine (be2 _ b 4 n4 4 _ (by (repeat (first | exact Hb.out | refine Bs.alloc ?_ _))) (by omega) (by omega) E4.out hlen).mono ?_); rintro e w' ⟨rfl, rfl⟩) | (go_at_call 13; (with_reducible refine (be2 _ b 6 n6 6 _ (by (repeat (first | exact Hb.out | refine Bs.alloc ?_ _))) (by omega) (by omega) E6.out hlen).mono ?_); rintro e w' ⟨rfl, rfl⟩)
      | ((go_at_call 14; refine (sum_any _ (b.take n4) src dst _ (B1.out.alloc _) (by have := hlt.out; omega) (by have := hlt.out; omega) hs hd).mono ?_; rintro e w' ⟨rfl, hb0⟩); rw [HS.out]; have Hb0 := hid ((below_alloc w _).trans (hb0.mono (by simp))); have Hblk := hid ((Blk.new w _ _).keep hb0); clear hb0)
      | ((with_reducible show wpList _ _ _ (Oper.mk none _ _ _ _ _ :: _) _ _); refine wpList_storeBlk rfl _ _ _ rfl _ _ rfl rfl _ _ Hblk.out dginfo rfl rfl ?_; intro w9 hblk9 hg9 hsz9))
    refine ret_cell2 rfl _ _ _ _ rfl hblk9 Try.underlying25 dginfo _ rfl rfl ?_
    exact ⟨_, rfl, OwnBs.nil _ _ _, below_own Hb0.out hg9 (Nat.le_refl _) Hb0.out.size⟩
end Go.Proofs.Ytgiodkjcefcebaa
