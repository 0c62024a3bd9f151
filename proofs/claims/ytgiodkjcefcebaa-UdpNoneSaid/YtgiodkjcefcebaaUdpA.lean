/- Contracts of udp: sum, and the document's sum. -/
import Derived.Test.YtgiodkjcefcebaaNumH
import Derived.Test.YtgiodkjcefcebaaUdpSpec
import Derived.Deep.RegionHeld3
import Derived.Deep.DrawnRows
import Derived.Deep.Cut
import Derived.Deep.CutRange
namespace Go.Proofs.Ytgiodkjcefcebaa
open Go Go.RowKit
attribute [local go_sem ↓] Go.wp_at_zero Go.wp_at_succ

set_option maxHeartbeats 2000000 in
theorem sum_any (v : Value) (b : List UInt8) (src dst : Nat) (w : World) (h : Bs w v b) (h8 : 8 ≤ b.length) (hl : b.length ≤ 65535) (hs : src < 4294967296) (hd : dst < 4294967296) :
    Calls Try.prog 14 #[.int .u32 src, .int .u32 dst, v] w fun e w' => e = .returned (.int .u16 (udpSum src dst b : Int)) ∧ Below w.heap.size w w' := by
  have Hb := hid h
  obtain ⟨A, cap, rfl, k1, k2, _⟩ := h.cells
  clear h
  have Hp1 := hid (put_fits beBytes [] 4 4 [src, dst] rfl (by decide) (by simp; omega))
  have Hp2 := hid (put_fits beBytes (beBytes 4 src ++ beBytes 4 dst) 2 2 [17, b.length] rfl (by decide) (by simp; omega))
  have He1 := hid (show [] ++ [src, dst].flatMap (beBytes 4) = beBytes 4 src ++ beBytes 4 dst by simp)
  have He2 := hid (show (beBytes 4 src ++ beBytes 4 dst) ++ [17, b.length].flatMap (beBytes 2) = udpHead src dst b.length by simp [udpHead])
  rw [He1.out] at Hp1
  rw [He2.out] at Hp2
  have Hlen1 := hid (show (beBytes 4 src ++ beBytes 4 dst).length = 8 by simp [beBytes_len])
  have Hlen2 := hid (show (udpHead src dst b.length).length = 12 by simp [udpHead, beBytes_len])
  have Hs := hid (show udpSum src dst b = if inet [udpHead src dst b.length, b.take 6, [0, 0], b.drop 8].flatten = 0 then 65535 else inet [udpHead src dst b.length, b.take 6, [0, 0], b.drop 8].flatten by
    unfold udpSum; simp only [List.flatten_cons, List.flatten_nil, List.append_nil, List.append_assoc])
  have hfl : [udpHead src dst b.length, b.take 6, [0, 0], b.drop 8].flatten.length ≤ 1099511627776 := by
    simp [Hlen2.out]; omega
  have Hfl := hid hfl; clear hfl He1 He2
  go_enter Try.func14, Try.ntmps14
  go_wp2_with fail
  refine (putBe_any _ [] 4 _ [src, dst] _ (Bs.nil _) (u64_lit #[.int .u64 (src : Int), .int .u64 (dst : Int)] [src, dst] _ _ rfl rfl (by simp) (by simp) (by simp; omega)) (by simp)).mono ?_
  rintro e w1 ⟨v1, rfl, hown, hb1⟩
  rw [Hp1.out] at hown ⊢
  have Hown := hid hown
  have Hb1 := hid ((below_alloc w _).trans (hb1.mono (by simp)))
  clear hown hb1
  simp only at Hown ⊢
  generalize beBytes 4 src ++ beBytes 4 dst = hd1 at *
  go_wp2_with fail
  refine (putBe_any _ hd1 2 _ [17, b.length] _ (Hown.out.bs.alloc _) (u64_lit #[.int .u64 (17 : Int), .int .u64 (b.length : Int)] [17, b.length] _ _ rfl rfl (by simp) (by simp) (by simp; omega)) (by simp [Hlen1.out])).mono ?_
  rintro e w2 ⟨v2, rfl, hown2, hb2⟩
  rw [Hp2.out] at hown2 ⊢
  have Hown2 := hid hown2
  have Hb2 := hid ((below_alloc' Hb1.out _).trans (hb2.mono (by have := Hb1.out.size; simp; omega)))
  clear hown2 hb2
  simp only at Hown2 ⊢
  generalize udpHead src dst b.length = hd2 at *
  obtain ⟨ii, hii, hz, hs, hby⟩ := info_parts u8info
  have c1 := run_cut_to (P := Try.prog) (T := 23) Try.underlying23 hii A b.length cap .i64 6 6 rfl (by omega)
  have c3 := run_cut_from (P := Try.prog) (T := 23) Try.underlying23 hii A b.length cap .i64 8 8 (b.length - 8) rfl (by omega) (by omega)
  rw [hs] at c1 c3
  clear hii hz hs hby
  go_upto_region 3 with (fail)
  have Hb4 := hid (Hb.out.below Hb2.out)
  have B1 := hid Hown2.out.bs
  have B2 := hid (show Bs w2 (.slice (cutA A cap 0 1) 6 cap) (b.take 6) by have := Bs.cut (l := 0) (k := 6) Hb4.out (by omega); simpa using this)
  have B4 := hid (show Bs w2 (.slice (cutA A cap 8 1) (b.length - 8) (cap - 8)) (b.drop 8) by have := Bs.cut (l := 8) (k := b.length - 8) Hb4.out (by omega); rwa [List.take_of_length_le (by simp)] at this)
  obtain ⟨S, hS⟩ : ∃ S, inet [hd2, b.take 6, [0, 0], b.drop 8].flatten = S := ⟨_, rfl⟩
  have HS := hid hS; clear hS
  rw [HS.out] at Hs
  have hS16 : S ≤ 65535 := by rw [← HS.out]; unfold inet; omega
  obtain ⟨A2, cap2, rfl, n1, n2, _⟩ := Hown2.out.bs.cells
  go_region_held3 (fun _ => True) (trivial) (first
    | ((go_at_call 21; (with_reducible refine (inet_any (.slice _ 4 4) [hd2, b.take 6, [0, 0], b.drop 8] _ (by ((repeat (first | (with_reducible refine rows_four ?_ ?_ ?_ ?_ (by simp)) | refine Rows8.alloc ?_ _ | refine Rows8.drew ?_ | refine Rows8.drewN ?_ _)); all_goals (first | (exact bs_litm #[.int .u8 0, .int .u8 0] [0, 0] _ _ rfl rfl (by decide) (by simp)) | (repeat (first | refine Bs.alloc ?_ _ | refine Bs.drew ?_ | refine Bs.drewN ?_ _ | exact B1.out | exact B2.out | exact B4.out))))) Hfl.out).mono ?_); rintro e w' ⟨rfl, rfl⟩); rw [HS.out]))
  all_goals by_cases hz : S = 0
  all_goals go_wp2_with fail
  all_goals go_ret
  all_goals refine ⟨ret_int (by rw [Hs.out]; simp [hz]), ?_⟩
  all_goals (repeat (first | exact Hb2.out | refine below_alloc' ?_ _ | refine Below.drew ?_ | refine below_drewN ?_ _))
end Go.Proofs.Ytgiodkjcefcebaa
