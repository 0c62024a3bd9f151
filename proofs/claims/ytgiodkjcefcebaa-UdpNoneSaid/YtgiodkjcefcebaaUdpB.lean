/- Contract of the document's sum of a datagram. -/
import Derived.Test.YtgiodkjcefcebaaUdpA
namespace Go.Proofs.Ytgiodkjcefcebaa
open Go Go.RowKit

theorem rsum_any (v : Value) (b : List UInt8) (src dst : Nat) (w : World) (h : Bs w v b) (h8 : 8 ≤ b.length) (hl : b.length ≤ 65535) (hs : src < 4294967296) (hd : dst < 4294967296) :
    Calls Try.prog 17 #[.int .u32 src, .int .u32 dst, v] w fun e w' => e = .returned (.int .u16 (udpSum src dst b : Int)) ∧ Below w.heap.size w w' := by
  have Hb := hid h
  obtain ⟨A, cap, rfl, k1, k2, _⟩ := h.cells
  clear h
  obtain ⟨ii, hii, hz, hss, hby⟩ := info_parts u8info
  have c1 := run_cut_to (P := Try.prog) (T := 23) Try.underlying23 hii A b.length cap .i64 6 6 rfl (by omega)
  have c3 := run_cut_from (P := Try.prog) (T := 23) Try.underlying23 hii A b.length cap .i64 8 8 (b.length - 8) rfl (by omega) (by omega)
  rw [hss] at c1 c3
  clear hii hz hss hby
  have B1 := hid (show Bs w (.slice (cutA A cap 0 1) 6 cap) (b.take 6) by have := Bs.cut (l := 0) (k := 6) Hb.out (by omega); simpa using this)
  have B2 := hid (show Bs w (.slice (cutA A cap 8 1) (b.length - 8) (cap - 8)) (b.drop 8) by have := Bs.cut (l := 8) (k := b.length - 8) Hb.out (by omega); rwa [List.take_of_length_le (by simp)] at this)
  have He := hid (show ((((([] ++ beBytes 4 src) ++ beBytes 4 dst) ++ [0, 17]) ++ beBytes 2 b.length) ++ b.take 6 ++ [0, 0]) ++ b.drop 8 = udpHead src dst b.length ++ b.take 6 ++ [0, 0] ++ b.drop 8 by rw [show ([0, 17] : List UInt8) = beBytes 2 17 from by decide]; simp [udpHead])
  have hfl : (udpHead src dst b.length ++ b.take 6 ++ [0, 0] ++ b.drop 8).length ≤ 1099511627776 := by
    simp [udpHead, beBytes_len]; omega
  have Hfl := hid hfl; clear hfl
  have Hs := hid (show udpSum src dst b = if inet (udpHead src dst b.length ++ b.take 6 ++ [0, 0] ++ b.drop 8) = 0 then 65535 else inet (udpHead src dst b.length ++ b.take 6 ++ [0, 0] ++ b.drop 8) from rfl)
  obtain ⟨S, hS⟩ : ∃ S, inet (udpHead src dst b.length ++ b.take 6 ++ [0, 0] ++ b.drop 8) = S := ⟨_, rfl⟩
  have HS := hid hS; clear hS
  rw [HS.out] at Hs
  have hS16 : S ≤ 65535 := by rw [← HS.out]; unfold inet; omega
  go_enter Try.func17, Try.ntmps17
  go_wp2_with fail
  refine (rhigh_any _ [] 4 src _ w.heap.size (OwnBs.nil _ _ _) (Nat.le_refl _) (by decide) (by simp)).mono ?_
  rintro e w1 ⟨v1, rfl, hown1, hb1⟩
  have H1 := hid hown1; have Hb1 := hid hb1; clear hown1 hb1
  go_wp2_with fail
  refine (rhigh_any _ _ 4 dst _ w.heap.size H1.out Hb1.out.size (by decide) (by simp [beBytes_len])).mono ?_
  rintro e w2 ⟨v2, rfl, hown2, hb2⟩
  have H2 := hid hown2; have Hb2 := hid (Hb1.out.trans hb2); clear hown2 hb2 H1 Hb1
  go_wp2_with ((with_reducible show wpList _ _ _ (Oper.mk (some 17) _ _ _ _ _ :: _) _ _); refine wpList_app8 _ rfl _ _ 23 rfl w.heap.size 5 u8ok _ _ rfl (H2.out.alloc _) _ [0, 17] rfl (bs_litm #[.int .u8 0, .int .u8 17] [0, 17] _ _ rfl rfl (by decide) rfl) (by simp [beBytes_len]) (by have := Hb2.out.size; simp; omega) ?_; intro v3 w3 hown3 hb3 hg3 hat3; clear hg3 hat3; have H3 := hid hown3; have Hb3 := hid ((Hb2.out.alloc Hb2.out.size _).trans hb3); clear hown3 hb3)
  refine (rhigh_any _ _ 2 b.length _ w.heap.size H3.out Hb3.out.size (by decide) (by simp [beBytes_len])).mono ?_
  rintro e w4 ⟨v4, rfl, hown4, hb4⟩
  have H4 := hid hown4; have Hb4 := hid (Hb3.out.trans hb4); clear hown4 hb4
  go_wp2_with (first
    | ((with_reducible show wpList _ _ _ (Oper.mk (some 25) _ _ _ _ _ :: _) _ _); refine wpList_app8 _ rfl _ _ 23 rfl w.heap.size 5 u8ok _ _ rfl H4.out _ (b.take 6) rfl (B1.out.below Hb4.out) (by simp [beBytes_len]; omega) Hb4.out.size ?_; intro v5 w5 hown5 hb5 hg5 hat5; clear hg5 hat5; have H5 := hid hown5; have Hb5 := hid (Hb4.out.trans hb5); clear hown5 hb5)
    | ((with_reducible show wpList _ _ _ (Oper.mk (some 28) _ _ _ _ _ :: _) _ _); refine wpList_app8 _ rfl _ _ 23 rfl w.heap.size 5 u8ok _ _ rfl (H5.out.alloc _) _ [0, 0] rfl (bs_litm #[.int .u8 0, .int .u8 0] [0, 0] _ _ rfl rfl (by decide) rfl) (by simp [beBytes_len]; omega) (by have := Hb5.out.size; simp; omega) ?_; intro v6 w6 hown6 hb6 hg6 hat6; clear hg6 hat6; have H6 := hid hown6; have Hb6 := hid ((Hb5.out.alloc Hb5.out.size _).trans hb6); clear hown6 hb6)
    | ((with_reducible show wpList _ _ _ (Oper.mk (some 32) _ _ _ _ _ :: _) _ _); refine wpList_app8 _ rfl _ _ 23 rfl w.heap.size 5 u8ok _ _ rfl H6.out _ (b.drop 8) rfl (B2.out.below Hb6.out) (by simp [beBytes_len]; omega) Hb6.out.size ?_; intro v7 w7 hown7 hb7 hg7 hat7; clear hg7 hat7; have H7 := hid hown7; have Hb7 := hid (Hb6.out.trans hb7); clear hown7 hb7; rw [He.out] at H7)
    | ((go_at_call 22; refine (rinet_any _ _ _ H7.out.bs Hfl.out).mono ?_; rintro e w' ⟨rfl, rfl⟩); rw [HS.out]))
  all_goals
    rename_i hS0
    go_ret
    refine ⟨ret_int ?_, Hb7.out⟩
    rw [Hs.out]
    simp at hS0
    simp [hS0]
end Go.Proofs.Ytgiodkjcefcebaa
