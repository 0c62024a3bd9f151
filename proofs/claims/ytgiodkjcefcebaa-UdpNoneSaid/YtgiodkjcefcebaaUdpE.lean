/- Contract of udp.Write. -/
import Derived.Test.YtgiodkjcefcebaaUdpD
import Derived.Test.YtgiodkjcefcebaaOwn
namespace Go.Proofs.Ytgiodkjcefcebaa
open Go Go.RowKit

theorem udpSum_lt (src dst : Nat) (b : List UInt8) : udpSum src dst b ≤ 65535 := by
  unfold udpSum inet; simp only; split <;> omega

/-- the sum of a bare datagram, written into its place -/
theorem bare_set (f t n : Nat) (data s : List UInt8) (hs : s.length = 2) :
    (beBytes 2 f ++ beBytes 2 t ++ beBytes 2 n ++ [0, 0] ++ data).take 6 ++ (s ++ (beBytes 2 f ++ beBytes 2 t ++ beBytes 2 n ++ [0, 0] ++ data).drop (6 + s.length))
      = beBytes 2 f ++ beBytes 2 t ++ beBytes 2 n ++ s ++ data := by
  have h6 : (beBytes 2 f ++ beBytes 2 t ++ beBytes 2 n).length = 6 := by simp [beBytes_len]
  generalize beBytes 2 f ++ beBytes 2 t ++ beBytes 2 n = H at *
  have e1 : (H ++ [0, 0] ++ data).take 6 = H := by rw [List.append_assoc]; exact List.take_left' h6
  have e2 : (H ++ [0, 0] ++ data).drop (6 + s.length) = data := List.drop_left' (by simp [h6, hs])
  rw [e1, e2, ← List.append_assoc]

set_option maxHeartbeats 1000000 in
theorem write_ok (v : Value) (data : List UInt8) (src dst : Nat) (f t : Nat) (w : World) (h : Bs w v data) (hl : data.length ≤ 65507) (hs : src < 4294967296) (hd : dst < 4294967296) (hf : f ≤ 65535) (ht : t ≤ 65535) :
    Calls Try.prog 9 #[.int .u32 src, .int .u32 dst, .agg #[.int .i64 f, .int .i64 t, v]] w fun e w' => ∃ v', e = .returned (.tuple #[v', .int .i64 0]) ∧
      OwnBs w' w.heap.size 5 v' (udpFull src dst f t data) ∧ Below w.heap.size w w' := by
  have Hb := hid h
  obtain ⟨A, cap, rfl, k1, k2, _⟩ := h.cells
  clear h
  have g1 : ¬ (f : Int) < 0 := by omega
  have g2 : ¬ (f : Int) > 65535 := by omega
  have g3 : ¬ (t : Int) < 0 := by omega
  have g4 : ¬ (t : Int) > 65535 := by omega
  have g5 : ¬ (data.length : Int) > 65507 := by omega
  have Hp1 := hid (put_fits beBytes [] 2 2 [f, t, 8 + data.length, 0] rfl (by decide) (by simp; omega))
  have He1 := hid (show [] ++ [f, t, 8 + data.length, 0].flatMap (beBytes 2) = beBytes 2 f ++ beBytes 2 t ++ beBytes 2 (8 + data.length) ++ [0, 0] by have h0 : beBytes 2 0 = [0, 0] := (by decide); simp [h0])
  rw [He1.out] at Hp1
  have Hh8 := hid (show (beBytes 2 f ++ beBytes 2 t ++ beBytes 2 (8 + data.length) ++ [0, 0]).length = 8 by simp [beBytes_len])
  obtain ⟨S, hS⟩ : ∃ S, udpSum src dst (udpBare f t data) = S := ⟨_, rfl⟩
  have hS16 : S ≤ 65535 := hS ▸ udpSum_lt _ _ _
  have HS := hid hS; clear hS
  have Hp2 := hid (put_fits beBytes [] 2 2 [S] rfl (by decide) (by simp; omega))
  have He2 := hid (show [] ++ [S].flatMap (beBytes 2) = beBytes 2 S by simp)
  rw [He2.out] at Hp2
  have Hset := hid (bare_set f t (8 + data.length) data (beBytes 2 S) (beBytes_len _ _))
  have HF := hid (show udpFull src dst f t data = beBytes 2 f ++ beBytes 2 t ++ beBytes 2 (8 + data.length) ++ beBytes 2 S ++ data by unfold udpFull; rw [HS.out])
  have HB := hid (show beBytes 2 f ++ beBytes 2 t ++ beBytes 2 (8 + data.length) ++ [0, 0] ++ data = udpBare f t data from rfl)
  rw [HB.out] at Hset
  have Hbl := hid (show (udpBare f t data).length = 8 + data.length by unfold udpBare; simp [beBytes_len]; omega)
  rw [← HF.out] at Hset
  clear He1 He2 HF
  go_enter Try.func9, Try.ntmps9
  obtain ⟨ii, hii, hz, hss, hby⟩ := info_parts u8info
  clear hz hby
  go_wp2_with (first
    | ((go_at_call 18; (with_reducible refine (putBe_any _ [] 2 _ [f, t, 8 + data.length, 0] _ (Bs.nil _) (u64_lit #[.int .u64 (f : Int), .int .u64 (t : Int), .int .u64 (8 + (data.length : Int)), .int .u64 (0 : Int)] [f, t, 8 + data.length, 0] 4 _ (by simp) rfl (by simp) (by simp) (by simp; omega)) (by simp)).mono ?_); rintro e w' ⟨v1, rfl, hown, hb1⟩); rw [Hp1.out] at hown ⊢; simp only at hown ⊢; have Hown := hid (hown.mono (base' := w.heap.size) (by simp; omega)); have Hb1 := hid ((below_alloc' (below_alloc w _) _).trans (hb1.mono (by simp; omega))); have hc2 := (((Blk.new w _ _).alloc _).keep hb1).cell 2; clear hown hb1)
    | ((with_reducible show wpList _ _ _ (Oper.mk (some 55) _ _ _ _ _ :: _) _ _); refine wpList_app8 _ rfl _ _ 23 rfl w.heap.size 5 u8ok _ _ rfl Hown.out _ data rfl (Hb.out.below Hb1.out) (by rw [Hh8.out]; omega) Hb1.out.size ?_; intro v2 w2 hown2 hb2 hg2 hat2; clear hg2 hat2; rw [HB.out] at hown2; have Hown2 := hid hown2; have Hb2 := hid (Hb1.out.trans hb2); obtain ⟨g, cap2, rfl, q1, q2, q3⟩ := own_open hown2 (by rw [Hbl.out]; omega); have c6 := run_tail (P := Try.prog) (T := 23) Try.underlying23 hii hss g (udpBare f t data).length cap2 .i64 6 6 rfl (by rw [Hbl.out]; omega) q1 (by have := Hbl.out; omega); clear hown2 hb2)
    | ((go_at_call 14; refine (sum_any _ (udpBare f t data) src dst _ Hown2.out.bs (by rw [Hbl.out]; omega) (by rw [Hbl.out]; omega) hs hd).mono ?_; rintro e w' ⟨rfl, hb3⟩); rw [HS.out]; have Hown3 := hid (Hown2.out.below hb3); have Hb3 := hid (Hb2.out.trans (hb3.mono Hb2.out.size)); clear hb3)
    | ((go_at_call 18; (with_reducible refine (putBe_any _ [] 2 _ [S] _ (Bs.nil _) (u64_lit #[.int .u64 (S : Int)] [S] 1 _ rfl rfl (by simp) (by simp) (by simp; omega)) (by simp)).mono ?_); rintro e w' ⟨v4, rfl, hown4, hb4⟩); rw [Hp2.out] at hown4 ⊢; simp only at hown4 ⊢; have Hown4 := hid ((Hown3.out.alloc _).below hb4); have Hs4 := hid hown4.bs; have Hb4 := hid ((below_alloc' Hb3.out _).trans (hb4.mono (by have := Hb3.out.size; simp; omega))); clear hown4 hb4)
    | ((with_reducible show wpList _ _ _ (Oper.mk (some 69) _ _ _ _ _ :: _) _ _); refine wpList_copy8 rfl _ _ 23 rfl 5 u8ok w.heap.size g cap2 (udpBare f t data) Hown4.out 6 _ _ rfl (by rw [Hbl.out]; omega) _ (beBytes 2 S) rfl Hs4.out (by rw [Hbl.out, beBytes_len]; omega) ?_; intro w5 hown5 hg5 hsz5; rw [Hset.out] at hown5; have Hown5 := hid hown5; have Hb5 := hid (below_own Hb4.out hg5 q2 Hb4.out.size); clear hown5))
  go_ret2
  exact ⟨_, rfl, Hown5.out, Hb5.out⟩

theorem write_any (v : Value) (data : List UInt8) (src dst : Nat) (f t : Int) (w : World) (h : Bs w v data) (hl : data.length ≤ 1099511627776) (hs : src < 4294967296) (hd : dst < 4294967296) :
    Calls Try.prog 9 #[.int .u32 src, .int .u32 dst, .agg #[.int .i64 f, .int .i64 t, v]] w fun e w' => ∃ v', e = .returned (.tuple #[v', .int .i64 (udpWrite src dst f t data).2]) ∧
      OwnBs w' w.heap.size 5 v' (udpWrite src dst f t data).1 ∧ Below w.heap.size w w' := by
  by_cases hr : f < 0 ∨ f > 65535 ∨ t < 0 ∨ t > 65535
  · have Hr := hid (show udpWrite src dst f t data = ([], 1) by unfold udpWrite; rw [if_pos hr])
    rw [Hr.out]
    obtain ⟨A, cap, rfl, k1, k2, _⟩ := h.cells
    clear h
    by_cases g1 : f < 0
    · go_enter Try.func9, Try.ntmps9
      go_wp2_with fail
      go_ret2
      exact ⟨_, rfl, OwnBs.nil _ _ _, below_alloc _ _⟩
    by_cases g2 : f > 65535
    · go_enter Try.func9, Try.ntmps9
      go_wp2_with fail
      go_ret2
      exact ⟨_, rfl, OwnBs.nil _ _ _, below_alloc _ _⟩
    by_cases g3 : t < 0
    · go_enter Try.func9, Try.ntmps9
      go_wp2_with fail
      go_ret2
      exact ⟨_, rfl, OwnBs.nil _ _ _, below_alloc _ _⟩
    have g4 : t > 65535 := by omega
    go_enter Try.func9, Try.ntmps9
    go_wp2_with fail
    go_ret2
    exact ⟨_, rfl, OwnBs.nil _ _ _, below_alloc _ _⟩
  by_cases h5 : data.length > 65507
  · have Hr := hid (show udpWrite src dst f t data = ([], 5) by unfold udpWrite; rw [if_neg hr, if_pos h5])
    rw [Hr.out]
    obtain ⟨A, cap, rfl, k1, k2, _⟩ := h.cells
    clear h
    have g1 : ¬ f < 0 := by omega
    have g2 : ¬ f > 65535 := by omega
    have g3 : ¬ t < 0 := by omega
    have g4 : ¬ t > 65535 := by omega
    have g5 : (data.length : Int) > 65507 := by omega
    go_enter Try.func9, Try.ntmps9
    go_wp2_with fail
    go_ret2
    exact ⟨_, rfl, OwnBs.nil _ _ _, below_alloc _ _⟩
  obtain ⟨nf, rfl⟩ : ∃ n : Nat, f = n := ⟨f.toNat, by omega⟩
  obtain ⟨nt, rfl⟩ : ∃ n : Nat, t = n := ⟨t.toNat, by omega⟩
  have hr2 : udpWrite src dst nf nt data = (udpFull src dst nf nt data, 0) := by unfold udpWrite; rw [if_neg hr, if_neg h5, Int.toNat_natCast, Int.toNat_natCast]
  rw [hr2]
  exact write_ok v data src dst nf nt w h (by omega) hs hd (by omega) (by omega)
end Go.Proofs.Ytgiodkjcefcebaa
