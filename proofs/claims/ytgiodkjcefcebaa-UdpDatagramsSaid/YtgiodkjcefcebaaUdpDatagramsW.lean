/- The walk of UdpDatagrams. -/
import Derived.Test.YtgiodkjcefcebaaUdpL
import Derived.Test.YtgiodkjcefcebaaKept
namespace Go.Proofs.Ytgiodkjcefcebaa
open Go Go.RowKit

set_option maxHeartbeats 1000000 in
theorem udpDatagrams_walk (vb : Value) (b : List UInt8) (v : Value) (data : List UInt8) (src dst : Nat) (f t : Int) (w : World) (h : Bs w vb b) (h2 : Bs w v data) (hs : src < 4294967296) (hd : dst < 4294967296) :
    Calls Try.prog 3 #[.int .u32 src, .int .u32 dst, vb, .agg #[.int .i64 f, .int .i64 t, v]] w fun e w' => e = .returned (.bool true) ∧ Below w.heap.size w w' := by
  have HB := hid h; have HD := hid h2
  obtain ⟨A, cap, rfl, k1, k2, _⟩ := h.cells
  obtain ⟨A2, cap2, rfl, k3, k4, _⟩ := h2.cells
  clear h h2
  have K0 := hid (((Kept.new w).add HB.out).add HD.out)
  by_cases hbig : b.length > 16384 ∨ data.length > 70000
  · by_cases g1 : (b.length : Int) > 16384
    · go_enter Try.func3, Try.ntmps3
      go_wp2_with ((go_at_call 6; refine (known_any _).mono ?_; rintro e w' ⟨rfl, hb1⟩); have K1 := hid (((K0.out.step (below_alloc w _)).addB (Blk.new w _ _)).step hb1); have hc2 := (K1.out.b 0 rfl).cell 2; have hc0 := (K1.out.b 0 rfl).cell 0; have hc1 := (K1.out.b 0 rfl).cell 1; clear hb1)
      go_ret
      exact ⟨rfl, K1.out.bel⟩
    · have g2 : (data.length : Int) > 70000 := by omega
      go_enter Try.func3, Try.ntmps3
      go_wp2_with ((go_at_call 6; refine (known_any _).mono ?_; rintro e w' ⟨rfl, hb1⟩); have K1 := hid (((K0.out.step (below_alloc w _)).addB (Blk.new w _ _)).step hb1); have hc2 := (K1.out.b 0 rfl).cell 2; have hc0 := (K1.out.b 0 rfl).cell 0; have hc1 := (K1.out.b 0 rfl).cell 1; clear hb1)
      go_ret
      exact ⟨rfl, K1.out.bel⟩
  have g1 : ¬ (b.length : Int) > 16384 := by omega
  have g2 : ¬ (data.length : Int) > 70000 := by omega
  have hl : data.length ≤ 1099511627776 := by omega
  rcases hP : udpParse src dst b with ⟨⟨pf, pt, pd⟩, pe⟩
  rcases hW : udpWrite src dst f t data with ⟨q, qe⟩
  have HP := hid hP; have HW := hid hW
  clear hP hW
  go_enter Try.func3, Try.ntmps3
  go_wp2_with (first
    | ((go_at_call 6; refine (known_any _).mono ?_; rintro e w' ⟨rfl, hb1⟩); have K1 := hid (((K0.out.step (below_alloc w _)).addB (Blk.new w _ _)).step hb1); have hc2 := (K1.out.b 0 rfl).cell 2; have hc0 := (K1.out.b 0 rfl).cell 0; have hc1 := (K1.out.b 0 rfl).cell 1; clear hb1)
    | ((with_reducible show wpList _ _ _ (Oper.mk (some 32) _ _ _ _ _ :: _) _ _); refine wpList_app8 _ rfl _ _ 23 rfl w'.heap.size 5 u8ok (.slice (some ⟨w'.heap.size, 0, none⟩) 0 0) [] rfl (ownBs_litNil rfl (Nat.le_refl _)) _ b rfl ((K1.out.r 1 rfl).alloc _) (by simp; omega) (by simp) ?_; intro v1 w1 hown1 hb1 hg1 hat1; clear hg1 hat1; rw [List.nil_append] at hown1; have K2 := hid ((K1.out.step ((below_alloc w' _).trans hb1)).add hown1.bs); clear hown1 hb1)
    | ((go_at_call 7; refine (parse_any _ b src dst _ (K2.out.r 0 rfl) (by omega) hs hd).mono ?_; rintro e w' ⟨v2, rfl, hown, hb⟩); rw [HP.out] at hown ⊢; simp only at hown ⊢; obtain ⟨A3, cap3, rfl, _, _, _⟩ := hown.bs.cells; have K3 := hid ((K2.out.step hb).add hown.bs); clear hown hb)
    | ((go_at_call 8; refine (rparse_any _ b src dst _ (K4.out.r 3 rfl) (by omega) hs hd).mono ?_; rintro e w' ⟨v2, rfl, hown, hb⟩); rw [HP.out] at hown ⊢; simp only at hown ⊢; obtain ⟨A4, cap4, rfl, _, _, _⟩ := hown.bs.cells; have K5 := hid ((K4.out.step hb).add hown.bs); clear hown hb)
    | ((with_reducible show wpList _ _ _ (Oper.mk none _ _ _ _ _ :: _) _ _); refine wpList_storeBlk rfl _ _ _ rfl _ _ rfl rfl _ _ (Blk.new _ _ _) rdginfo rfl rfl ?_; intro w6 hblk6 hg6 hsz6; have K6 := hid ((K5.out.step (below_new_store hg6)).addB hblk6); have hc2b := ((K6.out.b 2 rfl).alloc (.cells #[] 5)).cell 2; clear hblk6 hg6 hsz6)
    | ((with_reducible show wpList _ _ _ (Oper.mk none _ _ _ _ _ :: _) _ _); refine wpList_storeBlk rfl _ _ _ rfl _ _ rfl rfl _ _ (Blk.new _ _ _) dginfo rfl rfl ?_; intro w4 hblk4 hg4 hsz4; have K4 := hid ((K3.out.step (below_new_store hg4)).addB hblk4); clear hblk4 hg4 hsz4)
    | ((with_reducible show wpList _ _ _ (Oper.mk (some 50) _ _ _ _ _ :: _) _ _); refine wpList_app8 _ rfl _ _ 23 rfl w6.heap.size 5 u8ok (.slice (some ⟨w6.heap.size, 0, none⟩) 0 0) [] rfl (ownBs_litNil rfl (Nat.le_refl _)) _ data rfl ((K6.out.r 3 rfl).alloc _) (by simp; omega) (by simp) ?_; intro v7 w7 hown7 hb7 hg7 hat7; clear hg7 hat7; rw [List.nil_append] at hown7; obtain ⟨A7, cap7, rfl, _, _, _⟩ := hown7.bs.cells; have K7 := hid ((K6.out.step ((below_alloc w6 _).trans hb7)).add hown7.bs); have hc0c := (K7.out.b 2 rfl).cell 0; have hc1c := (K7.out.b 2 rfl).cell 1; clear hown7 hb7)
    | ((go_at_call 9; refine (write_any _ data src dst f t _ (K7.out.r 0 rfl) hl hs hd).mono ?_; rintro e w' ⟨v8, rfl, hown, hb⟩); rw [HW.out] at hown ⊢; simp only at hown ⊢; have K8 := hid ((K7.out.step hb).add hown.bs); have hc0d := (K8.out.b 2 rfl).cell 0; have hc1d := (K8.out.b 2 rfl).cell 1; have hc2d := (K8.out.b 2 rfl).cell 2; clear hown hb)
    | ((go_at_call 10; refine (rwrite_any _ data src dst f t _ (K8.out.r 5 rfl) hl hs hd).mono ?_; rintro e w' ⟨v9, rfl, hown, hb⟩); rw [HW.out] at hown ⊢; simp only at hown ⊢; have K9 := hid ((K8.out.step hb).add hown.bs); clear hown hb)
    | ((with_reducible show wpList _ _ _ (Oper.mk (some 76) _ _ _ _ _ :: _) _ _); refine wpList_loadBlk rfl _ _ rfl _ rfl _ _ _ (K9.out.b 1 rfl) Try.underlying25 dginfo ?_)
    | ((with_reducible show wpList _ _ _ (Oper.mk (some 77) _ _ _ _ _ :: _) _ _); refine wpList_loadBlk rfl _ _ rfl _ rfl _ _ _ (K9.out.b 0 rfl) Try.underlying30 rdginfo ?_)
    | ((go_at_call 11; refine (same_any _ _ _ _ pd _ (K9.out.r 4 rfl) (K9.out.r 3 rfl)).mono ?_; rintro e w' ⟨rfl, hb⟩); have K10 := hid (K9.out.step hb); have hc2e := (K10.out.b 2 rfl).cell 2; have s1 := run_str Try.underlying23 Try.underlying5 Try.underlying9 (K10.out.r 0 rfl); have s2 := run_str Try.underlying23 Try.underlying5 Try.underlying9 (K10.out.r 1 rfl); have s3 := run_str Try.underlying23 Try.underlying5 Try.underlying9 (K10.out.r 2 rfl); have s4 := run_str Try.underlying23 Try.underlying5 Try.underlying9 (K10.out.r 5 rfl); have s5 := run_str Try.underlying23 Try.underlying5 Try.underlying9 (K10.out.r 6 rfl); have s6 := run_str Try.underlying23 Try.underlying5 Try.underlying9 (K10.out.r 7 rfl); clear hb))
  go_ret
  exact ⟨rfl, K10.out.bel⟩
end Go.Proofs.Ytgiodkjcefcebaa
