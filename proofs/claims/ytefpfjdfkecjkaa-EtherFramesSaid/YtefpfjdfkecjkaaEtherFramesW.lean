/- The walk of EtherFrames. -/
import Derived.Test.YtefpfjdfkecjkaaEthM
namespace Go.Proofs.Ytefpfjdfkecjkaa
open Go Go.RowKit
set_option maxRecDepth 100000

set_option maxHeartbeats 4000000 in
theorem etherFrames_walk (vb : Value) (b : List UInt8) (v : Value) (f : Frm) (w : World) (h0 : Bs w vb b) (h : Bs w v f.body) :
    Calls Try.prog 3 #[vb, .agg (f.cells v).toArray] w fun e w' => e = .returned (.bool true) ∧ Below w.heap.size w w' := by
  obtain ⟨n, hn⟩ : ∃ n, b.length = n := ⟨_, rfl⟩
  obtain ⟨m, hm⟩ : ∃ n, f.body.length = n := ⟨_, rfl⟩
  obtain ⟨A0, cap0, rfl⟩ := slice_len h0 hn
  obtain ⟨A, cap, rfl⟩ := slice_len h hm
  obtain ⟨x0, x1, x2, x3, x4, x5, x6, x7, x8, x9, x10, x11, hX, hone⟩ : ∃ x0 x1 x2 x3 x4 x5 x6 x7 x8 x9 x10 x11, FrmC f (.slice A m cap) x0 x1 x2 x3 x4 x5 x6 x7 x8 x9 x10 x11 (.int .i64 f.kind) (.slice A m cap) ∧ [x0, x1, x2, x3, x4, x5, x6, x7, x8, x9, x10, x11, .int .i64 f.kind, .slice A m cap] = f.cells (.slice A m cap) := ⟨_, _, _, _, _, _, _, _, _, _, _, _, rfl, rfl⟩
  rw [← hone]
  have HX := hid hX
  have K0 := hid (((Kept.new w).add h0).add h)
  have Hn := hid hn
  have Hm := hid hm
  have hb := ((((Blk.new w 25 #[x0, x1, x2, x3, x4, x5, x6, x7, x8, x9, x10, x11, .int .i64 f.kind, .slice A m cap]))))
  have K1 := hid ((K0.out.step (below_alloc w (.cells #[x0, x1, x2, x3, x4, x5, x6, x7, x8, x9, x10, x11, .int .i64 f.kind, .slice A m cap] 25))).addB hb)
  clear hX hone h h0 hb hn hm
  show Calls _ _ #[_, .agg #[x0, x1, x2, x3, x4, x5, x6, x7, x8, x9, x10, x11, .int .i64 f.kind, .slice A m cap]] _ _
  by_cases hbig : n > 3000
  · have g1 : (n : Int) > 3000 := by omega
    go_enter Try.func3, Try.ntmps3
    go_wp2_with (go_at_call 7; refine (known_any _).mono ?_; rintro e w2 ⟨rfl, hb⟩; have K2 := hid (K1.out.step hb); have c13 := (K2.out.b 0 rfl).cell 13; clear hb)
    go_ret
    exact ⟨rfl, K2.out.bel⟩
  have g1 : ¬ (n : Int) > 3000 := by omega
  by_cases hbig2 : m > 3000
  · have g2 : (m : Int) > 3000 := by omega
    go_enter Try.func3, Try.ntmps3
    go_wp2_with (go_at_call 7; refine (known_any _).mono ?_; rintro e w2 ⟨rfl, hb⟩; have K2 := hid (K1.out.step hb); have c13 := (K2.out.b 0 rfl).cell 13; clear hb)
    go_ret
    exact ⟨rfl, K2.out.bel⟩
  have g2 : ¬ (m : Int) > 3000 := by omega
  have Hl0 := hid (show b.length ≤ 3000 by rw [Hn.out]; omega)
  have Hl1 := hid (show f.body.length ≤ 3000 by rw [Hm.out]; omega)
  rcases hP : eParse b with ⟨f1, c1⟩
  have HP := hid hP
  rcases hW : eWrite f with ⟨wl, c2⟩
  have HW := hid hW
  clear hP hW
  go_enter Try.func3, Try.ntmps3
  go_upto_region 6 with (first
    | (go_at_call 7; refine (known_any _).mono ?_; rintro e w2 ⟨rfl, hb⟩; have K2 := hid (K1.out.step hb); have c13 := (K2.out.b 0 rfl).cell 13; clear hb)
    | ((with_reducible show wpList _ _ _ (Oper.mk (some 28) _ _ _ _ _ :: _) _ _); refine wpList_app8 _ rfl _ _ 22 rfl _ 5 u8ok (.slice (some ⟨_, 0, none⟩) 0 0) [] rfl (ownBs_litNil (by simp) (Nat.le_refl _)) _ b rfl ((K2.out.r 1 rfl).alloc _) (by have := Hl0.out; simp; omega) (by simp) ?_; intro v3 w3 hown hb hg3 hat3; rw [List.nil_append] at hown; clear hg3 hat3; have K3 := hid ((K2.out.step ((below_alloc _ _).trans hb)).add hown.bs); obtain ⟨A3, cap3, rfl⟩ := slice_len hown.bs Hn.out; clear hown hb c13))
  clear K0 K1 K2
  go_upto_region 8 with (first
    | (go_at_call 8; refine (parse_of _ b f1 c1 _ HP.out (K3.out.r 0 rfl) (by have := Hl0.out; omega)).mono ?_; rintro e w4 ⟨A4, cap4, y0, y1, y2, y3, y4, y5, y6, y7, y8, y9, y10, y11, rfl, hY, hr, hb⟩; have HY := hid hY; have HYo := hid hY.one; have K4 := hid ((K3.out.step hb).add hr); clear hY hr hb)
    | ((with_reducible show wpList _ _ _ (Oper.mk none (Op.store _ (Operand.tmp 6 ) _) _ _ _ _ :: _) _ _); refine wpList_storeBlk rfl _ _ _ rfl _ _ rfl rfl _ _ (Blk.new _ _ _) eframeinfo rfl HYo.out ?_; intro w5 hblk hg hsz; have K5 := hid ((K4.out.step (below_new_store hg)).addB hblk); clear hblk hg hsz)
    | (go_at_call 9; refine (rparse_of _ b f1 c1 _ HP.out (K5.out.r 3 rfl) (by have := Hl0.out; omega)).mono ?_; rintro e w6 ⟨A6, cap6, z0, z1, z2, z3, z4, z5, z6, z7, z8, z9, z10, z11, rfl, hY, hr, hb⟩; have HZ := hid hY; have HZo := hid hY.one; have K6 := hid ((K5.out.step hb).add hr); clear hY hr hb)
    | ((with_reducible show wpList _ _ _ (Oper.mk none (Op.store _ (Operand.tmp 8 ) _) _ _ _ _ :: _) _ _); refine wpList_storeBlk rfl _ _ _ rfl _ _ rfl rfl _ _ (Blk.new _ _ _) rframeinfo rfl HZo.out ?_; intro w7 hblk hg hsz; have K7 := hid ((K6.out.step (below_new_store hg)).addB hblk); clear hblk hg hsz))
  clear K3 K4 K5 K6 HYo HZo
  have c13 := ((K7.out.b 2 rfl).alloc (.cells #[] 5)).cell 13
  go_upto_region 9 with (first
    | ((with_reducible show wpList _ _ _ (Oper.mk (some 42) _ _ _ _ _ :: _) _ _); refine wpList_app8 _ rfl _ _ 22 rfl _ 5 u8ok (.slice (some ⟨_, 0, none⟩) 0 0) [] rfl (ownBs_litNil (by simp) (Nat.le_refl _)) _ f.body rfl ((K7.out.r 3 rfl).alloc _) (by have := Hl1.out; simp; omega) (by simp) ?_; intro v8 w8 hown hb hg8 hat8; rw [List.nil_append] at hown; clear hg8 hat8; have K8 := hid ((K7.out.step ((below_alloc _ _).trans hb)).add hown.bs); obtain ⟨A8, cap8, rfl⟩ := slice_len hown.bs Hm.out; clear hown hb c13))
  have p0 := (K8.out.b 2 rfl).cell 0
  have p1 := (K8.out.b 2 rfl).cell 1
  have p2 := (K8.out.b 2 rfl).cell 2
  have p3 := (K8.out.b 2 rfl).cell 3
  have p4 := (K8.out.b 2 rfl).cell 4
  have p5 := (K8.out.b 2 rfl).cell 5
  have p6 := (K8.out.b 2 rfl).cell 6
  have p7 := (K8.out.b 2 rfl).cell 7
  have p8 := (K8.out.b 2 rfl).cell 8
  have p9 := (K8.out.b 2 rfl).cell 9
  have p10 := (K8.out.b 2 rfl).cell 10
  have p11 := (K8.out.b 2 rfl).cell 11
  have p12 := (K8.out.b 2 rfl).cell 12
  clear K7
  have HX8 : ∀ (A' : Option Addr) (c' : Nat), FrmC f (.slice A' m c') x0 x1 x2 x3 x4 x5 x6 x7 x8 x9 x10 x11 (.int .i64 f.kind) (.slice A' m c') := fun A' c' => by
    have := HX.out
    unfold FrmC Frm.cells Mac.cells at this ⊢
    simp only [List.cons_append, List.nil_append, List.cons.injEq, and_true] at this ⊢
    exact this
  have HX8 := hid (HX8 A8 cap8)
  go_upto_region 11 with (first
    | (go_at_call 10; refine (write_of HX8.out wl c2 _ HW.out (K8.out.r 0 rfl)).mono ?_; rintro e w9 ⟨A9, cap9, rfl, hr, hb⟩; have K9 := hid ((K8.out.step hb).add hr); clear hr hb)
    | ((with_reducible show wpList _ _ _ (Oper.mk (some 56) _ _ _ _ _ :: _) _ _); refine wpList_loadBlk rfl _ _ rfl _ rfl _ _ _ (K9.out.b 2 rfl) Try.underlying25 eframeinfo ?_)
    | (go_at_call 12; refine (theirs_of HX.out _).mono ?_; rintro e w10 ⟨rfl, hb⟩; have K10 := hid (K9.out.step hb); clear hb)
    | (go_at_call 11; refine (rwrite_of HX.out wl c2 _ HW.out (K10.out.r 5 rfl)).mono ?_; rintro e w11 ⟨A11, cap11, rfl, hr, hb⟩; have K11 := hid ((K10.out.step hb).add hr); clear hr hb))
  clear K8 K9 K10 p0 p1 p2 p3 p4 p5 p6 p7 p8 p9 p10 p11 p12
  go_wp2_with (first
    | ((with_reducible show wpList _ _ _ (Oper.mk (some 61) _ _ _ _ _ :: _) _ _); refine wpList_loadBlk rfl _ _ rfl _ rfl _ _ _ (K11.out.b 1 rfl) Try.underlying25 eframeinfo ?_)
    | ((with_reducible show wpList _ _ _ (Oper.mk (some 62) _ _ _ _ _ :: _) _ _); refine wpList_loadBlk rfl _ _ rfl _ rfl _ _ _ (K11.out.b 0 rfl) Try.underlying30 rframeinfo ?_)
    | (go_at_call 13; refine (same_of HY.out HZ.out _ (K11.out.r 4 rfl) (K11.out.r 3 rfl)).mono ?_; rintro e w12 ⟨rfl, hb⟩; have K12 := hid (K11.out.step hb); have c13 := (K12.out.b 2 rfl).cell 13; have s1 := run_str Try.underlying22 Try.underlying5 Try.underlying9 (K12.out.r 0 rfl); have s2 := run_str Try.underlying22 Try.underlying5 Try.underlying9 (K12.out.r 1 rfl); have s3 := run_str Try.underlying22 Try.underlying5 Try.underlying9 (K12.out.r 2 rfl); have s4 := run_str Try.underlying22 Try.underlying5 Try.underlying9 (K12.out.r 5 rfl); have s5 := run_str Try.underlying22 Try.underlying5 Try.underlying9 (K12.out.r 6 rfl); have s6 := run_str Try.underlying22 Try.underlying5 Try.underlying9 (K12.out.r 7 rfl); clear hb))
  go_ret
  exact ⟨rfl, K12.out.bel⟩
end Go.Proofs.Ytefpfjdfkecjkaa
