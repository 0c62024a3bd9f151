/- The walk of UdpNone. -/
import Derived.Test.YtgiodkjcefcebaaUdpL
import Derived.Test.YtgiodkjcefcebaaKept
import Derived.Test.YtgiodkjcefcebaaUdpLaw
import Derived.Deep.RegionHeld3
import Derived.BigQuiet
import Derived.Deep.QuietTactic
import Derived.Deep.Cut
import Derived.Deep.CutRange
namespace Go.Proofs.Ytgiodkjcefcebaa
open Go Go.RowKit
attribute [local go_sem ↓] Go.wp_at_zero Go.wp_at_succ

theorem u8_sum (a b : Nat) : Value.int .u8 (((a : Int) + (b : Int)) % 256) = u8v (UInt8.ofNat (a + b)) := by
  unfold u8v
  rw [UInt8.toNat_ofNat']
  exact val_int (by omega)
theorem none_law (src dst f t : Nat) (B : List UInt8) (h8 : 8 ≤ B.length) (h0 : u16at B 0 = f) (h2 : u16at B 2 = t) (h4 : u16at B 4 = B.length) :
    udpParse src dst ((B.set 6 0).set 7 0) = ((f, t, ((B.set 6 0).set 7 0).drop 8), 0) ∧
    ∀ (k : Nat) (y : UInt8), 8 ≤ k → udpParse src dst (((B.set 6 0).set 7 0).set k y) = ((f, t, (((B.set 6 0).set 7 0).set k y).drop 8), 0) := by
  have e0 : u16at ((B.set 6 0).set 7 0) 0 = f := by rw [u16at_set _ 0 7 0 (by simp; omega) (by omega) (by omega), u16at_set _ 0 6 0 (by omega) (by omega) (by omega), h0]
  have e2 : u16at ((B.set 6 0).set 7 0) 2 = t := by rw [u16at_set _ 2 7 0 (by simp; omega) (by omega) (by omega), u16at_set _ 2 6 0 (by omega) (by omega) (by omega), h2]
  have e4 : u16at ((B.set 6 0).set 7 0) 4 = B.length := by rw [u16at_set _ 4 7 0 (by simp; omega) (by omega) (by omega), u16at_set _ 4 6 0 (by omega) (by omega) (by omega), h4]
  have e6 : u16at ((B.set 6 0).set 7 0) 6 = 0 := by rw [u16at_eq _ 6 (by simp; omega)]; simp
  have el : ((B.set 6 0).set 7 0).length = B.length := by simp
  generalize (B.set 6 0).set 7 0 = C at *
  refine ⟨parse_none src dst f t C (by omega) e0 e2 (by omega) e6, fun k y hk => ?_⟩
  exact parse_none src dst f t (C.set k y) (by simp; omega) (by rw [u16at_set C 0 k y (by omega) (by omega) (by omega), e0]) (by rw [u16at_set C 2 k y (by omega) (by omega) (by omega), e2])
    (by rw [u16at_set C 4 k y (by omega) (by omega) (by omega), e4]; simp; omega) (by rw [u16at_set C 6 k y (by omega) (by omega) (by omega), e6])

set_option maxHeartbeats 2000000 in
theorem udpNone_walk (v : Value) (data : List UInt8) (src dst : Nat) (f t at_ : Int) (byv : Nat) (w : World) (h : Bs w v data) (hs : src < 4294967296) (hd : dst < 4294967296) :
    Calls Try.prog 5 #[.int .u32 src, .int .u32 dst, .agg #[.int .i64 f, .int .i64 t, v], .int .i64 at_, .int .u8 byv] w fun e w' => e = .returned (.bool true) ∧ Below w.heap.size w w' := by
  have HB := hid h
  obtain ⟨A, cap, rfl, k1, k2, _⟩ := h.cells
  clear h
  have K0 := hid ((Kept.new w).add HB.out)
  by_cases hbig : data.length > 70000
  · have g1 : (data.length : Int) > 70000 := by omega
    go_enter Try.func5, Try.ntmps5
    go_wp2_with ((go_at_call 6; refine (known_any _).mono ?_; rintro e w' ⟨rfl, hb1⟩); have K1 := hid (((K0.out.step (below_alloc w _)).addB (Blk.new w _ _)).step hb1); have hc2 := (K1.out.b 0 rfl).cell 2; have hc0 := (K1.out.b 0 rfl).cell 0; have hc1 := (K1.out.b 0 rfl).cell 1; clear hb1)
    go_ret
    exact ⟨rfl, K1.out.bel⟩
  have g1 : ¬ (data.length : Int) > 70000 := by omega
  have hl : data.length ≤ 1099511627776 := by omega
  by_cases hno : (udpWrite src dst f t data).2 ≠ 0
  · have HW := hid (show udpWrite src dst f t data = ([], (udpWrite src dst f t data).2) by
      revert hno; unfold udpWrite; split
      · intro _; rfl
      · split
        · intro _; rfl
        · intro h; exact absurd rfl h)
    have hne : ((udpWrite src dst f t data).2 != 0) = true := by simpa using hno
    generalize (udpWrite src dst f t data).2 = qe at *
    go_enter Try.func5, Try.ntmps5
    go_wp2_with (first
      | ((go_at_call 6; refine (known_any _).mono ?_; rintro e w' ⟨rfl, hb1⟩); have K1 := hid (((K0.out.step (below_alloc w _)).addB (Blk.new w _ _)).step hb1); have hc2 := (K1.out.b 0 rfl).cell 2; have hc0 := (K1.out.b 0 rfl).cell 0; have hc1 := (K1.out.b 0 rfl).cell 1; clear hb1)
      | ((with_reducible show wpList _ _ _ (Oper.mk (some 25) _ _ _ _ _ :: _) _ _); refine wpList_loadBlk rfl _ _ rfl _ rfl _ _ _ (K1.out.b 0 rfl) Try.underlying25 dginfo ?_)
      | ((go_at_call 9; refine (write_any _ data src dst f t _ (K1.out.r 0 rfl) hl hs hd).mono ?_; rintro e w' ⟨v8, rfl, hown, hb⟩); rw [HW.out] at hown ⊢; simp only at hown ⊢; obtain ⟨A3, cap3, rfl, _, _, _⟩ := hown.bs.cells; have K2 := hid (K1.out.step hb); clear hown hb))
    go_ret
    exact ⟨rfl, K2.out.bel⟩
  obtain ⟨nf, nt, B, hf, ht, hl2, HW, hBl, hS6, HP1, HP2⟩ : ∃ (nf nt : Nat) (B : List UInt8), f = nf ∧ t = nt ∧ data.length ≤ 65507 ∧ Hid (udpWrite src dst f t data = (B, 0)) ∧ (B.length = 8 + data.length) ∧
      u16at B 6 ≠ 0 ∧ Hid (udpParse src dst ((B.set 6 0).set 7 0) = ((nf, nt, ((B.set 6 0).set 7 0).drop 8), 0)) ∧
      Hid (∀ (k : Nat) (y : UInt8), 8 ≤ k → udpParse src dst (((B.set 6 0).set 7 0).set k y) = ((nf, nt, (((B.set 6 0).set 7 0).set k y).drop 8), 0)) := by
    unfold udpWrite at hno
    by_cases hr : f < 0 ∨ f > 65535 ∨ t < 0 ∨ t > 65535
    · rw [if_pos hr] at hno; exact absurd (by decide) hno
    rw [if_neg hr] at hno
    by_cases h5 : data.length > 65507
    · rw [if_pos h5] at hno; exact absurd (by decide) hno
    refine ⟨f.toNat, t.toNat, udpFull src dst f.toNat t.toNat data, by omega, by omega, by omega, hid (by unfold udpWrite; rw [if_neg hr, if_neg h5]), ?_⟩
    obtain ⟨b1, b2, b3, b4, b5, b6⟩ := full_at src dst f.toNat t.toNat data (by omega) (by omega) (by omega)
    have h2 := udpSum_pos src dst (udpFull src dst f.toNat t.toNat data)
    obtain ⟨n1, n2⟩ := none_law src dst f.toNat t.toNat _ (by omega) b2 b3 (by omega)
    exact ⟨b1, by omega, hid n1, hid n2⟩
  subst hf; subst ht
  clear hno
  rw [u16at_eq B 6 (by omega)] at hS6
  have i6 : (6 : Int) < (B.length : Int) := by omega
  have i7 : (7 : Int) < (B.length : Int) := by omega
  have hS7 : (B[6]'(by omega)).toNat * 256 + (B[7]'(by omega)).toNat ≠ 0 := hS6
  clear hS6
  obtain ⟨ii, hii, hz, hss, hby2⟩ := info_parts u8info
  clear hz hby2
  go_enter Try.func5, Try.ntmps5
  go_upto_region 15 with (first
    | ((go_at_call 6; refine (known_any _).mono ?_; rintro e w' ⟨rfl, hb1⟩); have K1 := hid (((K0.out.step (below_alloc w _)).addB (Blk.new w _ _)).step hb1); have hc2 := (K1.out.b 0 rfl).cell 2; have hc0 := (K1.out.b 0 rfl).cell 0; have hc1 := (K1.out.b 0 rfl).cell 1; clear hb1)
    | ((with_reducible show wpList _ _ _ (Oper.mk (some 25) _ _ _ _ _ :: _) _ _); refine wpList_loadBlk rfl _ _ rfl _ rfl _ _ _ (K1.out.b 0 rfl) Try.underlying25 dginfo ?_)
    | ((go_at_call 9; refine (write_any _ data src dst nf nt _ (K1.out.r 0 rfl) hl hs hd).mono ?_; rintro e w' ⟨v8, rfl, hown, hb⟩); rw [HW.out] at hown ⊢; simp only at hown ⊢; obtain ⟨g, cap3, rfl, q1, q2, q3⟩ := own_open hown (by omega); rw [hBl] at hown q1; have c8 := run_cut_from (P := Try.prog) (T := 23) Try.underlying23 hii (some ⟨g, 0, none⟩) (8 + data.length) cap3 .i64 8 8 data.length rfl (by omega) q1; rw [hss] at c8; have K2 := hid (K1.out.step hb); have HC := hid (own_set (own_set hown 6 0 (.int .u8 0) rfl).1 7 0 (.int .u8 0) rfl); have HCg := hid (grown_trans (own_set hown 6 0 (.int .u8 0) rfl).2 (own_set (own_set hown 6 0 (.int .u8 0) rfl).1 7 0 (.int .u8 0) rfl).2); have H2 := hid hown; have hcl6 := (own_cell hown 6 (by omega)).1; have hcl7 := (own_cell hown 7 (by omega)).1; have hcf6 := (own_cell hown 6 (by omega)).2; have hcf7 := (own_cell hown 7 (by omega)).2; unfold u8v at hcl6 hcl7; have hcd2 := (K2.out.b 0 rfl).cell 2; clear hown; have Hb2 := hid hb; clear hb)
    | ((go_at_call 12; refine (within_any at_ data.length _ (by omega) (by omega)).mono ?_; rintro e w' ⟨k, hk, rfl, rfl⟩); have hcellk := (own_cell HC.out.1 (8 + k) (by simp; omega)).1; have hfrozk := (own_cell HC.out.1 (8 + k) (by simp; omega)).2; unfold u8v at hcellk; have HD := hid (own_set HC.out.1 (8 + k) (UInt8.ofNat ((((B.set 6 0).set 7 0)[8 + k]'(by simp; omega)).toNat + byv)) (.int .u8 ((((((B.set 6 0).set 7 0)[8 + k]'(by simp; omega)).toNat : Int) + (byv : Int)) % 256)) (u8_sum _ _)); have HP3 := hid (HP2.out (8 + k) (UInt8.ofNat ((((B.set 6 0).set 7 0)[8 + k]'(by simp; omega)).toNat + byv)) (by omega)))
    | (go_at_call 7; have HDl := hid (show (((B.set 6 0).set 7 0).set (8 + k) (UInt8.ofNat ((((B.set 6 0).set 7 0)[8 + k]'(by simp; omega)).toNat + byv))).length = 8 + data.length by simp; omega); generalize ((B.set 6 0).set 7 0).set (8 + k) (UInt8.ofNat ((((B.set 6 0).set 7 0)[8 + k]'(by simp; omega)).toNat + byv)) = D at HD HP3 HDl; generalize hpd : D.drop 8 = pd at HP3; have Hpd := hid hpd; clear hpd; have K3 := hid ((K1.out.step (below_own Hb2.out (grown_trans HCg.out HD.out.2) q2 Hb2.out.size)).add HD.out.1.bs); refine (parse_any _ D src dst _ (K3.out.r 0 rfl) (by have := HDl.out; omega) hs hd).mono ?_; rintro e w' ⟨v2, rfl, hown, hb⟩; rw [HP3.out] at hown ⊢; simp only at hown ⊢; obtain ⟨A5, cap5, rfl, _, _, _⟩ := hown.bs.cells; have K4 := hid ((K3.out.step hb).add hown.bs); clear hown hb)
    | (go_at_call 7; have HDl := hid (show ((B.set 6 0).set 7 0).length = 8 + data.length by simp; omega); generalize (B.set 6 0).set 7 0 = D at HC HP1 HDl; generalize hpd : D.drop 8 = pd at HP1; have Hpd := hid hpd; clear hpd; have K3 := hid ((K1.out.step (below_own Hb2.out HCg.out q2 Hb2.out.size)).add HC.out.1.bs); refine (parse_any _ D src dst _ (K3.out.r 0 rfl) (by have := HDl.out; omega) hs hd).mono ?_; rintro e w' ⟨v2, rfl, hown, hb⟩; rw [HP1.out] at hown ⊢; simp only at hown ⊢; obtain ⟨A5, cap5, rfl, _, _, _⟩ := hown.bs.cells; have K4 := hid ((K3.out.step hb).add hown.bs); clear hown hb)
    | ((with_reducible show wpList _ _ _ (Oper.mk none _ _ _ _ _ :: _) _ _); refine wpList_storeBlk rfl _ _ _ rfl _ _ rfl rfl _ _ (Blk.new _ _ _) dginfo rfl rfl ?_; intro w6 hblk6 hg6 hsz6; have K6 := hid ((K4.out.step (below_new_store hg6)).addB hblk6); have hc60 := (K6.out.b 0 rfl).cell 0; have hc61 := (K6.out.b 0 rfl).cell 1; have hc62 := (K6.out.b 0 rfl).cell 2; have hc63 := (K6.out.b 1 rfl).cell 0; have hc64 := (K6.out.b 1 rfl).cell 1; have s61 : ∀ n, (convert 23 9 _).run Try.prog (w6.drewN n) = _ := fun n => run_str Try.underlying23 Try.underlying5 Try.underlying9 ((K6.out.r 0 rfl).drewN n); have s63 := (show Bs w6 (.slice (cutA (some ⟨g, 0, none⟩) cap3 8 1) data.length (cap3 - 8)) pd by rw [← Hpd.out]; have := Bs.cut (l := 8) (k := data.length) (K6.out.r 1 rfl) (by have := HDl.out; omega); rwa [List.take_of_length_le (by simp; have := HDl.out; omega)] at this); have s62 : ∀ n, (convert 23 9 _).run Try.prog (w6.drewN n) = _ := fun n => run_str Try.underlying23 Try.underlying5 Try.underlying9 (s63.drewN n); clear s63 hblk6 hg6 hsz6))
  all_goals
    go_quiet (fail)
    go_wp2_with fail
    go_ret
    exact ⟨rfl, below_drewN K6.out.bel _⟩
end Go.Proofs.Ytgiodkjcefcebaa
